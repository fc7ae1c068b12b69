/- Contracts and plain lemmas that the claim rests on: part 11 of 17 (joined, without what the theorem does not rest on). -/
import Derived.Test.YtlmjopodghikgaaT10
import Derived.WalkKit
import Derived.ProofKit
import Derived.OpenShut
import Derived.ShutString
import Derived.ChangeOld
import Derived.Below
import Derived.SizedLaws
import Derived.Deep.Slices
section
/- Entries that come in as arguments of a law: what their reading says, in the printer's kinds. -/
namespace Go.Proofs.Ytlmjopodghikgaa.Print
open Go.RowKit Go.Proofs.YtlmjopodghikgaaW.PrintWords
open Go.ChangeShapes Go.WideShapes Go.ChangeAt Go.Deep
set_option linter.unusedVariables false
set_option linter.unusedSimpArgs false

/-- Every field of an entry is a whole number of 64 bits. -/
def okE (x : S36) : Bool := i64B x.f0 && i64B x.f1 && i64B x.f2 && i64B x.f3 && i64B x.f4 && i64B x.f5 && i64B x.f6
def okL (l : List S36) : Bool := l.all okE
theorem okL_i64E {l : List S36} (h : okL l = true) : i64E l = true := by
  unfold okL at h
  unfold i64E
  rw [List.all_eq_true] at *
  intro x hx
  have := h x hx
  simp only [okE, Bool.and_eq_true] at this
  exact this.1.1.2
theorem okL_i64T {l : List S36} (h : okL l = true) : i64T l = true := by
  unfold okL at h
  unfold i64T
  rw [List.all_eq_true] at *
  intro x hx
  have := h x hx
  simp only [okE, Bool.and_eq_true] at this
  simp only [Bool.and_eq_true]
  exact ⟨this.1.1.1.1.1.1, this.1.1.1.1.1.2⟩

section
variable {H : Type} {enc : TypeId × Value → H} {w : World} {base : Nat} {spare : Nat → Bool} {held : Bool}
theorem i64B_wf {a : Int} (h : (Lit.int .i64 a).wf = true) : i64B a = true := h

theorem undE : ∃ f0 f1 f2 f3 f4 f5 f6 : Field, Try.prog.underlying 36 = some (.struct #[f0, f1, f2, f3, f4, f5, f6]) ∧ (∀ f ∈ [f0, f1, f2, f3, f4, f5, f6], Try.prog.underlying f.type = some (.int .i64) ∧ Try.prog.cellsOf f.type = 1) ∧ f0.offset = 0 ∧ f1.offset = 1 ∧ f2.offset = 2 ∧ f3.offset = 3 ∧ f4.offset = 4 ∧ f5.offset = 5 ∧ f6.offset = 6 := by
  refine ⟨_, _, _, _, _, _, _, Try.underlying36, ?_, rfl, rfl, rfl, rfl, rfl, rfl, rfl⟩
  intro f hf
  simp only [List.mem_cons, List.not_mem_nil, or_false] at hf
  rcases hf with rfl | rfl | rfl | rfl | rfl | rfl | rfl <;> exact ⟨by first | exact Try.underlying3 | (refine Try.prog.underlying_eq ?_; kernel_rfl) | kernel_rfl, by kernel_rfl⟩

theorem openE {fuel : Nat} {cs : List Value} {y : DataW H × List MemPlace} (h : DataW.trod enc Try.prog w base spare held fuel 36 cs = some y) : ∃ x : S36, cs = cE x ∧ okE x = true := by
  obtain ⟨f0, f1, f2, f3, f4, f5, f6, hu, hf, o0, o1, o2, o3, o4, o5, o6⟩ := undE
  obtain ⟨xs, n, _, _, hl, hxs, hh⟩ := DataW.trod_struct hu h
  have h7 : Try.prog.cellsOf 36 = 7 := by kernel_rfl
  rw [h7] at hl
  have hx7 : xs.length = 7 := by simpa using hxs
  match cs, hl with
  | [c0, c1, c2, c3, c4, c5, c6], _ =>
    have get : ∀ (i : Nat) (f : Field) (c : Value), (#[f0, f1, f2, f3, f4, f5, f6] : Array Field)[i]? = some f → f ∈ [f0, f1, f2, f3, f4, f5, f6] → ([c0, c1, c2, c3, c4, c5, c6].drop f.offset).take 1 = [c] → ∃ n, c = .int .i64 n ∧ i64B n = true := by
      intro i f c hi hm hc
      have h1 := hh i f hi
      obtain ⟨hu1, hc1⟩ := hf f hm
      have hi7 : i < 7 := by have := (Array.getElem?_eq_some_iff.1 hi).1; simpa using this
      rw [hc1, hc, List.getElem?_eq_getElem (by omega)] at h1
      obtain ⟨n, e, _, hw⟩ := DataW.trod_int hu1 h1
      exact ⟨n, by simpa using e, i64B_wf hw⟩
    obtain ⟨n0, rfl, k0⟩ := get 0 f0 c0 rfl (by simp) (by rw [o0]; rfl)
    obtain ⟨n1, rfl, k1⟩ := get 1 f1 c1 rfl (by simp) (by rw [o1]; rfl)
    obtain ⟨n2, rfl, k2⟩ := get 2 f2 c2 rfl (by simp) (by rw [o2]; rfl)
    obtain ⟨n3, rfl, k3⟩ := get 3 f3 c3 rfl (by simp) (by rw [o3]; rfl)
    obtain ⟨n4, rfl, k4⟩ := get 4 f4 c4 rfl (by simp) (by rw [o4]; rfl)
    obtain ⟨n5, rfl, k5⟩ := get 5 f5 c5 rfl (by simp) (by rw [o5]; rfl)
    obtain ⟨n6, rfl, k6⟩ := get 6 f6 c6 rfl (by simp) (by rw [o6]; rfl)
    exact ⟨⟨n0, n1, n2, n3, n4, n5, n6⟩, rfl, by simp only [okE, k0, k1, k2, k3, k4, k5, k6, Bool.and_true]⟩

theorem list_of {α : Type} [Inhabited α] {p : Nat → α → Prop} (n : Nat) (h : ∀ i, i < n → ∃ x, p i x) : ∃ l : List α, l.length = n ∧ ∀ i x, l[i]? = some x → p i x := by
  obtain ⟨f, hf⟩ := choose_lt h
  refine ⟨(List.range n).map f, by simp, fun i x hx => ?_⟩
  rw [List.getElem?_map] at hx
  obtain ⟨j, hj, rfl⟩ := Option.map_eq_some_iff.1 hx
  have : j = i := by
    have := (List.getElem?_eq_some_iff.1 hj)
    obtain ⟨h1, h2⟩ := this
    simp at h2
    omega
  subst this
  have : j < n := by have := (List.getElem?_eq_some_iff.1 hj).1; simpa using this
  exact hf j this

instance : Inhabited S36 := ⟨z36⟩

/-- A row of entries that came in. -/
theorem openL {fuel : Nat} {cs : List Value} {x : DataW H × List MemPlace} (h : DataW.trod enc Try.prog w base spare held fuel 22 cs = some x) :
    ∃ (A : Option Addr) (len cap : Nat) (l : List S36), cs = [.slice A len cap] ∧ len = l.length ∧ len ≤ cap ∧ Kd.C k36 w A l.length l ∧ okL l = true := by
  rcases open_slice Try.underlying22 h with ⟨rfl, _⟩ | ⟨a, len, cap, m, n, D, Pl, rfl, hb, hl, hm, hmm, _, hx⟩
  · exact ⟨none, 0, 0, [], rfl, rfl, Nat.le_refl _, Kd.C_nil _ _, rfl⟩
  · have h7 : Try.prog.cellsOf 36 = 7 := by kernel_rfl
    have hlm : len ≤ m := by rw [hmm]; split <;> omega
    obtain ⟨l, hll, hlx⟩ := list_of (α := S36) (p := fun i x => okE x = true ∧ ∀ j u, (cE x)[j]? = some u → w.cell? (a.add (i * 7 + j)) = some u) len (fun i hi => by
      obtain ⟨cs', h1, h2⟩ := hx i (by omega)
      obtain ⟨y, rfl, hy⟩ := openE h2
      rw [h7] at h1
      obtain ⟨_, _, h3⟩ := World.cells?_some h1
      refine ⟨y, hy, fun j u hu => ?_⟩
      have hj : j < 7 := by have := (List.getElem?_eq_some_iff.1 hu).1; rwa [cE_len] at this
      have := h3 j hj
      rw [Deep.add_add] at this
      rw [this, hu])
    refine ⟨some a, len, cap, l, rfl, hll.symm, hl, ⟨rfl, by rw [hll]; simp only [maxLen] at hm; omega, fun _ => ⟨a, rfl, fun j p hj => ⟨cE p, rfl, k36.K_of_M (base := 0) (ok := fun _ => True) (k36_mkM _ _ _ _), fun i u hu => (hlx j p hj).2 i u hu⟩⟩⟩, ?_⟩
    unfold okL
    rw [List.all_eq_true]
    intro y hy
    obtain ⟨i, hi⟩ := List.mem_iff_getElem?.1 hy
    exact (hlx i y hi).1

/-- A row of entries is no longer than its weight allows. -/
theorem sizedL {W : World} {a : Option Addr} {len cap : Nat} {d : DataW H} {ps : List MemPlace} {ts : List TypeId} {ds : List (DataW H)} {j : Nat}
    (hsz : (DataW.weightsEach Try.prog ts ds).all (· ≤ reachBytes) = true) (ht : ts[j]? = some 22) (hd : ds[j]? = some d)
    (h : DataW.Trod enc Try.prog W base spare held 22 (.slice a len cap) d ps) : len * 56 ≤ 140737488351232 := by
  obtain ⟨fuel, hf⟩ := h
  rcases open_slice Try.underlying22 hf with ⟨hcs, _⟩ | ⟨x, l, c, m, n, D, Pl, hcs, _, hl, _, hmm, hx, _⟩
  · simp [Value.cells] at hcs
    obtain ⟨rfl, rfl, rfl⟩ := hcs
    simp
  · simp [Value.cells] at hcs
    obtain ⟨rfl, rfl, rfl⟩ := hcs
    obtain ⟨hx, _⟩ := Prod.mk.inj hx
    subst hx
    have z := sized_slice hsz ht hd Try.underlying22
    have hB : Try.prog.bytesOf 36 = 56 := by kernel_rfl
    rw [hB] at z
    simp only [List.length_map, List.length_range] at z
    have hm : len ≤ m := by rw [hmm]; split <;> omega
    have : len * 56 ≤ (len + (m - len)) * 56 := Nat.mul_le_mul_right _ (by omega)
    exact Nat.le_trans this z
end
end Go.Proofs.Ytlmjopodghikgaa.Print
end
