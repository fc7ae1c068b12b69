/- Rows of operations (a struct of four numbers, a string, a row of numbers) that come in as an argument of a law. -/
import Derived.Test.YtbhlpnkccdcdiaaKRowS
import Derived.Test.YtbhlpnkccdcdiaaKActs
namespace Go.Proofs.Ytbhlpnkccdcdiaa.Dk
open Go.RowKit Go.Proofs.YtbhlpnkccdcdiaaW.PrintWords
open Go.ChangeShapes Go.WideShapes Go.ChangeAt Go.Deep
set_option linter.unusedVariables false
set_option linter.unusedSimpArgs false
theorem weights_slice_len {H : Type} {P : Program} {t e : TypeId} {xs ys : List (DataW H)} (hu : P.underlying t = some (.slice e)) : (xs.length + ys.length) * P.bytesOf e ∈ (DataW.slice xs ys).weights P t := by
  rw [DataW.weights, hu]
  exact List.mem_cons_self
theorem weights_agg_mem {H : Type} {P : Program} {t : TypeId} {fs : Array Field} {ds : List (DataW H)} (hu : P.underlying t = some (.struct fs)) {j : Nat} {f : Field} (hf : fs[j]? = some f) {d : DataW H} (hd : ds[j]? = some d) {n : Nat} (hn : n ∈ d.weights P f.type) : n ∈ (DataW.agg ds).weights P t := by
  rw [DataW.weights, hu]
  refine DataW.weights_mem_each (j := j) ?_ hd n hn
  rw [List.getElem?_map, Array.getElem?_toList, hf]
  rfl
section
variable {H : Type} {enc : TypeId × Value → H} {w : World} {base : Nat} {spare : Nat → Bool} {held : Bool}
theorem openIW {fuel : Nat} {cs : List Value} {d : DataW H} {ps : List MemPlace} (h : DataW.trod enc Try.prog w base spare held fuel 22 cs = some (d, ps)) :
    ∃ (A : Option Addr) (cap : Nat) (l : List Int), cs = [.slice A l.length cap] ∧ l.length ≤ cap ∧ Kd.C (Kd.int .i64) w A l.length l ∧ (l = [] ∨ ∃ n ∈ d.weights Try.prog 22, l.length * 8 ≤ n) := by
  obtain ⟨A, len, cap, l, e, rfl, hc, hC, _⟩ := openI h
  refine ⟨A, cap, l, e, hc, hC, ?_⟩
  rcases open_ints Try.underlying22 Try.underlying3 (by kernel_rfl) h with ⟨e2, _⟩ | ⟨a, len, cap', zs, e2, hb, hl, hm, hz, hd, hx, hw⟩
  · left
    rw [e] at e2
    injection e2 with e2 _
    injection e2 with _ e2 _
    exact List.eq_nil_of_length_eq_zero e2
  · right
    rw [e] at e2
    injection e2 with e2 _
    injection e2 with _ e2 _
    obtain ⟨rfl, _⟩ := Prod.mk.inj hd
    refine ⟨_, weights_slice_len Try.underlying22, ?_⟩
    have hB : Try.prog.bytesOf 3 = 8 := by kernel_rfl
    have hlz : len ≤ zs.length := by rw [hz]; split <;> omega
    rw [hB]
    have h1 : (lits .i64 (zs.take len) : List (DataW H)).length = len := by simp [lits]; omega
    rw [h1]
    exact Nat.mul_le_mul_right _ (by omega)
theorem undA : ∃ f0 f1 f2 f3 f4 f5 : Field, Try.prog.underlying 40 = some (.struct #[f0, f1, f2, f3, f4, f5]) ∧ (∀ f ∈ [f0, f1, f2, f3], Try.prog.underlying f.type = some (.int .i64) ∧ Try.prog.cellsOf f.type = 1) ∧ (f4.type = 9 ∧ f5.type = 22) ∧ f0.offset = 0 ∧ f1.offset = 1 ∧ f2.offset = 2 ∧ f3.offset = 3 ∧ f4.offset = 4 ∧ f5.offset = 5 := by
  refine ⟨_, _, _, _, _, _, Try.underlying40, ?_, ⟨rfl, rfl⟩, rfl, rfl, rfl, rfl, rfl, rfl⟩
  intro f hf
  simp only [List.mem_cons, List.not_mem_nil, or_false] at hf
  rcases hf with rfl | rfl | rfl | rfl <;> exact ⟨by first | exact Try.underlying3 | (refine Try.prog.underlying_eq ?_; kernel_rfl) | kernel_rfl, by kernel_rfl⟩
set_option maxRecDepth 100000 in
theorem openA {fuel : Nat} {cs : List Value} {d : DataW H} {ps : List MemPlace} (h : DataW.trod enc Try.prog w base spare held fuel 40 cs = some (d, ps)) :
    ∃ (x : Act6) (A : Option Addr) (c : Nat), cs = [.int .i64 x.k, .int .i64 x.f, .int .i64 x.g, .int .i64 x.n, .string x.s, .slice A x.keep.length c] ∧ Kd.C (Kd.int .i64) w A x.keep.length x.keep ∧ (Lit.int .i64 x.n).wf = true ∧ x.s.size ∈ d.weights Try.prog 40 ∧ (x.keep = [] ∨ ∃ n ∈ d.weights Try.prog 40, x.keep.length * 8 ≤ n) := by
  obtain ⟨f0, f1, f2, f3, f4, f5, hu, hf, ⟨ht4, ht5⟩, o0, o1, o2, o3, o4, o5⟩ := undA
  obtain ⟨xs, n, _, hd, hl, hxs, hh⟩ := DataW.trod_struct hu h
  obtain ⟨rfl, _⟩ := Prod.mk.inj hd
  have h6 : Try.prog.cellsOf 40 = 6 := by kernel_rfl
  rw [h6] at hl
  have hx6 : xs.length = 6 := by simpa using hxs
  match cs, hl with
  | [c0, c1, c2, c3, c4, c5], _ =>
    have get : ∀ (i : Nat) (f : Field) (c : Value), (#[f0, f1, f2, f3, f4, f5] : Array Field)[i]? = some f → f ∈ [f0, f1, f2, f3] → ([c0, c1, c2, c3, c4, c5].drop f.offset).take 1 = [c] → ∃ n, c = .int .i64 n ∧ (Lit.int .i64 n).wf = true := by
      intro i f c hi hm hc
      have h1 := hh i f hi
      obtain ⟨hu1, hc1⟩ := hf f hm
      have hi6 : i < 6 := by have := (Array.getElem?_eq_some_iff.1 hi).1; simpa using this
      rw [hc1, hc, List.getElem?_eq_getElem (by omega)] at h1
      obtain ⟨n, e, _, hw⟩ := DataW.trod_int hu1 h1
      exact ⟨n, by simpa using e, hw⟩
    obtain ⟨n0, rfl, k0⟩ := get 0 f0 c0 rfl (by simp) (by rw [o0]; rfl)
    obtain ⟨n1, rfl, k1⟩ := get 1 f1 c1 rfl (by simp) (by rw [o1]; rfl)
    obtain ⟨n2, rfl, k2⟩ := get 2 f2 c2 rfl (by simp) (by rw [o2]; rfl)
    obtain ⟨n3, rfl, k3⟩ := get 3 f3 c3 rfl (by simp) (by rw [o3]; rfl)
    have e4 : Try.prog.cellsOf 9 = 1 := by kernel_rfl
    have e5 : Try.prog.cellsOf 22 = 1 := by kernel_rfl
    have h4 := hh 4 f4 rfl
    have h5 := hh 5 f5 rfl
    obtain ⟨⟨d4, p4⟩, hx4⟩ : ∃ y, xs[4]? = some y := ⟨_, List.getElem?_eq_getElem (by omega)⟩
    obtain ⟨⟨d5, p5⟩, hx5⟩ : ∃ y, xs[5]? = some y := ⟨_, List.getElem?_eq_getElem (by omega)⟩
    rw [ht4, o4, hx4, e4] at h4
    rw [ht5, o5, hx5, e5] at h5
    obtain ⟨s, es, hds, _⟩ := DataW.trod_string Try.underlying9 h4
    obtain ⟨A, cap, l, el, _, hC, hw⟩ := openIW h5
    have es' : c4 = .string s := by simpa using es
    have el' : c5 = .slice A l.length cap := by simpa using el
    subst es' el'
    obtain ⟨rfl, _⟩ := Prod.mk.inj hds
    refine ⟨⟨n0, n1, n2, n3, s, l⟩, A, cap, rfl, hC, k3, ?_, ?_⟩
    · exact weights_agg_mem hu (j := 4) (f := f4) rfl (d := .lit (.string s.data.toList)) (by rw [List.getElem?_map, hx4]; rfl) (weights_string s)
    · rcases hw with hw | ⟨n, hn, hle⟩
      · exact .inl hw
      · exact .inr ⟨n, weights_agg_mem hu (j := 5) (f := f5) rfl (d := d5) (by rw [List.getElem?_map, hx5]; rfl) (by rw [ht5]; exact hn), hle⟩
theorem list_ofA {α : Type} [Inhabited α] {p : Nat → α → Prop} (n : Nat) (h : ∀ i, i < n → ∃ x, p i x) : ∃ l : List α, l.length = n ∧ ∀ i x, l[i]? = some x → p i x := by
  obtain ⟨f, hf⟩ := choose_lt h
  refine ⟨(List.range n).map f, by simp, fun i x hx => ?_⟩
  rw [List.getElem?_map] at hx
  obtain ⟨j, hj, rfl⟩ := Option.map_eq_some_iff.1 hx
  have : j = i := by
    have := (List.getElem?_eq_some_iff.1 hj)
    obtain ⟨h1, h2⟩ := this
    simp at h2
    omega
  subst this
  have : j < n := by have := (List.getElem?_eq_some_iff.1 hj).1; simpa using this
  exact hf j this
instance : Inhabited Act6 := ⟨⟨0, 0, 0, 0, ⟨#[]⟩, []⟩⟩
/-- A row of operations that came in. -/
theorem openAL {fuel : Nat} {cs : List Value} {d : DataW H} {ps : List MemPlace} (h : DataW.trod enc Try.prog w base spare held fuel 36 cs = some (d, ps)) :
    ∃ (A : Option Addr) (len cap : Nat) (l : List Act6), cs = [.slice A len cap] ∧ len = l.length ∧ len ≤ cap ∧ ActsAt w A l ∧ ∀ x ∈ l, (Lit.int .i64 x.n).wf = true ∧ x.s.size ∈ d.weights Try.prog 36 ∧ (x.keep = [] ∨ ∃ n ∈ d.weights Try.prog 36, x.keep.length * 8 ≤ n) := by
  rcases open_slice Try.underlying36 h with ⟨rfl, _⟩ | ⟨a, len, cap, m, n, D, Pl, rfl, hb, hl, hm, hmm, hd, hx⟩
  · exact ⟨none, 0, 0, [], rfl, rfl, Nat.le_refl _, ⟨by decide, fun h => absurd h (by decide)⟩, fun x hx => by cases hx⟩
  · have h6 : Try.prog.cellsOf 40 = 6 := by kernel_rfl
    have hlm : len ≤ m := by rw [hmm]; split <;> omega
    obtain ⟨rfl, _⟩ := Prod.mk.inj hd
    have hmem : ∀ i, i < len → ∀ n ∈ (D i).weights Try.prog 40, n ∈ (DataW.slice ((List.range len).map D) ((List.range (m - len)).map fun j => D (len + j))).weights Try.prog 36 := fun i hi n hn =>
      weights_slice_mem Try.underlying36 (List.mem_map.2 ⟨i, List.mem_range.2 hi, rfl⟩) hn
    obtain ⟨l, hll, hlx⟩ := list_ofA (α := Act6) (p := fun i x => ActCells w a i x ∧ (Lit.int .i64 x.n).wf = true ∧ x.s.size ∈ (D i).weights Try.prog 40 ∧ (x.keep = [] ∨ ∃ n ∈ (D i).weights Try.prog 40, x.keep.length * 8 ≤ n)) len (fun i hi => by
      obtain ⟨cs', h1, h2⟩ := hx i (by omega)
      obtain ⟨x, A, c, rfl, hC, hn, hs, hk⟩ := openA h2
      rw [h6] at h1
      obtain ⟨_, _, h3⟩ := World.cells?_some h1
      refine ⟨x, ⟨A, c, fun j u hu => ?_, hC⟩, hn, hs, hk⟩
      have hj : j < 6 := by have := (List.getElem?_eq_some_iff.1 hu).1; simpa using this
      have := h3 j hj
      rw [Deep.add_add] at this
      rw [this, hu])
    refine ⟨some a, len, cap, l, rfl, hll.symm, hl, ⟨by rw [hll]; simp only [maxLen] at hm; omega, fun _ => ⟨a, rfl, fun k x hx => (hlx k x hx).1⟩⟩, fun x hx => ?_⟩
    obtain ⟨i, hi⟩ := List.mem_iff_getElem?.1 hx
    have hil : i < len := by rw [← hll]; exact (List.getElem?_eq_some_iff.1 hi).1
    obtain ⟨_, h1, h2, h3⟩ := hlx i x hi
    refine ⟨h1, hmem i hil _ h2, ?_⟩
    rcases h3 with h3 | ⟨n, hn, hle⟩
    · exact .inl h3
    · exact .inr ⟨n, hmem i hil _ hn, hle⟩
end
end Go.Proofs.Ytbhlpnkccdcdiaa.Dk
