/- The disk's Crash: what a crash leaves of the files. -/
import Derived.Test.YtbhlpnkccdcdiaaKSettle
import Derived.Test.YtbhlpnkccdcdiaaKBuild
import Derived.Test.YtbhlpnkccdcdiaaShelf
namespace Go.Proofs.Ytbhlpnkccdcdiaa.Dk
open Go.RowKit Go.Proofs.YtbhlpnkccdcdiaaW.PrintWords Go.Lib
set_option linter.unusedVariables false
set_option linter.unusedSimpArgs false

/-! ### What it computes -/
def keptN (keep : List Int) (i : Nat) (n : Int) : Int := if i < keep.length then min (max (keep.getD i 0) 0) n else 0
def crashStep (fs : List Fl) (keep : List Int) (i : Nat) (p : Pd) (L : List (List UInt8)) : List (List UInt8) :=
  if keptN keep i p.n = 0 then L else L.set p.f.toNat (L.getD p.f.toNat [] ++ List.replicate (p.a.toNat - (L.getD p.f.toNat []).length) 0 ++ ((fs.getD p.f.toNat ⟨[], 0⟩).b.drop p.a.toNat).take (keptN keep i p.n).toNat)
def crashLoop (fs : List Fl) (keep : List Int) : Nat → List Pd → List (List UInt8) → List (List UInt8)
  | _, [], L => L
  | i, p :: q, L => crashLoop fs keep (i + 1) q (crashStep fs keep i p L)
def crash0 (fs : List Fl) : List (List UInt8) := fs.map fun x => x.b.take x.n
def crashD (D : DS) (keep : List Int) : DS :=
  if D.down = true then D else { D with fs := (crashLoop D.fs keep 0 D.q (crash0 D.fs)).map fun l => ⟨l, l.length⟩, q := [], down := true, armed := 0 }
/-- What a disk's numbers keep to. -/
structure DOk (D : DS) : Prop where
  len : D.fs.length = 8
  fl : ∀ x ∈ D.fs, x.n ≤ x.b.length ∧ x.b.length ≤ 16777216
  qin : ∀ p ∈ D.q, (0 ≤ p.f ∧ p.f < 8) ∧ 0 ≤ p.a ∧ 0 ≤ p.n ∧ p.a + p.n ≤ (D.fl p.f.toNat).b.length ∧ ((D.fl p.f.toNat).n : Int) ≤ p.a
  ord : D.q.Pairwise fun p p' => p.f = p'.f → p.a + p.n ≤ p'.a
  lost : D.lost ≤ 9223372036854775807
  armed : D.armed ≤ 9223372036854775807
theorem DOk.flAt {D : DS} (h : DOk D) {f : Nat} (hf : f < 8) : (D.fl f).n ≤ (D.fl f).b.length ∧ (D.fl f).b.length ≤ 16777216 := by
  have hl : f < D.fs.length := by rw [h.len]; exact hf
  have : D.fl f = D.fs[f] := by simp [DS.fl, List.getD_eq_getElem?_getD, List.getElem?_eq_getElem hl]
  rw [this]
  exact h.fl _ (List.getElem_mem hl)
theorem DOk.qok {D : DS} (h : DOk D) : QOk D.q := fun x hx => by
  obtain ⟨h1, h2, h3, h4, h5⟩ := h.qin x hx
  have := h.flAt (f := x.f.toNat) (by omega)
  exact ⟨h1, by omega, by omega⟩
theorem keptN_bound {keep : List Int} {i : Nat} {n : Int} (h : 0 ≤ n) : 0 ≤ keptN keep i n ∧ keptN keep i n ≤ n := by
  unfold keptN
  split <;> omega
/-- The state after i entries of the queue. -/
def crL (fs : List Fl) (keep : List Int) (q : List Pd) : Nat → List (List UInt8)
  | 0 => crash0 fs
  | i + 1 => match q[i]? with
    | none => crL fs keep q i
    | some p => crashStep fs keep i p (crL fs keep q i)
theorem crashStep_len (fs : List Fl) (keep : List Int) (i : Nat) (p : Pd) (L : List (List UInt8)) : (crashStep fs keep i p L).length = L.length := by
  unfold crashStep
  split <;> simp
theorem crL_len (fs : List Fl) (keep : List Int) (q : List Pd) : ∀ i, (crL fs keep q i).length = fs.length
  | 0 => by simp [crL, crash0]
  | i + 1 => by
    rw [crL]
    split
    · exact crL_len fs keep q i
    · rw [crashStep_len]
      exact crL_len fs keep q i
theorem crL_loop (fs : List Fl) (keep : List Int) (q : List Pd) : ∀ (m i : Nat), i + m = q.length → crashLoop fs keep i (q.drop i) (crL fs keep q i) = crL fs keep q q.length
  | 0, i, h => by
    have : i = q.length := by omega
    subst this
    rw [List.drop_length]
    rfl
  | m + 1, i, h => by
    have hi : i < q.length := by omega
    rw [List.drop_eq_getElem_cons hi, crashLoop, ← crL_loop fs keep q m (i + 1) (by omega)]
    congr 1
    rw [crL, List.getElem?_eq_getElem hi]
theorem crL_end (fs : List Fl) (keep : List Int) (q : List Pd) : crL fs keep q q.length = crashLoop fs keep 0 q (crash0 fs) := (crL_loop fs keep q q.length 0 (by omega)).symm
/-- No piece reaches behind a later one of its file. -/
theorem crL_fits {D : DS} (h : DOk D) (keep : List Int) : ∀ i, (∀ f, f < 8 → ((crL D.fs keep D.q i).getD f []).length ≤ 16777216) ∧ ∀ j p, i ≤ j → D.q[j]? = some p → (((crL D.fs keep D.q i).getD p.f.toNat []).length : Int) ≤ p.a
  | 0 => by
    have key : ∀ f, f < 8 → ((crL D.fs keep D.q 0).getD f []).length = (D.fl f).n := by
      intro f hf
      have hl : f < D.fs.length := by rw [h.len]; exact hf
      have h1 := h.flAt hf
      have e : D.fl f = D.fs[f] := by simp [DS.fl, List.getD_eq_getElem?_getD, List.getElem?_eq_getElem hl]
      rw [e] at h1 ⊢
      simp [crL, crash0, List.getD_eq_getElem?_getD, List.getElem?_eq_getElem hl]
      omega
    refine ⟨fun f hf => by have := h.flAt hf; rw [key f hf]; omega, fun j p _ hp => ?_⟩
    obtain ⟨h1, h2, h3, h4, h5⟩ := h.qin p (List.mem_of_getElem? hp)
    rw [key _ (by omega)]
    exact h5
  | i + 1 => by
    obtain ⟨ih1, ih2⟩ := crL_fits h keep i
    rw [crL]
    cases hq : D.q[i]? with
    | none => exact ⟨ih1, fun j p hj hp => ih2 j p (by omega) hp⟩
    | some p =>
      simp only
      obtain ⟨h1, h2, h3, h4, h5⟩ := h.qin p (List.mem_of_getElem? hq)
      have hfit := ih2 i p (Nat.le_refl _) hq
      have hb := h.flAt (f := p.f.toNat) (by omega)
      have hk := keptN_bound (keep := keep) (i := i) h3
      have hlen : p.f.toNat < (crL D.fs keep D.q i).length := by rw [crL_len, h.len]; omega
      have hi : i < D.q.length := (List.getElem?_eq_some_iff.1 hq).1
      have hget : ∀ f, ((crashStep D.fs keep i p (crL D.fs keep D.q i)).getD f []).length ≤ (if f = p.f.toNat ∧ keptN keep i p.n ≠ 0 then (p.a + p.n).toNat else ((crL D.fs keep D.q i).getD f []).length) := by
        intro f
        unfold crashStep
        by_cases h0 : keptN keep i p.n = 0
        · rw [if_pos h0, if_neg (fun h => h.2 h0)]
          exact Nat.le_refl _
        · rw [if_neg h0]
          by_cases e : f = p.f.toNat
          · subst e
            rw [if_pos ⟨rfl, h0⟩, List.getD_eq_getElem?_getD, List.getElem?_set_self hlen]
            simp only [Option.getD_some, List.length_append, List.length_replicate, List.length_take, List.length_drop]
            omega
          · rw [if_neg (fun h => e h.1), List.getD_eq_getElem?_getD, List.getElem?_set_ne (Ne.symm e), ← List.getD_eq_getElem?_getD]
            exact Nat.le_refl _
      refine ⟨fun f hf => Nat.le_trans (hget f) ?_, fun j p' hj hp' => ?_⟩
      · split
        · omega
        · exact ih1 f hf
      · have := hget p'.f.toNat
        by_cases e : p'.f.toNat = p.f.toNat ∧ keptN keep i p.n ≠ 0
        · rw [if_pos e] at this
          obtain ⟨g1, _⟩ := h.qin p' (List.mem_of_getElem? hp')
          have hj' : j < D.q.length := (List.getElem?_eq_some_iff.1 hp').1
          have ho := List.pairwise_iff_getElem.1 h.ord i j hi hj' (by omega)
          have e1 : D.q[i] = p := by rw [List.getElem?_eq_getElem hi] at hq; injection hq
          have e2 : D.q[j] = p' := by rw [List.getElem?_eq_getElem hj'] at hp'; injection hp'
          rw [e1, e2] at ho
          have := ho (by omega)
          omega
        · rw [if_neg e] at this
          have := ih2 j p' (by omega) hp'
          omega
end Go.Proofs.Ytbhlpnkccdcdiaa.Dk
