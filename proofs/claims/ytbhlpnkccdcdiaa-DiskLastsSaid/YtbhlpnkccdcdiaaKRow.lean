/- Rows of pending appends that a call owns: what the cells of a block hold, read and stored. -/
import Derived.Test.YtbhlpnkccdcdiaaKPre
namespace Go.Proofs.Ytbhlpnkccdcdiaa.Dk
open Go.RowKit Go.Proofs.YtbhlpnkccdcdiaaW.PrintWords
set_option linter.unusedVariables false
set_option linter.unusedSimpArgs false

/-- A pending append: n bytes of file f from a on. -/
structure Pd where
  f : Int
  a : Int
  n : Int

/-- An entry's cells. -/
def cE (x : Pd) : List Value := [.int .i64 x.f, .int .i64 x.a, .int .i64 x.n]
theorem cE_len (x : Pd) : (cE x).length = 3 := rfl
theorem cE_one (x : Pd) : ∀ v ∈ cE x, v.oneCell' = true := by
  intro v hv
  simp only [cE, List.mem_cons, List.not_mem_nil, or_false] at hv
  rcases hv with rfl | rfl | rfl <;> rfl
/-- Block g is a row of cap entries' places, whose first hold l. -/
def RowE (w : World) (g cap : Nat) (l : List Pd) : Prop :=
  ∃ cur : Array Value, w.heap[g]? = some (.cells cur 91 (0, 0)) ∧ cur.size = cap * 3 ∧ l.length ≤ cap ∧ cap ≤ maxLen ∧ ∀ j x, l[j]? = some x → ∀ i u, (cE x)[i]? = some u → cur[j * 3 + i]? = some u

namespace RowE
variable {w w1 : World} {g cap : Nat} {l : List Pd}
theorem lt (h : RowE w g cap l) : g < w.heap.size := by
  obtain ⟨cur, hb, _⟩ := h
  exact (Array.getElem?_eq_some_iff.1 hb).1
theorem move (h : RowE w g cap l) (e : w1.heap[g]? = w.heap[g]?) : RowE w1 g cap l := by
  obtain ⟨cur, hb, r⟩ := h
  exact ⟨cur, e.trans hb, r⟩
theorem below (h : RowE w g cap l) (hb : Below w.heap.size w w1) : RowE w1 g cap l := h.move (hb.block g h.lt)
theorem cell (h : RowE w g cap l) {j : Nat} {x : Pd} (hj : l[j]? = some x) {i : Nat} {u : Value} (hu : (cE x)[i]? = some u) : w.cell? ⟨g, j * 3 + i, none⟩ = some u := by
  obtain ⟨cur, hb, _, _, _, hc⟩ := h
  simp [World.cell?, hb, hc j x hj i u hu]
theorem frozen (h : RowE w g cap l) (o : Nat) : w.frozen? ⟨g, o, none⟩ = false := by
  obtain ⟨cur, hb, _⟩ := h
  simp [World.frozen?, hb]
theorem isSome (h : RowE w g cap l) {o : Nat} (ho : o < cap * 3) : (w.cell? ⟨g, o, none⟩).isSome = true := by
  obtain ⟨cur, hb, hs, _⟩ := h
  simp [World.cell?, hb, hs, ho]
theorem load (h : RowE w g cap l) {j : Nat} {x : Pd} (hj : l[j]? = some x) : Sem.run Try.prog (loadCellsFrom ⟨g, j * 3, none⟩ 0 3 #[]) w = .ok (cE x).toArray w :=
  run_loadCellsFrom_list _ _ _ _ 3 rfl (fun i u hu => by rw [Addr.add_lit]; exact h.cell hj hu)
theorem take (h : RowE w g cap l) (n : Nat) : RowE w g cap (l.take n) := by
  obtain ⟨cur, hb, hs, hl, hm, hc⟩ := h
  refine ⟨cur, hb, hs, by rw [List.length_take]; omega, hm, fun j x hj => ?_⟩
  rw [List.getElem?_take] at hj
  split at hj
  · exact hc j x hj
  · cases hj
end RowE

/-! ### Stores of several cells -/
theorem setCells_heap (g : Nat) : ∀ (vs : List Value) (o : Nat) (w : World) (cur : Array Value) (t : Nat) (fr : Nat × Nat), w.heap[g]? = some (.cells cur t fr) →
    ∃ cur', (w.setCells g o vs).heap[g]? = some (.cells cur' t fr) ∧ cur'.size = cur.size ∧ (∀ p, p < o ∨ o + vs.length ≤ p → cur'[p]? = cur[p]?) ∧ (∀ i u, vs[i]? = some u → o + i < cur.size → cur'[o + i]? = some u)
  | [], o, w, cur, t, fr, h => ⟨cur, h, rfl, fun _ _ => rfl, fun i u hu => by simp at hu⟩
  | v :: vs, o, w, cur, t, fr, h => by
    have h1 : (w.setCell ⟨g, o, none⟩ v).heap[g]? = some (.cells (cur.setIfInBounds o v) t fr) := by
      simp [World.setCell, Array.getElem?_modify, h]
    obtain ⟨cur', hb, hs, ho, hi⟩ := setCells_heap g vs (o + 1) (w.setCell ⟨g, o, none⟩ v) _ t fr h1
    refine ⟨cur', hb, by rw [hs]; simp, fun p hp => ?_, fun i u hu hlt => ?_⟩
    · rw [ho p (by simp only [List.length_cons] at hp; omega), Array.getElem?_setIfInBounds_ne (by simp only [List.length_cons] at hp; omega)]
    · cases i with
      | zero =>
        simp only [List.getElem?_cons_zero, Option.some.injEq] at hu
        subst hu
        rw [Nat.add_zero, ho o (.inl (by omega))]
        simp only [Nat.add_zero] at hlt
        simp [hlt]
      | succ i =>
        simp only [List.getElem?_cons_succ] at hu
        have := hi i u hu (by simp; omega)
        rwa [show o + 1 + i = o + (i + 1) by omega] at this
theorem setCells_below {B g : Nat} (hB : B ≤ g) : ∀ (vs : List Value) (o : Nat) (w : World), Below B w (w.setCells g o vs)
  | [], _, w => Below.refl B w
  | v :: vs, o, w => ((Below.refl B w).setCell (p := ⟨g, o, none⟩) hB v).trans (setCells_below hB vs (o + 1) _)
theorem setCells_other (g : Nat) : ∀ (vs : List Value) (o : Nat) (w : World) (k : Nat), k ≠ g → (w.setCells g o vs).heap[k]? = w.heap[k]?
  | [], _, w, k, _ => rfl
  | v :: vs, o, w, k, h => (setCells_other g vs (o + 1) _ k h).trans (Below.heap_setCell w ⟨g, o, none⟩ v k h)
theorem setCells_size (g : Nat) : ∀ (vs : List Value) (o : Nat) (w : World), (w.setCells g o vs).heap.size = w.heap.size
  | [], _, w => rfl
  | v :: vs, o, w => (setCells_size g vs (o + 1) _).trans (by simp [World.setCell])

theorem RowE.stores {w : World} {g cap : Nat} {l : List Pd} (h : RowE w g cap l) {o : Nat} (vs : List Value) (ho : o + vs.length ≤ cap * 3) (h1 : ∀ v ∈ vs, v.oneCell' = true) :
    Sem.run Try.prog (storeCells ⟨g, o, none⟩ vs 0) w = .ok () (w.setCells g o vs) := by
  have := run_storeCells_cells (P := Try.prog) g o vs 0 w (fun j hj => h.isSome (by omega)) (fun j hj => h.frozen _) h1
  rwa [Nat.add_zero] at this
/-- Entry j is written. -/
theorem RowE.set {w : World} {g cap : Nat} {l : List Pd} (h : RowE w g cap l) {j : Nat} (hj : j < l.length) (x : Pd) : RowE (w.setCells g (j * 3) (cE x)) g cap (l.set j x) := by
  obtain ⟨cur, hb, hs, hl, hm, hc⟩ := h
  obtain ⟨cur', hb', hs', ho, hi⟩ := setCells_heap g (cE x) (j * 3) w cur _ _ hb
  refine ⟨cur', hb', hs'.trans hs, by rw [List.length_set]; exact hl, hm, fun k y hk i u hu => ?_⟩
  have hi3 : i < 3 := by have := (List.getElem?_eq_some_iff.1 hu).1; rwa [cE_len] at this
  by_cases e : j = k
  · subst e
    have hy : x = y := by simpa [hj] using hk
    subst hy
    exact hi i u hu (by omega)
  · rw [List.getElem?_set_ne e] at hk
    rw [ho (k * 3 + i) (by rw [cE_len]; omega)]
    exact hc k y hk i u hu

end Go.Proofs.Ytbhlpnkccdcdiaa.Dk
