/- Contracts and plain lemmas that the claim rests on: part 5 of 17 (joined, without what the theorem does not rest on). -/
import Derived.Test.YtlmjopodghikgaaT4
import Derived.Shelf.SlicesQ.Load
import Derived.Laws.IdiomCopy
import Derived.Shelf.Abstract
section
/- Rows of entries that a call owns: what the cells of a block hold, read, stored, and told in the printer's kinds. -/
namespace Go.Proofs.Ytlmjopodghikgaa.Print
open Go.RowKit Go.Proofs.YtlmjopodghikgaaW.PrintWords
set_option linter.unusedVariables false
set_option linter.unusedSimpArgs false

/-- An entry's cells. -/
def cE (x : S36) : List Value := [.int .i64 x.f0, .int .i64 x.f1, .int .i64 x.f2, .int .i64 x.f3, .int .i64 x.f4, .int .i64 x.f5, .int .i64 x.f6]
theorem cE_len (x : S36) : (cE x).length = 7 := rfl
theorem cE_one (x : S36) : ∀ v ∈ cE x, v.oneCell' = true := by
  intro v hv
  simp only [cE, List.mem_cons, List.not_mem_nil, or_false] at hv
  rcases hv with rfl | rfl | rfl | rfl | rfl | rfl | rfl <;> rfl
theorem kE_open {w : World} {base : Nat} {ok : Nat → Prop} {x : S36} {cs : List Value} (h : k36.M w base ok x cs) : cs = cE x := k36_openM h
theorem kE_openK {w : World} {x : S36} {cs : List Value} (h : k36.K w x cs) : cs = cE x := k36_open h

/-- Block g is a row of cap entries' places, whose first hold l. -/
def RowE (w : World) (g cap : Nat) (l : List S36) : Prop :=
  ∃ cur : Array Value, w.heap[g]? = some (.cells cur 36 (0, 0)) ∧ cur.size = cap * 7 ∧ l.length ≤ cap ∧ cap ≤ maxLen ∧ ∀ j x, l[j]? = some x → ∀ i u, (cE x)[i]? = some u → cur[j * 7 + i]? = some u

namespace RowE
variable {w w1 : World} {g cap : Nat} {l : List S36}
theorem lt (h : RowE w g cap l) : g < w.heap.size := by
  obtain ⟨cur, hb, _⟩ := h
  exact (Array.getElem?_eq_some_iff.1 hb).1
theorem move (h : RowE w g cap l) (e : w1.heap[g]? = w.heap[g]?) : RowE w1 g cap l := by
  obtain ⟨cur, hb, r⟩ := h
  exact ⟨cur, e.trans hb, r⟩
theorem below (h : RowE w g cap l) (hb : Below w.heap.size w w1) : RowE w1 g cap l := h.move (hb.block g h.lt)
theorem cell (h : RowE w g cap l) {j : Nat} {x : S36} (hj : l[j]? = some x) {i : Nat} {u : Value} (hu : (cE x)[i]? = some u) : w.cell? ⟨g, j * 7 + i, none⟩ = some u := by
  obtain ⟨cur, hb, _, _, _, hc⟩ := h
  simp [World.cell?, hb, hc j x hj i u hu]
theorem frozen (h : RowE w g cap l) (o : Nat) : w.frozen? ⟨g, o, none⟩ = false := by
  obtain ⟨cur, hb, _⟩ := h
  simp [World.frozen?, hb]
theorem isSome (h : RowE w g cap l) {o : Nat} (ho : o < cap * 7) : (w.cell? ⟨g, o, none⟩).isSome = true := by
  obtain ⟨cur, hb, hs, _⟩ := h
  simp [World.cell?, hb, hs, ho]
end RowE

/-! ### Stores of several cells -/
theorem setCells_heap (g : Nat) : ∀ (vs : List Value) (o : Nat) (w : World) (cur : Array Value) (t : Nat) (fr : Nat × Nat), w.heap[g]? = some (.cells cur t fr) →
    ∃ cur', (w.setCells g o vs).heap[g]? = some (.cells cur' t fr) ∧ cur'.size = cur.size ∧ (∀ p, p < o ∨ o + vs.length ≤ p → cur'[p]? = cur[p]?) ∧ (∀ i u, vs[i]? = some u → o + i < cur.size → cur'[o + i]? = some u)
  | [], o, w, cur, t, fr, h => ⟨cur, h, rfl, fun _ _ => rfl, fun i u hu => by simp at hu⟩
  | v :: vs, o, w, cur, t, fr, h => by
    have h1 : (w.setCell ⟨g, o, none⟩ v).heap[g]? = some (.cells (cur.setIfInBounds o v) t fr) := by
      simp [World.setCell, Array.getElem?_modify, h]
    obtain ⟨cur', hb, hs, ho, hi⟩ := setCells_heap g vs (o + 1) (w.setCell ⟨g, o, none⟩ v) _ t fr h1
    refine ⟨cur', hb, by rw [hs]; simp, fun p hp => ?_, fun i u hu hlt => ?_⟩
    · rw [ho p (by simp only [List.length_cons] at hp; omega), Array.getElem?_setIfInBounds_ne (by simp only [List.length_cons] at hp; omega)]
    · cases i with
      | zero =>
        simp only [List.getElem?_cons_zero, Option.some.injEq] at hu
        subst hu
        rw [Nat.add_zero, ho o (.inl (by omega))]
        simp only [Nat.add_zero] at hlt
        simp [hlt]
      | succ i =>
        simp only [List.getElem?_cons_succ] at hu
        have := hi i u hu (by simp; omega)
        rwa [show o + 1 + i = o + (i + 1) by omega] at this
theorem setCells_below {B g : Nat} (hB : B ≤ g) : ∀ (vs : List Value) (o : Nat) (w : World), Below B w (w.setCells g o vs)
  | [], _, w => Below.refl B w
  | v :: vs, o, w => ((Below.refl B w).setCell (p := ⟨g, o, none⟩) hB v).trans (setCells_below hB vs (o + 1) _)
theorem RowE.stores {w : World} {g cap : Nat} {l : List S36} (h : RowE w g cap l) {o : Nat} (vs : List Value) (ho : o + vs.length ≤ cap * 7) (h1 : ∀ v ∈ vs, v.oneCell' = true) :
    Sem.run Try.prog (storeCells ⟨g, o, none⟩ vs 0) w = .ok () (w.setCells g o vs) := by
  have := run_storeCells_cells (P := Try.prog) g o vs 0 w (fun j hj => h.isSome (by omega)) (fun j hj => h.frozen _) h1
  rwa [Nat.add_zero] at this
/-- Entry j is written. -/
theorem RowE.set {w : World} {g cap : Nat} {l : List S36} (h : RowE w g cap l) {j : Nat} (hj : j < l.length) (x : S36) : RowE (w.setCells g (j * 7) (cE x)) g cap (l.set j x) := by
  obtain ⟨cur, hb, hs, hl, hm, hc⟩ := h
  obtain ⟨cur', hb', hs', ho, hi⟩ := setCells_heap g (cE x) (j * 7) w cur _ _ hb
  refine ⟨cur', hb', hs'.trans hs, by rw [List.length_set]; exact hl, hm, fun k y hk i u hu => ?_⟩
  have hi7 : i < 7 := by have := (List.getElem?_eq_some_iff.1 hu).1; rwa [cE_len] at this
  by_cases e : j = k
  · subst e
    have hy : x = y := by simpa [hj] using hk
    subst hy
    exact hi i u hu (by omega)
  · rw [List.getElem?_set_ne e] at hk
    rw [ho (k * 7 + i) (by rw [cE_len]; omega)]
    exact hc k y hk i u hu

/-! ### In the printer's kinds -/
theorem RowE.ofR {w : World} {base : Nat} {ok : Nat → Prop} {v : Value} {l : List S36} (h : Kd.R k36 36 w base ok v l) :
    (v = .slice none 0 0 ∧ l = []) ∨ ∃ g cap, v = .slice (some ⟨g, 0, none⟩) l.length cap ∧ base ≤ g ∧ ok g ∧ RowE w g cap l := by
  obtain ⟨h0, inner, ho, hr⟩ := h
  rcases ho.2 with ⟨rfl, h2⟩ | ⟨g, cap, cur, rfl, hg, hb, hn, hm, hs, ht⟩
  · exact .inl ⟨rfl, List.length_eq_zero_iff.1 h2⟩
  · refine .inr ⟨g, cap, rfl, hg, h0 g rfl, cur, hb, hs, hn, hm, fun j x hj i u hu => ?_⟩
    have hM := kE_open (hr.2 j x hj)
    have hjl : j < l.length := (List.getElem?_eq_some_iff.1 hj).1
    have hi7 : i < 7 := by have := (List.getElem?_eq_some_iff.1 hu).1; rwa [cE_len] at this
    rw [← hM] at hu
    simp only [show k36.sz = 7 from rfl] at hu ht
    rw [List.getElem?_take, if_pos hi7, List.getElem?_drop, ← ht, List.getElem?_take, if_pos (by omega)] at hu
    simpa using hu
theorem RowE.toR {w : World} {base g cap : Nat} {ok : Nat → Prop} {l : List S36} (h : RowE w g cap l) (hg : base ≤ g) (hok : ok g) :
    Kd.R k36 36 w base ok (.slice (some ⟨g, 0, none⟩) l.length cap) l := by
  obtain ⟨cur, hb, hs, hl, hm, hc⟩ := h
  have hsz : cur.toList.length = cap * 7 := by simpa using hs
  refine ⟨fun k hk => ?_, cur.toList.take (l.length * 7), ⟨?_, .inr ⟨g, cap, cur, rfl, hg, hb, hl, hm, hs, rfl⟩⟩, ?_, fun j x hj => ?_⟩
  · simp only [Value.ownBlock, Option.some.injEq] at hk
    subst hk
    exact hok
  · rw [List.length_take, hsz]
    show min (l.length * 7) (cap * 7) = l.length * 7
    omega
  · rw [List.length_take, hsz]
    show min (l.length * 7) (cap * 7) = l.length * 7
    omega
  · have hjl : j < l.length := (List.getElem?_eq_some_iff.1 hj).1
    have e : ((cur.toList.take (l.length * 7)).drop (j * 7)).take 7 = cE x := by
      apply List.ext_getElem?
      intro i
      rw [List.getElem?_take]
      by_cases hi : i < 7
      · rw [if_pos hi, List.getElem?_drop, List.getElem?_take, if_pos (by omega)]
        obtain ⟨u, hu⟩ : ∃ u, (cE x)[i]? = some u := ⟨_, List.getElem?_eq_getElem (by rw [cE_len]; exact hi)⟩
        rw [hu]
        simpa using hc j x hj i u hu
      · rw [if_neg hi, List.getElem?_eq_none (by rw [cE_len]; omega)]
    show k36.M _ _ _ x (((cur.toList.take (l.length * 7)).drop (j * 7)).take 7)
    rw [e]
    exact k36_mkM _ _ _ _
/-- A row that came in, told by its cells. -/
theorem cells_ofC {w : World} {A : Option Addr} {n : Nat} {l : List S36} (h : Kd.C k36 w A n l) (hn : 0 < n) :
    ∃ ad, A = some ad ∧ ∀ j x, l[j]? = some x → ∀ i u, (cE x)[i]? = some u → w.cell? (ad.add (j * 7 + i)) = some u := by
  obtain ⟨ad, e, hc⟩ := h.2.2 hn
  refine ⟨ad, e, fun j x hj i u hu => ?_⟩
  obtain ⟨c, hs, hK, hcell⟩ := hc j x hj
  have := kE_openK hK
  subst this
  exact hcell i u hu
end Go.Proofs.Ytlmjopodghikgaa.Print
end
section
/- The closures by which ledger.Account and ledger.Lines choose entries, and the one that turns a choice round. -/
namespace Go.Proofs.Ytlmjopodghikgaa.Print
open Go.RowKit Go.Proofs.YtlmjopodghikgaaW.PrintWords
set_option linter.unusedVariables false
set_option linter.unusedSimpArgs false

/-- A function value that answers p of an entry, in every world that is as w below block B; it turns nothing. -/
def PredB (B : Nat) (w : World) (g : Nat) (lb : Array Value) (p : S36 → Bool) : Prop :=
  ∀ (W : World) (x : S36), Below B w W → Calls Try.prog g (#[.agg (cE x).toArray] ++ lb) W fun e w' => e = .returned (.bool (p x)) ∧ Below W.heap.size W w'

def accP (owner place day known : Int) (x : S36) : Bool :=
  decide (x.f0 ≤ day) && decide (x.f1 ≤ known) && (owner == -1 || x.f2 == owner) && (place == -1 || x.f3 == place)
def linP (owner from_ until_ known : Int) (x : S36) : Bool :=
  x.f2 == owner && (decide (from_ ≤ x.f0) && decide (x.f0 ≤ until_)) && decide (x.f1 ≤ known)

set_option maxHeartbeats 400000 in
theorem acc1 (x : S36) (owner place day known : Int) (a1 a2 a3 a4 : Addr) (W : World) (h1 : W.cell? a1 = some (.int .i64 day)) (h2 : W.cell? a2 = some (.int .i64 known)) (h3 : W.cell? a3 = some (.int .i64 owner)) (h4 : W.cell? a4 = some (.int .i64 place)) :
    Calls Try.prog 30 #[.agg #[.int .i64 x.f0, .int .i64 x.f1, .int .i64 x.f2, .int .i64 x.f3, .int .i64 x.f4, .int .i64 x.f5, .int .i64 x.f6], .pointer (some a1), .pointer (some a2), .pointer (some a3), .pointer (some a4)] W fun e w' => e = .returned (.bool (accP owner place day known x)) ∧ Below W.heap.size W w' := by
  have g1 := fun o => pw_cell_below ((Below.refl _ W).alloc (Nat.le_refl _) o) h1
  have g2 := fun o => pw_cell_below ((Below.refl _ W).alloc (Nat.le_refl _) o) h2
  have g3 := fun o => pw_cell_below ((Below.refl _ W).alloc (Nat.le_refl _) o) h3
  have g4 := fun o => pw_cell_below ((Below.refl _ W).alloc (Nat.le_refl _) o) h4
  clear h1 h2 h3 h4
  go_enter Try.func30, Try.ntmps30
  go_wp2_with fail
  all_goals
    go_ret
    exact ⟨by first | (simp [accP, *]; done) | (simp [accP, *]; intros; omega), (Below.refl _ W).alloc (Nat.le_refl _) _⟩

set_option maxHeartbeats 400000 in
theorem lin1 (x : S36) (owner from_ until_ known : Int) (a1 a2 a3 a4 : Addr) (W : World) (h1 : W.cell? a1 = some (.int .i64 owner)) (h2 : W.cell? a2 = some (.int .i64 from_)) (h3 : W.cell? a3 = some (.int .i64 until_)) (h4 : W.cell? a4 = some (.int .i64 known)) :
    Calls Try.prog 33 #[.agg #[.int .i64 x.f0, .int .i64 x.f1, .int .i64 x.f2, .int .i64 x.f3, .int .i64 x.f4, .int .i64 x.f5, .int .i64 x.f6], .pointer (some a1), .pointer (some a2), .pointer (some a3), .pointer (some a4)] W fun e w' => e = .returned (.bool (linP owner from_ until_ known x)) ∧ Below W.heap.size W w' := by
  have g1 := fun o => pw_cell_below ((Below.refl _ W).alloc (Nat.le_refl _) o) h1
  have g2 := fun o => pw_cell_below ((Below.refl _ W).alloc (Nat.le_refl _) o) h2
  have g3 := fun o => pw_cell_below ((Below.refl _ W).alloc (Nat.le_refl _) o) h3
  have g4 := fun o => pw_cell_below ((Below.refl _ W).alloc (Nat.le_refl _) o) h4
  clear h1 h2 h3 h4
  go_enter Try.func33, Try.ntmps33
  go_wp2
  all_goals
    go_ret
    exact ⟨by first | (simp [linP, *]; done) | (simp [linP, *]; intros; omega), (Below.refl _ W).alloc (Nat.le_refl _) _⟩

/-- 'func(e) bool { return !is(e) }'. -/
theorem cho1 (x : S36) (g : Nat) (lb : Array Value) (p : S36 → Bool) (a1 : Addr) (W : World) (h1 : W.cell? a1 = some (.func (.func g) #[] lb)) (eg : ∀ args w, (callFunc g args).run Try.prog w = .ok (.enter g args) w)
    (hp : ∀ W1, Below W.heap.size W W1 → Calls Try.prog g (#[.agg (cE x).toArray] ++ lb) W1 fun e w' => e = .returned (.bool (p x)) ∧ Below W1.heap.size W1 w') :
    Calls Try.prog 42 #[.agg #[.int .i64 x.f0, .int .i64 x.f1, .int .i64 x.f2, .int .i64 x.f3, .int .i64 x.f4, .int .i64 x.f5, .int .i64 x.f6], .pointer (some a1)] W fun e w' => e = .returned (.bool (!p x)) ∧ Below W.heap.size W w' := by
  have g1 := fun o => pw_cell_below ((Below.refl _ W).alloc (Nat.le_refl _) o) h1
  have HP := Aside0.mk (fun o => hp (W.alloc o) ((Below.refl _ W).alloc (Nat.le_refl _) o))
  clear h1 hp
  unfold cE at HP
  go_enter Try.func42, Try.ntmps42
  go_wp2_with (go_at_fn g; refine (HP.out _).mono ?_; rintro e w' ⟨rfl, hb⟩)
  go_ret
  exact ⟨rfl, ((Below.refl _ W).alloc (Nat.le_refl _) _).trans (hb.mono (by simp))⟩

def dayCmp (x y : S36) : Int := if x.f0 < y.f0 then -1 else if y.f0 < x.f0 then 1 else 0
theorem cmp1 (x y : S36) (W : World) :
    Calls Try.prog 36 #[.agg #[.int .i64 x.f0, .int .i64 x.f1, .int .i64 x.f2, .int .i64 x.f3, .int .i64 x.f4, .int .i64 x.f5, .int .i64 x.f6], .agg #[.int .i64 y.f0, .int .i64 y.f1, .int .i64 y.f2, .int .i64 y.f3, .int .i64 y.f4, .int .i64 y.f5, .int .i64 y.f6]] W fun e w' => e = .returned (.int .i64 (dayCmp x y)) ∧ Below W.heap.size W w' := by
  go_enter Try.func36, Try.ntmps36
  go_wp2
  all_goals
    go_ret
    exact ⟨by unfold dayCmp; first | (simp [*]; done) | (rw [if_neg (by omega), if_neg (by omega)]; rfl) | (rw [if_neg (by omega), if_pos (by omega)]; rfl), ((Below.refl _ W).alloc (Nat.le_refl _) _).alloc (by simp) _⟩
end Go.Proofs.Ytlmjopodghikgaa.Print
end
