/- The closures by which ledger.Account and ledger.Lines choose entries, and the one that turns a choice round. -/
import Derived.Test.YtlmjopodghikgaaHBase
namespace Go.Proofs.Ytlmjopodghikgaa.Print
open Go.RowKit Go.Proofs.YtlmjopodghikgaaW.PrintWords
set_option linter.unusedVariables false
set_option linter.unusedSimpArgs false

/-- A function value that answers p of an entry, in every world that is as w below block B; it turns nothing. -/
def PredB (B : Nat) (w : World) (g : Nat) (lb : Array Value) (p : S36 → Bool) : Prop :=
  ∀ (W : World) (x : S36), Below B w W → Calls Try.prog g (#[.agg (cE x).toArray] ++ lb) W fun e w' => e = .returned (.bool (p x)) ∧ Below W.heap.size W w'

def accP (owner place day known : Int) (x : S36) : Bool :=
  decide (x.f0 ≤ day) && decide (x.f1 ≤ known) && (owner == -1 || x.f2 == owner) && (place == -1 || x.f3 == place)
def linP (owner from_ until_ known : Int) (x : S36) : Bool :=
  x.f2 == owner && (decide (from_ ≤ x.f0) && decide (x.f0 ≤ until_)) && decide (x.f1 ≤ known)

set_option maxHeartbeats 400000 in
theorem acc1 (x : S36) (owner place day known : Int) (a1 a2 a3 a4 : Addr) (W : World) (h1 : W.cell? a1 = some (.int .i64 day)) (h2 : W.cell? a2 = some (.int .i64 known)) (h3 : W.cell? a3 = some (.int .i64 owner)) (h4 : W.cell? a4 = some (.int .i64 place)) :
    Calls Try.prog 30 #[.agg #[.int .i64 x.f0, .int .i64 x.f1, .int .i64 x.f2, .int .i64 x.f3, .int .i64 x.f4, .int .i64 x.f5, .int .i64 x.f6], .pointer (some a1), .pointer (some a2), .pointer (some a3), .pointer (some a4)] W fun e w' => e = .returned (.bool (accP owner place day known x)) ∧ Below W.heap.size W w' := by
  have g1 := fun o => pw_cell_below ((Below.refl _ W).alloc (Nat.le_refl _) o) h1
  have g2 := fun o => pw_cell_below ((Below.refl _ W).alloc (Nat.le_refl _) o) h2
  have g3 := fun o => pw_cell_below ((Below.refl _ W).alloc (Nat.le_refl _) o) h3
  have g4 := fun o => pw_cell_below ((Below.refl _ W).alloc (Nat.le_refl _) o) h4
  clear h1 h2 h3 h4
  go_enter Try.func30, Try.ntmps30
  go_wp2_with fail
  all_goals
    go_ret
    exact ⟨by first | (simp [accP, *]; done) | (simp [accP, *]; intros; omega), (Below.refl _ W).alloc (Nat.le_refl _) _⟩

set_option maxHeartbeats 400000 in
theorem lin1 (x : S36) (owner from_ until_ known : Int) (a1 a2 a3 a4 : Addr) (W : World) (h1 : W.cell? a1 = some (.int .i64 owner)) (h2 : W.cell? a2 = some (.int .i64 from_)) (h3 : W.cell? a3 = some (.int .i64 until_)) (h4 : W.cell? a4 = some (.int .i64 known)) :
    Calls Try.prog 33 #[.agg #[.int .i64 x.f0, .int .i64 x.f1, .int .i64 x.f2, .int .i64 x.f3, .int .i64 x.f4, .int .i64 x.f5, .int .i64 x.f6], .pointer (some a1), .pointer (some a2), .pointer (some a3), .pointer (some a4)] W fun e w' => e = .returned (.bool (linP owner from_ until_ known x)) ∧ Below W.heap.size W w' := by
  have g1 := fun o => pw_cell_below ((Below.refl _ W).alloc (Nat.le_refl _) o) h1
  have g2 := fun o => pw_cell_below ((Below.refl _ W).alloc (Nat.le_refl _) o) h2
  have g3 := fun o => pw_cell_below ((Below.refl _ W).alloc (Nat.le_refl _) o) h3
  have g4 := fun o => pw_cell_below ((Below.refl _ W).alloc (Nat.le_refl _) o) h4
  clear h1 h2 h3 h4
  go_enter Try.func33, Try.ntmps33
  go_wp2
  all_goals
    go_ret
    exact ⟨by first | (simp [linP, *]; done) | (simp [linP, *]; intros; omega), (Below.refl _ W).alloc (Nat.le_refl _) _⟩

/-- 'func(e) bool { return !is(e) }'. -/
theorem cho1 (x : S36) (g : Nat) (lb : Array Value) (p : S36 → Bool) (a1 : Addr) (W : World) (h1 : W.cell? a1 = some (.func (.func g) #[] lb)) (eg : ∀ args w, (callFunc g args).run Try.prog w = .ok (.enter g args) w)
    (hp : ∀ W1, Below W.heap.size W W1 → Calls Try.prog g (#[.agg (cE x).toArray] ++ lb) W1 fun e w' => e = .returned (.bool (p x)) ∧ Below W1.heap.size W1 w') :
    Calls Try.prog 42 #[.agg #[.int .i64 x.f0, .int .i64 x.f1, .int .i64 x.f2, .int .i64 x.f3, .int .i64 x.f4, .int .i64 x.f5, .int .i64 x.f6], .pointer (some a1)] W fun e w' => e = .returned (.bool (!p x)) ∧ Below W.heap.size W w' := by
  have g1 := fun o => pw_cell_below ((Below.refl _ W).alloc (Nat.le_refl _) o) h1
  have HP := Aside0.mk (fun o => hp (W.alloc o) ((Below.refl _ W).alloc (Nat.le_refl _) o))
  clear h1 hp
  unfold cE at HP
  go_enter Try.func42, Try.ntmps42
  go_wp2_with (go_at_fn g; refine (HP.out _).mono ?_; rintro e w' ⟨rfl, hb⟩)
  go_ret
  exact ⟨rfl, ((Below.refl _ W).alloc (Nat.le_refl _) _).trans (hb.mono (by simp))⟩

def dayCmp (x y : S36) : Int := if x.f0 < y.f0 then -1 else if y.f0 < x.f0 then 1 else 0
theorem cmp1 (x y : S36) (W : World) :
    Calls Try.prog 36 #[.agg #[.int .i64 x.f0, .int .i64 x.f1, .int .i64 x.f2, .int .i64 x.f3, .int .i64 x.f4, .int .i64 x.f5, .int .i64 x.f6], .agg #[.int .i64 y.f0, .int .i64 y.f1, .int .i64 y.f2, .int .i64 y.f3, .int .i64 y.f4, .int .i64 y.f5, .int .i64 y.f6]] W fun e w' => e = .returned (.int .i64 (dayCmp x y)) ∧ Below W.heap.size W w' := by
  go_enter Try.func36, Try.ntmps36
  go_wp2
  all_goals
    go_ret
    exact ⟨by unfold dayCmp; first | (simp [*]; done) | (rw [if_neg (by omega), if_neg (by omega)]; rfl) | (rw [if_neg (by omega), if_pos (by omega)]; rfl), ((Below.refl _ W).alloc (Nat.le_refl _) _).alloc (by simp) _⟩
end Go.Proofs.Ytlmjopodghikgaa.Print
