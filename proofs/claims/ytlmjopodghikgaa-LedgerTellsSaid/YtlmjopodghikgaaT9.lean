/- Contracts and plain lemmas that the claim rests on: part 9 of 17 (joined, without what the theorem does not rest on). -/
import Derived.Test.YtlmjopodghikgaaT8
import Derived.Lib.QuietBelow
import Derived.BigQuiet
section
/- ledger.Post appends a right posting to a ledger, or tells why not. -/
namespace Go.Proofs.Ytlmjopodghikgaa.Print
open Go.RowKit Go.Proofs.YtlmjopodghikgaaW.PrintWords
set_option linter.unusedVariables false
set_option linter.unusedSimpArgs false

def zeroE (l : List S36) : Bool := decide ((l.map (·.f4)).sum = 0)
theorem zero_f (l : List S36) (hl : l.length ≤ 35184372088832) (hi : i64E l = true) : ledger_zero.f (l.length + 1) l = some (zeroE l) := by
  unfold ledger_zero.f
  rw [litres_f l hl]
  have hall : (l.map (·.f4)).all i64B = true := by
    unfold i64E at hi
    simpa [List.all_map] using hi
  simp only [Option.bind_some, exact_Sum.f, if_pos hall, exactSum, zeroE]
  generalize (l.map (·.f4)).sum = s
  by_cases h : i64B s = true
  · rw [if_pos h]
    simp
    rfl
  · rw [if_neg h]
    simp only [Bool.false_eq_true, if_false]
    congr 1
    symm
    apply decide_eq_false
    rintro rfl
    exact h (by decide)

def rightB (x : S36) : Bool :=
  decide (0 ≤ x.f0 ∧ x.f0 ≤ 699050) && decide (0 ≤ x.f1 ∧ x.f1 ≤ 16777216) && decide (-1 ≤ x.f2 ∧ x.f2 ≤ 15) && decide (0 ≤ x.f3 ∧ x.f3 ≤ 63) && decide (-1125899906842624 ≤ x.f4 ∧ x.f4 ≤ 1125899906842624) && decide (0 ≤ x.f5 ∧ x.f5 ≤ 3) && decide (0 ≤ x.f6)
theorem within_f (a b c : Int) : ledger_within.f a b c = some (decide (b ≤ a ∧ a ≤ c)) := by
  unfold ledger_within.f
  by_cases h : a ≥ b
  · rw [if_pos h]; congr 1; simp; omega
  · rw [if_neg h]; congr 1; symm; apply decide_eq_false; omega
theorem right_f (x : S36) : ledger_right.f 5 x.f0 x.f1 x.f2 x.f3 x.f4 x.f5 x.f6 = some (rightB x) := by
  unfold ledger_right.f rightB
  simp only [within_f, Option.bind_some, ledger_right.j0]
  generalize decide (0 ≤ x.f0 ∧ x.f0 ≤ 699050) = b0
  generalize decide (0 ≤ x.f1 ∧ x.f1 ≤ 16777216) = b1
  generalize decide (-1 ≤ x.f2 ∧ x.f2 ≤ 15) = b2
  generalize decide (0 ≤ x.f3 ∧ x.f3 ≤ 63) = b3
  generalize decide (-1125899906842624 ≤ x.f4 ∧ x.f4 ≤ 1125899906842624) = b4
  generalize decide (0 ≤ x.f5 ∧ x.f5 ≤ 3) = b5
  simp only [ge_iff_le]
  generalize decide (0 ≤ x.f6) = b6
  cases b0 <;> cases b1 <;> cases b2 <;> cases b3 <;> cases b4 <;> cases b5 <;> cases b6 <;> rfl
theorem rightF (x : S36) (w : World) : Calls Try.prog 22 #[.agg #[.int .i64 x.f0, .int .i64 x.f1, .int .i64 x.f2, .int .i64 x.f3, .int .i64 x.f4, .int .i64 x.f5, .int .i64 x.f6]] w fun e w' => e = .returned (.bool (rightB x)) ∧ Below w.heap.size w w' :=
  ledger_right.calls 5 _ _ _ _ _ _ _ _ w (right_f x)

def postingB (e : List S36) : Bool := match e with
  | [] => false
  | x :: _ => zeroE e && e.all fun y => rightB y && (y.f0 == x.f0) && (y.f1 == x.f1)

def postOf (l e : List S36) : List S36 × Int :=
  if postingB e = true then (if l ≠ [] ∧ (e.getD 0 z36).f1 < (l.getD (l.length - 1) z36).f1 then ([], 15) else if fullL [l, e] = true then ([], 8) else (l ++ e, 0)) else ([], 1)
def ledger_Post.f (l0 l1 : List S36) : Option (List S36 × Int) := if (l0.length + l1.length) * 56 ≤ 140737488355328 then (if i64E l0 = true then (if i64E l1 = true then some (postOf l0 l1) else none) else none) else none

/-- A posting's entries one by one: right, of the first one's day and hour. -/
def entryB (l1 : List S36) (x : S36) : Bool := rightB x && (x.f0 == (l1.getD 0 z36).f0) && (x.f1 == (l1.getD 0 z36).f1)

theorem flat_get : ∀ (l : List S36) (j : Nat) (u : Value), (l.flatMap cE)[j]? = some u → ∃ x, l[j / 7]? = some x ∧ (cE x)[j % 7]? = some u
  | [], j, u, h => by simp at h
  | x :: l, j, u, h => by
    rw [List.flatMap_cons] at h
    by_cases hj : j < 7
    · rw [List.getElem?_append_left (by rw [cE_len]; exact hj)] at h
      exact ⟨x, by rw [Nat.div_eq_of_lt hj]; rfl, by rw [Nat.mod_eq_of_lt hj]; exact h⟩
    · rw [List.getElem?_append_right (by rw [cE_len]; omega), cE_len] at h
      obtain ⟨y, hy, hu⟩ := flat_get l (j - 7) u h
      have e1 : j / 7 = (j - 7) / 7 + 1 := by omega
      have e2 : j % 7 = (j - 7) % 7 := by omega
      exact ⟨y, by rw [e1]; simpa using hy, by rw [e2]; exact hu⟩
theorem flat_len : ∀ (l : List S36), (l.flatMap cE).length = l.length * 7
  | [] => rfl
  | x :: l => by rw [List.flatMap_cons, List.length_append, flat_len l, cE_len, List.length_cons]; omega
theorem flat_one (l : List S36) : ∀ u ∈ l.flatMap cE, u.oneCell' = true := by
  intro u hu
  obtain ⟨x, _, hx⟩ := List.mem_flatMap.1 hu
  exact cE_one x u hx
theorem flat_reps (w : World) (base : Nat) (ok : Nat → Prop) : ∀ (l : List S36), Reps (k36.M w base ok) 7 l (l.flatMap cE)
  | [] => Reps.none _ _
  | x :: l => by
    refine ⟨by rw [flat_len], fun j p hj => ?_⟩
    have h := flat_reps w base ok l
    rw [List.flatMap_cons]
    cases j with
    | zero =>
      have : x = p := by simpa using hj
      subst this
      rw [Nat.zero_mul, List.drop_zero, List.take_append_of_le_length (by rw [cE_len]; omega), List.take_of_length_le (by rw [cE_len]; omega)]
      exact k36_mkM _ _ _ _
    | succ j =>
      have e : (cE x ++ l.flatMap cE).drop ((j + 1) * 7) = (l.flatMap cE).drop (j * 7) := by
        rw [show (j + 1) * 7 = (cE x).length + j * 7 by rw [cE_len]; omega, List.drop_append]
        simp
      rw [e]
      exact h.2 j p (by simpa using hj)
theorem flat_cells {w : World} {A : Option Addr} {n : Nat} {l : List S36} (h : Kd.C k36 w A n l) (b : Addr) (hb : A = some b) : ∀ j u, (l.flatMap cE)[j]? = some u → w.cell? (b.add j) = some u := by
  intro j u hu
  obtain ⟨x, hx, hc⟩ := flat_get l j u hu
  have hn : 0 < n := by rw [← h.1]; have := (List.getElem?_eq_some_iff.1 hx).1; omega
  obtain ⟨ad, e, hcell⟩ := cells_ofC h hn
  subst hb
  injection e with e
  subst e
  have := hcell (j / 7) x hx (j % 7) u hc
  rwa [show j / 7 * 7 + j % 7 = j by omega] at this
theorem owns_R {w : World} {base : Nat} {v : Value} {n : Nat} {l : List S36} (h : w.ownsRow base 36 7 v n (l.flatMap cE)) (hn : n = l.length) : Kd.R k36 36 w base (fun _ => True) v l := by
  subst hn
  exact ⟨fun _ _ => trivial, _, h, flat_reps _ _ _ _⟩
theorem twoC {w : World} {A0 A1 : Option Addr} {c0 c1 : Nat} {l0 l1 : List S36} (h0 : Kd.C k36 w A0 l0.length l0) (hc0 : l0.length ≤ c0) (h1 : Kd.C k36 w A1 l1.length l1) (hc1 : l1.length ≤ c1) (t : Nat) :
    Kd.C (Kd.slice 36 k36) (w.alloc (.cells #[.slice A0 l0.length c0, .slice A1 l1.length c1] t)) (some ⟨w.heap.size, 0, none⟩) [l0, l1].length [l0, l1] := by
  have hb := (Below.refl _ w).alloc (Nat.le_refl _) (.cells #[.slice A0 l0.length c0, .slice A1 l1.length c1] t)
  have k0 := Kd.C_below h0 hb
  have k1 := Kd.C_below h1 hb
  refine ⟨rfl, by simp, fun _ => ⟨_, rfl, fun j p hj => ?_⟩⟩
  match j, hj with
  | 0, hj =>
    have : l0 = p := by simpa using hj
    subst this
    exact ⟨[.slice A0 l0.length c0], rfl, ⟨A0, c0, rfl, hc0, k0⟩, fun i u hu => by
      have hi : i = 0 := by have := (List.getElem?_eq_some_iff.1 hu).1; simp at this; exact this
      subst hi
      have : Value.slice A0 l0.length c0 = u := by simpa using hu
      subst this
      simp [Addr.add]⟩
  | 1, hj =>
    have : l1 = p := by simpa using hj
    subst this
    exact ⟨[.slice A1 l1.length c1], rfl, ⟨A1, c1, rfl, hc1, k1⟩, fun i u hu => by
      have hi : i = 0 := by have := (List.getElem?_eq_some_iff.1 hu).1; simp at this; exact this
      subst hi
      have : Value.slice A1 l1.length c1 = u := by simpa using hu
      subst this
      simp [Addr.add, Kd.slice]⟩
  | j + 2, hj => simp at hj

theorem rd_mem (l : List S36) (i : Int) (h0 : 0 ≤ i) (h1 : i < l.length) : rd_T36 l i ∈ l := by
  have hl : i.toNat < l.length := by omega
  have : rd_T36 l i = l[i.toNat] := by simp [rd_T36, List.getD_eq_getElem?_getD, List.getElem?_eq_getElem hl]
  rw [this]
  exact List.getElem_mem hl
theorem take_next (l : List S36) (i : Int) (h0 : 0 ≤ i) (h1 : i < l.length) : ∀ z ∈ l.take (i + 1).toNat, z ∈ l.take i.toNat ∨ z = rd_T36 l i := by
  have hl : i.toNat < l.length := by omega
  have : rd_T36 l i = l[i.toNat] := by simp [rd_T36, List.getD_eq_getElem?_getD, List.getElem?_eq_getElem hl]
  intro z hz
  rw [show (i + 1).toNat = i.toNat + 1 by omega, List.take_succ_eq_append_getElem hl, List.mem_append, List.mem_singleton] at hz
  rwa [this]
theorem allPosting {x0 : S36} {l : List S36} (hz : zeroE (x0 :: l) = true) (h : ∀ y ∈ x0 :: l, entryB (x0 :: l) y = true) : postingB (x0 :: l) = true := by
  simp only [postingB, hz, Bool.true_and, List.all_eq_true]
  exact h
theorem notPosting {x0 y : S36} {l0 l r1 : List S36} {r2 : Int} (hy : y ∈ x0 :: l) (he : entryB (x0 :: l) y = false) (h : postOf l0 (x0 :: l) = (r1, r2)) : r1 = [] ∧ r2 = 1 := by
  have hp : postingB (x0 :: l) = false := by
    rw [Bool.eq_false_iff]
    intro hp
    simp only [postingB, Bool.and_eq_true, List.all_eq_true] at hp
    have := hp.2 y hy
    have h2 : entryB (x0 :: l) y = true := by simpa [entryB] using this
    rw [he] at h2
    cases h2
  unfold postOf at h
  rw [hp] at h
  simp only [Bool.false_eq_true, if_false, Prod.mk.injEq] at h
  exact ⟨h.1.symm, h.2.symm⟩

theorem postFull {x0 : S36} {l0 l r1 : List S36} {r2 : Int} (hp : postingB (x0 :: l) = true) (hl : ¬ (l0 ≠ [] ∧ ((x0 :: l).getD 0 z36).f1 < (l0.getD (l0.length - 1) z36).f1)) (hf : fullL [l0, x0 :: l] = true) (h : postOf l0 (x0 :: l) = (r1, r2)) : r1 = [] ∧ r2 = 8 := by
  unfold postOf at h
  rw [if_pos hp, if_neg hl, if_pos hf, Prod.mk.injEq] at h
  exact ⟨h.1.symm, h.2.symm⟩
theorem postOK {x0 : S36} {l0 l r1 : List S36} {r2 : Int} (hp : postingB (x0 :: l) = true) (hl : ¬ (l0 ≠ [] ∧ ((x0 :: l).getD 0 z36).f1 < (l0.getD (l0.length - 1) z36).f1)) (hf : fullL [l0, x0 :: l] = false) (h : postOf l0 (x0 :: l) = (r1, r2)) : r1 = l0 ++ x0 :: l ∧ r2 = 0 := by
  unfold postOf at h
  rw [if_pos hp, if_neg hl, if_neg (by rw [hf]; simp), Prod.mk.injEq] at h
  exact ⟨h.1.symm, h.2.symm⟩
theorem postLate {x0 : S36} {l0 l r1 : List S36} {r2 : Int} (hp : postingB (x0 :: l) = true) (hl : l0 ≠ [] ∧ ((x0 :: l).getD 0 z36).f1 < (l0.getD (l0.length - 1) z36).f1) (h : postOf l0 (x0 :: l) = (r1, r2)) : r1 = [] ∧ r2 = 15 := by
  unfold postOf at h
  rw [if_pos hp, if_pos hl, Prod.mk.injEq] at h
  exact ⟨h.1.symm, h.2.symm⟩

theorem infE : ∃ i, Try.prog.info? 36 = some i ∧ i.zero = some (.agg #[(.int .i64 0), (.int .i64 0), (.int .i64 0), (.int .i64 0), (.int .i64 0), (.int .i64 0), (.int .i64 0)]) ∧ i.size = 7 ∧ i.bytes = 56 := by
  obtain ⟨i0, hi, hzz⟩ := Option.map_eq_some_iff.1 info36
  simp only [Prod.mk.injEq] at hzz
  exact ⟨i0, hi, hzz⟩
theorem clipF (A0 : Option Addr) (n c0 : Nat) (w : World) (hm : n ≤ 9223372036854775807) (hc : n ≤ c0) (h0 : A0 = none → n = 0) : Calls Try.prog 24 #[.slice A0 n c0] w fun e w' => e = .returned (.slice A0 n n) ∧ w' = w := by
  cases A0 with
  | none =>
    obtain rfl := h0 rfl
    go_enter Try.func24, Try.ntmps24
    go_wp2_with fail
    go_ret
    exact ⟨rfl, rfl⟩
  | some ad =>
    go_enter Try.func24, Try.ntmps24
    go_wp2_with fail
    go_ret
    exact ⟨rfl, rfl⟩

set_option maxHeartbeats 1000000 in
theorem ledger_Post.calls (A0 : Option Addr) (c0 : Nat) (l0 : List S36) (A1 : Option Addr) (c1 : Nat) (l1 : List S36) (r1 : List S36) (r2 : Int) (w : World) (hr0 : Kd.C k36 w A0 l0.length l0) (hc0 : l0.length ≤ c0) (hr1 : Kd.C k36 w A1 l1.length l1) (hc1 : l1.length ≤ c1) (h : ledger_Post.f l0 l1 = some (r1, r2)) :
    Calls Try.prog 9 #[.slice A0 l0.length c0, .slice A1 l1.length c1] w fun e w' => ∃ v0_ : Value, e = .returned (.tuple #[v0_, .int .i64 r2]) ∧ Kd.R k36 36 w' w.heap.size (fun _ => True) v0_ r1 ∧ Below w.heap.size w w' := by
  unfold ledger_Post.f at h
  by_cases hl : (l0.length + l1.length) * 56 ≤ 140737488355328
  case neg => rw [if_neg hl] at h; cases h
  rw [if_pos hl] at h
  by_cases hi0 : i64E l0 = true
  case neg => rw [if_neg hi0] at h; cases h
  rw [if_pos hi0] at h
  by_cases hi1 : i64E l1 = true
  case neg => rw [if_neg hi1] at h; cases h
  rw [if_pos hi1] at h
  injection h with h
  have H := Aside0.mk h
  have HR0 := Aside0.mk hr0
  have HR1 := Aside0.mk hr1
  have HL := Aside0.mk hl
  have HI0 := Aside0.mk hi0
  have HI1 := Aside0.mk hi1
  have HC0 := Aside0.mk hc0
  have HC1 := Aside0.mk hc1
  have HZ := Aside0.mk (ledger_zero.calls _ A1 c1 l1 _ w hr1 hc1 (zero_f l1 (by omega) hi1))
  have hm0 := hr0.2.1
  have hm1 := hr1.2.1
  clear h hr0 hr1 hl hi0 hi1 hc0 hc1
  cases l1 with
  | nil =>
    have h := H.out
    simp only [postOf, postingB, Bool.false_eq_true, if_false, Prod.mk.injEq] at h
    obtain ⟨rfl, rfl⟩ := h
    go_enter Try.func9, Try.ntmps9
    go_wp2_with fail
    go_ret2
    exact ⟨_, rfl, Kd.R_nil _ _ _ _ _, Below.refl _ _⟩
  | cons x0 l =>
    cases hz : zeroE (x0 :: l) with
    | false =>
      have h := H.out
      simp only [postOf, postingB, hz, Bool.false_and, Bool.false_eq_true, if_false, Prod.mk.injEq] at h
      obtain ⟨rfl, rfl⟩ := h
      rw [hz] at HZ
      go_enter Try.func9, Try.ntmps9
      go_wp2_with (go_at_call 21; refine HZ.out.mono ?_; rintro e w1 ⟨rfl, hb⟩)
      go_ret2
      exact ⟨_, rfl, Kd.R_nil _ _ _ _ _, hb⟩
    | true =>
      rw [hz] at HZ
      have HZT := Aside0.mk hz
      clear hz
      go_enter Try.func9, Try.ntmps9
      go_wp2_with (go_at_call 21; refine HZ.out.mono ?_; rintro e w1 ⟨rfl, hb⟩)
      have HB1 := Aside0.mk hb
      clear hb
      have HR1' := Aside0.mk (Kd.C_below HR1.out HB1.out)
      go_loopg [7, 18] (l.length + 1) (fun kq _ v18 wr => ∃ i : Int, v18 = .int .i64 i ∧ 0 ≤ i ∧ Aside0 (i + kq = (l.length : Int) + 1) ∧ Aside0 (∀ y ∈ (x0 :: l).take i.toNat, entryB (x0 :: l) y = true) ∧ Aside0 (Below w.heap.size w wr))
      case atStart => exact ⟨0, rfl, by omega, ⟨by omega⟩, ⟨by simp⟩, HB1⟩
      case round =>
        obtain ⟨i, rfl, h0, HK, HA, HW⟩ := hrel
        obtain ⟨ko, rfl⟩ : ∃ ko, ko = gk := ⟨_, rfl⟩
        have HRw := Aside0.mk (Kd.C_below HR1.out HW.out)
        by_cases c2 : i < (l.length : Int) + 1
        · have c2b : i < ((x0 :: l).length : Int) := by simpa using c2
          obtain ⟨ad, e, q0, q1, q2, q3, q4, q5, q6⟩ := at_T36 HRw.out i h0 c2b
          cases e
          obtain ⟨ad', e, p0, p1, _, _, _, _, _⟩ := at_T36 HRw.out 0 (by omega) (by simp)
          obtain rfl : ad = ad' := by injection e
          have HY := Aside0.mk (rd_mem (x0 :: l) i h0 c2b)
          have HS1 := Aside0.mk (take_next (x0 :: l) i h0 c2b)
          generalize rd_T36 (x0 :: l) i = y at q0 q1 q2 q3 q4 q5 q6 HY HS1
          have z0 : rd_T36 (x0 :: l) 0 = x0 := rfl
          rw [z0] at p0 p1
          have P0 : Aside0 (∀ W, Below wr.heap.size wr W → W.cell? ad = some (.int .i64 x0.f0) ∧ W.cell? ⟨ad.block, ad.off + 1, none⟩ = some (.int .i64 x0.f1)) := ⟨fun W hW => ⟨by have := pw_cell_below hW p0; simpa [Addr.add] using this, by have := pw_cell_below hW p1; simpa [Addr.add] using this⟩⟩
          clear z0 p0 p1
          have HE : Aside0 (entryB (x0 :: l) y = (rightB y && (y.f0 == x0.f0) && (y.f1 == x0.f1))) := ⟨rfl⟩
          go_wp2_with fail
          have hb0 : Below wr.heap.size wr (wr.alloc (.cells #[.int .i64 y.f0, .int .i64 y.f1, .int .i64 y.f2, .int .i64 y.f3, .int .i64 y.f4, .int .i64 y.f5, .int .i64 y.f6] 36)) := (Below.refl _ wr).alloc (Nat.le_refl _) _
          obtain ⟨P1, P2⟩ := P0.out _ hb0
          have B0 : (wr.alloc (.cells #[.int .i64 y.f0, .int .i64 y.f1, .int .i64 y.f2, .int .i64 y.f3, .int .i64 y.f4, .int .i64 y.f5, .int .i64 y.f6] 36)).cell? ⟨wr.heap.size, 0, none⟩ = some (.int .i64 y.f0) := by simp
          have B1 : (wr.alloc (.cells #[.int .i64 y.f0, .int .i64 y.f1, .int .i64 y.f2, .int .i64 y.f3, .int .i64 y.f4, .int .i64 y.f5, .int .i64 y.f6] 36)).cell? ⟨wr.heap.size, 1, none⟩ = some (.int .i64 y.f1) := by simp
          have B2 : (wr.alloc (.cells #[.int .i64 y.f0, .int .i64 y.f1, .int .i64 y.f2, .int .i64 y.f3, .int .i64 y.f4, .int .i64 y.f5, .int .i64 y.f6] 36)).cell? ⟨wr.heap.size, 2, none⟩ = some (.int .i64 y.f2) := by simp
          have B3 : (wr.alloc (.cells #[.int .i64 y.f0, .int .i64 y.f1, .int .i64 y.f2, .int .i64 y.f3, .int .i64 y.f4, .int .i64 y.f5, .int .i64 y.f6] 36)).cell? ⟨wr.heap.size, 3, none⟩ = some (.int .i64 y.f3) := by simp
          have B4 : (wr.alloc (.cells #[.int .i64 y.f0, .int .i64 y.f1, .int .i64 y.f2, .int .i64 y.f3, .int .i64 y.f4, .int .i64 y.f5, .int .i64 y.f6] 36)).cell? ⟨wr.heap.size, 4, none⟩ = some (.int .i64 y.f4) := by simp
          have B5 : (wr.alloc (.cells #[.int .i64 y.f0, .int .i64 y.f1, .int .i64 y.f2, .int .i64 y.f3, .int .i64 y.f4, .int .i64 y.f5, .int .i64 y.f6] 36)).cell? ⟨wr.heap.size, 5, none⟩ = some (.int .i64 y.f5) := by simp
          have B6 : (wr.alloc (.cells #[.int .i64 y.f0, .int .i64 y.f1, .int .i64 y.f2, .int .i64 y.f3, .int .i64 y.f4, .int .i64 y.f5, .int .i64 y.f6] 36)).cell? ⟨wr.heap.size, 6, none⟩ = some (.int .i64 y.f6) := by simp
          have HBq := Aside0.mk (HW.out.trans (hb0.mono HW.out.size))
          clear hb0 q0 q1 q2 q3 q4 q5 q6 P0
          generalize (wr.alloc (.cells #[.int .i64 y.f0, .int .i64 y.f1, .int .i64 y.f2, .int .i64 y.f3, .int .i64 y.f4, .int .i64 y.f5, .int .i64 y.f6] 36)) = wq at P1 P2 B0 B1 B2 B3 B4 B5 B6 HBq ⊢
          replace P1 := cell_regrown P1
          replace P2 := cell_regrown P2
          replace B0 := cell_regrown B0
          replace B1 := cell_regrown B1
          replace B2 := cell_regrown B2
          replace B3 := cell_regrown B3
          replace B4 := cell_regrown B4
          replace B5 := cell_regrown B5
          replace B6 := cell_regrown B6
          have CR := Aside0.mk (fun d os => Calls.regrown_of (d := d) (os := os) (w := wq) (rightF y _))
          cases hrt : rightB y with
          | false =>
            rw [hrt] at CR
            refine wp_region_quiet_below (by kernel_rfl) (by kernel_rfl) ?_
            repeat (go_big_quiet_step (exact CR.out _ _))
            refine wpQuiet_nil ?_
            intro _ hw'
            obtain ⟨⟨dq, osq⟩, hw''⟩ := hw'
            have HBz := Aside0.mk (HBq.out.trans ((below_regrown wq dq osq).mono HBq.out.size))
            rw [← hw''] at HBz
            clear hw'' P1 P2 B0 B1 B2 B3 B4 B5 B6
            go_wp2_with fail
            go_ret2
            obtain ⟨rfl, rfl⟩ := notPosting HY.out (by rw [HE.out, hrt, Bool.false_and, Bool.false_and]) H.out
            exact ⟨_, rfl, Kd.R_nil _ _ _ _ _, HBz.out⟩
          | true =>
            rw [hrt] at CR
            cases h1 : (y.f0 != x0.f0) with
            | true =>
              refine wp_region_quiet_below (by kernel_rfl) (by kernel_rfl) ?_
              repeat (go_big_quiet_step (exact CR.out _ _))
              refine wpQuiet_nil ?_
              intro _ hw'
              obtain ⟨⟨dq, osq⟩, hw''⟩ := hw'
              have HBz := Aside0.mk (HBq.out.trans ((below_regrown wq dq osq).mono HBq.out.size))
              rw [← hw''] at HBz
              clear hw'' P1 P2 B0 B1 B2 B3 B4 B5 B6
              go_wp2_with fail
              go_ret2
              obtain ⟨rfl, rfl⟩ := notPosting HY.out (by rw [HE.out, hrt, show (y.f0 == x0.f0) = false from by simpa [bne] using h1, Bool.and_false, Bool.false_and]) H.out
              exact ⟨_, rfl, Kd.R_nil _ _ _ _ _, HBz.out⟩
            | false =>
              cases h2 : (y.f1 != x0.f1) with
              | true =>
                refine wp_region_quiet_below (by kernel_rfl) (by kernel_rfl) ?_
                repeat (go_big_quiet_step (exact CR.out _ _))
                refine wpQuiet_nil ?_
                intro _ hw'
                obtain ⟨⟨dq, osq⟩, hw''⟩ := hw'
                have HBz := Aside0.mk (HBq.out.trans ((below_regrown wq dq osq).mono HBq.out.size))
                rw [← hw''] at HBz
                clear hw'' P1 P2 B0 B1 B2 B3 B4 B5 B6
                go_wp2_with fail
                go_ret2
                obtain ⟨rfl, rfl⟩ := notPosting HY.out (by rw [HE.out, hrt, show (y.f1 == x0.f1) = false from by simpa [bne] using h2, Bool.and_false]) H.out
                exact ⟨_, rfl, Kd.R_nil _ _ _ _ _, HBz.out⟩
              | false =>
                refine wp_region_quiet_below (by kernel_rfl) (by kernel_rfl) ?_
                repeat (go_big_quiet_step (exact CR.out _ _))
                refine wpQuiet_nil ?_
                intro _ hw'
                obtain ⟨⟨dq, osq⟩, hw''⟩ := hw'
                have HBz := Aside0.mk (HBq.out.trans ((below_regrown wq dq osq).mono HBq.out.size))
                rw [← hw''] at HBz
                clear hw'' P1 P2 B0 B1 B2 B3 B4 B5 B6
                go_wp2_with fail
                go_roundg (ko - 1)
                case measure => have := HK.out; omega
                case rel => exact ⟨i + 1, by go_num, by omega, ⟨by have := HK.out; omega⟩, ⟨fun z hz => by
                  rcases HS1.out z hz with h | h
                  · exact HA.out z h
                  · rw [h, HE.out, hrt, show (y.f0 == x0.f0) = true from by simpa [bne] using h1, show (y.f1 == x0.f1) = true from by simpa [bne] using h2]; rfl⟩, HBz⟩
        · have HAll : Aside0 (postingB (x0 :: l) = true) := ⟨allPosting HZT.out (fun z hz => HA.out z (by rwa [List.take_of_length_le (by have := HK.out; simp; omega)]))⟩
          have HRl := Aside0.mk (Kd.C_below HR0.out HW.out)
          have HRw := Aside0.mk (Kd.C_below HR1.out HW.out)
          obtain ⟨ad, e, _, p1, _, _, _, _, _⟩ := at_T36 HRw.out 0 (by omega) (by simp)
          cases e
          have P1 : wr.cell? ⟨ad.block, ad.off + 1, none⟩ = some (.int .i64 x0.f1) := by have h : wr.cell? ⟨(ad.add (Int.toNat 0 * 7)).block, (ad.add (Int.toNat 0 * 7)).off + 1, none⟩ = some (.int .i64 x0.f1) := p1; simpa [Addr.add] using h
          clear p1
          have hm0' : Aside0 (l0.length ≤ 9223372036854775807) := ⟨hm0⟩
          by_cases hl0 : l0 = []
          · have hlate : ¬ (l0 ≠ [] ∧ ((x0 :: l).getD 0 z36).f1 < (l0.getD (l0.length - 1) z36).f1) := by simp [hl0]
            have HLT := Aside0.mk hlate
            have ht : decide (0 < (l0.length : Int)) = false := by simp [hl0]
            have ht' : decide (0 < l0.length) = false := by simp [hl0]
            clear hl0 hlate
            go_wp2_with fail
            go_quiet (fail)
            have HWq : Aside0 (Below w.heap.size w (wr.drewN nq)) := ⟨HW.out.trans ((Drawn0.mk ⟨nq, rfl⟩ : Drawn0 wr (wr.drewN nq)).below.mono HW.out.size)⟩
            have HU0 := fullF (some ⟨(wr.drewN nq).heap.size, 0, none⟩) 2 [l0, x0 :: l] ((wr.drewN nq).alloc (.cells #[.slice A0 l0.length c0, .slice (some ad) (x0 :: l).length c1] 22)) (twoC (Kd.C_below HR0.out HWq.out) HC0.out (Kd.C_below HR1.out HWq.out) HC1.out _) (by simp) (fun z hz => by
              have := HL.out
              simp only [List.mem_cons, List.not_mem_nil, or_false] at hz
              rcases hz with rfl | rfl
              · exact ⟨by omega, HI0.out⟩
              · exact ⟨by omega, HI1.out⟩)
            rw [show (wr.drewN nq).heap.size = wr.heap.size from rfl] at HU0
            simp only [List.length_cons, List.length_nil] at HU0
            have HU := Aside0.mk HU0
            clear HU0
            cases hfu : fullL [l0, x0 :: l] with
            | true =>
              rw [hfu] at HU
              go_wp2_with (go_at_call 23; refine (HU.out).mono ?_; rintro e w3 ⟨rfl, hb⟩)
              go_ret2
              obtain ⟨rfl, rfl⟩ := postFull HAll.out HLT.out hfu H.out
              exact ⟨_, rfl, Kd.R_nil _ _ _ _ _, (HWq.out.trans ((Below.refl _ _).alloc HWq.out.size _)).trans (hb.mono (by have := HW.out.size; simp; omega))⟩
            | false =>
              rw [hfu] at HU
              go_wp2_with fail
              go_at_call 23
              refine (HU.out).mono ?_
              rintro e w3 ⟨rfl, hb⟩
              have HB3 := Aside0.mk ((HWq.out.trans ((Below.refl _ _).alloc HWq.out.size _)).trans (hb.mono (by have := HW.out.size; simp; omega)))
              clear hb
              have HE2 := Aside0.mk (postOK HAll.out HLT.out hfu H.out)
              go_wp2_with fail
              have hnn : A0 = none → l0.length = 0 := fun e => by
                rcases Nat.eq_zero_or_pos l0.length with h | h
                · exact h
                · obtain ⟨x, hx, _⟩ := HR0.out.2.2 h
                  rw [e] at hx
                  cases hx
              have HNN := Aside0.mk hnn
              go_at_call 24
              refine (clipF A0 l0.length c0 w3 hm0'.out HC0.out HNN.out).mono ?_
              rintro e w4 ⟨rfl, rfl⟩
              clear hnn
              have HR3 := Aside0.mk (Kd.C_below HR0.out HB3.out)
              have HR4 := Aside0.mk (Kd.C_below HR1.out HB3.out)
              go_wp2_with (at_builtin; refine wpList_append_grows _ rfl _ _ 22 rfl 36 infE.choose _ 7 56 Try.underlying22 infE.choose_spec.1 infE.choose_spec.2.1 infE.choose_spec.2.2.1 infE.choose_spec.2.2.2 rfl (by decide) A0 l0.length l0.length (l0.flatMap cE) rfl (fun e => ⟨HNN.out e, HNN.out e⟩) (flat_len _) (fun b hb => flat_cells HR3.out b hb) ad (l.length + 1) c1 ((x0 :: l).flatMap cE) rfl (flat_len _) (flat_cells HR4.out ad rfl) (flat_one _) (by omega) (by have := HL.out; simp only [List.length_cons] at this; simp only [maxLen]; omega) (by have := HL.out; simp only [List.length_cons] at this; omega) ?_; intro v5 w5 hown5 hg5)
              go_ret2
              obtain ⟨e1, e2⟩ := HE2.out
              subst e1 e2
              rw [← List.flatMap_append] at hown5
              exact ⟨v5, rfl, Kd.R_lower (owns_R hown5 (by simp)) HB3.out.size, HB3.out.trans ((Below.refl _ _).grown hg5 HB3.out.size (fun k e => by cases e))⟩
          · have hlp : 0 < l0.length := by rcases l0 with _ | _ <;> simp_all
            have HNE := Aside0.mk hl0
            have e9 : ((l0.length : Int) - 1).toNat = l0.length - 1 := by omega
            obtain ⟨ad0, e, _, q1, _, _, _, _, _⟩ := at_T36 HRl.out ((l0.length : Int) - 1) (by omega) (by omega)
            cases e
            have hrl : rd_T36 l0 ((l0.length : Int) - 1) = l0.getD (l0.length - 1) z36 := by unfold rd_T36; rw [e9]
            rw [hrl, e9] at q1
            have ht : decide (0 < (l0.length : Int)) = true := by simp; omega
            have ht' : decide (0 < l0.length) = true := by simpa using hlp
            have HX0 : Aside0 ((x0 :: l).getD 0 z36 = x0) := ⟨rfl⟩
            have HLA := Aside0.mk (fun h => postLate (l0 := l0) (l := l) (x0 := x0) (r1 := r1) (r2 := r2) HAll.out ⟨HNE.out, h⟩ H.out)
            clear hrl e9 hl0
            by_cases hlt : x0.f1 < (l0.getD (l0.length - 1) z36).f1
            · have HLT := Aside0.mk hlt
              generalize l0.getD (l0.length - 1) z36 = xl at q1 hlt HLA
              go_wp2_with fail
              go_quiet (fail)
              have HWq : Aside0 (Below w.heap.size w (wr.drewN nq)) := ⟨HW.out.trans ((Drawn0.mk ⟨nq, rfl⟩ : Drawn0 wr (wr.drewN nq)).below.mono HW.out.size)⟩
              go_wp2_with fail
              go_ret2
              obtain ⟨rfl, rfl⟩ := HLA.out hlt
              exact ⟨_, rfl, Kd.R_nil _ _ _ _ _, HWq.out⟩
            · have HLT : Aside0 (¬ (l0 ≠ [] ∧ ((x0 :: l).getD 0 z36).f1 < (l0.getD (l0.length - 1) z36).f1)) := ⟨fun h => hlt h.2⟩
              generalize l0.getD (l0.length - 1) z36 = xl at q1 hlt HLA
              go_wp2_with fail
              go_quiet (fail)
              have HWq : Aside0 (Below w.heap.size w (wr.drewN nq)) := ⟨HW.out.trans ((Drawn0.mk ⟨nq, rfl⟩ : Drawn0 wr (wr.drewN nq)).below.mono HW.out.size)⟩
              have HU0 := fullF (some ⟨(wr.drewN nq).heap.size, 0, none⟩) 2 [l0, x0 :: l] ((wr.drewN nq).alloc (.cells #[.slice (some ad0) l0.length c0, .slice (some ad) (x0 :: l).length c1] 22)) (twoC (Kd.C_below HR0.out HWq.out) HC0.out (Kd.C_below HR1.out HWq.out) HC1.out _) (by simp) (fun z hz => by
                have := HL.out
                simp only [List.mem_cons, List.not_mem_nil, or_false] at hz
                rcases hz with rfl | rfl
                · exact ⟨by omega, HI0.out⟩
                · exact ⟨by omega, HI1.out⟩)
              rw [show (wr.drewN nq).heap.size = wr.heap.size from rfl] at HU0
              simp only [List.length_cons, List.length_nil] at HU0
              have HU := Aside0.mk HU0
              clear HU0
              cases hfu : fullL [l0, x0 :: l] with
              | true =>
                rw [hfu] at HU
                go_wp2_with (go_at_call 23; refine (HU.out).mono ?_; rintro e w3 ⟨rfl, hb⟩)
                go_ret2
                obtain ⟨rfl, rfl⟩ := postFull HAll.out HLT.out hfu H.out
                exact ⟨_, rfl, Kd.R_nil _ _ _ _ _, (HWq.out.trans ((Below.refl _ _).alloc HWq.out.size _)).trans (hb.mono (by have := HW.out.size; simp; omega))⟩
              | false =>
                rw [hfu] at HU
                go_wp2_with fail
                go_at_call 23
                refine (HU.out).mono ?_
                rintro e w3 ⟨rfl, hb⟩
                have HB3 := Aside0.mk ((HWq.out.trans ((Below.refl _ _).alloc HWq.out.size _)).trans (hb.mono (by have := HW.out.size; simp; omega)))
                clear hb
                have HE2 := Aside0.mk (postOK HAll.out HLT.out hfu H.out)
                go_wp2_with fail
                have hnn : (some ad0) = none → l0.length = 0 := fun e => by
                  rcases Nat.eq_zero_or_pos l0.length with h | h
                  · exact h
                  · obtain ⟨x, hx, _⟩ := HR0.out.2.2 h
                    rw [e] at hx
                    cases hx
                have HNN := Aside0.mk hnn
                go_at_call 24
                refine (clipF (some ad0) l0.length c0 w3 hm0'.out HC0.out HNN.out).mono ?_
                rintro e w4 ⟨rfl, rfl⟩
                clear hnn
                have HR3 := Aside0.mk (Kd.C_below HR0.out HB3.out)
                have HR4 := Aside0.mk (Kd.C_below HR1.out HB3.out)
                go_wp2_with (at_builtin; refine wpList_append_grows _ rfl _ _ 22 rfl 36 infE.choose _ 7 56 Try.underlying22 infE.choose_spec.1 infE.choose_spec.2.1 infE.choose_spec.2.2.1 infE.choose_spec.2.2.2 rfl (by decide) (some ad0) l0.length l0.length (l0.flatMap cE) rfl (fun e => ⟨HNN.out e, HNN.out e⟩) (flat_len _) (fun b hb => flat_cells HR3.out b hb) ad (l.length + 1) c1 ((x0 :: l).flatMap cE) rfl (flat_len _) (flat_cells HR4.out ad rfl) (flat_one _) (by omega) (by have := HL.out; simp only [List.length_cons] at this; simp only [maxLen]; omega) (by have := HL.out; simp only [List.length_cons] at this; omega) ?_; intro v5 w5 hown5 hg5)
                go_ret2
                obtain ⟨e1, e2⟩ := HE2.out
                subst e1 e2
                rw [← List.flatMap_append] at hown5
                exact ⟨v5, rfl, Kd.R_lower (owns_R hown5 (by simp)) HB3.out.size, HB3.out.trans ((Below.refl _ _).grown hg5 HB3.out.size (fun k e => by cases e))⟩
end Go.Proofs.Ytlmjopodghikgaa.Print
end
