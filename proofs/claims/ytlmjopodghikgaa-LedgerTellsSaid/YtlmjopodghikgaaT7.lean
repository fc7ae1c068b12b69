/- Contracts and plain lemmas that the claim rests on: part 7 of 17 (joined, without what the theorem does not rest on). -/
import Derived.Test.YtlmjopodghikgaaT4
import Derived.Laws.Externs
section
/- exact.Sum returns the exact sum of a list of int64 numbers, or 0 and false where it is no int64. -/
namespace Go.Proofs.Ytlmjopodghikgaa.Print
open Go.RowKit Go.Proofs.YtlmjopodghikgaaW.PrintWords
set_option linter.unusedVariables false
set_option linter.unusedSimpArgs false

def i64B (x : Int) : Bool := decide (-9223372036854775808 ≤ x) && decide (x ≤ 9223372036854775807)
def exactSum (l : List Int) : Int × Bool := if i64B l.sum = true then (l.sum, true) else (0, false)
def exact_Sum.f (l0 : List Int) : Option (Int × Bool) := if l0.all i64B = true then some (exactSum l0) else none

theorem add64_run (x y : Int) (hx : 0 ≤ x) (hy : 0 ≤ y) (hx2 : x < 18446744073709551616) (hy2 : y < 18446744073709551616) (w : World) :
    (callFunc 38 #[.int .u64 x, .int .u64 y, .int .u64 0]).run Try.prog w =
      .ok (.value (.tuple #[.int .u64 ((x + y) % 18446744073709551616), .int .u64 ((x + y) / 18446744073709551616)])) w := by
  obtain ⟨a, rfl⟩ := Int.eq_ofNat_of_zero_le hx
  obtain ⟨b, rfl⟩ := Int.eq_ofNat_of_zero_le hy
  rw [run_callFunc_extern Try.func38 (by kernel_rfl) (by kernel_rfl) (by kernel_rfl) (e := add64Entry) (by kernel_rfl)]
  have h := run_add64 (P := Try.prog) (w := w) a b 0 (by omega) (by omega) (by omega) (by omega)
  simp only [Int.add_zero] at h
  rw [h]
  rfl

/-- The two halves of a sum in 128 bits, kept from the walk. -/
def loOf (s : Int) : Int := s % 18446744073709551616
def hiOf (s : Int) : Int := (s / 18446744073709551616) % 18446744073709551616

theorem all_i64 {l : List Int} (h : l.all i64B = true) {x : Int} (hx : x ∈ l) : -9223372036854775808 ≤ x ∧ x ≤ 9223372036854775807 := by
  have := List.all_eq_true.1 h x hx
  simpa [i64B] using this
theorem take_sum_succ (l : List Int) (i : Int) (h0 : 0 ≤ i) (h1 : i < l.length) : (l.take (i + 1).toNat).sum = (l.take i.toNat).sum + rd l i := by
  have e : (i + 1).toNat = i.toNat + 1 := by omega
  have hl : i.toNat < l.length := by omega
  rw [e, List.take_succ_eq_append_getElem hl, List.sum_append]
  simp [rd, List.getD_eq_getElem?_getD, List.getElem?_eq_getElem hl]
theorem rd_i64 {l : List Int} (h : l.all i64B = true) (i : Int) (h0 : 0 ≤ i) (h1 : i < l.length) : -9223372036854775808 ≤ rd l i ∧ rd l i ≤ 9223372036854775807 := by
  have hl : i.toNat < l.length := by omega
  have : rd l i = l[i.toNat] := by simp [rd, List.getD_eq_getElem?_getD, List.getElem?_eq_getElem hl]
  rw [this]
  exact all_i64 h (List.getElem_mem hl)
theorem u64_wrap (x : Int) : IntKind.u64.wrap x = x % 18446744073709551616 := by
  simp [IntKind.wrap, IntKind.signed, IntKind.bits]

theorem sum128_step (s n a b s1 c1 : Int) (ha : a = loOf s) (hb : b = hiOf s) (h1 : s1 = (a + n % 18446744073709551616) % 18446744073709551616) (h2 : c1 = (a + n % 18446744073709551616) / 18446744073709551616)
    (hn : -9223372036854775808 ≤ n ∧ n ≤ 9223372036854775807) :
    s1 = loOf (s + n) ∧ IntKind.u64.wrap (b + IntKind.u64.wrap (IntKind.u64.wrap (n / 9223372036854775808) + c1)) = hiOf (s + n) := by
  simp only [u64_wrap]
  unfold loOf hiOf at *
  obtain ⟨q, hq⟩ : ∃ q, s / 18446744073709551616 = q := ⟨_, rfl⟩
  obtain ⟨m, hm⟩ : ∃ m, n / 9223372036854775808 = m := ⟨_, rfl⟩
  have hr : s = 18446744073709551616 * q + a := by omega
  have hmm : n = 18446744073709551616 * m + n % 18446744073709551616 := by omega
  obtain ⟨nr, hnr⟩ : ∃ nr, n % 18446744073709551616 = nr := ⟨_, rfl⟩
  rw [hnr] at h1 h2 hmm
  rw [hq] at hb
  have ha0 : 0 ≤ a ∧ a < 18446744073709551616 := by omega
  have hn0 : 0 ≤ nr ∧ nr < 18446744073709551616 := by omega
  rw [hm]
  have hs : s + n = 18446744073709551616 * (q + m + c1) + s1 := by omega
  have hs1 : 0 ≤ s1 ∧ s1 < 18446744073709551616 := by omega
  have e1 : (s + n) % 18446744073709551616 = s1 := by omega
  have e2 : (s + n) / 18446744073709551616 = q + m + c1 := by omega
  refine ⟨e1.symm, ?_⟩
  rw [e2, hb]
  clear e1 e2 hs h1 h2 hb ha hq hm hr hmm hnr hn
  omega
theorem sum_bound : ∀ (l : List Int), l.all i64B = true → -9223372036854775808 * (l.length : Int) ≤ l.sum ∧ l.sum ≤ 9223372036854775807 * (l.length : Int)
  | [], _ => by simp
  | x :: l, h => by
    have hx := all_i64 h (List.mem_cons_self)
    have hl := sum_bound l (by simp only [List.all_cons, Bool.and_eq_true] at h; exact h.2)
    simp only [List.sum_cons, List.length_cons]
    omega
theorem sum128_end (s a b : Int) (ha : a = loOf s) (hb : b = hiOf s) (hs : -85070591730234615865843651857942052864 ≤ s ∧ s ≤ 85070591730234615865843651857942052864) :
    (b == IntKind.u64.wrap (wrap64 a / 9223372036854775808)) = i64B s ∧ (i64B s = true → wrap64 a = s) := by
  simp only [u64_wrap]
  unfold loOf at ha
  unfold hiOf at hb
  obtain ⟨q, hq⟩ : ∃ q, s / 18446744073709551616 = q := ⟨_, rfl⟩
  rw [hq] at hb
  have hr : s = 18446744073709551616 * q + a := by omega
  have ha0 : 0 ≤ a ∧ a < 18446744073709551616 := by omega
  have hq0 : -9223372036854775808 ≤ q ∧ q < 9223372036854775808 := by omega
  clear ha hq hs
  have hw : wrap64 a = if a < 9223372036854775808 then a else a - 18446744073709551616 := by
    unfold wrap64
    split <;> omega
  have hb' : b = if 0 ≤ q then q else q + 18446744073709551616 := by split <;> omega
  subst hr hb'
  rw [hw]
  clear hw hb
  unfold i64B
  constructor
  · rw [Bool.eq_iff_iff]
    simp only [beq_iff_eq, Bool.and_eq_true, decide_eq_true_eq]
    split <;> split <;> omega
  · simp only [Bool.and_eq_true, decide_eq_true_eq]
    split <;> omega

set_option maxHeartbeats 400000 in
theorem exact_Sum.calls (A0 : Option Addr) (c0 : Nat) (l0 : List Int) (r1 : Int) (r2 : Bool) (w : World) (hr0 : Kd.C (Kd.int .i64) w A0 l0.length l0) (hc0 : l0.length ≤ c0) (h : exact_Sum.f l0 = some (r1, r2)) :
    Calls Try.prog 27 #[.slice A0 l0.length c0] w fun e w' => e = .returned (.tuple #[.int .i64 r1, .bool r2]) ∧ Drawn0 w w' := by
  have HR0 := Aside0.mk hr0
  have hm := hr0.2.1
  unfold exact_Sum.f at h
  have hall : l0.all i64B = true := by
    split at h
    · assumption
    · cases h
  rw [if_pos hall] at h
  have HALL := Aside0.mk hall
  have H : Aside0 (exactSum l0 = (r1, r2)) := ⟨by injection h⟩
  clear hr0 hc0 h hall
  go_enter Try.func27, Try.ntmps27
  go_wp2_with fail
  go_loopg [4, 5, 12] l0.length (fun kq v4 v5 v12 w' => ∃ (i a b : Int), v12 = .int .i64 i ∧ v4 = .int .u64 b ∧ v5 = .int .u64 a ∧ Aside0 (a = loOf (l0.take i.toNat).sum ∧ b = hiOf (l0.take i.toNat).sum) ∧ 0 ≤ i ∧ Aside0 (i + kq = l0.length) ∧ Drawn0 w w')
  case atStart => exact ⟨0, 0, 0, rfl, rfl, rfl, ⟨rfl, rfl⟩, by omega, ⟨by omega⟩, Drawn0.refl _⟩
  case round =>
    obtain ⟨i, a, b, rfl, rfl, rfl, HS, h0, HH, ⟨m1, rfl⟩⟩ := hrel
    by_cases c2 : i < l0.length
    · obtain ⟨ad101, e101, hx101_0⟩ := Kd.at_int HR0.out i h0 c2
      cases e101
      obtain ⟨s1, c1, hadd, HA1⟩ : ∃ s1 c1 : Int, (∀ W, (callFunc 38 #[.int .u64 a, .int .u64 (IntKind.u64.wrap (rd l0 i)), .int .u64 0]).run Try.prog W = .ok (.value (.tuple #[.int .u64 s1, .int .u64 c1])) W) ∧ Aside0 (s1 = (a + (rd l0 i) % 18446744073709551616) % 18446744073709551616 ∧ c1 = (a + (rd l0 i) % 18446744073709551616) / 18446744073709551616) := by
        refine ⟨_, _, fun W => ?_, ⟨rfl, rfl⟩⟩
        rw [u64_wrap]
        have := HS.out.1
        unfold loOf at this
        exact add64_run a _ (by omega) (by omega) (by omega) (by omega) W
      have HST := Aside0.mk (sum128_step _ (rd l0 i) a b s1 c1 HS.out.1 HS.out.2 HA1.out.1 HA1.out.2 (rd_i64 HALL.out i h0 c2))
      have HT := Aside0.mk (take_sum_succ l0 i h0 c2)
      go_wp2_with fail
      go_roundg (gk - 1)
      case measure => have := HH.out; omega
      case rel => exact ⟨i + 1, _, _, rfl, rfl, rfl, ⟨by rw [HT.out]; exact HST.out⟩, by omega, ⟨by have := HH.out; omega⟩, ⟨m1, rfl⟩⟩
    · have hi : i = l0.length := by have := HH.out; omega
      have HE : Aside0 ((b == IntKind.u64.wrap (wrap64 a / 9223372036854775808)) = i64B l0.sum ∧ (i64B l0.sum = true → wrap64 a = l0.sum)) := by
        have e : l0.take i.toNat = l0 := List.take_of_length_le (by omega)
        have hs := HS.out
        rw [e] at hs
        have := sum_bound l0 HALL.out
        exact ⟨sum128_end _ _ _ hs.1 hs.2 (by omega)⟩
      clear hi
      cases hv : i64B l0.sum with
      | true =>
        have hb := HE.out.1.trans hv
        go_wp2_with fail
        go_ret2
        have h1 := H.out
        unfold exactSum at h1
        rw [if_pos hv] at h1
        injection h1 with h1 h2
        subst h1 h2
        exact ⟨by simp [HE.out.2 hv], ⟨m1, rfl⟩⟩
      | false =>
        have hb := HE.out.1.trans hv
        go_wp2_with fail
        go_ret2
        have h1 := H.out
        unfold exactSum at h1
        rw [if_neg (by rw [hv]; simp)] at h1
        injection h1 with h1 h2
        subst h1 h2
        exact ⟨rfl, ⟨m1, rfl⟩⟩
end Go.Proofs.Ytlmjopodghikgaa.Print
end
section
namespace Go.Proofs.Ytlmjopodghikgaa.Print
open Go.RowKit Go.Proofs.YtlmjopodghikgaaW.PrintWords Go.Proofs.YtlmjopodghikgaaW.PrintLast Go.Proofs.YtlmjopodghikgaaW.PrintMore
attribute [local go_sem] max2_int min2_int max_two min_two max_three min_three max_four min_four   -- for this text's walks alone
set_option linter.unusedVariables false
set_option linter.unusedSimpArgs false

/-! ### ledger_litres: function 28 -/
def ledger_litres.l0 : Nat → List Int → List (S36) → Int → Int → Option (List Int)
  | 0, _, _, _, _ => none
  | k + 1, x3, x9, x10, x11 => if x11 < x10 then (if 0 ≤ x11 then (if x11 < (x9.length : Int) then (if x11 < (x3.length : Int) then (ledger_litres.l0 k (x3.set (x11 : Int).toNat ((rd_T36 x9 x11).f4)) x9 x10 (wrap64 (x11 + 1))) else (none)) else (none)) else (none)) else (some x3)
def ledger_litres.f (k : Nat) (l0 : List (S36)) : Option (List Int) := if 0 ≤ (l0.length : Int) then (if ((l0.length : Int) : Int).toNat ≤ 35184372088832 then (ledger_litres.l0 k (List.replicate ((l0.length : Int) : Int).toNat 0) l0 (l0.length : Int) 0) else (none)) else (none)
set_option maxHeartbeats 8000000 in
set_option maxRecDepth 100000 in
theorem ledger_litres.calls (k : Nat) (A0 : Option Addr) (c0 : Nat) (l0 : List (S36)) (r : List Int) (w : World) (hr0 : Kd.C k36 w A0 l0.length l0) (hc0 : l0.length ≤ c0) (h : ledger_litres.f k l0 = some r) :
    Calls Try.prog 28 #[.slice A0 l0.length c0] w fun e w' => ∃ v0_ : Value, e = .returned (v0_) ∧ Kd.R (Kd.int .i64) 3 w' w.heap.size (fun _ => True) v0_ r ∧ Below w.heap.size w w' := by
  have hu36 := Try.underlying36
  have HR0 := Aside0.mk hr0
  have HC0 := Aside0.mk hc0
  clear hr0 hc0
  have HB := Aside0.mk (Below.refl w.heap.size w)
  have H : (if 0 ≤ (l0.length : Int) then (if ((l0.length : Int) : Int).toNat ≤ 35184372088832 then (ledger_litres.l0 k (List.replicate ((l0.length : Int) : Int).toNat 0) l0 (l0.length : Int) 0) else (none)) else (none)) = some r := h
  clear h
  by_cases c2 : 0 ≤ (l0.length : Int)
  · rw [if_pos c2] at H
    have c2b0 := eq_true c2
    have c2b1 : decide (0 ≤ (l0.length : Int)) = true := decide_eq_true c2
    clear c2
    by_cases c3 : ((l0.length : Int) : Int).toNat ≤ 35184372088832
    · rw [if_pos c3] at H
      have c3b0 := eq_true c3
      have c3b1 : decide (((l0.length : Int) : Int).toNat ≤ 35184372088832) = true := decide_eq_true c3
      clear c3
      obtain ⟨y313, hy313⟩ : ∃ y_ : List Int, y_ = (List.replicate ((l0.length : Int) : Int).toNat 0) := ⟨_, rfl⟩
      replace H : (ledger_litres.l0 k y313 l0 (l0.length : Int) 0) = some r := by first | (rw [hy313]; with_reducible exact H) | (have H2_ := (Option.bind_some _ _).symm.trans H; rw [hy313]; with_reducible exact H2_) | (have H2_ := (Option.bind_some _ _).symm.trans H; with_reducible exact H2_) | with_reducible exact H | (rw [hy313]; exact H) | exact H
      have Ny313 := Aside0.mk hy313
      clear hy313
      have H' := Aside0.mk H
      clear H
      go_enter Try.func28, Try.ntmps28
      go_wp2_with (first | ((with_reducible refine gate_dst (N := 8) rfl ?_); refine Kd.R_make (Kd.int .i64) _ 3 rfl (N := 8) rfl 47 _ _ rfl (l0.length : Int) rfl rfl Try.underlying47 (.int .i64 0) 8 info3 rfl (by decide) (by omega) 0 (ok := fun _ => True) (okp := fun _ => True) rfl (fun _ hk => hk) trivial (of_decide_eq_true (by first | (with_reducible assumption) | assumption)) (Nat.le_trans (Nat.mul_le_mul_right _ (of_decide_eq_true (by first | (with_reducible assumption) | assumption) : (l0.length : Int).toNat ≤ 35184372088832)) (by omega)) (Below.refl _ _) (Nat.le_refl _) ?_; intro v314 w4 ho5 hb hg_ hnew_; clear hg_ hnew_; (first | rw [← Ny313.out] at ho5 | (simp only [Int.reduceToNat] at ho5; rw [← Ny313.out] at ho5)); have n0_ := Aside0.mk (Kd.R_lower ho5 (below_size (by repeat (first | (with_reducible first | exact HB.out | apply below_alloc | apply pw_below_drewN | apply below_drew1) | exact HB.out)))); have n1_ := Aside0.mk (below_step (by repeat (first | (with_reducible first | exact HB.out | apply below_alloc | apply pw_below_drewN | apply below_drew1) | exact HB.out)) hb); clear HB; have HO315 := n0_; have HB := n1_; clear n0_ n1_; clear hb ho5))
      go_loopg [11] k (fun kq v11 w' => ∃ (x3_1 : List Int) (x11_1 : Int), v11 = .int .i64 x11_1 ∧ Aside0 (ledger_litres.l0 kq x3_1 l0 (l0.length : Int) x11_1 = some r) ∧ Aside0 (kq ≤ k) ∧ Aside0 (Kd.R (Kd.int .i64) 3 w' w.heap.size (fun _ => True) v314 x3_1) ∧ Aside0 (Below w.heap.size w w'))
      case atStart => exact ⟨(y313), (0), (by first | rfl | (simp; done) | (simp [*]; done)), H', ⟨Nat.le_refl _⟩, ⟨by (with_reducible repeat (first | apply Kd.R_alloc | apply Kd.R_drewN | apply Kd.R_drew)); exact HO315.out⟩, ⟨by repeat (first | (with_reducible first | exact HB.out | apply below_alloc | apply pw_below_drewN | apply below_drew1) | exact HB.out)⟩⟩
      case round =>
        clear H'
        try clear c2
        try clear c2b0
        try clear c2b1
        try clear p2
        try clear c3
        try clear c3b0
        try clear c3b1
        obtain ⟨x3_1, x11_1, rfl, HA, HK1, HO_3, HB⟩ := hrel
        cases gk with
        | zero => exact absurd HA.out (by simp [ledger_litres.l0])
        | succ k1 =>
          have H := HA.out
          clear HA
          simp only [ledger_litres.l0] at H
          by_cases c6 : x11_1 < (l0.length : Int)
          · rw [if_pos c6] at H
            have c6b0 : decide (x11_1 < (l0.length : Int)) = true := decide_eq_true c6
            clear c6
            by_cases c7 : 0 ≤ x11_1
            · rw [if_pos c7] at H
              have c7b0 : decide (0 ≤ x11_1) = true := decide_eq_true c7
              clear c7
              by_cases c8 : x11_1 < (l0.length : Int)
              · rw [if_pos c8] at H
                have c8b0 : decide (x11_1 < (l0.length : Int)) = true := decide_eq_true c8
                clear c8
                by_cases c9 : x11_1 < (x3_1.length : Int)
                · rw [if_pos c9] at H
                  have c9b0 : decide (x11_1 < (x3_1.length : Int)) = true := decide_eq_true c9
                  clear c9
                  obtain ⟨y318, hy318⟩ : ∃ y_ : List Int, y_ = (x3_1.set (x11_1 : Int).toNat ((rd_T36 l0 x11_1).f4)) := ⟨_, rfl⟩
                  replace H : (ledger_litres.l0 k1 y318 l0 (l0.length : Int) (wrap64 (x11_1 + 1))) = some r := by first | (rw [hy318]; with_reducible exact H) | (have H2_ := (Option.bind_some _ _).symm.trans H; rw [hy318]; with_reducible exact H2_) | (have H2_ := (Option.bind_some _ _).symm.trans H; with_reducible exact H2_) | with_reducible exact H | (rw [hy318]; exact H) | exact H
                  have Ny318 := Aside0.mk hy318
                  clear hy318
                  have H' := Aside0.mk H
                  clear H
                  have p316 : 0 ≤ (x11_1 : Int) := of_decide_eq_true (by first | (with_reducible assumption) | assumption)
                  have q316 : x11_1 < (l0.length : Int) := of_decide_eq_true (by first | (with_reducible assumption) | assumption)
                  obtain ⟨ad316, e316, hx316_0, hx316_1, hx316_2, hx316_3, hx316_4, hx316_5, hx316_6⟩ := at_T36 HR0.out x11_1 p316 q316
                  cases e316
                  replace hx316_0 := (HB.out.cell (World.block_lt_of_cell? w _ hx316_0)).trans hx316_0
                  replace hx316_1 := (HB.out.cell (World.block_lt_of_cell? w _ hx316_1)).trans hx316_1
                  replace hx316_2 := (HB.out.cell (World.block_lt_of_cell? w _ hx316_2)).trans hx316_2
                  replace hx316_3 := (HB.out.cell (World.block_lt_of_cell? w _ hx316_3)).trans hx316_3
                  replace hx316_4 := (HB.out.cell (World.block_lt_of_cell? w _ hx316_4)).trans hx316_4
                  replace hx316_5 := (HB.out.cell (World.block_lt_of_cell? w _ hx316_5)).trans hx316_5
                  replace hx316_6 := (HB.out.cell (World.block_lt_of_cell? w _ hx316_6)).trans hx316_6
                  replace p316 := eq_true p316
                  replace q316 := eq_true q316
                  go_wp2_with (first | ((with_reducible refine gate_dst (N := 5) rfl ?_); refine box_event ?hg (N := 5) ?hd (cs := #[.int .i64 0, .int .i64 0, .int .i64 0, .int .i64 0, .int .i64 0, .int .i64 0, .int .i64 0]) (t := 36) ?hr ?_; (case hd => rfl); (case hg => rfl); (case hr => first | (go_simp; done) | (go_simp; rfl)); intro gb317 hg w11 hbox hb; have n0_ := Aside0.mk (Kd.R_below (by (with_reducible repeat (first | apply Kd.R_alloc | apply Kd.R_drewN | apply Kd.R_drew)); exact HO_3.out) hb); have n1_ := Aside0.mk (below_step (by repeat (first | (with_reducible first | exact HB.out | apply below_alloc | apply pw_below_drewN | apply below_drew1) | exact HB.out)) hb); have n2_ := Aside0.mk (hbox); have n3_ := Aside0.mk ((by rw [hg]; exact (below_size (by repeat (first | (with_reducible first | exact HB.out | apply below_alloc | apply pw_below_drewN | apply below_drew1) | exact HB.out))) : w.heap.size ≤ gb317)); have n4_ := Aside0.mk ((by rw [hg]; exact (below_size (by repeat (first | (with_reducible first | exact HB.out | apply below_alloc | apply pw_below_drewN | apply below_drew1) | exact HB.out))) : w.heap.size ≤ gb317)); clear HO_3; clear HB; have HO_3 := n0_; have HB := n1_; have BK317 := n2_; have GW317 := n3_; have GE317 := n4_; clear n0_ n1_ n2_ n3_ n4_; clear hb hbox hg; have hcz12_0 : w11.cell? ⟨gb317, 0, none⟩ = some (.int .i64 0) := (blk_cell BK317.out 0).trans rfl; have hcz12_1 : w11.cell? ⟨gb317, 1, none⟩ = some (.int .i64 0) := (blk_cell BK317.out 1).trans rfl; have hcz12_2 : w11.cell? ⟨gb317, 2, none⟩ = some (.int .i64 0) := (blk_cell BK317.out 2).trans rfl; have hcz12_3 : w11.cell? ⟨gb317, 3, none⟩ = some (.int .i64 0) := (blk_cell BK317.out 3).trans rfl; have hcz12_4 : w11.cell? ⟨gb317, 4, none⟩ = some (.int .i64 0) := (blk_cell BK317.out 4).trans rfl; have hcz12_5 : w11.cell? ⟨gb317, 5, none⟩ = some (.int .i64 0) := (blk_cell BK317.out 5).trans rfl; have hcz12_6 : w11.cell? ⟨gb317, 6, none⟩ = some (.int .i64 0) := (blk_cell BK317.out 6).trans rfl; have hfz12_0 := blk_frozen BK317.out 0; have hfz12_1 := blk_frozen BK317.out 1; have hfz12_2 := blk_frozen BK317.out 2; have hfz12_3 := blk_frozen BK317.out 3; have hfz12_4 := blk_frozen BK317.out 4; have hfz12_5 := blk_frozen BK317.out 5; have hfz12_6 := blk_frozen BK317.out 6) | ((with_reducible refine gate_store (t := 36) (p := 5) rfl ?_); refine store_event (t := 36) (p := 5) (v := ?vo_w13) (w1 := (((((((w11.setCell ⟨gb317, 0, none⟩ (.int .i64 ((rd_T36 l0 x11_1).f0))).setCell ⟨gb317, 1, none⟩ (.int .i64 ((rd_T36 l0 x11_1).f1))).setCell ⟨gb317, 2, none⟩ (.int .i64 ((rd_T36 l0 x11_1).f2))).setCell ⟨gb317, 3, none⟩ (.int .i64 ((rd_T36 l0 x11_1).f3))).setCell ⟨gb317, 4, none⟩ (.int .i64 ((rd_T36 l0 x11_1).f4))).setCell ⟨gb317, 5, none⟩ (.int .i64 ((rd_T36 l0 x11_1).f5))).setCell ⟨gb317, 6, none⟩ (.int .i64 ((rd_T36 l0 x11_1).f6)))) ?hg ?ho ?hn ?hr ?_; (case ho => rfl); (case hg => rfl); (case hn => rfl); (case hr => first | (go_simp; done) | (go_simp; rfl)); intro w13 hw; have n0_ : Aside0 (Kd.R (Kd.int .i64) 3 w13 w.heap.size (fun _ => True) v314 x3_1) := ⟨(by rw [hw]; exact (by (with_reducible repeat (first | apply Kd.R_alloc | apply Kd.R_drewN | apply Kd.R_drew)); exact Kd.R_mono (Kd.R_far (p := ⟨gb317, 6, none⟩) (Kd.R_far (p := ⟨gb317, 5, none⟩) (Kd.R_far (p := ⟨gb317, 4, none⟩) (Kd.R_far (p := ⟨gb317, 3, none⟩) (Kd.R_far (p := ⟨gb317, 2, none⟩) (Kd.R_far (p := ⟨gb317, 1, none⟩) (Kd.R_far (p := ⟨gb317, 0, none⟩) (Kd.R_types HO_3.out BK317.out (by decide)) (fun _ hk => hk.2) (.int .i64 ((rd_T36 l0 x11_1).f0))) (fun _ hk => hk.2) (.int .i64 ((rd_T36 l0 x11_1).f1))) (fun _ hk => hk.2) (.int .i64 ((rd_T36 l0 x11_1).f2))) (fun _ hk => hk.2) (.int .i64 ((rd_T36 l0 x11_1).f3))) (fun _ hk => hk.2) (.int .i64 ((rd_T36 l0 x11_1).f4))) (fun _ hk => hk.2) (.int .i64 ((rd_T36 l0 x11_1).f5))) (fun _ hk => hk.2) (.int .i64 ((rd_T36 l0 x11_1).f6))) (fun _ hk => trivial)))⟩; have n1_ : Aside0 (w13.heap[gb317]? = some (.cells #[.int .i64 ((rd_T36 l0 x11_1).f0), .int .i64 ((rd_T36 l0 x11_1).f1), .int .i64 ((rd_T36 l0 x11_1).f2), .int .i64 ((rd_T36 l0 x11_1).f3), .int .i64 ((rd_T36 l0 x11_1).f4), .int .i64 ((rd_T36 l0 x11_1).f5), .int .i64 ((rd_T36 l0 x11_1).f6)] 36 (0, 0))) := ⟨(by rw [hw]; exact (by (with_reducible repeat (first | refine blk_drewN ?_ _ | refine blk_drew ?_ | refine blk_alloc ?_ _)); refine blk_put (cs := #[.int .i64 ((rd_T36 l0 x11_1).f0), .int .i64 ((rd_T36 l0 x11_1).f1), .int .i64 ((rd_T36 l0 x11_1).f2), .int .i64 ((rd_T36 l0 x11_1).f3), .int .i64 ((rd_T36 l0 x11_1).f4), .int .i64 ((rd_T36 l0 x11_1).f5), .int .i64 0]) ?_ 6 _ rfl; (with_reducible repeat (first | refine blk_drewN ?_ _ | refine blk_drew ?_ | refine blk_alloc ?_ _)); refine blk_put (cs := #[.int .i64 ((rd_T36 l0 x11_1).f0), .int .i64 ((rd_T36 l0 x11_1).f1), .int .i64 ((rd_T36 l0 x11_1).f2), .int .i64 ((rd_T36 l0 x11_1).f3), .int .i64 ((rd_T36 l0 x11_1).f4), .int .i64 0, .int .i64 0]) ?_ 5 _ rfl; (with_reducible repeat (first | refine blk_drewN ?_ _ | refine blk_drew ?_ | refine blk_alloc ?_ _)); refine blk_put (cs := #[.int .i64 ((rd_T36 l0 x11_1).f0), .int .i64 ((rd_T36 l0 x11_1).f1), .int .i64 ((rd_T36 l0 x11_1).f2), .int .i64 ((rd_T36 l0 x11_1).f3), .int .i64 0, .int .i64 0, .int .i64 0]) ?_ 4 _ rfl; (with_reducible repeat (first | refine blk_drewN ?_ _ | refine blk_drew ?_ | refine blk_alloc ?_ _)); refine blk_put (cs := #[.int .i64 ((rd_T36 l0 x11_1).f0), .int .i64 ((rd_T36 l0 x11_1).f1), .int .i64 ((rd_T36 l0 x11_1).f2), .int .i64 0, .int .i64 0, .int .i64 0, .int .i64 0]) ?_ 3 _ rfl; (with_reducible repeat (first | refine blk_drewN ?_ _ | refine blk_drew ?_ | refine blk_alloc ?_ _)); refine blk_put (cs := #[.int .i64 ((rd_T36 l0 x11_1).f0), .int .i64 ((rd_T36 l0 x11_1).f1), .int .i64 0, .int .i64 0, .int .i64 0, .int .i64 0, .int .i64 0]) ?_ 2 _ rfl; (with_reducible repeat (first | refine blk_drewN ?_ _ | refine blk_drew ?_ | refine blk_alloc ?_ _)); refine blk_put (cs := #[.int .i64 ((rd_T36 l0 x11_1).f0), .int .i64 0, .int .i64 0, .int .i64 0, .int .i64 0, .int .i64 0, .int .i64 0]) ?_ 1 _ rfl; (with_reducible repeat (first | refine blk_drewN ?_ _ | refine blk_drew ?_ | refine blk_alloc ?_ _)); refine blk_put (cs := #[.int .i64 0, .int .i64 0, .int .i64 0, .int .i64 0, .int .i64 0, .int .i64 0, .int .i64 0]) ?_ 0 _ rfl; (with_reducible repeat (first | refine blk_drewN ?_ _ | refine blk_drew ?_ | refine blk_alloc ?_ _)); exact BK317.out))⟩; have n2_ : Aside0 (Below w.heap.size w w13) := ⟨(by rw [hw]; exact (by repeat (first | (with_reducible first | exact HB.out | apply below_alloc | apply pw_below_drewN | apply below_drew1 | refine below_set ?_ GE317.out) | exact HB.out)))⟩; clear hw; clear HO_3; clear BK317; clear HB; have HO_3 := n0_; have BK317 := n1_; have HB := n2_; clear n0_ n1_ n2_; have hcz14_0 : w13.cell? ⟨gb317, 0, none⟩ = some (.int .i64 ((rd_T36 l0 x11_1).f0)) := (blk_cell BK317.out 0).trans rfl; have hcz14_1 : w13.cell? ⟨gb317, 1, none⟩ = some (.int .i64 ((rd_T36 l0 x11_1).f1)) := (blk_cell BK317.out 1).trans rfl; have hcz14_2 : w13.cell? ⟨gb317, 2, none⟩ = some (.int .i64 ((rd_T36 l0 x11_1).f2)) := (blk_cell BK317.out 2).trans rfl; have hcz14_3 : w13.cell? ⟨gb317, 3, none⟩ = some (.int .i64 ((rd_T36 l0 x11_1).f3)) := (blk_cell BK317.out 3).trans rfl; have hcz14_4 : w13.cell? ⟨gb317, 4, none⟩ = some (.int .i64 ((rd_T36 l0 x11_1).f4)) := (blk_cell BK317.out 4).trans rfl; have hcz14_5 : w13.cell? ⟨gb317, 5, none⟩ = some (.int .i64 ((rd_T36 l0 x11_1).f5)) := (blk_cell BK317.out 5).trans rfl; have hcz14_6 : w13.cell? ⟨gb317, 6, none⟩ = some (.int .i64 ((rd_T36 l0 x11_1).f6)) := (blk_cell BK317.out 6).trans rfl; have hfz14_0 := blk_frozen BK317.out 0; have hfz14_1 := blk_frozen BK317.out 1; have hfz14_2 := blk_frozen BK317.out 2; have hfz14_3 := blk_frozen BK317.out 3; have hfz14_4 := blk_frozen BK317.out 4; have hfz14_5 := blk_frozen BK317.out 5; have hfz14_6 := blk_frozen BK317.out 6; have p10 : 0 ≤ (x11_1 : Int) := of_decide_eq_true (by first | (with_reducible assumption) | assumption); have q10 : (x11_1 : Int) < ((x3_1.length : Int) : Int) := of_decide_eq_true (by first | (with_reducible assumption) | assumption); obtain ⟨go10, co10, eo10, gb10, gl10, cl10, HG10⟩ := Kd.R_form HO_3.out (by omega); (first | cases eo10 | (injection eo10 with ea_ en_ ec_; (first | subst ea_ | (injection ea_ with ea_; subst ea_)); subst ec_; clear en_)); have GB10 := Aside0.mk gb10; have GG10 := Aside0.mk HG10; clear gb10 gl10 HG10; obtain ⟨hx10_0, hf10_0⟩ := Kd.R_celln 0 HO_3.out (x11_1 : Int) p10 q10; replace p10 := eq_true p10; replace q10 := eq_true q10; obtain ⟨hy15_, hz15_⟩ := Kd.R_celln 0 HO_3.out (x11_1 : Int) (of_decide_eq_true (by first | (with_reducible assumption) | assumption)) (of_decide_eq_true (by first | (with_reducible assumption) | assumption)); have HP15 := Kd.R_putg HO_3.out (x11_1 : Int) ((rd_T36 l0 x11_1).f4)) | ((with_reducible refine gate_store (t := 3) (p := 20) rfl ?_); refine store_event (t := 3) (p := 20) (v := ?vo_w16) (w1 := (w13.setCell ⟨go10, (x11_1 : Int).toNat, none⟩ (.int .i64 ((rd_T36 l0 x11_1).f4)))) ?hg ?ho ?hn ?hr ?_; (case ho => rfl); (case hg => rfl); (case hn => rfl); (case hr => first | (go_simp; done) | (go_simp; rfl)); intro w16 hw; have hg : w13.grownBy w16 (some go10) := (by rw [hw]; exact HP15.2); have hp_ : Kd.R (Kd.int .i64) 3 w16 w.heap.size (fun _ => True) (.slice (some ⟨go10, 0, none⟩) x3_1.length co10) y318 := (by rw [hw, Ny318.out]; exact HP15.1); clear HP15; have n0_ := Aside0.mk (hp_); have n1_ := Aside0.mk (blk_grown (g := gb317) (o := .cells #[.int .i64 ((rd_T36 l0 x11_1).f0), .int .i64 ((rd_T36 l0 x11_1).f1), .int .i64 ((rd_T36 l0 x11_1).f2), .int .i64 ((rd_T36 l0 x11_1).f3), .int .i64 ((rd_T36 l0 x11_1).f4), .int .i64 ((rd_T36 l0 x11_1).f5), .int .i64 ((rd_T36 l0 x11_1).f6)] 36 (0, 0)) (by (with_reducible repeat (first | refine blk_drewN ?_ _ | refine blk_drew ?_ | refine blk_alloc ?_ _)); exact BK317.out) hg (Kd.R_ne HO_3.out BK317.out (by decide))); have n2_ := Aside0.mk ((by rw [hw]; exact below_set (HB.out) GB10.out : Below w.heap.size w w16)); clear HO_3; clear BK317; clear HB; have HO_3 := n0_; have BK317 := n1_; have HB := n2_; clear n0_ n1_ n2_; clear hg hw hp_))
                  go_roundg k1
                  case measure => have := HK1.out; omega
                  case rel => exact ⟨(y318), (wrap64 (x11_1 + 1)), (by first | rfl | (simp; done) | (simp [*]; done)), H', ⟨by have := HK1.out; omega⟩, ⟨by (with_reducible repeat (first | apply Kd.R_alloc | apply Kd.R_drewN | apply Kd.R_drew)); exact HO_3.out⟩, ⟨by repeat (first | (with_reducible first | exact HB.out | apply below_alloc | apply pw_below_drewN | apply below_drew1 | refine below_set ?_ GE317.out) | exact HB.out)⟩⟩
                · rw [if_neg c9] at H
                  exact absurd H (by simp)
              · rw [if_neg c8] at H
                exact absurd H (by simp)
            · rw [if_neg c7] at H
              exact absurd H (by simp)
          · rw [if_neg c6] at H
            have c6b0 : decide (x11_1 < (l0.length : Int)) = false := decide_eq_false c6
            clear c6
            obtain rfl := Option.some.inj H
            go_wp2
            go_ret
            exact ⟨_, by first | rfl | (simp [errW_none, errW_some] <;> rfl) | (simp [*, errW_none, errW_some] <;> rfl), by (with_reducible repeat (first | apply Kd.R_alloc | apply Kd.R_drewN | apply Kd.R_drew)); exact HO_3.out, by repeat (first | (with_reducible first | exact HB.out | apply below_alloc | apply pw_below_drewN | apply below_drew1) | exact HB.out)⟩
    · rw [if_neg c3] at H
      exact absurd H (by simp)
  · rw [if_neg c2] at H
    exact absurd H (by simp)

end Go.Proofs.Ytlmjopodghikgaa.Print
end
