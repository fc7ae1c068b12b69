/- LedgerLines, walked along the way that it takes, and what it adds up. -/
import Derived.Test.YtlmjopodghikgaaHPure
namespace Go.Proofs.Ytlmjopodghikgaa.Print
open Go.RowKit Go.Proofs.YtlmjopodghikgaaW.PrintWords
open Go.Proofs.Ytlmjopodghikgaa.Stable
set_option linter.unusedVariables false
set_option linter.unusedSimpArgs false

def bournelaw39_LedgerLines.f (k : Nat) (ls : List (List S36)) (o f u kn : Int) : Option Bool := if ls.all okL = true then (if ls.length ≤ 9223372036854775807 then (if i64B f = true then (if i64B u = true then some true else none) else none) else none) else none

theorem lines_facts {l : List S36} (hb : Bk 96 l) {o f u kn : Int} {z : S36} (hz : z ∈ linesOf l o f u kn) : z.f2 = o ∧ f ≤ z.f0 ∧ z.f0 ≤ u ∧ z.f1 ≤ kn ∧ -1125899906842624 ≤ z.f4 ∧ z.f4 ≤ 1125899906842624 := by
  have hperm : (linesOf l o f u kn).Perm (l.filter (linP o f u kn)) := ssort_perm _
  have h := List.mem_filter.1 (hperm.mem_iff.1 hz)
  obtain ⟨_, _, _, _, h4⟩ := right_of (hb.right z h.1)
  have h2 := h.2
  simp only [linP, Bool.and_eq_true, beq_iff_eq, decide_eq_true_eq] at h2
  exact ⟨h2.1.1, h2.1.2.1, h2.1.2.2, h2.2, h4.1, h4.2⟩
theorem lines_len {l : List S36} (hb : Bk 96 l) (o f u kn : Int) : (linesOf l o f u kn).length ≤ 96 := by
  have hperm : (linesOf l o f u kn).Perm (l.filter (linP o f u kn)) := ssort_perm _
  rw [hperm.length_eq]
  exact Nat.le_trans (List.length_filter_le _ _) hb.len
theorem lines_rise {l : List S36} {o f u kn : Int} {i : Int} (h0 : 0 < i) (hi : i < (linesOf l o f u kn).length) : (rd_T36 (linesOf l o f u kn) (i - 1)).f0 ≤ (rd_T36 (linesOf l o f u kn) i).f0 := by
  have hs : Srt (·.f0) (linesOf l o f u kn) := (ssort_stable _).srt
  have h1 : i.toNat < (linesOf l o f u kn).length := by omega
  have h2 : (i - 1).toNat < (linesOf l o f u kn).length := by omega
  have e1 : rd_T36 (linesOf l o f u kn) i = (linesOf l o f u kn)[i.toNat] := by simp [rd_T36, List.getD_eq_getElem?_getD, List.getElem?_eq_getElem h1]
  have e2 : rd_T36 (linesOf l o f u kn) (i - 1) = (linesOf l o f u kn)[(i - 1).toNat] := by
    unfold rd_T36
    rw [List.getD_eq_getElem?_getD, List.getElem?_eq_getElem h2]
    rfl
  rw [e1, e2]
  exact List.pairwise_iff_getElem.1 hs _ _ h2 h1 (by omega)
theorem lines_sum {l : List S36} (hb : Bk 96 l) {o f u kn : Int} (ho : 0 ≤ o) (hu : f ≤ u) : S (fun _ => true) (linesOf l o f u kn) = S (accP o (-1) u kn) l - S (accP o (-1) (f - 1) kn) l := by
  have h := S_lines (fun _ => true) l o f u kn
  have h2 : S (accP o (-1) u kn) l = S (fun e => linP o f u kn e && true) l + S (accP o (-1) (f - 1) kn) l := S_split (fun e he => by
    simp only [accP, linP]
    rw [Bool.eq_iff_iff, ← Bool.not_eq_true]
    simp only [Bool.or_eq_true, Bool.and_eq_true, decide_eq_true_eq, beq_iff_eq, Bool.true_or, true_or, true_and, and_true]
    constructor
    · omega
    · omega)
  omega
theorem i64wrap {n : Int} (h : -9223372036854775808 ≤ n ∧ n ≤ 9223372036854775807) : IntKind.i64.wrap n = n := by
  have : IntKind.i64.wrap n = wrap64 n := by unfold wrap64; exact IntKind.wrap_i64 n
  rw [this, w64 h]
/-- The sum of the first i lines. -/
def sumTo (l : List S36) (i : Int) : Int := S (fun _ => true) (l.take i.toNat)
theorem sumTo_next (l : List S36) {i : Int} (h0 : 0 ≤ i) (hi : i < l.length) : sumTo l (i + 1) = sumTo l i + (rd_T36 l i).f4 := by
  have h1 : i.toNat < l.length := by omega
  have e1 : rd_T36 l i = l[i.toNat] := by simp [rd_T36, List.getD_eq_getElem?_getD, List.getElem?_eq_getElem h1]
  unfold sumTo
  rw [show (i + 1).toNat = i.toNat + 1 by omega, List.take_succ_eq_append_getElem h1, S_app, S_cons, S_nil, e1]
  simp
theorem sumTo_bound {l : List S36} (hb : Bk 96 l) (o f u kn : Int) (i : Int) : -126100789566373888 ≤ sumTo (linesOf l o f u kn) i ∧ sumTo (linesOf l o f u kn) i ≤ 126100789566373888 := by
  have h := S_bound (fun _ => true) (l := (linesOf l o f u kn).take i.toNat) (fun z hz => (lines_facts hb (List.mem_of_mem_take hz)).2.2.2.2)
  have hl := lines_len hb o f u kn
  have : ((linesOf l o f u kn).take i.toNat).length ≤ 96 := by rw [List.length_take]; omega
  unfold sumTo
  omega

set_option maxHeartbeats 1000000 in
theorem bournelaw39_LedgerLines.calls (k : Nat) (A0 : Option Addr) (c0 : Nat) (l0 : List (List S36)) (a1 a2 a3 a4 : Int) (r : Bool) (w : World) (hr0 : Kd.C (Kd.slice 36 k36) w A0 l0.length l0) (hc0 : l0.length ≤ c0) (h : bournelaw39_LedgerLines.f k l0 a1 a2 a3 a4 = some r) :
    Calls Try.prog 5 #[.slice A0 l0.length c0, .int .i64 a1, .int .i64 a2, .int .i64 a3, .int .i64 a4] w fun e w' => e = .returned (.bool r) ∧ Below w.heap.size w w' := by
  unfold bournelaw39_LedgerLines.f at h
  by_cases hok : l0.all okL = true
  case neg => rw [if_neg hok] at h; cases h
  rw [if_pos hok] at h
  by_cases hl : l0.length ≤ 9223372036854775807
  case neg => rw [if_neg hl] at h; cases h
  rw [if_pos hl] at h
  by_cases hi2 : i64B a2 = true
  case neg => rw [if_neg hi2] at h; cases h
  rw [if_pos hi2] at h
  by_cases hi3 : i64B a3 = true
  case neg => rw [if_neg hi3] at h; cases h
  rw [if_pos hi3] at h
  obtain rfl : true = r := by injection h
  have HS := Aside0.mk (bournelaw39_small.calls true w rfl)
  have HR0 := Aside0.mk hr0
  have HC0 := Aside0.mk hc0
  have HF := Aside0.mk (few_f l0 hl (l0.length + 1) (by omega))
  have HB0 := fun hf => booked_f (ls := l0) hf hok (l0.length + 1) (by omega)
  simp only [i64B, Bool.and_eq_true, decide_eq_true_eq] at hi2 hi3
  clear hr0 hc0 h hl hok
  go_enter Try.func5, Try.ntmps5
  cases hfe : fewB l0 with
  | false =>
    go_wp2_with (first | (go_at_call 8; refine HS.out.mono ?_; rintro e w1 ⟨rfl, hb1⟩; have HB1 := Aside0.mk hb1; clear hb1) | (go_at_call 18; refine (bournelaw39_few.calls (l0.length + 1) A0 c0 l0 false _ (Kd.C_below HR0.out HB1.out) HC0.out (by rw [HF.out, hfe])).mono ?_; rintro e w2 ⟨rfl, ⟨nd, rfl⟩⟩) | fail)
    go_ret
    exact ⟨rfl, by have := HB1.out; first | exact this | exact pw_below_drewN this _⟩
  | true =>
    by_cases c1 : a1 < 0
    · go_wp2_with (first | (go_at_call 8; refine HS.out.mono ?_; rintro e w1 ⟨rfl, hb1⟩; have HB1 := Aside0.mk hb1; clear hb1) | (go_at_call 18; refine (bournelaw39_few.calls (l0.length + 1) A0 c0 l0 true _ (Kd.C_below HR0.out HB1.out) HC0.out (by rw [HF.out, hfe])).mono ?_; rintro e w2 ⟨rfl, ⟨nd, rfl⟩⟩) | fail)
      go_ret
      exact ⟨rfl, by have := HB1.out; first | exact this | exact pw_below_drewN this _⟩
    by_cases c2 : a2 < 0
    · go_wp2_with (first | (go_at_call 8; refine HS.out.mono ?_; rintro e w1 ⟨rfl, hb1⟩; have HB1 := Aside0.mk hb1; clear hb1) | (go_at_call 18; refine (bournelaw39_few.calls (l0.length + 1) A0 c0 l0 true _ (Kd.C_below HR0.out HB1.out) HC0.out (by rw [HF.out, hfe])).mono ?_; rintro e w2 ⟨rfl, ⟨nd, rfl⟩⟩) | fail)
      go_ret
      exact ⟨rfl, by have := HB1.out; first | exact this | exact pw_below_drewN this _⟩
    by_cases c3 : a3 < a2
    · go_wp2_with (first | (go_at_call 8; refine HS.out.mono ?_; rintro e w1 ⟨rfl, hb1⟩; have HB1 := Aside0.mk hb1; clear hb1) | (go_at_call 18; refine (bournelaw39_few.calls (l0.length + 1) A0 c0 l0 true _ (Kd.C_below HR0.out HB1.out) HC0.out (by rw [HF.out, hfe])).mono ?_; rintro e w2 ⟨rfl, ⟨nd, rfl⟩⟩) | fail)
      go_ret
      exact ⟨rfl, by have := HB1.out; first | exact this | exact pw_below_drewN this _⟩
    obtain ⟨hbf, hbk⟩ := HB0 hfe
    have HBF := Aside0.mk hbf
    have HBK := Aside0.mk hbk
    clear hbf hbk HB0
    go_wp2_with (first | (go_at_call 8; refine HS.out.mono ?_; rintro e w1 ⟨rfl, hb1⟩; have HB1 := Aside0.mk hb1; clear hb1) | (go_at_call 18; refine (bournelaw39_few.calls (l0.length + 1) A0 c0 l0 true _ (Kd.C_below HR0.out HB1.out) HC0.out (by rw [HF.out, hfe])).mono ?_; rintro e w2 ⟨rfl, ⟨nd, rfl⟩⟩) | fail)
    go_at_call 19
    have HB2 := Aside0.mk (show Below w.heap.size w (w1.drewN nd) from by have := HB1.out; first | exact this | exact pw_below_drewN this _)
    refine (bournelaw39_booked.calls (l0.length + 1) A0 c0 l0 (bookedOf l0) _ (Kd.C_below HR0.out HB2.out) HC0.out HBF.out).mono ?_
    rintro e w3 ⟨v3, rfl, hR3, hb3⟩
    obtain ⟨A3, c3, rfl, hc3, hC3⟩ := Kd.R_reads hR3
    have HB3 := Aside0.mk (HB2.out.trans (hb3.mono HB2.out.size))
    have HC3 := Aside0.mk hC3
    clear hR3 hb3 hC3 HB2
    go_wp2_with fail
    go_at_call 16
    refine (ledger_Lines.calls A3 c3 (bookedOf l0) a1 a2 a3 a4 (linesOf (bookedOf l0) a1 a2 a3 a4) _ HC3.out hc3 (lines_f HBK.out (by omega) _ _ _ _)).mono ?_
    rintro e w4 ⟨v4, rfl, hR4, hb4⟩
    obtain ⟨A4, c4, rfl, hc4, hC4⟩ := Kd.R_reads hR4
    have HB4 := Aside0.mk (HB3.out.trans (hb4.mono HB3.out.size))
    have HC4 := Aside0.mk hC4
    have HC34 := Aside0.mk (Kd.C_below HC3.out hb4)
    have hm4 := lines_len HBK.out a1 a2 a3 a4
    have HFa : Aside0 (∀ z ∈ linesOf (bookedOf l0) a1 a2 a3 a4, z.f2 = a1 ∧ a2 ≤ z.f0 ∧ z.f0 ≤ a3 ∧ z.f1 ≤ a4 ∧ -1125899906842624 ≤ z.f4 ∧ z.f4 ≤ 1125899906842624) := ⟨fun z hz => lines_facts HBK.out hz⟩
    have HRi : Aside0 (∀ i : Int, 0 < i → i < (linesOf (bookedOf l0) a1 a2 a3 a4).length → (rd_T36 (linesOf (bookedOf l0) a1 a2 a3 a4) (i - 1)).f0 ≤ (rd_T36 (linesOf (bookedOf l0) a1 a2 a3 a4) i).f0) := ⟨fun i h0 hi => lines_rise h0 hi⟩
    have HSb : Aside0 (∀ i : Int, -126100789566373888 ≤ sumTo (linesOf (bookedOf l0) a1 a2 a3 a4) i ∧ sumTo (linesOf (bookedOf l0) a1 a2 a3 a4) i ≤ 126100789566373888) := ⟨fun i => sumTo_bound HBK.out _ _ _ _ i⟩
    have HSum := Aside0.mk (lines_sum (kn := a4) HBK.out (by omega : 0 ≤ a1) (by omega : a2 ≤ a3))
    generalize hL : linesOf (bookedOf l0) a1 a2 a3 a4 = L at HC4 hm4 HFa HRi HSb HSum hc4
    clear hR4 hb4 hC4 hL HB3 HC3
    go_wp2_with fail
    go_loopg [14, 15] L.length (fun kq v14 v15 wr => ∃ i : Int, v14 = .int .i64 (sumTo L i) ∧ v15 = .int .i64 i ∧ 0 ≤ i ∧ Aside0 (i + kq = (L.length : Int)) ∧ Aside0 (Below w4.heap.size w4 wr))
    case atStart => exact ⟨0, by first | rfl | simp [sumTo, S_nil], rfl, by omega, ⟨by omega⟩, ⟨Below.refl _ _⟩⟩
    case round =>
      obtain ⟨i, rfl, rfl, h0, HK, HW⟩ := hrel
      obtain ⟨ko, rfl⟩ : ∃ ko, ko = gk := ⟨_, rfl⟩
      have HRw := Aside0.mk (Kd.C_below HC4.out HW.out)
      by_cases c4' : i < (L.length : Int)
      · obtain ⟨ad, e, q0, q1, q2, q3, q4, q5, q6⟩ := at_T36 HRw.out i h0 c4'
        cases e
        have hY := HFa.out _ (rd_mem L i h0 c4')
        have HN := Aside0.mk (sumTo_next L h0 c4')
        have HRi1 := Aside0.mk (fun h => HRi.out i h c4')
        have hsb := HSb.out i
        generalize rd_T36 L i = y at q0 q1 q2 q3 q4 q5 q6 hY HN HRi1
        generalize sumTo L i = s at HN hsb ⊢
        obtain ⟨y1, y2, y3, y4, y5, y6⟩ := hY
        have g1 : (y.f2 != a1) = false := by simp [y1]
        clear y1
        have g2 : decide (y.f0 < a2) = false := decide_eq_false (by omega)
        have g3 : decide (a3 < y.f0) = false := decide_eq_false (by omega)
        have g4 : decide (a4 < y.f1) = false := decide_eq_false (by omega)
        by_cases ci : 0 < i
        · have hz := HRi1.out ci
          obtain ⟨ji, hji⟩ : ∃ j : Int, i - 1 = j := ⟨_, rfl⟩
          rw [hji] at hz
          have hjl : ji < (L.length : Int) := by omega
          have hj0 : 0 ≤ ji := by omega
          obtain ⟨ad', e, p0, _⟩ := at_T36 HRw.out ji hj0 hjl
          obtain rfl : ad = ad' := by injection e
          have g5 : decide ((0 : Int) < i) = true := decide_eq_true ci
          have hjw : IntKind.i64.wrap (i - 1) = ji := by have := i64wrap (n := i - 1) (by omega); omega
          generalize rd_T36 L ji = z at p0 hz
          replace hjl := eq_true hjl
          replace hj0 := eq_true hj0
          have g6 : decide (y.f0 < z.f0) = false := decide_eq_false (by omega)
          go_wp2_with fail
          have hb0 : Below wr.heap.size wr (wr.alloc (.cells #[.int .i64 y.f0, .int .i64 y.f1, .int .i64 y.f2, .int .i64 y.f3, .int .i64 y.f4, .int .i64 y.f5, .int .i64 y.f6] 36)) := (Below.refl _ wr).alloc (Nat.le_refl _) _
          have P0 := pw_cell_below hb0 p0
          have B0 : (wr.alloc (.cells #[.int .i64 y.f0, .int .i64 y.f1, .int .i64 y.f2, .int .i64 y.f3, .int .i64 y.f4, .int .i64 y.f5, .int .i64 y.f6] 36)).cell? ⟨wr.heap.size, 0, none⟩ = some (.int .i64 y.f0) := by simp
          have B1 : (wr.alloc (.cells #[.int .i64 y.f0, .int .i64 y.f1, .int .i64 y.f2, .int .i64 y.f3, .int .i64 y.f4, .int .i64 y.f5, .int .i64 y.f6] 36)).cell? ⟨wr.heap.size, 1, none⟩ = some (.int .i64 y.f1) := by simp
          have B2 : (wr.alloc (.cells #[.int .i64 y.f0, .int .i64 y.f1, .int .i64 y.f2, .int .i64 y.f3, .int .i64 y.f4, .int .i64 y.f5, .int .i64 y.f6] 36)).cell? ⟨wr.heap.size, 2, none⟩ = some (.int .i64 y.f2) := by simp
          have B4 : (wr.alloc (.cells #[.int .i64 y.f0, .int .i64 y.f1, .int .i64 y.f2, .int .i64 y.f3, .int .i64 y.f4, .int .i64 y.f5, .int .i64 y.f6] 36)).cell? ⟨wr.heap.size, 4, none⟩ = some (.int .i64 y.f4) := by simp
          have HBq := Aside0.mk (HW.out.trans (hb0.mono HW.out.size))
          clear hb0 q0 q1 q2 q3 q4 q5 q6 p0
          generalize (wr.alloc (.cells #[.int .i64 y.f0, .int .i64 y.f1, .int .i64 y.f2, .int .i64 y.f3, .int .i64 y.f4, .int .i64 y.f5, .int .i64 y.f6] 36)) = wq at P0 B0 B1 B2 B4 HBq ⊢
          go_quiet (fail)
          go_wp2_with fail
          go_roundg (ko - 1)
          case measure => have := HK.out; omega
          case rel => exact ⟨i + 1, by first | (rw [HN.out]; done) | (rw [HN.out]; go_num) | (rw [HN.out, w64 (by omega)]), by go_num, by omega, ⟨by have := HK.out; omega⟩, ⟨pw_below_drewN HBq.out _⟩⟩
        · have g5 : decide ((0 : Int) < i) = false := decide_eq_false ci
          go_wp2_with fail
          have hb0 : Below wr.heap.size wr (wr.alloc (.cells #[.int .i64 y.f0, .int .i64 y.f1, .int .i64 y.f2, .int .i64 y.f3, .int .i64 y.f4, .int .i64 y.f5, .int .i64 y.f6] 36)) := (Below.refl _ wr).alloc (Nat.le_refl _) _
          have B0 : (wr.alloc (.cells #[.int .i64 y.f0, .int .i64 y.f1, .int .i64 y.f2, .int .i64 y.f3, .int .i64 y.f4, .int .i64 y.f5, .int .i64 y.f6] 36)).cell? ⟨wr.heap.size, 0, none⟩ = some (.int .i64 y.f0) := by simp
          have B1 : (wr.alloc (.cells #[.int .i64 y.f0, .int .i64 y.f1, .int .i64 y.f2, .int .i64 y.f3, .int .i64 y.f4, .int .i64 y.f5, .int .i64 y.f6] 36)).cell? ⟨wr.heap.size, 1, none⟩ = some (.int .i64 y.f1) := by simp
          have B2 : (wr.alloc (.cells #[.int .i64 y.f0, .int .i64 y.f1, .int .i64 y.f2, .int .i64 y.f3, .int .i64 y.f4, .int .i64 y.f5, .int .i64 y.f6] 36)).cell? ⟨wr.heap.size, 2, none⟩ = some (.int .i64 y.f2) := by simp
          have B4 : (wr.alloc (.cells #[.int .i64 y.f0, .int .i64 y.f1, .int .i64 y.f2, .int .i64 y.f3, .int .i64 y.f4, .int .i64 y.f5, .int .i64 y.f6] 36)).cell? ⟨wr.heap.size, 4, none⟩ = some (.int .i64 y.f4) := by simp
          have HBq := Aside0.mk (HW.out.trans (hb0.mono HW.out.size))
          clear hb0 q0 q1 q2 q3 q4 q5 q6
          generalize (wr.alloc (.cells #[.int .i64 y.f0, .int .i64 y.f1, .int .i64 y.f2, .int .i64 y.f3, .int .i64 y.f4, .int .i64 y.f5, .int .i64 y.f6] 36)) = wq at B0 B1 B2 B4 HBq ⊢
          go_quiet (fail)
          go_wp2_with fail
          go_roundg (ko - 1)
          case measure => have := HK.out; omega
          case rel => exact ⟨i + 1, by first | (rw [HN.out]; done) | (rw [HN.out]; go_num) | (rw [HN.out, w64 (by omega)]), by go_num, by omega, ⟨by have := HK.out; omega⟩, ⟨pw_below_drewN HBq.out _⟩⟩
      · have hend : i = (L.length : Int) := by have := HK.out; omega
        have hst : sumTo L i = S (accP a1 (-1) a3 a4) (bookedOf l0) - S (accP a1 (-1) (a2 - 1) a4) (bookedOf l0) := by
          rw [← HSum.out, hend]
          unfold sumTo
          rw [List.take_of_length_le (by omega)]
        have s1 := HBK.out.small (by omega) (accP a1 (-1) a3 a4)
        have s2 := HBK.out.small (by omega) (accP a1 (-1) (a2 - 1) a4)
        have HA1 := Aside0.mk (account_f HBK.out (by omega) a1 (-1) a3 a4)
        have HA2 := Aside0.mk (account_f HBK.out (by omega) a1 (-1) (a2 - 1) a4)
        have hw1 := w64 (n := a2 - 1) (by omega)
        generalize S (accP a1 (-1) a3 a4) (bookedOf l0) = t1 at HA1 hst s1
        generalize S (accP a1 (-1) (a2 - 1) a4) (bookedOf l0) = t2 at HA2 hst s2
        have HRe := Aside0.mk (Kd.C_below HC34.out HW.out)
        have HWe := Aside0.mk (HB4.out.trans (HW.out.mono HB4.out.size))
        clear HSum
        rw [hst]
        clear hst
        go_wp2_with fail
        go_at_call 12
        refine (ledger_Account.calls A3 c3 (bookedOf l0) a1 (-1) a3 a4 t1 _ HRe.out hc3 HA1.out).mono ?_
        rintro e w5 ⟨rfl, hb5⟩
        have HR5 := Aside0.mk (Kd.C_below HRe.out hb5)
        have HW5 := Aside0.mk (HWe.out.trans (hb5.mono HWe.out.size))
        clear hb5
        go_wp2_with fail
        go_at_call 12
        refine (ledger_Account.calls A3 c3 (bookedOf l0) a1 (-1) (a2 - 1) a4 t2 _ HR5.out hc3 HA2.out).mono ?_
        rintro e w6 ⟨rfl, hb6⟩
        have HW6 := Aside0.mk (HW5.out.trans (hb6.mono HW5.out.size))
        clear hb6
        go_wp2_with fail
        go_ret
        exact ⟨by first | rfl | (simp; done), HW6.out⟩
theorem pureLedgerLines (ls : List (List S36)) (o f u kn : Int) (hok : ls.all okL = true) (hl : ls.length ≤ 9223372036854775807) (_ : (Lit.int .i64 o).wf = true) (hf : (Lit.int .i64 f).wf = true) (hu : (Lit.int .i64 u).wf = true) (_ : (Lit.int .i64 kn).wf = true) :
    ∃ k, bournelaw39_LedgerLines.f k ls o f u kn = some true := ⟨0, by
  unfold bournelaw39_LedgerLines.f
  rw [if_pos hok, if_pos hl, if_pos (i64B_wf hf), if_pos (i64B_wf hu)]⟩
end Go.Proofs.Ytlmjopodghikgaa.Print
