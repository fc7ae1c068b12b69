/- LedgerRefuses, walked along the way that it takes: what a changed posting is answered by. -/
import Derived.Test.YtlmjopodghikgaaHRefuse
import Derived.Deep.RegionLaw
namespace Go.Proofs.Ytlmjopodghikgaa.Print
open Go.RowKit Go.Proofs.YtlmjopodghikgaaW.PrintWords
set_option linter.unusedVariables false
set_option linter.unusedSimpArgs false

def bournelaw39_LedgerRefuses.f (k : Nat) (ls : List (List S36)) (e : List S36) (i n : Int) : Option Bool := if ls.all okL = true then (if ls.length ≤ 9223372036854775807 then (if okL e = true then some true else none) else none) else none

theorem i64wrap {n : Int} (h : -9223372036854775808 ≤ n ∧ n ≤ 9223372036854775807) : IntKind.i64.wrap n = n := by
  have : IntKind.i64.wrap n = wrap64 n := by unfold wrap64; exact IntKind.wrap_i64 n
  rw [this, w64 h]
/-- One field of an entry of a row is written. -/
theorem RowE.set1 {w : World} {g cap : Nat} {l : List S36} (h : RowE w g cap l) {j : Nat} {x y : S36} (hx : l[j]? = some x) {i : Nat} {u : Value} (hi : i < 7) (hy : cE y = (cE x).set i u) : RowE (w.setCell ⟨g, j * 7 + i, none⟩ u) g cap (l.set j y) := by
  obtain ⟨cur, hb, hs, hl, hm, hc⟩ := h
  have hj : j < l.length := (List.getElem?_eq_some_iff.1 hx).1
  refine ⟨cur.setIfInBounds (j * 7 + i) u, by simp [World.setCell, Array.getElem?_modify, hb], by simpa using hs, by rw [List.length_set]; exact hl, hm, fun k z hk p v hv => ?_⟩
  have hp7 : p < 7 := by have := (List.getElem?_eq_some_iff.1 hv).1; rwa [cE_len] at this
  by_cases e : j = k
  · subst e
    have hz : y = z := by simpa [hj] using hk
    subst hz
    rw [hy] at hv
    by_cases ep : i = p
    · subst ep
      have hv' : u = v := by
        rw [List.getElem?_set_self (by rw [cE_len]; exact hi)] at hv
        injection hv
      subst hv'
      have hlt : j * 7 + i < cur.size := by omega
      simp [hlt]
    · rw [List.getElem?_set_ne ep] at hv
      rw [Array.getElem?_setIfInBounds_ne (by omega)]
      exact hc j x hx p v hv
  · rw [List.getElem?_set_ne e] at hk
    rw [Array.getElem?_setIfInBounds_ne (by omega)]
    exact hc k z hk p v hv
theorem RowE.C {w : World} {g cap : Nat} {l : List S36} (h : RowE w g cap l) : Kd.C k36 w (some ⟨g, 0, none⟩) l.length l ∧ l.length ≤ cap := by
  have := Kd.R_reads' (RowE.toR h (base := 0) (ok := fun _ => True) (Nat.zero_le _) trivial)
  exact ⟨this.2.2, this.2.1⟩
theorem ok_set {e : List S36} (h : okL e = true) (i : Nat) {y : S36} (hy : okE y = true) : okL (e.set i y) = true := by
  unfold okL at *
  rw [List.all_eq_true] at *
  intro x hx
  rcases List.mem_or_eq_of_mem_set hx with hx | rfl
  · exact h x hx
  · exact hy
theorem right_ok {x : S36} (h : rightB x = true) (hw : okE x = true) : (0 ≤ x.f0 ∧ x.f0 ≤ 699050) ∧ (0 ≤ x.f1 ∧ x.f1 ≤ 16777216) ∧ (-1125899906842624 ≤ x.f4 ∧ x.f4 ≤ 1125899906842624) := by
  obtain ⟨a, b, _, _, c⟩ := right_of h
  exact ⟨a, b, c⟩
theorem i64B_mk {n : Int} (h : -9223372036854775808 ≤ n ∧ n ≤ 9223372036854775807) : i64B n = true := by
  simp only [i64B, Bool.and_eq_true, decide_eq_true_eq]
  exact h
theorem ok_lit {x : S36} (hw : okE x = true) {n : Int} (h : -9223372036854775808 ≤ n ∧ n ≤ 9223372036854775807) : okE (withLit x n) = true := by
  simp only [okE, withLit, Bool.and_eq_true] at hw ⊢
  exact ⟨⟨⟨⟨⟨⟨hw.1.1.1.1.1.1, hw.1.1.1.1.1.2⟩, hw.1.1.1.1.2⟩, hw.1.1.1.2⟩, i64B_mk h⟩, hw.1.2⟩, hw.2⟩
theorem ok_day {x : S36} (hw : okE x = true) {n : Int} (h : -9223372036854775808 ≤ n ∧ n ≤ 9223372036854775807) : okE (withDay x n) = true := by
  simp only [okE, withDay, Bool.and_eq_true] at hw ⊢
  exact ⟨⟨⟨⟨⟨⟨i64B_mk h, hw.1.1.1.1.1.2⟩, hw.1.1.1.1.2⟩, hw.1.1.1.2⟩, hw.1.1.2⟩, hw.1.2⟩, hw.2⟩
theorem ok_kn {x : S36} (hw : okE x = true) {n : Int} (h : -9223372036854775808 ≤ n ∧ n ≤ 9223372036854775807) : okE (withKn x n) = true := by
  simp only [okE, withKn, Bool.and_eq_true] at hw ⊢
  exact ⟨⟨⟨⟨⟨⟨hw.1.1.1.1.1.1, i64B_mk h⟩, hw.1.1.1.1.2⟩, hw.1.1.1.2⟩, hw.1.1.2⟩, hw.1.2⟩, hw.2⟩
/-- What Post answers, as a number. -/
theorem post_calls {l e : List S36} (hl : l.length ≤ 1000) (he : e.length ≤ 1000) (h1 : okL l = true) (h2 : okL e = true) (A0 : Option Addr) (c0 : Nat) (A1 : Option Addr) (c1 : Nat) (m : Nat) (hm : m = e.length) (w : World) (hr0 : Kd.C k36 w A0 l.length l) (hc0 : l.length ≤ c0) (hr1 : Kd.C k36 w A1 e.length e) (hc1 : e.length ≤ c1) :
    Calls Try.prog 9 #[.slice A0 l.length c0, .slice A1 m c1] w fun x w' => ∃ v0_ : Value, x = .returned (.tuple #[v0_, .int .i64 (postOf l e).2]) ∧ Below w.heap.size w w' := by
  subst hm
  refine (ledger_Post.calls A0 c0 l A1 c1 e (postOf l e).1 (postOf l e).2 w hr0 hc0 hr1 hc1 (by rw [post_f hl he h1 h2])).mono ?_
  rintro x w' ⟨v, rfl, _, hb⟩
  exact ⟨v, rfl, hb⟩

theorem ok_part {l m : List S36} (h : okL l = true) (hs : ∀ x ∈ m, x ∈ l) : okL m = true := by
  unfold okL at *
  rw [List.all_eq_true] at *
  exact fun x hx => h x (hs x hx)
theorem cut_mem (l : List S36) (i : Nat) : ∀ x ∈ l.take i ++ l.drop (i + 1), x ∈ l := by
  intro x hx
  rcases List.mem_append.1 hx with hx | hx
  · exact List.mem_of_mem_take hx
  · exact List.mem_of_mem_drop hx
theorem cut_len (l : List S36) (i : Nat) : (l.take i ++ l.drop (i + 1)).length ≤ l.length := by
  rw [List.length_append, List.length_take, List.length_drop]
  omega
def earlierTo (l : List S36) (j : Nat) : List S36 := (earlier l).take j ++ l.drop j
theorem earlier_len (l : List S36) : (earlier l).length = l.length := by simp [earlier]
theorem earlierTo_at {l : List S36} {j : Nat} {y : S36} (hy : l[j]? = some y) : (earlierTo l j)[j]? = some y := by
  have hj : j < l.length := (List.getElem?_eq_some_iff.1 hy).1
  have hl : ((earlier l).take j).length = j := by rw [List.length_take, earlier_len]; omega
  unfold earlierTo
  rw [List.getElem?_append_right (by omega), hl, List.getElem?_drop]
  simpa using hy
theorem earlierTo_set {l : List S36} {j : Nat} {y : S36} (hy : l[j]? = some y) : (earlierTo l j).set j (withKn y (y.f1 - 1)) = earlierTo l (j + 1) := by
  have hj : j < l.length := (List.getElem?_eq_some_iff.1 hy).1
  have hl : ((earlier l).take j).length = j := by rw [List.length_take, earlier_len]; omega
  have e : l[j] = y := by rw [List.getElem?_eq_getElem hj] at hy; injection hy
  unfold earlierTo
  rw [List.set_append_right j _ (by omega), hl, Nat.sub_self, List.drop_eq_getElem_cons hj, List.set_cons_zero, List.take_succ_eq_append_getElem (by rw [earlier_len]; exact hj), List.append_assoc]
  have e2 : (earlier l)[j]'(by rw [earlier_len]; exact hj) = withKn y (y.f1 - 1) := by simp [earlier, e]
  rw [e2]
  rfl
theorem earlierTo_end (l : List S36) : earlierTo l l.length = earlier l := by
  unfold earlierTo
  rw [List.drop_length, List.append_nil, List.take_of_length_le (by rw [earlier_len]; omega)]
theorem earlier_ok {l : List S36} (h : okL l = true) (hr : ∀ e ∈ l, 0 ≤ e.f1 ∧ e.f1 ≤ 16777216) : okL (earlier l) = true := by
  unfold okL earlier at *
  rw [List.all_map, List.all_eq_true]
  rw [List.all_eq_true] at h
  intro x hx
  have := hr x hx
  exact ok_kn (h x hx) (by omega)
/-- '[]Entry{}', and what 'append([]Entry{}, l...)' leaves. -/
theorem newE (w : World) : Kd.R k36 36 (w.alloc (.cells #[] 36)) w.heap.size (fun _ => True) (.slice (some ⟨w.heap.size, 0, none⟩) 0 0) [] :=
  ⟨fun _ _ => trivial, OwnRow.lit (ps := []) w w.heap.size (inner := []) (Reps.none _ _) (Nat.le_refl _) (by simp)⟩
theorem ofR_ne {w : World} {base : Nat} {ok : Nat → Prop} {v : Value} {l : List S36} (h : Kd.R k36 36 w base ok v l) (hl : l ≠ []) : ∃ g cap, v = .slice (some ⟨g, 0, none⟩) l.length cap ∧ base ≤ g ∧ RowE w g cap l := by
  rcases RowE.ofR h with ⟨_, rfl⟩ | ⟨g, cap, rfl, hg, _, hr⟩
  · exact absurd rfl hl
  · exact ⟨g, cap, rfl, hg, hr⟩

set_option maxRecDepth 100000 in
set_option maxHeartbeats 2000000 in
theorem bournelaw39_LedgerRefuses.calls (k : Nat) (A0 : Option Addr) (c0 : Nat) (l0 : List (List S36)) (A1 : Option Addr) (c1 : Nat) (l1 : List S36) (a2 a3 : Int) (r : Bool) (w : World) (hr0 : Kd.C (Kd.slice 36 k36) w A0 l0.length l0) (hc0 : l0.length ≤ c0) (hr1 : Kd.C k36 w A1 l1.length l1) (hc1 : l1.length ≤ c1) (h : bournelaw39_LedgerRefuses.f k l0 l1 a2 a3 = some r) :
    Calls Try.prog 7 #[.slice A0 l0.length c0, .slice A1 l1.length c1, .int .i64 a2, .int .i64 a3] w fun e w' => e = .returned (.bool r) ∧ Below w.heap.size w w' := by
  unfold bournelaw39_LedgerRefuses.f at h
  by_cases hok : l0.all okL = true
  case neg => rw [if_neg hok] at h; cases h
  rw [if_pos hok] at h
  by_cases hl : l0.length ≤ 9223372036854775807
  case neg => rw [if_neg hl] at h; cases h
  rw [if_pos hl] at h
  by_cases hoke : okL l1 = true
  case neg => rw [if_neg hoke] at h; cases h
  rw [if_pos hoke] at h
  obtain rfl : true = r := by injection h
  have HS := Aside0.mk (bournelaw39_small.calls true w rfl)
  have HR0 := Aside0.mk hr0
  have HR1 := Aside0.mk hr1
  have HC0 := Aside0.mk hc0
  have HC1 := Aside0.mk hc1
  have HF := Aside0.mk (few_f l0 hl (l0.length + 1) (by omega))
  have HB0 := fun hf => booked_f (ls := l0) hf hok (l0.length + 1) (by omega)
  have HOE := Aside0.mk hoke
  have hm1 := hr1.2.1
  clear hr0 hc0 hr1 hc1 h hl hok hoke
  cases hfe : fewB l0 with
  | false =>
    go_enter Try.func7, Try.ntmps7
    go_wp2_with (first | (go_at_call 8; refine HS.out.mono ?_; rintro e w1 ⟨rfl, hb1⟩; have HB1 := Aside0.mk hb1; clear hb1) | (go_at_call 18; refine (bournelaw39_few.calls (l0.length + 1) A0 c0 l0 false _ (Kd.C_below HR0.out HB1.out) HC0.out (by rw [HF.out, hfe])).mono ?_; rintro e w2 ⟨rfl, ⟨nd, rfl⟩⟩) | fail)
    go_ret
    exact ⟨rfl, by have := HB1.out; first | exact this | exact pw_below_drewN this _⟩
  | true =>
    by_cases d1 : 8 < l1.length
    · go_enter Try.func7, Try.ntmps7
      go_wp2_with (first | (go_at_call 8; refine HS.out.mono ?_; rintro e w1 ⟨rfl, hb1⟩; have HB1 := Aside0.mk hb1; clear hb1) | (go_at_call 18; refine (bournelaw39_few.calls (l0.length + 1) A0 c0 l0 true _ (Kd.C_below HR0.out HB1.out) HC0.out (by rw [HF.out, hfe])).mono ?_; rintro e w2 ⟨rfl, ⟨nd, rfl⟩⟩) | fail)
      go_ret
      exact ⟨rfl, by have := HB1.out; first | exact this | exact pw_below_drewN this _⟩
    by_cases d2 : a2 < 0
    · go_enter Try.func7, Try.ntmps7
      go_wp2_with (first | (go_at_call 8; refine HS.out.mono ?_; rintro e w1 ⟨rfl, hb1⟩; have HB1 := Aside0.mk hb1; clear hb1) | (go_at_call 18; refine (bournelaw39_few.calls (l0.length + 1) A0 c0 l0 true _ (Kd.C_below HR0.out HB1.out) HC0.out (by rw [HF.out, hfe])).mono ?_; rintro e w2 ⟨rfl, ⟨nd, rfl⟩⟩) | fail)
      go_ret
      exact ⟨rfl, by have := HB1.out; first | exact this | exact pw_below_drewN this _⟩
    by_cases d3 : (l1.length : Int) ≤ a2
    · go_enter Try.func7, Try.ntmps7
      go_wp2_with (first | (go_at_call 8; refine HS.out.mono ?_; rintro e w1 ⟨rfl, hb1⟩; have HB1 := Aside0.mk hb1; clear hb1) | (go_at_call 18; refine (bournelaw39_few.calls (l0.length + 1) A0 c0 l0 true _ (Kd.C_below HR0.out HB1.out) HC0.out (by rw [HF.out, hfe])).mono ?_; rintro e w2 ⟨rfl, ⟨nd, rfl⟩⟩) | fail)
      go_ret
      exact ⟨rfl, by have := HB1.out; first | exact this | exact pw_below_drewN this _⟩
    by_cases d4 : a3 = 0
    · subst d4
      go_enter Try.func7, Try.ntmps7
      go_wp2_with (first | (go_at_call 8; refine HS.out.mono ?_; rintro e w1 ⟨rfl, hb1⟩; have HB1 := Aside0.mk hb1; clear hb1) | (go_at_call 18; refine (bournelaw39_few.calls (l0.length + 1) A0 c0 l0 true _ (Kd.C_below HR0.out HB1.out) HC0.out (by rw [HF.out, hfe])).mono ?_; rintro e w2 ⟨rfl, ⟨nd, rfl⟩⟩) | fail)
      go_ret
      exact ⟨rfl, by have := HB1.out; first | exact this | exact pw_below_drewN this _⟩
    by_cases d5 : 1125899906842624 < a3
    · go_enter Try.func7, Try.ntmps7
      go_wp2_with (first | (go_at_call 8; refine HS.out.mono ?_; rintro e w1 ⟨rfl, hb1⟩; have HB1 := Aside0.mk hb1; clear hb1) | (go_at_call 18; refine (bournelaw39_few.calls (l0.length + 1) A0 c0 l0 true _ (Kd.C_below HR0.out HB1.out) HC0.out (by rw [HF.out, hfe])).mono ?_; rintro e w2 ⟨rfl, ⟨nd, rfl⟩⟩) | fail)
      go_ret
      exact ⟨rfl, by have := HB1.out; first | exact this | exact pw_below_drewN this _⟩
    by_cases d6 : a3 < -1125899906842624
    · go_enter Try.func7, Try.ntmps7
      go_wp2_with (first | (go_at_call 8; refine HS.out.mono ?_; rintro e w1 ⟨rfl, hb1⟩; have HB1 := Aside0.mk hb1; clear hb1) | (go_at_call 18; refine (bournelaw39_few.calls (l0.length + 1) A0 c0 l0 true _ (Kd.C_below HR0.out HB1.out) HC0.out (by rw [HF.out, hfe])).mono ?_; rintro e w2 ⟨rfl, ⟨nd, rfl⟩⟩) | fail)
      go_ret
      exact ⟨rfl, by have := HB1.out; first | exact this | exact pw_below_drewN this _⟩
    have d4b : (a3 == 0) = false := beq_eq_false_iff_ne.2 d4
    obtain ⟨i, rfl⟩ : ∃ i : Nat, a2 = i := ⟨a2.toNat, by omega⟩
    have hi : i < l1.length := by omega
    have D4 := Aside0.mk d4
    clear d2 d3 d4
    obtain ⟨hbf, hbk⟩ := HB0 hfe
    have HBF := Aside0.mk hbf
    have HBK := Aside0.mk hbk
    clear hbf hbk HB0
    go_enter Try.func7, Try.ntmps7
    go_wp2_with (first | (go_at_call 8; refine HS.out.mono ?_; rintro e w1 ⟨rfl, hb1⟩; have HB1 := Aside0.mk hb1; clear hb1) | (go_at_call 18; refine (bournelaw39_few.calls (l0.length + 1) A0 c0 l0 true _ (Kd.C_below HR0.out HB1.out) HC0.out (by rw [HF.out, hfe])).mono ?_; rintro e w2 ⟨rfl, ⟨nd, rfl⟩⟩) | fail)
    go_at_call 19
    have HB2 := Aside0.mk (show Below w.heap.size w (w1.drewN nd) from by have := HB1.out; first | exact this | exact pw_below_drewN this _)
    refine (bournelaw39_booked.calls (l0.length + 1) A0 c0 l0 (bookedOf l0) _ (Kd.C_below HR0.out HB2.out) HC0.out HBF.out).mono ?_
    rintro e w3 ⟨v3, rfl, hR3, hb3⟩
    obtain ⟨A3, c3, rfl, hc3, hC3⟩ := Kd.R_reads hR3
    have HB3 := Aside0.mk (HB2.out.trans (hb3.mono HB2.out.size))
    have HC3 := Aside0.mk hC3
    clear hR3 hb3 hC3 HB2
    have hlb := HBK.out.len
    have hlok := Aside0.mk HBK.out.ok
    clear HBK HBF
    generalize bookedOf l0 = L at *
    go_wp2_with fail
    go_at_call 9
    refine (post_calls (l := L) (e := l1) (by omega) (by omega) hlok.out HOE.out A3 c3 A1 c1 _ rfl _ HC3.out hc3 (Kd.C_below HR1.out HB3.out) HC1.out).mono ?_
    rintro e w4 ⟨v4, rfl, hb4⟩
    have HB4 := Aside0.mk (HB3.out.trans (hb4.mono HB3.out.size))
    have HC4 := Aside0.mk (Kd.C_below HC3.out hb4)
    clear hb4 HB3 HC3
    by_cases hp : (postOf L l1).2 = 0
    case neg =>
      have hpb : ((postOf L l1).2 != 0) = true := by simpa using hp
      clear hp
      generalize (postOf L l1).2 = q at hpb
      go_wp2_with fail
      go_ret
      exact ⟨rfl, HB4.out⟩
    obtain ⟨_, hpost, _, _⟩ := post_ok hp
    obtain ⟨_, hne, hright⟩ := posting_right hpost
    have hx : l1[i]? = some l1[i] := List.getElem?_eq_getElem hi
    have hokx : okE l1[i] = true := List.all_eq_true.1 HOE.out _ (List.getElem_mem hi)
    obtain ⟨hx0, hx1, hx4⟩ := right_ok (hright _ (List.getElem_mem hi)).1 hokx
    have P1 := Aside0.mk (refuse_lit (l := L) hpost hi D4.out)
    have P2 := Aside0.mk (refuse_cut (l := L) hpost hi)
    have P3 := Aside0.mk (fun h1 => refuse_day (l := L) hpost hi h1)
    have P4 := Aside0.mk (fun hl h0 hk => refuse_late (l := L) hpost hl h0 hk)
    have HO1 := Aside0.mk (ok_set HOE.out i (ok_lit (n := l1[i].f4 + a3) hokx (by omega)))
    have HO3 := Aside0.mk (ok_set HOE.out i (ok_day (n := l1[i].f0 + 1) hokx (by omega)))
    have HX := Aside0.mk hx
    have HRT := Aside0.mk hright
    have HNE := Aside0.mk hne
    rw [hp]
    clear hp hpost hx hokx hright hne D4
    have HN4 := Aside0.mk (newE w4)
    have HA4 := Aside0.mk ((Below.refl _ w4).alloc (Nat.le_refl _) (.cells #[] 36))
    have HR4 := Aside0.mk (Kd.C_below HR1.out HB4.out)
    generalize hxe : l1[i] = x at *
    go_upto_region 9 with (at_builtin; refine Kd.R_append_rows k36 (w0 := w4) w4.heap.size rfl _ _ 22 36 _ 56 rfl Try.underlying22 info36 rfl (by decide) (by decide) _ [] l1 A1 l1.length _ (fun _ => True) (fun _ => False) rfl rfl HN4.out (Kd.C_below HR4.out HA4.out) (fun x cs h => kE_KM x cs h) (fun _ h => h.elim) (fun _ _ => trivial) HA4.out (by simp) (by simp; omega) ?_; intro v5 w5 hown5 hb5 _ _)
    rw [List.nil_append] at hown5
    obtain ⟨g5, cap5, rfl, hg5, hrow5⟩ := ofR_ne hown5 HNE.out
    have hcap5 := hrow5.C.2
    obtain ⟨_, _, _, _, q4, _, _⟩ := hrow5.seven HX.out
    have z4 := hrow5.frozen (i * 7 + 4)
    have HS5 := Aside0.mk (hrow5.set1 (i := 4) (u := .int .i64 (x.f4 + a3)) (y := withLit x (x.f4 + a3)) HX.out (by omega) rfl)
    have hb5' := hb5.setCell (p := ⟨g5, i * 7 + 4, none⟩) hg5 (.int .i64 (x.f4 + a3))
    have HB5 := Aside0.mk (HB4.out.trans (hb5'.mono HB4.out.size))
    have HC5 := Aside0.mk (Kd.C_below HC4.out hb5')
    clear hown5 hrow5 hb5 hg5 hb5' HC4 HB4
    go_wp2_with fail
    go_at_call 9
    refine (post_calls (l := L) (e := l1.set i (withLit x (x.f4 + a3))) (by omega) (by rw [List.length_set]; omega) hlok.out HO1.out A3 c3 (some ⟨g5, 0, none⟩) cap5 l1.length (by rw [List.length_set]) _ HC5.out hc3 HS5.out.C.1 HS5.out.C.2).mono ?_
    rintro e w6 ⟨v6, rfl, hb6⟩
    rw [P1.out]
    have HB6 := Aside0.mk (HB5.out.trans (hb6.mono HB5.out.size))
    have HC6 := Aside0.mk (Kd.C_below HC5.out hb6)
    clear hb6 q4 z4 HS5 HB5 HC5 P1 HR4 HA4 HN4 HO1
    obtain ⟨ad, rfl, _⟩ := cells_ofC HR1.out (by omega)
    have HR6 := Aside0.mk (Kd.C_below HR1.out HB6.out)
    have hic : i ≤ c1 := by have := HC1.out; omega
    have hil : i ≤ l1.length := by omega
    have hwr : IntKind.i64.wrap ((i : Int) + 1) = (i : Int) + 1 := i64wrap (by omega)
    have hp0 : (0 : Int) ≤ (i : Int) + 1 := by omega
    have hp1 : (i : Int) + 1 ≤ (l1.length : Int) := by omega
    have hp2 : ((i : Int) + 1).toNat = i + 1 := by omega
    have HN6 := Aside0.mk (newE w6.drew)
    have HA6 := Aside0.mk ((Below.refl _ w6.drew).alloc (Nat.le_refl _) (.cells #[] 36))
    have HT6 : Aside0 (Kd.C k36 (w6.drew.alloc (.cells #[] 36)) (some ad) i (l1.take i)) := ⟨by
      have h := Kd.C_take (Kd.C_below (Kd.C_drew HR6.out) HA6.out) hil
      have e : (l1.take i).length = i := by rw [List.length_take]; omega
      rwa [e] at h⟩
    have HD6 : Aside0 (Kd.C k36 w6.drew (if c1 = i + 1 then some ad else some (ad.add ((i + 1) * 7))) (l1.length - (i + 1)) (l1.drop (i + 1))) := ⟨by
      have h := Kd.C_drop (m := i + 1) (Kd.C_drew HR6.out) (by omega) HC1.out
      rwa [List.length_drop] at h⟩
    obtain ⟨A6, hA6⟩ : ∃ A, (if c1 = i + 1 then some ad else some (ad.add ((i + 1) * 7))) = A := ⟨_, rfl⟩
    rw [hA6] at HD6
    have HL6 : Aside0 ((0 + i) * 56 ≤ 140737488355328 ∧ ((l1.take i).length + (l1.length - (i + 1))) * 56 ≤ 140737488355328) := ⟨by rw [List.length_take]; omega⟩
    go_wp2_with fail
    go_region_law (first | (refine Kd.R_append_rows_step k36 (w0 := w6.drew) w6.drew.heap.size (by rfl) (.tmp 90) (.tmp 93) 22 36 _ 56 rfl Try.underlying22 info36 rfl (by decide) (by decide) (.slice (some ⟨w6.heap.size, 0, none⟩) 0 0) [] (l1.take i) (some ad) i c1 (fun _ => True) (fun _ => False) (by simp [Act.eval, Act.put]) (by simp [Act.eval, Act.put]) HN6.out HT6.out (fun x cs h => kE_KM x cs h) (fun _ h => h.elim) (fun _ _ => trivial) HA6.out (by simp) HL6.out.1 ?_; intro v7 w7 ho7 hb7 _ _; rw [List.nil_append] at ho7) | (refine Kd.R_append_rows_step k36 (w0 := w6.drew) w6.drew.heap.size (by rfl) (.tmp 94) (.tmp 98) 22 36 _ 56 rfl Try.underlying22 info36 rfl (by decide) (by decide) v7 (l1.take i) (l1.drop (i + 1)) A6 (l1.length - (i + 1)) (c1 - (i + 1)) (fun _ => True) (fun _ => False) (by simp [Act.eval, Act.put]) (by simp [Act.eval, Act.put]) ho7 (Kd.C_below HD6.out hb7) (fun x cs h => kE_KM x cs h) (fun _ h => h.elim) (fun _ _ => trivial) hb7 hb7.size HL6.out.2 ?_; intro v8 w8 ho8 hb8 _ _))
    have hcl := cut_len l1 i
    have HOB := Aside0.mk (ok_part HOE.out (cut_mem l1 i))
    generalize l1.take i ++ l1.drop (i + 1) = B at ho8 P2 hcl HOB
    obtain ⟨A8, c8, rfl, hc8, hC8⟩ := Kd.R_reads ho8
    have hb8' : Below w6.heap.size w6 w8 := (below_drew1 (Below.refl _ w6)).trans (show Below w6.heap.size w6.drew w8 from hb8)
    have HB8 := Aside0.mk (HB6.out.trans (hb8'.mono HB6.out.size))
    have HC8 := Aside0.mk (Kd.C_below HC6.out hb8')
    have HD8 := Aside0.mk hC8
    clear hA6 hC8 hb8' hb8 ho8 ho7 hb7 HN6 HA6 HT6 HD6 HL6 HB6 HC6 HR6 hwr hp0 hp1 hp2
    go_wp2_with fail
    go_at_call 9
    refine (post_calls (l := L) (e := B) (by omega) (by omega) hlok.out HOB.out A3 c3 A8 c8 _ rfl _ HC8.out hc3 HD8.out hc8).mono ?_
    rintro e w9 ⟨v9, rfl, hb9⟩
    have HB9 := Aside0.mk (HB8.out.trans (hb9.mono HB8.out.size))
    have HC9 := Aside0.mk (Kd.C_below HC8.out hb9)
    clear hb9 HB8 HC8 HD8 hcl hc8
    generalize (postOf L B).2 = r2 at P2 ⊢
    have HN9 := Aside0.mk (newE w9)
    have HA9 := Aside0.mk ((Below.refl _ w9).alloc (Nat.le_refl _) (.cells #[] 36))
    have HR9 := Aside0.mk (Kd.C_below HR1.out HB9.out)
    go_upto_region 14 with (at_builtin; refine Kd.R_append_rows k36 (w0 := w9) w9.heap.size rfl _ _ 22 36 _ 56 rfl Try.underlying22 info36 rfl (by decide) (by decide) _ [] l1 (some ad) l1.length _ (fun _ => True) (fun _ => False) rfl rfl HN9.out (Kd.C_below HR9.out HA9.out) (fun x cs h => kE_KM x cs h) (fun _ h => h.elim) (fun _ _ => trivial) HA9.out (by simp) (by simp; omega) ?_; intro v10 w10 hown10 hb10 _ _)
    rw [List.nil_append] at hown10
    obtain ⟨g10, cap10, rfl, hg10, hrow10⟩ := ofR_ne hown10 HNE.out
    have hcap10 := hrow10.C.2
    obtain ⟨q0, _, _, _, _, _, _⟩ := hrow10.seven HX.out
    have z0 := hrow10.frozen (i * 7)
    have HS10 := Aside0.mk (hrow10.set1 (i := 0) (u := .int .i64 (x.f0 + 1)) (y := withDay x (x.f0 + 1)) HX.out (by omega) rfl)
    have hb10' := hb10.setCell (p := ⟨g10, i * 7, none⟩) hg10 (.int .i64 (x.f0 + 1))
    have HB10 := Aside0.mk (HB9.out.trans (hb10'.mono HB9.out.size))
    have HC10 := Aside0.mk (Kd.C_below HC9.out hb10')
    clear hown10 hrow10 hb10 hg10 hb10' HC9 HB9 HN9 HA9 HR9
    go_wp2_with fail
    go_at_call 9
    refine (post_calls (l := L) (e := l1.set i (withDay x (x.f0 + 1))) (by omega) (by rw [List.length_set]; omega) hlok.out HO3.out A3 c3 (some ⟨g10, 0, none⟩) cap10 l1.length (by rw [List.length_set]) _ HC10.out hc3 HS10.out.C.1 HS10.out.C.2).mono ?_
    rintro e w11 ⟨v11, rfl, hb11⟩
    have HB11 := Aside0.mk (HB10.out.trans (hb11.mono HB10.out.size))
    have HC11 := Aside0.mk (Kd.C_below HC10.out hb11)
    clear hb11 q0 z0 HS10 HB10 HC10 HO3
    replace P3 := Aside0.mk (fun h1 : l1.length ≠ 1 => congrArg Prod.snd (P3.out h1))
    generalize (postOf L (l1.set i (withDay x (x.f0 + 1)))).2 = r3 at P3 ⊢
    have HN11 := Aside0.mk (newE w11)
    have HA11 := Aside0.mk ((Below.refl _ w11).alloc (Nat.le_refl _) (.cells #[] 36))
    have HR11 := Aside0.mk (Kd.C_below HR1.out HB11.out)
    go_upto_region 17 with (at_builtin; refine Kd.R_append_rows k36 (w0 := w11) w11.heap.size rfl _ _ 22 36 _ 56 rfl Try.underlying22 info36 rfl (by decide) (by decide) _ [] l1 (some ad) l1.length _ (fun _ => True) (fun _ => False) rfl rfl HN11.out (Kd.C_below HR11.out HA11.out) (fun x cs h => kE_KM x cs h) (fun _ h => h.elim) (fun _ _ => trivial) HA11.out (by simp) (by simp; omega) ?_; intro v12 w12 hown12 hb12 _ _)
    rw [List.nil_append] at hown12
    obtain ⟨g12, cap12, rfl, hg12, hrow12⟩ := ofR_ne hown12 HNE.out
    have hcap12 := hrow12.C.2
    have HW12 := Aside0.mk hrow12
    have HB12 := Aside0.mk hb12
    have HG12 := Aside0.mk hg12
    clear hown12 hrow12 hb12 hg12 HN11 HA11 HR11
    go_wp2_with fail
    have HKN : Aside0 (∀ e ∈ l1, 0 ≤ e.f1 ∧ e.f1 ≤ 16777216) := ⟨fun e he => (right_ok (HRT.out e he).1 (List.all_eq_true.1 HOE.out e he)).2.1⟩
    go_loopg [23] l1.length (fun kq v23 wr => ∃ j : Nat, v23 = .int .i64 j ∧ Aside0 (j + kq = l1.length) ∧ Aside0 (RowE wr g12 cap12 (earlierTo l1 j)) ∧ Aside0 (Below w11.heap.size w11 wr))
    case atStart => exact ⟨0, rfl, ⟨by omega⟩, HW12, HB12⟩
    case round =>
      obtain ⟨j, rfl, HK, HRr, HW⟩ := hrel
      obtain ⟨ko, rfl⟩ : ∃ ko, ko = gk := ⟨_, rfl⟩
      by_cases cj : j < l1.length
      · have hy := List.getElem?_eq_getElem cj
        have hyk := HKN.out _ (List.getElem_mem cj)
        have HY := Aside0.mk hy
        generalize l1[j] = y at hy hyk HY
        obtain ⟨_, q1, _, _, _, _, _⟩ := HRr.out.seven (earlierTo_at hy)
        have z1 := HRr.out.frozen (j * 7 + 1)
        have HS := Aside0.mk (HRr.out.set1 (i := 1) (u := .int .i64 (y.f1 - 1)) (y := withKn y (y.f1 - 1)) (earlierTo_at hy) (by omega) rfl)
        clear hy
        go_wp2_with fail
        go_roundg (ko - 1)
        case measure => have := HK.out; omega
        case rel => exact ⟨j + 1, by go_num, ⟨by have := HK.out; omega⟩, ⟨by rw [← earlierTo_set HY.out]; exact HS.out⟩, ⟨HW.out.setCell (p := ⟨g12, j * 7 + 1, none⟩) HG12.out _⟩⟩
      · have ej : j = l1.length := by have := HK.out; omega
        subst ej
        have HRd := HRr
        rw [earlierTo_end] at HRd
        have HB13 := Aside0.mk (HB11.out.trans (HW.out.mono HB11.out.size))
        have HC13 := Aside0.mk (Kd.C_below HC11.out HW.out)
        have HOD := Aside0.mk (earlier_ok HOE.out HKN.out)
        clear HRr HW HB11 HC11 HW12 HB12 HK
        go_wp2_with fail
        go_at_call 9
        refine (post_calls (l := L) (e := earlier l1) (by omega) (by rw [earlier_len]; omega) hlok.out HOD.out A3 c3 (some ⟨g12, 0, none⟩) cap12 l1.length (earlier_len l1).symm _ HC13.out hc3 HRd.out.C.1 HRd.out.C.2).mono ?_
        rintro e w14 ⟨v14, rfl, hb14⟩
        have HB14 := Aside0.mk (HB13.out.trans (hb14.mono HB13.out.size))
        have HC14 := Aside0.mk (Kd.C_below HC13.out hb14)
        have HD14 := Aside0.mk (HRd.out.below hb14)
        clear hb14 HB13 HC13 HRd HOD
        generalize (postOf L (earlier l1)).2 = r4 at P4 ⊢
        go_wp2_with fail
        have HRe := Aside0.mk (Kd.C_below HR1.out HB14.out)
        have hrd : rd_T36 l1 (i : Int) = x := by
          have := HX.out
          unfold rd_T36
          rw [Int.toNat_natCast, List.getD_eq_getElem?_getD, this]
          rfl
        obtain ⟨ad', e, _, _, _, _, p4, _, _⟩ := at_T36 HRe.out (i : Int) (by omega) (by omega)
        obtain rfl : ad = ad' := by injection e
        rw [hrd] at p4
        simp only [Int.toNat_natCast] at p4
        clear hrd e
        have hd0 : ∃ z, (earlier l1)[0]? = some z ∧ z.f1 = (l1.getD 0 z36).f1 - 1 := by
          have h0 : 0 < l1.length := by omega
          refine ⟨(earlier l1)[0]'(by rw [earlier_len]; exact h0), List.getElem?_eq_getElem _, ?_⟩
          simp [earlier, withKn, List.getD_eq_getElem?_getD, List.getElem?_eq_getElem h0]
        obtain ⟨z, hz, hzk⟩ := hd0
        obtain ⟨_, d1, _, _, _, _, _⟩ := HD14.out.seven hz
        rw [Nat.zero_mul, Nat.zero_add] at d1
        rw [← hzk] at P4
        clear hz hzk
        generalize z.f1 = dk at d1 P4
        clear HD14 HX
        have hn0 : 0 < l1.length := by omega
        by_cases hl0 : L = []
        · have ht : decide (0 < (L.length : Int)) = false := by simp [hl0]
          have ht' : decide (0 < L.length) = false := by simp [hl0]
          clear hl0
          go_quiet (fail)
          by_cases e4 : x.f4 = 0
          · have f4b : (x.f4 != 0) = false := by simp [e4]
            by_cases e1 : l1.length = 1
            · skip
              have hr2 : (r2 == 1) = true := by have := P2.out; rw [decide_eq_false (by simpa using e4 : ¬ x.f4 ≠ 0), decide_eq_true e1] at this; simpa using this
              have e1b : ((l1.length : Int) == 1) = true := by simp; omega
              clear e4 e1
              go_wp2_with fail
              go_ret
              exact ⟨rfl, by have := HB14.out; first | exact this | exact pw_below_drewN this _⟩
            · skip
              have hr2 : (r2 == 1) = false := by have := P2.out; rw [decide_eq_false (by simpa using e4 : ¬ x.f4 ≠ 0), decide_eq_false e1] at this; simpa using this
              have e1b : ((l1.length : Int) == 1) = false := by simp; omega
              have hr3 : (r3 == 1) = true := by have := P3.out e1; simpa using this
              clear e4 e1
              go_wp2_with fail
              go_ret
              exact ⟨rfl, by have := HB14.out; first | exact this | exact pw_below_drewN this _⟩
          · have f4b : (x.f4 != 0) = true := by simpa using e4
            by_cases e1 : l1.length = 1
            · skip
              have hr2 : (r2 == 1) = true := by have := P2.out; rw [decide_eq_true (by simpa using e4 : x.f4 ≠ 0), decide_eq_true e1] at this; simpa using this
              have e1b : ((l1.length : Int) == 1) = true := by simp; omega
              clear e4 e1
              go_wp2_with fail
              go_ret
              exact ⟨rfl, by have := HB14.out; first | exact this | exact pw_below_drewN this _⟩
            · skip
              have hr2 : (r2 == 1) = true := by have := P2.out; rw [decide_eq_true (by simpa using e4 : x.f4 ≠ 0), decide_eq_false e1] at this; simpa using this
              have e1b : ((l1.length : Int) == 1) = false := by simp; omega
              have hr3 : (r3 == 1) = true := by have := P3.out e1; simpa using this
              clear e4 e1
              go_wp2_with fail
              go_ret
              exact ⟨rfl, by have := HB14.out; first | exact this | exact pw_below_drewN this _⟩
        · have hlp : 0 < L.length := List.length_pos_iff.2 hl0
          have HNL := Aside0.mk hl0
          have e9 : ((L.length : Int) - 1).toNat = L.length - 1 := by omega
          obtain ⟨ad0, e, _, q1, _, _, _, _, _⟩ := at_T36 HC14.out ((L.length : Int) - 1) (by omega) (by omega)
          cases e
          have hrl : rd_T36 L ((L.length : Int) - 1) = L.getD (L.length - 1) z36 := by unfold rd_T36; rw [e9]
          rw [hrl, e9] at q1
          have ht : decide (0 < (L.length : Int)) = true := by simp; omega
          have ht' : decide (0 < L.length) = true := by simpa using hlp
          clear hrl e9 hl0
          generalize L.getD (L.length - 1) z36 = xl at q1 P4
          by_cases hk0 : 0 ≤ dk
          · have k0b : decide (0 ≤ dk) = true := decide_eq_true hk0
            by_cases hlt : dk < xl.f1
            · have hlb : decide (dk < xl.f1) = true := decide_eq_true hlt
              have hr4 : (r4 == 15) = true := by have := P4.out HNL.out hk0 hlt; simpa using this
              go_quiet (fail)
              by_cases e4 : x.f4 = 0
              · have f4b : (x.f4 != 0) = false := by simp [e4]
                by_cases e1 : l1.length = 1
                · skip
                  have hr2 : (r2 == 1) = true := by have := P2.out; rw [decide_eq_false (by simpa using e4 : ¬ x.f4 ≠ 0), decide_eq_true e1] at this; simpa using this
                  have e1b : ((l1.length : Int) == 1) = true := by simp; omega
                  clear e4 e1
                  go_wp2_with fail
                  go_ret
                  exact ⟨rfl, by have := HB14.out; first | exact this | exact pw_below_drewN this _⟩
                · skip
                  have hr2 : (r2 == 1) = false := by have := P2.out; rw [decide_eq_false (by simpa using e4 : ¬ x.f4 ≠ 0), decide_eq_false e1] at this; simpa using this
                  have e1b : ((l1.length : Int) == 1) = false := by simp; omega
                  have hr3 : (r3 == 1) = true := by have := P3.out e1; simpa using this
                  clear e4 e1
                  go_wp2_with fail
                  go_ret
                  exact ⟨rfl, by have := HB14.out; first | exact this | exact pw_below_drewN this _⟩
              · have f4b : (x.f4 != 0) = true := by simpa using e4
                by_cases e1 : l1.length = 1
                · skip
                  have hr2 : (r2 == 1) = true := by have := P2.out; rw [decide_eq_true (by simpa using e4 : x.f4 ≠ 0), decide_eq_true e1] at this; simpa using this
                  have e1b : ((l1.length : Int) == 1) = true := by simp; omega
                  clear e4 e1
                  go_wp2_with fail
                  go_ret
                  exact ⟨rfl, by have := HB14.out; first | exact this | exact pw_below_drewN this _⟩
                · skip
                  have hr2 : (r2 == 1) = true := by have := P2.out; rw [decide_eq_true (by simpa using e4 : x.f4 ≠ 0), decide_eq_false e1] at this; simpa using this
                  have e1b : ((l1.length : Int) == 1) = false := by simp; omega
                  have hr3 : (r3 == 1) = true := by have := P3.out e1; simpa using this
                  clear e4 e1
                  go_wp2_with fail
                  go_ret
                  exact ⟨rfl, by have := HB14.out; first | exact this | exact pw_below_drewN this _⟩
            · have hlb : decide (dk < xl.f1) = false := decide_eq_false hlt
              go_quiet (fail)
              by_cases e4 : x.f4 = 0
              · have f4b : (x.f4 != 0) = false := by simp [e4]
                by_cases e1 : l1.length = 1
                · skip
                  have hr2 : (r2 == 1) = true := by have := P2.out; rw [decide_eq_false (by simpa using e4 : ¬ x.f4 ≠ 0), decide_eq_true e1] at this; simpa using this
                  have e1b : ((l1.length : Int) == 1) = true := by simp; omega
                  clear e4 e1
                  go_wp2_with fail
                  go_ret
                  exact ⟨rfl, by have := HB14.out; first | exact this | exact pw_below_drewN this _⟩
                · skip
                  have hr2 : (r2 == 1) = false := by have := P2.out; rw [decide_eq_false (by simpa using e4 : ¬ x.f4 ≠ 0), decide_eq_false e1] at this; simpa using this
                  have e1b : ((l1.length : Int) == 1) = false := by simp; omega
                  have hr3 : (r3 == 1) = true := by have := P3.out e1; simpa using this
                  clear e4 e1
                  go_wp2_with fail
                  go_ret
                  exact ⟨rfl, by have := HB14.out; first | exact this | exact pw_below_drewN this _⟩
              · have f4b : (x.f4 != 0) = true := by simpa using e4
                by_cases e1 : l1.length = 1
                · skip
                  have hr2 : (r2 == 1) = true := by have := P2.out; rw [decide_eq_true (by simpa using e4 : x.f4 ≠ 0), decide_eq_true e1] at this; simpa using this
                  have e1b : ((l1.length : Int) == 1) = true := by simp; omega
                  clear e4 e1
                  go_wp2_with fail
                  go_ret
                  exact ⟨rfl, by have := HB14.out; first | exact this | exact pw_below_drewN this _⟩
                · skip
                  have hr2 : (r2 == 1) = true := by have := P2.out; rw [decide_eq_true (by simpa using e4 : x.f4 ≠ 0), decide_eq_false e1] at this; simpa using this
                  have e1b : ((l1.length : Int) == 1) = false := by simp; omega
                  have hr3 : (r3 == 1) = true := by have := P3.out e1; simpa using this
                  clear e4 e1
                  go_wp2_with fail
                  go_ret
                  exact ⟨rfl, by have := HB14.out; first | exact this | exact pw_below_drewN this _⟩
          · have k0b : decide (0 ≤ dk) = false := decide_eq_false hk0
            go_quiet (fail)
            by_cases e4 : x.f4 = 0
            · have f4b : (x.f4 != 0) = false := by simp [e4]
              by_cases e1 : l1.length = 1
              · skip
                have hr2 : (r2 == 1) = true := by have := P2.out; rw [decide_eq_false (by simpa using e4 : ¬ x.f4 ≠ 0), decide_eq_true e1] at this; simpa using this
                have e1b : ((l1.length : Int) == 1) = true := by simp; omega
                clear e4 e1
                go_wp2_with fail
                go_ret
                exact ⟨rfl, by have := HB14.out; first | exact this | exact pw_below_drewN this _⟩
              · skip
                have hr2 : (r2 == 1) = false := by have := P2.out; rw [decide_eq_false (by simpa using e4 : ¬ x.f4 ≠ 0), decide_eq_false e1] at this; simpa using this
                have e1b : ((l1.length : Int) == 1) = false := by simp; omega
                have hr3 : (r3 == 1) = true := by have := P3.out e1; simpa using this
                clear e4 e1
                go_wp2_with fail
                go_ret
                exact ⟨rfl, by have := HB14.out; first | exact this | exact pw_below_drewN this _⟩
            · have f4b : (x.f4 != 0) = true := by simpa using e4
              by_cases e1 : l1.length = 1
              · skip
                have hr2 : (r2 == 1) = true := by have := P2.out; rw [decide_eq_true (by simpa using e4 : x.f4 ≠ 0), decide_eq_true e1] at this; simpa using this
                have e1b : ((l1.length : Int) == 1) = true := by simp; omega
                clear e4 e1
                go_wp2_with fail
                go_ret
                exact ⟨rfl, by have := HB14.out; first | exact this | exact pw_below_drewN this _⟩
              · skip
                have hr2 : (r2 == 1) = true := by have := P2.out; rw [decide_eq_true (by simpa using e4 : x.f4 ≠ 0), decide_eq_false e1] at this; simpa using this
                have e1b : ((l1.length : Int) == 1) = false := by simp; omega
                have hr3 : (r3 == 1) = true := by have := P3.out e1; simpa using this
                clear e4 e1
                go_wp2_with fail
                go_ret
                exact ⟨rfl, by have := HB14.out; first | exact this | exact pw_below_drewN this _⟩
theorem pureLedgerRefuses (ls : List (List S36)) (e : List S36) (i n : Int) (hok : ls.all okL = true) (hl : ls.length ≤ 9223372036854775807) (he : okL e = true) (_ : e.length * 56 ≤ 140737488351232) (_ : (Lit.int .i64 i).wf = true) (_ : (Lit.int .i64 n).wf = true) :
    ∃ k, bournelaw39_LedgerRefuses.f k ls e i n = some true := ⟨0, by
  unfold bournelaw39_LedgerRefuses.f
  rw [if_pos hok, if_pos hl, if_pos he]⟩
end Go.Proofs.Ytlmjopodghikgaa.Print
