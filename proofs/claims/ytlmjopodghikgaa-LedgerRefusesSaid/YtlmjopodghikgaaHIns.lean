/- slices.insertionSortCmpFunc at entries: a run of a row is sorted stably. -/
import Derived.Test.YtlmjopodghikgaaHSwap
import Derived.Test.YtlmjopodghikgaaHStable
import Derived.Lib.QuietBelow
import Derived.BigQuiet
namespace Go.Proofs.Ytlmjopodghikgaa.Print
open Go.RowKit Go.Proofs.YtlmjopodghikgaaW.PrintWords Go.Proofs.Ytlmjopodghikgaa.Stable
set_option linter.unusedVariables false
set_option linter.unusedSimpArgs false

def keyCmp (key : S36 → Int) (x y : S36) : Int := if key x < key y then -1 else if key y < key x then 1 else 0
theorem keyCmp_neg (key : S36 → Int) (x y : S36) : keyCmp key x y < 0 ↔ key x < key y := by
  unfold keyCmp
  split
  · simp [*]
  · split <;> simp <;> omega
/-- A function that compares two entries by a key. -/
def CmpB (gc : Nat) (key : S36 → Int) : Prop :=
  ∀ x y W, Calls Try.prog gc #[.agg #[.int .i64 x.f0, .int .i64 x.f1, .int .i64 x.f2, .int .i64 x.f3, .int .i64 x.f4, .int .i64 x.f5, .int .i64 x.f6], .agg #[.int .i64 y.f0, .int .i64 y.f1, .int .i64 y.f2, .int .i64 y.f3, .int .i64 y.f4, .int .i64 y.f5, .int .i64 y.f6]] W fun e w' => e = .returned (.int .i64 (keyCmp key x y)) ∧ Below W.heap.size W w'

theorem ins_step {key : S36 → Int} {xs l1 l2 : List S36} {x : S36} (h : StableOf key xs (l1 ++ l2)) (h1 : ∀ y, l1[l1.length - 1]? = some y → key y ≤ key x) (h2 : ∀ y ∈ l2, key x < key y) : StableOf key (xs ++ [x]) (l1 ++ x :: l2) := by
  have hl : ∀ y ∈ l1, key y ≤ key x := fun y hy => by
    have hne : l1 ≠ [] := fun e => by subst e; cases hy
    have hlt : l1.length - 1 < l1.length := by have := List.length_pos_iff.2 hne; omega
    have := le_last (srt_left h.srt) (List.getElem?_eq_getElem hlt) hy
    exact Int.le_trans this (h1 _ (List.getElem?_eq_getElem hlt))
  refine ⟨?_, ?_⟩
  · refine srt_append (srt_left h.srt) ?_ fun a ha b hb => ?_
    · exact List.pairwise_cons.2 ⟨fun y hy => Int.le_of_lt (h2 y hy), srt_right h.srt⟩
    · rcases List.mem_cons.1 hb with rfl | hb
      · exact hl a ha
      · exact srt_cross h.srt a ha b hb
  · have e : Same key (l1 ++ l2 ++ [x]) (l1 ++ x :: l2) := by
      have := (Same.refl (key := key) l1).append (same_swap (u := l2) (v := [x]) (fun a ha b hb => by rw [List.mem_singleton.1 ha]; exact h2 b hb))
      simpa [List.append_assoc] using this
    exact (h.same.append (Same.refl [x])).trans e

theorem swap_adj {α : Type} (A Z : List α) (x y : α) (j : Nat) (hj : A.length = j) : ((A ++ y :: x :: Z).set (j + 1) y).set j x = A ++ x :: y :: Z := by
  subst hj
  rw [List.set_append_right _ _ (by omega), show A.length + 1 - A.length = 1 by omega]
  simp

set_option maxHeartbeats 4000000 in
set_option maxRecDepth 100000 in
theorem insertionF (key : S36 → Int) (gc : Nat) (eg : ∀ args w, (callFunc gc args).run Try.prog w = .ok (.enter gc args) w) (hcmp : CmpB gc key) (w : World) (g cap B : Nat) (hg : B ≤ g) (hB : B ≤ w.heap.size) (X s Y : List S36) (hr : RowE w g cap (X ++ s ++ Y)) (a b len : Nat) (ha : a = X.length) (hb : b = X.length + s.length) (hl : len = (X ++ s ++ Y).length) (hsm : len < 4611686018427387904) :
    Calls Try.prog 46 #[.slice (some ⟨g, 0, none⟩) len cap, .int .i64 a, .int .i64 b, .func (.func gc) #[] #[]] w fun e w' => e = .returned (.tuple #[]) ∧ (∃ s', StableOf key s s' ∧ RowE w' g cap (X ++ s' ++ Y)) ∧ Below B w w' := by
  have hle := hr.len
  have hlen : len = X.length + s.length + Y.length := by rw [hl]; simp; omega
  have b2 : a ≤ b := by omega
  have b3 : b ≤ len := by omega
  have HR := Aside0.mk hr
  have HC := Aside0.mk hcmp
  have HM := Aside0.mk (show a = X.length ∧ b = X.length + s.length ∧ len = (X ++ s ++ Y).length from ⟨ha, hb, hl⟩)
  clear hr hle ha hb hl hlen hcmp
  go_enter Try.func46, Try.ntmps46
  go_wp2_with fail
  go_loopg [8, 9] (b - a) (fun kq v8 _ wr => ∃ (i : Nat) (t1 s2 : List S36), v8 = .int .i64 i ∧ Aside0 (a < i ∧ b + 1 - i ≤ kq + 1 ∧ s = s.take (i - a) ++ s2 ∧ StableOf key (s.take (i - a)) t1) ∧ Aside0 (RowE wr g cap (X ++ t1 ++ s2 ++ Y)) ∧ Aside0 (Below B w wr))
  case atStart =>
    refine ⟨a + 1, s.take 1, s.drop 1, by go_num, ⟨by omega, by omega, by rw [show a + 1 - a = 1 by omega, List.take_append_drop], by
      rw [show a + 1 - a = 1 by omega]
      refine ⟨?_, Same.refl _⟩
      cases s with
      | nil => exact List.Pairwise.nil
      | cons x s => exact List.pairwise_singleton _ _⟩, ⟨?_⟩, ⟨Below.refl _ _⟩⟩
    have := HR.out
    rw [← List.take_append_drop 1 s] at this
    simpa using this
  case round =>
    obtain ⟨i, t1, s2, rfl, HK, HRow, HW⟩ := hrel
    obtain ⟨ko, rfl⟩ : ∃ ko, ko = gk := ⟨_, rfl⟩
    by_cases c2 : i < b
    · have hs2 : ∃ x s3, s2 = x :: s3 := by
        cases s2 with
        | nil =>
          exfalso
          have h := HK.out
          have h2 := congrArg List.length h.2.2.1
          have := HM.out
          simp at h2
          omega
        | cons x s3 => exact ⟨x, s3, rfl⟩
      obtain ⟨x, s3, rfl⟩ := hs2
      have ht1 : Aside0 (t1.length = i - a) := ⟨by
        have h := HK.out
        have h2 := h.2.2.2.same.length
        have := HM.out
        rw [h2, List.length_take]
        omega⟩
      have i1 : a < i := HK.out.1
      go_wp2_with fail
      go_loopg [9] (i - a) (fun kr v9 wq => ∃ (j : Nat) (l1 l2 : List S36), v9 = .int .i64 j ∧ Aside0 (j = a + l1.length ∧ j ≤ i ∧ l1.length ≤ kr ∧ t1 = l1 ++ l2 ∧ ∀ y ∈ l2, key x < key y) ∧ Aside0 (RowE wq g cap (X ++ l1 ++ x :: (l2 ++ s3 ++ Y))) ∧ Aside0 (Below B w wq))
      case atStart => exact ⟨i, t1, [], rfl, ⟨by have := ht1.out; omega, by omega, by have := ht1.out; omega, by simp, by simp⟩, ⟨by simpa using HRow.out⟩, HW⟩
      case round =>
        obtain ⟨j, l1, l2, rfl, HJ, HRq, HWq⟩ := hrel
        have hout : Aside0 ((∀ y, l1[l1.length - 1]? = some y → key y ≤ key x) → a < i + 1 ∧ b + 1 - (i + 1) ≤ (ko - 1) + 1 ∧ s = s.take (i + 1 - a) ++ s3 ∧ StableOf key (s.take (i + 1 - a)) (l1 ++ x :: l2)) := ⟨fun hy => by
          have h := HK.out
          have hj := HJ.out
          have e : s.take (i + 1 - a) = s.take (i - a) ++ [x] := by
            have hlt : i - a < s.length := by have := HM.out; omega
            rw [show i + 1 - a = (i - a) + 1 by omega, List.take_succ_eq_append_getElem hlt]
            congr 1
            have h3 := h.2.2.1
            have h4 : s[i - a]? = some x := by
              rw [h3, List.getElem?_append_right (by rw [List.length_take]; omega), List.length_take, show i - a - min (i - a) s.length = 0 by omega]
              rfl
            rw [List.getElem?_eq_getElem hlt] at h4
            injection h4 with h4
            rw [h4]
          refine ⟨by omega, by omega, ?_, ?_⟩
          · rw [e, List.append_assoc, List.singleton_append]
            exact h.2.2.1
          · rw [e]
            have hst := h.2.2.2
            rw [hj.2.2.2.1] at hst
            exact ins_step hst hy hj.2.2.2.2⟩
        by_cases c3 : a < j
        · obtain ⟨jp, rfl⟩ : ∃ jp, j = jp + 1 := ⟨j - 1, by omega⟩
          have hl1 : ∃ l3 y, l1 = l3 ++ [y] := by
            rcases List.eq_nil_or_concat l1 with e | ⟨l3, y, e⟩
            · exfalso; have := HJ.out; rw [e] at this; simp at this; omega
            · exact ⟨l3, y, by simpa using e⟩
          obtain ⟨l3, y, rfl⟩ := hl1
          have hja : Aside0 (jp = a + l3.length) := ⟨by have := HJ.out.1; simp at this; omega⟩
          have ey : (X ++ (l3 ++ [y]) ++ x :: (l2 ++ s3 ++ Y))[jp]? = some y := by
            have := HM.out
            rw [show X ++ (l3 ++ [y]) ++ x :: (l2 ++ s3 ++ Y) = (X ++ l3) ++ y :: (x :: (l2 ++ s3 ++ Y)) by simp, List.getElem?_append_right (by have := hja.out; simp; omega), show jp - (X ++ l3).length = 0 by have := hja.out; simp; omega]
            rfl
          have ex : (X ++ (l3 ++ [y]) ++ x :: (l2 ++ s3 ++ Y))[jp + 1]? = some x := by
            have := HM.out
            rw [show X ++ (l3 ++ [y]) ++ x :: (l2 ++ s3 ++ Y) = (X ++ l3 ++ [y]) ++ x :: (l2 ++ s3 ++ Y) by simp, List.getElem?_append_right (by have := hja.out; simp; omega), show jp + 1 - (X ++ l3 ++ [y]).length = 0 by have := hja.out; simp; omega]
            rfl
          have hji : jp + 1 < len := by have := HJ.out; omega
          obtain ⟨y0, y1, y2, y3, y4, y5, y6⟩ := HRq.out.seven ey
          obtain ⟨x0, x1, x2, x3, x4, x5, x6⟩ := HRq.out.seven ex
          have HEX := Aside0.mk ex
          have HEY := Aside0.mk ey
          clear ex ey
          replace y0 := cell_regrown y0
          replace y1 := cell_regrown y1
          replace y2 := cell_regrown y2
          replace y3 := cell_regrown y3
          replace y4 := cell_regrown y4
          replace y5 := cell_regrown y5
          replace y6 := cell_regrown y6
          replace x0 := cell_regrown x0
          replace x1 := cell_regrown x1
          replace x2 := cell_regrown x2
          replace x3 := cell_regrown x3
          replace x4 := cell_regrown x4
          replace x5 := cell_regrown x5
          replace x6 := cell_regrown x6
          have CR := Aside0.mk (fun d os => Calls.regrown_of (d := d) (os := os) (w := wr) (HC.out x y _))
          by_cases hlt : key x < key y
          · have hneg : keyCmp key x y < 0 := (keyCmp_neg key x y).2 hlt
            have HLT := Aside0.mk hlt
            generalize keyCmp key x y = cv at CR hneg
            have g1 : decide ((a : Int) < (jp : Int) + 1) = true := by simp; omega
            have g2 : decide (a < jp + 1) = true := by simpa using c3
            go_wp2_with fail
            refine wp_region_quiet_below (by kernel_rfl) (by kernel_rfl) ?_
            repeat (go_big_quiet_step (exact CR.out _ _))
            refine wpQuiet_nil ?_
            intro _ hw'
            obtain ⟨⟨dq, osq⟩, hw''⟩ := hw'
            have hbz := below_regrown wr dq osq
            rw [← hw''] at hbz
            have HRz := Aside0.mk (HRq.out.below hbz)
            have HWz := Aside0.mk (HWq.out.trans (hbz.mono (Nat.le_trans hB HWq.out.size)))
            clear hw'' hbz y0 y1 y2 y3 y4 y5 y6 x0 x1 x2 x3 x4 x5 x6
            rename_i wz
            obtain ⟨y0, y1, y2, y3, y4, y5, y6⟩ := HRz.out.seven HEY.out
            obtain ⟨x0, x1, x2, x3, x4, x5, x6⟩ := HRz.out.seven HEX.out
            have fr := HRz.out.frozen
            go_wp2_with fail
            go_big_region
            all_goals go_wp2_with fail
            all_goals
              go_roundg (gk - 1)
              case measure => have := HJ.out; simp at this; omega
              case rel =>
                have hj := HJ.out
                have hm := HM.out
                have hlen2 : (X ++ (l3 ++ [y]) ++ x :: (l2 ++ s3 ++ Y)).length > jp + 1 := (List.getElem?_eq_some_iff.1 HEX.out).1
                obtain ⟨hs, hbl⟩ := HRz.out.swap hg (s := jp + 1) (t := jp) hlen2 (by omega) x y
                rw [show X ++ (l3 ++ [y]) ++ x :: (l2 ++ s3 ++ Y) = (X ++ l3) ++ y :: x :: (l2 ++ s3 ++ Y) by simp, swap_adj _ _ _ _ _ (by have := hja.out; simp; omega)] at hs
                have hs2 := Aside0.mk hs
                have hb2 := Aside0.mk (HWz.out.trans hbl)
                unfold put7 at hs2 hb2
                rw [show (X ++ l3) ++ x :: y :: (l2 ++ s3 ++ Y) = X ++ l3 ++ x :: ((y :: l2) ++ s3 ++ Y) by simp] at hs2
                refine ⟨jp, l3, y :: l2, by go_num, ⟨hja.out, by omega, by simp at hj; omega, by rw [hj.2.2.2.1]; simp, fun z hz => ?_⟩, hs2, hb2⟩
                rcases List.mem_cons.1 hz with rfl | hz
                · exact HLT.out
                · exact hj.2.2.2.2 z hz
          · have hneg : ¬ keyCmp key x y < 0 := fun h => hlt ((keyCmp_neg key x y).1 h)
            have HLT := Aside0.mk (hout.out (fun z hz => by
              have : y = z := by simpa using hz
              subst this
              omega))
            clear hlt
            generalize keyCmp key x y = cv at CR hneg
            have g1 : decide ((a : Int) < (jp : Int) + 1) = true := by simp; omega
            have g2 : decide (a < jp + 1) = true := by simpa using c3
            go_wp2_with fail
            refine wp_region_quiet_below (by kernel_rfl) (by kernel_rfl) ?_
            repeat (go_big_quiet_step (exact CR.out _ _))
            refine wpQuiet_nil ?_
            intro _ hw'
            obtain ⟨⟨dq, osq⟩, hw''⟩ := hw'
            have hbz := below_regrown wr dq osq
            rw [← hw''] at hbz
            have HRz := Aside0.mk (HRq.out.below hbz)
            have HWz := Aside0.mk (HWq.out.trans (hbz.mono (Nat.le_trans hB HWq.out.size)))
            clear hw'' hbz y0 y1 y2 y3 y4 y5 y6 x0 x1 x2 x3 x4 x5 x6
            go_wp2_with fail
            go_roundg (ko - 1)
            case measure => have := HK.out; omega
            case rel => exact ⟨i + 1, _, s3, by go_num, HLT, ⟨by have := HRz.out; simpa using this⟩, HWz⟩
        · have g1 : decide ((a : Int) < (j : Int)) = false := by simp; omega
          have g2 : decide (a < j) = false := by simpa using c3
          have HLT := Aside0.mk (hout.out (fun z hz => by
            have h0 : l1 = [] := List.length_eq_zero_iff.1 (by have := HJ.out; omega)
            subst h0
            cases hz))
          go_wp2_with fail
          go_quiet (fail)
          have HWz : Aside0 (Below B w (wr.drewN nq)) := ⟨HWq.out.trans ((Drawn0.mk ⟨nq, rfl⟩ : Drawn0 wr (wr.drewN nq)).below.mono (Nat.le_trans hB HWq.out.size))⟩
          have HRz : Aside0 (RowE (wr.drewN nq) g cap (X ++ l1 ++ x :: (l2 ++ s3 ++ Y))) := ⟨HRq.out.move rfl⟩
          go_wp2_with fail
          go_roundg (ko - 1)
          case measure => have := HK.out; omega
          case rel => exact ⟨i + 1, _, s3, by go_num, HLT, ⟨by have := HRz.out; simpa using this⟩, HWz⟩
    · go_wp2_with fail
      go_end0
      have h := HK.out
      have hm := HM.out
      have h2 := congrArg List.length h.2.2.1
      have h0 : s2 = [] := List.length_eq_zero_iff.1 (by simp at h2; omega)
      have e : s.take (i - a) = s := List.take_of_length_le (by omega)
      rw [e] at h
      refine ⟨rfl, ⟨t1, h.2.2.2, ?_⟩, HW.out⟩
      have := HRow.out
      rw [h0] at this
      simpa using this
end Go.Proofs.Ytlmjopodghikgaa.Print
