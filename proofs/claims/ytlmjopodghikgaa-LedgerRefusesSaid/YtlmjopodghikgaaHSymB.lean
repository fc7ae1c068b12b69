/- slices.symMergeCmpFunc at entries, where the right run has one entry. -/
import Derived.Test.YtlmjopodghikgaaHSymA
namespace Go.Proofs.Ytlmjopodghikgaa.Print
open Go.RowKit Go.Proofs.YtlmjopodghikgaaW.PrintWords Go.Proofs.Ytlmjopodghikgaa.Stable
set_option linter.unusedVariables false
set_option linter.unusedSimpArgs false

set_option maxHeartbeats 4000000 in
set_option maxRecDepth 100000 in
theorem symTwo (key : S36 → Int) (gc : Nat) (eg : ∀ args w, (callFunc gc args).run Try.prog w = .ok (.enter gc args) w) (hcmp : CmpB gc key) (w : World) (g cap B : Nat) (hg : B ≤ g) (hB : B ≤ w.heap.size) (X u Y : List S36) (x : S36) (su : Srt key u) (hr : RowE w g cap (X ++ u ++ x :: Y)) (hu2 : 2 ≤ u.length) (a m b len : Nat) (ha : a = X.length) (hm : m = X.length + u.length) (hb : b = m + 1) (hl : len = (X ++ u ++ x :: Y).length) (hsm : len < 4611686018427387904) :
    Calls Try.prog 47 #[.slice (some ⟨g, 0, none⟩) len cap, .int .i64 a, .int .i64 m, .int .i64 b, .func (.func gc) #[] #[]] w fun e w' => e = .returned (.tuple #[]) ∧ (∃ s, StableOf key (u ++ [x]) s ∧ RowE w' g cap (X ++ s ++ Y)) ∧ Below B w w' := by
  have hle := hr.len
  have hlen : len = X.length + u.length + 1 + Y.length := by rw [hl]; simp; omega
  have b1 : a < m := by omega
  have b2 : m < b := by omega
  have b3 : b ≤ len := by omega
  have ht : ((m : Int) - (a : Int) == 1) = false := by simp; omega
  have ht2 : ((b : Int) - (m : Int) == 1) = true := by simp; omega
  have HR := Aside0.mk hr
  have HC := Aside0.mk hcmp
  have HM := Aside0.mk (show a = X.length ∧ m = a + u.length ∧ b = m + 1 ∧ len = X.length + u.length + 1 + Y.length from ⟨ha, by omega, by omega, hlen⟩)
  have HSU := Aside0.mk su
  have ex : (X ++ u ++ x :: Y)[m]? = some x := by rw [List.getElem?_append_right (by simp; omega), show m - (X ++ u).length = 0 by simp; omega]; rfl
  have HEX := Aside0.mk ex
  have hv : Aside0 (∀ k, a ≤ k → k < m → ∃ y, u[k - a]? = some y ∧ (X ++ u ++ x :: Y)[k]? = some y) := ⟨fun k h1 h2 => by
    have hk : k - a < u.length := by omega
    refine ⟨_, List.getElem?_eq_getElem hk, ?_⟩
    rw [List.append_assoc, List.getElem?_append_right (by omega), show k - X.length = k - a by omega, List.getElem?_append_left hk, List.getElem?_eq_getElem hk]⟩
  clear hr hle ha hm hb hl hlen hcmp su ex hu2
  go_enter Try.func47, Try.ntmps47
  go_wp2_with fail
  go_loopg [14, 15, 16] (m - a) (fun kq v10 v11 _ wr => ∃ (lo hi : Nat), v10 = .int .i64 lo ∧ v11 = .int .i64 hi ∧ a ≤ lo ∧ lo ≤ hi ∧ hi ≤ m ∧ Aside0 (hi - lo ≤ kq) ∧ Aside0 (lo = a ∨ ∃ y, u[lo - a - 1]? = some y ∧ key y ≤ key x) ∧ Aside0 (hi = m ∨ ∃ y, u[hi - a]? = some y ∧ key x < key y) ∧ Aside0 (RowE wr g cap (X ++ u ++ x :: Y)) ∧ Aside0 (Below B w wr))
  case atStart => exact ⟨a, m, rfl, rfl, Nat.le_refl _, Nat.le_of_lt b1, Nat.le_refl _, ⟨by omega⟩, ⟨.inl rfl⟩, ⟨.inl rfl⟩, HR, ⟨Below.refl _ _⟩⟩
  case round =>
    obtain ⟨lo, hi, rfl, rfl, l1, l2, l3, HK, HLo, HHi, HRow, HW⟩ := hrel
    by_cases c2 : lo < hi
    · go_wp2_with fail
      rw [half]
      have hh1 : lo ≤ (lo + hi) / 2 := by omega
      have hh2 : (lo + hi) / 2 < hi := by omega
      generalize (lo + hi) / 2 = h at hh1 hh2
      obtain ⟨y, hvy, hry⟩ := hv.out h (by omega) (by omega)
      have HVY := Aside0.mk hvy
      have hhl : h < len := by omega
      have hml : m < len := by omega
      clear hvy
      obtain ⟨xc0, xc1, xc2, xc3, xc4, xc5, xc6⟩ := HRow.out.seven HEX.out
      replace xc0 := cell_regrown xc0
      replace xc1 := cell_regrown xc1
      replace xc2 := cell_regrown xc2
      replace xc3 := cell_regrown xc3
      replace xc4 := cell_regrown xc4
      replace xc5 := cell_regrown xc5
      replace xc6 := cell_regrown xc6
      obtain ⟨yc0, yc1, yc2, yc3, yc4, yc5, yc6⟩ := HRow.out.seven hry
      replace yc0 := cell_regrown yc0
      replace yc1 := cell_regrown yc1
      replace yc2 := cell_regrown yc2
      replace yc3 := cell_regrown yc3
      replace yc4 := cell_regrown yc4
      replace yc5 := cell_regrown yc5
      replace yc6 := cell_regrown yc6
      have CR := Aside0.mk (fun d os => Calls.regrown_of (d := d) (os := os) (w := wr) (HC.out x y _))
      by_cases hlt : key x < key y
      · have hneg : keyCmp key x y < 0 := (keyCmp_neg key x y).2 hlt
        have HLT := Aside0.mk hlt
        clear hlt
        generalize keyCmp key x y = cv at CR hneg
        refine wp_region_quiet_below (by kernel_rfl) (by kernel_rfl) ?_
        repeat (go_big_quiet_step (exact CR.out _ _))
        refine wpQuiet_nil ?_
        intro _ hw'
        obtain ⟨⟨dq, osq⟩, hw''⟩ := hw'
        have hbz := below_regrown wr dq osq
        rw [← hw''] at hbz
        have HRz := Aside0.mk (HRow.out.below hbz)
        have HWz := Aside0.mk (HW.out.trans (hbz.mono (Nat.le_trans hB HW.out.size)))
        clear hry hw'' hbz xc0 yc0 xc1 yc1 xc2 yc2 xc3 yc3 xc4 yc4 xc5 yc5 xc6 yc6
        go_wp2_with fail
        go_roundg (gk - 1)
        case measure => have := HK.out; omega
        case rel => exact ⟨lo, h, rfl, rfl, l1, hh1, by omega, ⟨by have := HK.out; omega⟩, HLo, ⟨.inr ⟨y, HVY.out, HLT.out⟩⟩, HRz, HWz⟩
      · have hneg : ¬ keyCmp key x y < 0 := fun h => hlt ((keyCmp_neg key x y).1 h)
        have HLT := Aside0.mk hlt
        clear hlt
        generalize keyCmp key x y = cv at CR hneg
        refine wp_region_quiet_below (by kernel_rfl) (by kernel_rfl) ?_
        repeat (go_big_quiet_step (exact CR.out _ _))
        refine wpQuiet_nil ?_
        intro _ hw'
        obtain ⟨⟨dq, osq⟩, hw''⟩ := hw'
        have hbz := below_regrown wr dq osq
        rw [← hw''] at hbz
        have HRz := Aside0.mk (HRow.out.below hbz)
        have HWz := Aside0.mk (HW.out.trans (hbz.mono (Nat.le_trans hB HW.out.size)))
        clear hry hw'' hbz xc0 yc0 xc1 yc1 xc2 yc2 xc3 yc3 xc4 yc4 xc5 yc5 xc6 yc6
        go_wp2_with fail
        go_roundg (gk - 1)
        case measure => have := HK.out; omega
        case rel => exact ⟨h + 1, hi, by go_num, rfl, by omega, by omega, l3, ⟨by have := HK.out; omega⟩, ⟨.inr ⟨y, by rw [show h + 1 - a - 1 = h - a by omega]; exact HVY.out, by have := HLT.out; omega⟩⟩, HHi, HRz, HWz⟩
    · have e : lo = hi := by omega
      subst e
      have hi1 : lo - a ≤ u.length := by have := HM.out; omega
      have HA1 := Aside0.mk (search_le HSU.out (lo - a) hi1 (key x) (by rcases HLo.out with h | h; exact .inl (by omega); exact .inr h))
      have HA2 := Aside0.mk (search_ge HSU.out (lo - a) (key x + 1) (by rcases HHi.out with h | ⟨y, h, h'⟩; exact .inl (by have := HM.out; omega); exact .inr ⟨y, h, by omega⟩))
      clear HHi HLo hv
      go_wp2_with fail
      go_loopg [17] (m - lo) (fun kq v17 wq => ∃ (k : Nat) (w1 w2 : List S36), v17 = .int .i64 k ∧ Aside0 (k = lo + w1.length ∧ w1.length ≤ kq ∧ u.drop (lo - a) = w1 ++ w2) ∧ lo ≤ k ∧ k ≤ m ∧ Aside0 (RowE wq g cap (X ++ u.take (lo - a) ++ w1 ++ x :: (w2 ++ Y))) ∧ Aside0 (Below B w wq))
      case atStart => exact ⟨m, u.drop (lo - a), [], rfl, ⟨by have := HM.out; simp; omega, by have := HM.out; simp; omega, by simp⟩, l3, Nat.le_refl _, ⟨by rw [show X ++ u.take (lo - a) ++ u.drop (lo - a) ++ x :: ([] ++ Y) = X ++ u ++ x :: Y by rw [List.append_assoc X, List.take_append_drop]; simp]; exact HRow.out⟩, HW⟩
      case round =>
        obtain ⟨k, w1, w2, rfl, HK2, k1, k2, HRq, HWq⟩ := hrel
        by_cases c3 : lo < k
        · obtain ⟨kp, rfl⟩ : ∃ kp, k = kp + 1 := ⟨k - 1, by omega⟩
          have hw1 : ∃ w3 y, w1 = w3 ++ [y] := by
            rcases List.eq_nil_or_concat w1 with e | ⟨w3, y, e⟩
            · exfalso; have := HK2.out; rw [e] at this; simp at this; omega
            · exact ⟨w3, y, by simpa using e⟩
          obtain ⟨w3, y, rfl⟩ := hw1
          have hkp : Aside0 (kp = lo + w3.length) := ⟨by have := HK2.out.1; simp at this; omega⟩
          have htl : (u.take (lo - a)).length = lo - a := by rw [List.length_take]; omega
          have HTL := Aside0.mk htl
          have ha2 := HM.out.1
          have ey : (X ++ u.take (lo - a) ++ (w3 ++ [y]) ++ x :: (w2 ++ Y))[kp]? = some y := by
            have := hkp.out
            rw [show X ++ u.take (lo - a) ++ (w3 ++ [y]) ++ x :: (w2 ++ Y) = (X ++ u.take (lo - a) ++ w3) ++ y :: (x :: (w2 ++ Y)) by simp, List.getElem?_append_right (by rw [List.length_append, List.length_append, htl]; omega), show kp - (X ++ u.take (lo - a) ++ w3).length = 0 by rw [List.length_append, List.length_append, htl]; omega]
            rfl
          have ex : (X ++ u.take (lo - a) ++ (w3 ++ [y]) ++ x :: (w2 ++ Y))[kp + 1]? = some x := by
            have := hkp.out
            rw [show X ++ u.take (lo - a) ++ (w3 ++ [y]) ++ x :: (w2 ++ Y) = (X ++ u.take (lo - a) ++ w3 ++ [y]) ++ x :: (w2 ++ Y) by simp, List.getElem?_append_right (by rw [List.length_append, List.length_append, List.length_append, htl]; simp; omega), show kp + 1 - (X ++ u.take (lo - a) ++ w3 ++ [y]).length = 0 by rw [List.length_append, List.length_append, List.length_append, htl]; simp; omega]
            rfl
          obtain ⟨y0, y1, y2, y3, y4, y5, y6⟩ := HRq.out.seven ey
          obtain ⟨x0, x1, x2, x3, x4, x5, x6⟩ := HRq.out.seven ex
          have fr := HRq.out.frozen
          have HEX2 := Aside0.mk ex
          have hkl : kp + 1 < len := by omega
          clear ex ey htl ha2
          go_wp2_with fail
          go_big_region
          all_goals go_wp2_with fail
          all_goals
            go_roundg (gk - 1)
            case measure => have := HK2.out; simp at this; omega
            case rel =>
              have h := HK2.out
              have hlen2 : kp + 1 < (X ++ u.take (lo - a) ++ (w3 ++ [y]) ++ x :: (w2 ++ Y)).length := (List.getElem?_eq_some_iff.1 HEX2.out).1
              obtain ⟨hs, hbl⟩ := HRq.out.swap hg (s := kp + 1) (t := kp) hlen2 (by omega) x y
              rw [show X ++ u.take (lo - a) ++ (w3 ++ [y]) ++ x :: (w2 ++ Y) = (X ++ u.take (lo - a) ++ w3) ++ y :: x :: (w2 ++ Y) by simp, swap_adj _ _ _ _ _ (by have := hkp.out; have := HM.out.1; rw [List.length_append, List.length_append, HTL.out]; omega)] at hs
              have hs2 := Aside0.mk hs
              have hb2 := Aside0.mk (HWq.out.trans hbl)
              unfold put7 at hs2 hb2
              rw [show (X ++ u.take (lo - a) ++ w3) ++ x :: y :: (w2 ++ Y) = X ++ u.take (lo - a) ++ w3 ++ x :: ((y :: w2) ++ Y) by simp] at hs2
              exact ⟨kp, w3, y :: w2, by go_num, ⟨hkp.out, by simp at h; omega, by rw [h.2.2]; simp⟩, by omega, by omega, hs2, hb2⟩
        · go_wp2_with fail
          refine bodyPost_ret (results_none rfl _ _ _) rfl ?_
          have h := HK2.out
          have h0 : w1 = [] := List.length_eq_zero_iff.1 (by omega)
          have hR := HRq.out
          rw [h0] at hR
          rw [h0, List.nil_append] at h
          refine ⟨rfl, ⟨u.take (lo - a) ++ x :: u.drop (lo - a), ?_, ?_⟩, HWq.out⟩
          · have := two_stable (key := key) (x := x) (u1 := u.take (lo - a)) (u2 := u.drop (lo - a)) (by rw [List.take_append_drop]; exact HSU.out) HA1.out (fun y hy => by have := HA2.out y hy; omega)
            rwa [List.take_append_drop] at this
          · rw [h.2.2]
            simpa using hR
end Go.Proofs.Ytlmjopodghikgaa.Print
