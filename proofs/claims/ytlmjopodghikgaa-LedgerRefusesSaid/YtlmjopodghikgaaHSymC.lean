/- slices.symMergeCmpFunc at entries: two sorted runs of a row are merged stably. -/
import Derived.Test.YtlmjopodghikgaaHSymB
namespace Go.Proofs.Ytlmjopodghikgaa.Print
open Go.RowKit Go.Proofs.YtlmjopodghikgaaW.PrintWords Go.Proofs.Ytlmjopodghikgaa.Stable
set_option linter.unusedVariables false
set_option linter.unusedSimpArgs false

/-- What the search of symMerge gives: where to cut the two runs. -/
theorem sym_cut {key : S36 → Int} {u v : List S36} (su : Srt key u) (sv : Srt key v) {a m b mid lo0 r0 s0 : Nat} (hm : m = a + u.length) (hb : b = m + v.length) (h1 : a ≤ s0) (h2 : s0 ≤ m) (h3 : s0 ≤ mid) (h4 : mid + m ≤ s0 + b)
    (hl : lo0 = a ∨ mid + m = lo0 + b) (hr : r0 = m ∨ r0 = mid)
    (HLo : s0 = lo0 ∨ ∃ x y, u[s0 - 1 - a]? = some x ∧ v[mid - s0]? = some y ∧ key x ≤ key y) (HHi : s0 = r0 ∨ ∃ x y, u[s0 - a]? = some x ∧ v[mid - 1 - s0]? = some y ∧ key y < key x) :
    (∀ x ∈ v.take (mid - s0), ∀ y ∈ u.drop (s0 - a), key x < key y) ∧ (∀ x ∈ u.take (s0 - a), ∀ y ∈ v.drop (mid - s0), key x ≤ key y) := by
  constructor
  · rcases HHi with h | ⟨x, y, hx, hy, hlt⟩
    · rcases hr with e | e
      · intro x _ y hy
        rw [List.drop_eq_nil_of_le (by omega)] at hy
        cases hy
      · intro x hx
        rw [show mid - s0 = 0 by omega, List.take_zero] at hx
        cases hx
    · intro z hz z' hz'
      have i1 := search_lt sv (mid - s0) (by omega) (key x) (by
        rcases Nat.eq_zero_or_pos (mid - s0) with e | e
        · exact .inl e
        · exact .inr ⟨y, by rw [show mid - s0 - 1 = mid - 1 - s0 by omega]; exact hy, hlt⟩) z hz
      have i2 := search_ge su (s0 - a) (key x) (.inr ⟨x, hx, Int.le_refl _⟩) z' hz'
      omega
  · rcases HLo with h | ⟨x, y, hx, hy, hle⟩
    · rcases hl with e | e
      · intro x hx
        rw [show s0 - a = 0 by omega, List.take_zero] at hx
        cases hx
      · intro x _ y hy
        rw [List.drop_eq_nil_of_le (by omega)] at hy
        cases hy
    · intro z hz z' hz'
      have i1 := search_le su (s0 - a) (by omega) (key x) (by
        rcases Nat.eq_zero_or_pos (s0 - a) with e | e
        · exact .inl e
        · exact .inr ⟨x, by rw [show s0 - a - 1 = s0 - 1 - a by omega]; exact hx, Int.le_refl _⟩) z hz
      have i2 := search_ge sv (mid - s0) (key y) (.inr ⟨y, hy, Int.le_refl _⟩) z' hz'
      omega
theorem len_nil (l : List S36) (e : l = []) : l.length = 0 := by rw [e]; rfl
theorem stable_nilL {key : S36 → Int} {u : List S36} (h : Srt key u) : StableOf key ([] ++ u) u := ⟨h, Same.refl _⟩
theorem stable_nilR {key : S36 → Int} {u : List S36} (h : Srt key u) : StableOf key (u ++ []) u := by rw [List.append_nil]; exact ⟨h, Same.refl _⟩

set_option maxHeartbeats 8000000 in
set_option maxRecDepth 100000 in
theorem symGen (key : S36 → Int) (gc : Nat) (eg : ∀ args w, (callFunc gc args).run Try.prog w = .ok (.enter gc args) w) (hcmp : CmpB gc key) (N : Nat) (IH : SymSaid key gc N) (w : World) (g cap B : Nat) (hg : B ≤ g) (hB : B ≤ w.heap.size) (X u v Y : List S36) (hu : 2 ≤ u.length) (hv : 2 ≤ v.length) (hN : u.length + v.length ≤ N + 1) (su : Srt key u) (sv : Srt key v) (hr : RowE w g cap (X ++ u ++ v ++ Y)) (a m b len : Nat) (ha : a = X.length) (hm : m = X.length + u.length) (hb : b = X.length + u.length + v.length) (hl : len = (X ++ u ++ v ++ Y).length) (hsm : len < 4611686018427387904) :
    Calls Try.prog 47 #[.slice (some ⟨g, 0, none⟩) len cap, .int .i64 a, .int .i64 m, .int .i64 b, .func (.func gc) #[] #[]] w fun e w' => e = .returned (.tuple #[]) ∧ (∃ s, StableOf key (u ++ v) s ∧ RowE w' g cap (X ++ s ++ Y)) ∧ Below B w w' := by
  have hle := hr.len
  have hlen : len = X.length + u.length + v.length + Y.length := by rw [hl]; simp; omega
  have b1 : a < m := by omega
  have b2 : m < b := by omega
  have b3 : b ≤ len := by omega
  have ht : ((m : Int) - (a : Int) == 1) = false := by simp; omega
  have ht2 : ((b : Int) - (m : Int) == 1) = false := by simp; omega
  obtain ⟨mid, hmid⟩ : ∃ mid, (a + b) / 2 = mid := ⟨_, rfl⟩
  have m1 : 2 * mid ≤ a + b := by omega
  have m2 : a + b ≤ 2 * mid + 1 := by omega
  have m3 : a < mid := by omega
  have m4 : mid < b := by omega
  have HR := Aside0.mk hr
  have HC := Aside0.mk hcmp
  have HIH := Aside0.mk IH
  have HM := Aside0.mk (show a = X.length ∧ m = a + u.length ∧ b = m + v.length ∧ len = X.length + u.length + v.length + Y.length ∧ u.length + v.length ≤ N + 1 from ⟨ha, by omega, by omega, hlen, hN⟩)
  have HSU := Aside0.mk su
  have HSV := Aside0.mk sv
  have hDu : Aside0 (∀ k, a ≤ k → k < m → ∃ x, u[k - a]? = some x ∧ (X ++ u ++ v ++ Y)[k]? = some x) := ⟨fun k h1 h2 => by
    have hk : k - a < u.length := by omega
    refine ⟨_, List.getElem?_eq_getElem hk, ?_⟩
    rw [List.append_assoc, List.append_assoc, List.getElem?_append_right (by omega), show k - X.length = k - a by omega, List.getElem?_append_left hk, List.getElem?_eq_getElem hk]⟩
  have hDv : Aside0 (∀ k, m ≤ k → k < b → ∃ y, v[k - m]? = some y ∧ (X ++ u ++ v ++ Y)[k]? = some y) := ⟨fun k h1 h2 => by
    have hk : k - m < v.length := by omega
    refine ⟨_, List.getElem?_eq_getElem hk, ?_⟩
    rw [List.append_assoc, List.getElem?_append_right (by simp; omega), show k - (X ++ u).length = k - m by simp; omega, List.getElem?_append_left hk, List.getElem?_eq_getElem hk]⟩
  have hp : ((mid : Int) + (m : Int) - 1) = ((mid + m - 1 : Nat) : Int) := by omega
  have HPP := Aside0.mk hp
  have HHalf : Aside0 (((a : Int) + (b : Int)) / 2 = (mid : Int)) := ⟨by rw [half, hmid]⟩
  obtain ⟨lo0, r0, c1, c3, c4, c5, c6, c7, hcase⟩ : ∃ lo0 r0, a ≤ lo0 ∧ lo0 ≤ r0 ∧ r0 ≤ m ∧ r0 ≤ mid ∧ (mid + m ≤ lo0 + b) ∧ Aside0 ((lo0 = a ∨ mid + m = lo0 + b) ∧ (r0 = m ∨ r0 = mid)) ∧ ((mid < m ∧ lo0 + b = mid + m ∧ r0 = mid) ∨ (m ≤ mid ∧ lo0 = a ∧ r0 = m)) := by
    by_cases h : mid < m
    · exact ⟨mid + m - b, mid, by omega, by omega, by omega, by omega, by omega, ⟨.inr (by omega), .inr rfl⟩, .inl ⟨h, by omega, rfl⟩⟩
    · exact ⟨a, m, by omega, by omega, by omega, by omega, by omega, ⟨.inl rfl, .inl rfl⟩, .inr ⟨by omega, rfl, rfl⟩⟩
  clear hr hle ha hm hb hl hlen hcmp su sv hu hv hN hp IH
  have hmidI : ((a : Int) + (b : Int)) / 2 ≤ (b : Int) ∧ (a : Int) ≤ ((a : Int) + (b : Int)) / 2 := by omega
  obtain ⟨hmid1, hmid2⟩ := hmidI
  clear hmid
  go_enter Try.func47, Try.ntmps47
  rcases hcase with ⟨k1, k2, k3⟩ | ⟨k1, k2, k3⟩
  · have k1' : ((a : Int) + (b : Int)) / 2 < (m : Int) := by rw [HHalf.out]; omega
    have HK0 : Aside0 ((mid : Int) + (m : Int) - (b : Int) = (lo0 : Int) ∧ (mid : Int) = (r0 : Int)) := ⟨by omega, by rw [k3]⟩
    clear k2 k3
    go_wp2_with fail
    simp only [HHalf.out]
    rw [HPP.out]
    have hpl : mid + m - 1 < 2 * len := by omega
    have HPE : Aside0 (mid + m - 1 + 1 = mid + m) := ⟨by omega⟩
    generalize mid + m - 1 = p at hpl HPE
    go_loopg [20, 21, 23] (r0 - lo0) (fun kq v20 v21 _ wr => ∃ (lo hi : Nat), v20 = .int .i64 lo ∧ v21 = .int .i64 hi ∧ lo0 ≤ lo ∧ lo ≤ hi ∧ hi ≤ r0 ∧ Aside0 (hi - lo ≤ kq) ∧ Aside0 (lo = lo0 ∨ ∃ x y, u[lo - 1 - a]? = some x ∧ v[mid - lo]? = some y ∧ key x ≤ key y) ∧ Aside0 (hi = r0 ∨ ∃ x y, u[hi - a]? = some x ∧ v[mid - 1 - hi]? = some y ∧ key y < key x) ∧ Aside0 (RowE wr g cap (X ++ u ++ v ++ Y)) ∧ Aside0 (Below B w wr))
    case atStart => exact ⟨lo0, r0, by first | rfl | (congr 1; have := HK0.out; omega), by first | rfl | (congr 1; have := HK0.out; omega), Nat.le_refl _, c3, Nat.le_refl _, ⟨by omega⟩, ⟨.inl rfl⟩, ⟨.inl rfl⟩, HR, ⟨Below.refl _ _⟩⟩
    case round =>
      obtain ⟨lo, hi, rfl, rfl, l1, l2, l3, HK, HLo, HHi, HRow, HW⟩ := hrel
      by_cases cc : lo < hi
      · go_wp2_with fail
        rw [half]
        have hh1 : lo ≤ (lo + hi) / 2 := by omega
        have hh2 : (lo + hi) / 2 < hi := by omega
        generalize (lo + hi) / 2 = h at hh1 hh2
        obtain ⟨x, hux, hrx⟩ := hDu.out h (by omega) (by omega)
        obtain ⟨y, hvy, hry⟩ := hDv.out (p - h) (by have := HPE.out; omega) (by have := HPE.out; omega)
        have HUX := Aside0.mk hux
        have HVY := Aside0.mk hvy
        have hhl : h < len := by omega
        have hph : h ≤ p := by have := HPE.out; omega
        have hpl2 : p - h < len := by have := HPE.out; omega
        have hI1 : (p : Int) - (h : Int) < (len : Int) := by have := HPE.out; omega
        have hI0 : 0 ≤ (p : Int) - (h : Int) := by omega
        have hIN : ((p : Int) - (h : Int)).toNat = p - h := by omega
        clear hux hvy
        obtain ⟨xc0, xc1, xc2, xc3, xc4, xc5, xc6⟩ := HRow.out.seven hry
        replace xc0 := cell_regrown xc0
        replace xc1 := cell_regrown xc1
        replace xc2 := cell_regrown xc2
        replace xc3 := cell_regrown xc3
        replace xc4 := cell_regrown xc4
        replace xc5 := cell_regrown xc5
        replace xc6 := cell_regrown xc6
        obtain ⟨yc0, yc1, yc2, yc3, yc4, yc5, yc6⟩ := HRow.out.seven hrx
        replace yc0 := cell_regrown yc0
        replace yc1 := cell_regrown yc1
        replace yc2 := cell_regrown yc2
        replace yc3 := cell_regrown yc3
        replace yc4 := cell_regrown yc4
        replace yc5 := cell_regrown yc5
        replace yc6 := cell_regrown yc6
        have CR := Aside0.mk (fun d os => Calls.regrown_of (d := d) (os := os) (w := wr) (HC.out y x _))
        by_cases hlt : key y < key x
        · have hneg : keyCmp key y x < 0 := (keyCmp_neg key y x).2 hlt
          have HLT := Aside0.mk hlt
          clear hlt
          generalize keyCmp key y x = cv at CR hneg
          refine wp_region_quiet_below (by kernel_rfl) (by kernel_rfl) ?_
          repeat (go_big_quiet_step (exact CR.out _ _))
          refine wpQuiet_nil ?_
          intro _ hw'
          obtain ⟨⟨dq, osq⟩, hw''⟩ := hw'
          have hbz := below_regrown wr dq osq
          rw [← hw''] at hbz
          have HRz := Aside0.mk (HRow.out.below hbz)
          have HWz := Aside0.mk (HW.out.trans (hbz.mono (Nat.le_trans hB HW.out.size)))
          clear hrx hry hw'' hbz xc0 yc0 xc1 yc1 xc2 yc2 xc3 yc3 xc4 yc4 xc5 yc5 xc6 yc6
          go_wp2_with fail
          go_roundg (gk - 1)
          case measure => have := HK.out; omega
          case rel => exact ⟨lo, h, rfl, rfl, l1, hh1, by omega, ⟨by have := HK.out; omega⟩, HLo, ⟨.inr ⟨x, y, HUX.out, by rw [show mid - 1 - h = p - h - m by have := HPE.out; omega]; exact HVY.out, HLT.out⟩⟩, HRz, HWz⟩
        · have hneg : ¬ keyCmp key y x < 0 := fun h => hlt ((keyCmp_neg key y x).1 h)
          have HLT := Aside0.mk hlt
          clear hlt
          generalize keyCmp key y x = cv at CR hneg
          refine wp_region_quiet_below (by kernel_rfl) (by kernel_rfl) ?_
          repeat (go_big_quiet_step (exact CR.out _ _))
          refine wpQuiet_nil ?_
          intro _ hw'
          obtain ⟨⟨dq, osq⟩, hw''⟩ := hw'
          have hbz := below_regrown wr dq osq
          rw [← hw''] at hbz
          have HRz := Aside0.mk (HRow.out.below hbz)
          have HWz := Aside0.mk (HW.out.trans (hbz.mono (Nat.le_trans hB HW.out.size)))
          clear hrx hry hw'' hbz xc0 yc0 xc1 yc1 xc2 yc2 xc3 yc3 xc4 yc4 xc5 yc5 xc6 yc6
          go_wp2_with fail
          go_roundg (gk - 1)
          case measure => have := HK.out; omega
          case rel => exact ⟨h + 1, hi, by go_num, rfl, by omega, by omega, l3, ⟨by have := HK.out; omega⟩, ⟨.inr ⟨x, y, by rw [show h + 1 - 1 - a = h - a by omega]; exact HUX.out, by rw [show mid - (h + 1) = p - h - m by have := HPE.out; omega]; exact HVY.out, by have := HLT.out; omega⟩⟩, HHi, HRz, HWz⟩
      · obtain rfl : lo = hi := by omega
        obtain ⟨s0, rfl⟩ : ∃ s0, s0 = lo := ⟨_, rfl⟩
        have l1' : a ≤ s0 := by omega
        have l3' : s0 ≤ m := by omega
        have l4' : s0 ≤ mid := by omega
        have l5' : mid + m ≤ s0 + b := by omega
        obtain ⟨endd, hend⟩ : ∃ endd, endd + s0 = mid + m := ⟨mid + m - s0, by omega⟩
        have he : Aside0 ((mid : Int) + (m : Int) - (s0 : Int) = (endd : Int)) := ⟨by omega⟩
        have e1 : endd ≤ b := by omega
        obtain ⟨u1, u2, hu12, hu1l⟩ : ∃ u1 u2, u = u1 ++ u2 ∧ u1.length = s0 - a := ⟨u.take (s0 - a), u.drop (s0 - a), (List.take_append_drop _ _).symm, by rw [List.length_take]; have := HM.out; omega⟩
        obtain ⟨v1, v2, hv12, hv1l⟩ : ∃ v1 v2, v = v1 ++ v2 ∧ v1.length = mid - s0 := ⟨v.take (mid - s0), v.drop (mid - s0), (List.take_append_drop _ _).symm, by rw [List.length_take]; have := HM.out; omega⟩
        have hcut := sym_cut HSU.out HSV.out HM.out.2.1 HM.out.2.2.1 l1' l3' l4' l5' c7.out.1 c7.out.2 HLo.out HHi.out
        rw [← hu1l, ← hv1l, hu12, hv12, List.take_left, List.drop_left, List.take_left, List.drop_left] at hcut
        subst hu12
        subst hv12
        have HCut := Aside0.mk hcut
        have hlu : m - s0 = u2.length := by have := HM.out; simp at this; omega
        have hlv : b - m - (mid - s0) = v2.length := by have := HM.out; simp at this; omega
        have HLen : Aside0 (u1.length = s0 - a ∧ v1.length = mid - s0 ∧ u2.length = m - s0 ∧ v2.length = b - m - (mid - s0)) := ⟨hu1l, hv1l, hlu.symm, hlv.symm⟩
        clear hcut hu1l hv1l hlu hlv HLo HHi hDu hDv
        by_cases p1 : s0 < m
        · by_cases p2 : s0 < mid
          · have t1 : (s0 : Int) < (m : Int) := by omega
            have t2 : (m : Int) < (mid : Int) + (m : Int) - (s0 : Int) := by omega
            have t3 : (mid : Int) < (mid : Int) + (m : Int) - (s0 : Int) := by omega
            by_cases p3 : a < s0
            · by_cases p4 : endd < b
              · have t4 : (mid : Int) + (m : Int) - (s0 : Int) < (b : Int) := by omega
                first
                | (exfalso; omega)
                | (
                    have HCr := Aside0.mk (rotateF (.func (.func gc) #[] #[]) wr g cap B hg (Nat.le_trans hB HW.out.size) (X ++ u1) u2 v1 (v2 ++ Y) (fun e => by have h := HLen.out; have h2 := len_nil u2 e; omega) (fun e => by have h := HLen.out; have h2 := len_nil v1 e; omega) (by have := HRow.out; simpa [List.append_assoc] using this) (s0 : Int) (m : Int) (endd : Int) len (by have h := HM.out; have h2 := HLen.out; simp at h ⊢; omega) (by have h := HM.out; have h2 := HLen.out; simp at h ⊢; omega) (by have h := HM.out; have h2 := HLen.out; simp at h ⊢; omega) (by have h := HM.out; have h2 := HLen.out; simp at h ⊢; omega))
                    go_wp2_with fail
                    rw [he.out]
                    go_at_call 48
                    refine HCr.out.mono ?_
                    rintro e w1 ⟨rfl, hrow1, hb1⟩
                    have HR1 : Aside0 (RowE w1 g cap (X ++ (u1 ++ v1) ++ (u2 ++ v2) ++ Y)) := ⟨by simpa [List.append_assoc] using hrow1⟩
                    have HW1 := Aside0.mk (HW.out.trans hb1)
                    clear hrow1 hb1
                    have HC1 := Aside0.mk (HIH.out w1 g cap B hg (Nat.le_trans hB HW1.out.size) (X) u1 v1 (u2 ++ v2 ++ Y) (fun e => by have h := HLen.out; have h2 := len_nil u1 e; omega) (fun e => by have h := HLen.out; have h2 := len_nil v1 e; omega) (by have := HLen.out; have := HM.out; omega) (srt_left HSU.out) (srt_left HSV.out) (by have := HR1.out; simpa [List.append_assoc] using this) a s0 mid len (HM.out.1) (by have h := HM.out; have h2 := HLen.out; simp at h ⊢; omega) (by have h := HM.out; have h2 := HLen.out; simp at h ⊢; omega) (by have h := HM.out; have h2 := HLen.out; simp at h ⊢; omega) hsm)
                    go_wp2_with fail
                    go_at_call 47
                    refine HC1.out.mono ?_
                    rintro e w2 ⟨rfl, ⟨s1, hs1, hrow2⟩, hb2⟩
                    have HS1 := Aside0.mk hs1
                    have HR2 : Aside0 (RowE w2 g cap (X ++ s1 ++ (u2 ++ v2) ++ Y)) := ⟨by simpa [List.append_assoc] using hrow2⟩
                    have HW2 := Aside0.mk (HW1.out.trans hb2)
                    have HSL : Aside0 (s1.length = mid - a) := ⟨by have := hs1.same.length; have := HLen.out; simp at *; omega⟩
                    clear hs1 hrow2 hb2
                    have HC2 := Aside0.mk (HIH.out w2 g cap B hg (Nat.le_trans hB HW2.out.size) (X ++ s1) u2 v2 (Y) (fun e => by have h := HLen.out; have h2 := len_nil u2 e; omega) (fun e => by have h := HLen.out; have h2 := len_nil v2 e; omega) (by have := HLen.out; have := HM.out; omega) (srt_right HSU.out) (srt_right HSV.out) (by have := HR2.out; simpa [List.append_assoc] using this) mid endd b len (by have h := HM.out; have h2 := HLen.out; have h3 := HSL.out; simp at h ⊢; omega) (by have h := HM.out; have h2 := HLen.out; have h3 := HSL.out; simp at h ⊢; omega) (by have h := HM.out; have h2 := HLen.out; have h3 := HSL.out; simp at h ⊢; omega) (by have h := HM.out; have h2 := HLen.out; have h3 := HSL.out; simp at h ⊢; omega) hsm)
                    go_wp2_with fail
                    go_at_call 47
                    refine HC2.out.mono ?_
                    rintro e w3 ⟨rfl, ⟨s2, hs2, hrow3⟩, hb3⟩
                    have HS2 := Aside0.mk hs2
                    have HR3 : Aside0 (RowE w3 g cap (X ++ (s1 ++ s2) ++ Y)) := ⟨by simpa [List.append_assoc] using hrow3⟩
                    have HW3 := Aside0.mk (HW2.out.trans hb3)
                    clear hs2 hrow3 hb3
                    go_wp2_with fail
                    go_end0
                    exact ⟨rfl, ⟨s1 ++ s2, by have h := merge_glue HSU.out HSV.out HCut.out.1 HCut.out.2 HS1.out HS2.out; first | exact h | (rw [List.append_assoc] at h; exact h), by have h := HR3.out; first | exact h | (rw [List.append_assoc] at h; exact h)⟩, HW3.out⟩
                  )
              · have t4 : ¬ (mid : Int) + (m : Int) - (s0 : Int) < (b : Int) := by omega
                first
                | (exfalso; omega)
                | (
                    have HCr := Aside0.mk (rotateF (.func (.func gc) #[] #[]) wr g cap B hg (Nat.le_trans hB HW.out.size) (X ++ u1) u2 v1 (v2 ++ Y) (fun e => by have h := HLen.out; have h2 := len_nil u2 e; omega) (fun e => by have h := HLen.out; have h2 := len_nil v1 e; omega) (by have := HRow.out; simpa [List.append_assoc] using this) (s0 : Int) (m : Int) (endd : Int) len (by have h := HM.out; have h2 := HLen.out; simp at h ⊢; omega) (by have h := HM.out; have h2 := HLen.out; simp at h ⊢; omega) (by have h := HM.out; have h2 := HLen.out; simp at h ⊢; omega) (by have h := HM.out; have h2 := HLen.out; simp at h ⊢; omega))
                    go_wp2_with fail
                    rw [he.out]
                    go_at_call 48
                    refine HCr.out.mono ?_
                    rintro e w1 ⟨rfl, hrow1, hb1⟩
                    have HR1 : Aside0 (RowE w1 g cap (X ++ (u1 ++ v1) ++ (u2 ++ v2) ++ Y)) := ⟨by simpa [List.append_assoc] using hrow1⟩
                    have HW1 := Aside0.mk (HW.out.trans hb1)
                    clear hrow1 hb1
                    have HC1 := Aside0.mk (HIH.out w1 g cap B hg (Nat.le_trans hB HW1.out.size) (X) u1 v1 (u2 ++ v2 ++ Y) (fun e => by have h := HLen.out; have h2 := len_nil u1 e; omega) (fun e => by have h := HLen.out; have h2 := len_nil v1 e; omega) (by have := HLen.out; have := HM.out; omega) (srt_left HSU.out) (srt_left HSV.out) (by have := HR1.out; simpa [List.append_assoc] using this) a s0 mid len (HM.out.1) (by have h := HM.out; have h2 := HLen.out; simp at h ⊢; omega) (by have h := HM.out; have h2 := HLen.out; simp at h ⊢; omega) (by have h := HM.out; have h2 := HLen.out; simp at h ⊢; omega) hsm)
                    go_wp2_with fail
                    go_at_call 47
                    refine HC1.out.mono ?_
                    rintro e w2 ⟨rfl, ⟨s1, hs1, hrow2⟩, hb2⟩
                    have HS1 := Aside0.mk hs1
                    have HR2 : Aside0 (RowE w2 g cap (X ++ s1 ++ (u2 ++ v2) ++ Y)) := ⟨by simpa [List.append_assoc] using hrow2⟩
                    have HW2 := Aside0.mk (HW1.out.trans hb2)
                    have HSL : Aside0 (s1.length = mid - a) := ⟨by have := hs1.same.length; have := HLen.out; simp at *; omega⟩
                    clear hs1 hrow2 hb2
                    obtain ⟨s2, hs2⟩ : ∃ s2, s2 = u2 ++ v2 := ⟨_, rfl⟩
                    have HS2 : Aside0 (StableOf key (u2 ++ v2) s2) := ⟨by
                      rw [hs2]
                      have h0 : u2 = [] ∨ v2 = [] := by
                        have := HLen.out
                        rcases Nat.eq_zero_or_pos u2.length with e | e
                        · exact .inl (List.length_eq_zero_iff.1 e)
                        · exact .inr (List.length_eq_zero_iff.1 (by omega))
                      rcases h0 with rfl | rfl
                      · exact ⟨by simpa using srt_right HSV.out, Same.refl _⟩
                      · exact ⟨by simpa using srt_right HSU.out, Same.refl _⟩⟩
                    have HR3 : Aside0 (RowE w2 g cap (X ++ (s1 ++ s2) ++ Y)) := ⟨by rw [hs2]; have := HR2.out; simpa [List.append_assoc] using this⟩
                    have HW3 := HW2
                    clear hs2
                    go_wp2_with fail
                    go_end0
                    exact ⟨rfl, ⟨s1 ++ s2, by have h := merge_glue HSU.out HSV.out HCut.out.1 HCut.out.2 HS1.out HS2.out; first | exact h | (rw [List.append_assoc] at h; exact h), by have h := HR3.out; first | exact h | (rw [List.append_assoc] at h; exact h)⟩, HW3.out⟩
                  )
            · by_cases p4 : endd < b
              · have t4 : (mid : Int) + (m : Int) - (s0 : Int) < (b : Int) := by omega
                first
                | (exfalso; omega)
                | (
                    have HCr := Aside0.mk (rotateF (.func (.func gc) #[] #[]) wr g cap B hg (Nat.le_trans hB HW.out.size) (X ++ u1) u2 v1 (v2 ++ Y) (fun e => by have h := HLen.out; have h2 := len_nil u2 e; omega) (fun e => by have h := HLen.out; have h2 := len_nil v1 e; omega) (by have := HRow.out; simpa [List.append_assoc] using this) (s0 : Int) (m : Int) (endd : Int) len (by have h := HM.out; have h2 := HLen.out; simp at h ⊢; omega) (by have h := HM.out; have h2 := HLen.out; simp at h ⊢; omega) (by have h := HM.out; have h2 := HLen.out; simp at h ⊢; omega) (by have h := HM.out; have h2 := HLen.out; simp at h ⊢; omega))
                    go_wp2_with fail
                    rw [he.out]
                    go_at_call 48
                    refine HCr.out.mono ?_
                    rintro e w1 ⟨rfl, hrow1, hb1⟩
                    have HR1 : Aside0 (RowE w1 g cap (X ++ (u1 ++ v1) ++ (u2 ++ v2) ++ Y)) := ⟨by simpa [List.append_assoc] using hrow1⟩
                    have HW1 := Aside0.mk (HW.out.trans hb1)
                    clear hrow1 hb1
                    obtain ⟨s1, hs1⟩ : ∃ s1, s1 = u1 ++ v1 := ⟨_, rfl⟩
                    have HS1 : Aside0 (StableOf key (u1 ++ v1) s1) := ⟨by
                      rw [hs1]
                      have h0 : u1 = [] ∨ v1 = [] := by
                        have := HLen.out
                        rcases Nat.eq_zero_or_pos u1.length with e | e
                        · exact .inl (List.length_eq_zero_iff.1 e)
                        · exact .inr (List.length_eq_zero_iff.1 (by omega))
                      rcases h0 with rfl | rfl
                      · exact ⟨by simpa using srt_left HSV.out, Same.refl _⟩
                      · exact ⟨by simpa using srt_left HSU.out, Same.refl _⟩⟩
                    have HR2 : Aside0 (RowE w1 g cap (X ++ s1 ++ (u2 ++ v2) ++ Y)) := ⟨by rw [hs1]; exact HR1.out⟩
                    have HW2 := HW1
                    have HSL : Aside0 (s1.length = mid - a) := ⟨by rw [hs1]; have := HLen.out; simp; omega⟩
                    clear hs1
                    have HC2 := Aside0.mk (HIH.out w1 g cap B hg (Nat.le_trans hB HW2.out.size) (X ++ s1) u2 v2 (Y) (fun e => by have h := HLen.out; have h2 := len_nil u2 e; omega) (fun e => by have h := HLen.out; have h2 := len_nil v2 e; omega) (by have := HLen.out; have := HM.out; omega) (srt_right HSU.out) (srt_right HSV.out) (by have := HR2.out; simpa [List.append_assoc] using this) mid endd b len (by have h := HM.out; have h2 := HLen.out; have h3 := HSL.out; simp at h ⊢; omega) (by have h := HM.out; have h2 := HLen.out; have h3 := HSL.out; simp at h ⊢; omega) (by have h := HM.out; have h2 := HLen.out; have h3 := HSL.out; simp at h ⊢; omega) (by have h := HM.out; have h2 := HLen.out; have h3 := HSL.out; simp at h ⊢; omega) hsm)
                    go_wp2_with fail
                    go_at_call 47
                    refine HC2.out.mono ?_
                    rintro e w3 ⟨rfl, ⟨s2, hs2, hrow3⟩, hb3⟩
                    have HS2 := Aside0.mk hs2
                    have HR3 : Aside0 (RowE w3 g cap (X ++ (s1 ++ s2) ++ Y)) := ⟨by simpa [List.append_assoc] using hrow3⟩
                    have HW3 := Aside0.mk (HW2.out.trans hb3)
                    clear hs2 hrow3 hb3
                    go_wp2_with fail
                    go_end0
                    exact ⟨rfl, ⟨s1 ++ s2, by have h := merge_glue HSU.out HSV.out HCut.out.1 HCut.out.2 HS1.out HS2.out; first | exact h | (rw [List.append_assoc] at h; exact h), by have h := HR3.out; first | exact h | (rw [List.append_assoc] at h; exact h)⟩, HW3.out⟩
                  )
              · have t4 : ¬ (mid : Int) + (m : Int) - (s0 : Int) < (b : Int) := by omega
                first
                | (exfalso; omega)
                | (
                    have HCr := Aside0.mk (rotateF (.func (.func gc) #[] #[]) wr g cap B hg (Nat.le_trans hB HW.out.size) (X ++ u1) u2 v1 (v2 ++ Y) (fun e => by have h := HLen.out; have h2 := len_nil u2 e; omega) (fun e => by have h := HLen.out; have h2 := len_nil v1 e; omega) (by have := HRow.out; simpa [List.append_assoc] using this) (s0 : Int) (m : Int) (endd : Int) len (by have h := HM.out; have h2 := HLen.out; simp at h ⊢; omega) (by have h := HM.out; have h2 := HLen.out; simp at h ⊢; omega) (by have h := HM.out; have h2 := HLen.out; simp at h ⊢; omega) (by have h := HM.out; have h2 := HLen.out; simp at h ⊢; omega))
                    go_wp2_with fail
                    rw [he.out]
                    go_at_call 48
                    refine HCr.out.mono ?_
                    rintro e w1 ⟨rfl, hrow1, hb1⟩
                    have HR1 : Aside0 (RowE w1 g cap (X ++ (u1 ++ v1) ++ (u2 ++ v2) ++ Y)) := ⟨by simpa [List.append_assoc] using hrow1⟩
                    have HW1 := Aside0.mk (HW.out.trans hb1)
                    clear hrow1 hb1
                    obtain ⟨s1, hs1⟩ : ∃ s1, s1 = u1 ++ v1 := ⟨_, rfl⟩
                    have HS1 : Aside0 (StableOf key (u1 ++ v1) s1) := ⟨by
                      rw [hs1]
                      have h0 : u1 = [] ∨ v1 = [] := by
                        have := HLen.out
                        rcases Nat.eq_zero_or_pos u1.length with e | e
                        · exact .inl (List.length_eq_zero_iff.1 e)
                        · exact .inr (List.length_eq_zero_iff.1 (by omega))
                      rcases h0 with rfl | rfl
                      · exact ⟨by simpa using srt_left HSV.out, Same.refl _⟩
                      · exact ⟨by simpa using srt_left HSU.out, Same.refl _⟩⟩
                    have HR2 : Aside0 (RowE w1 g cap (X ++ s1 ++ (u2 ++ v2) ++ Y)) := ⟨by rw [hs1]; exact HR1.out⟩
                    have HW2 := HW1
                    have HSL : Aside0 (s1.length = mid - a) := ⟨by rw [hs1]; have := HLen.out; simp; omega⟩
                    clear hs1
                    obtain ⟨s2, hs2⟩ : ∃ s2, s2 = u2 ++ v2 := ⟨_, rfl⟩
                    have HS2 : Aside0 (StableOf key (u2 ++ v2) s2) := ⟨by
                      rw [hs2]
                      have h0 : u2 = [] ∨ v2 = [] := by
                        have := HLen.out
                        rcases Nat.eq_zero_or_pos u2.length with e | e
                        · exact .inl (List.length_eq_zero_iff.1 e)
                        · exact .inr (List.length_eq_zero_iff.1 (by omega))
                      rcases h0 with rfl | rfl
                      · exact ⟨by simpa using srt_right HSV.out, Same.refl _⟩
                      · exact ⟨by simpa using srt_right HSU.out, Same.refl _⟩⟩
                    have HR3 : Aside0 (RowE w1 g cap (X ++ (s1 ++ s2) ++ Y)) := ⟨by rw [hs2]; have := HR2.out; simpa [List.append_assoc] using this⟩
                    have HW3 := HW2
                    clear hs2
                    go_wp2_with fail
                    go_end0
                    exact ⟨rfl, ⟨s1 ++ s2, by have h := merge_glue HSU.out HSV.out HCut.out.1 HCut.out.2 HS1.out HS2.out; first | exact h | (rw [List.append_assoc] at h; exact h), by have h := HR3.out; first | exact h | (rw [List.append_assoc] at h; exact h)⟩, HW3.out⟩
                  )
          · have t3 : (mid : Int) < (mid : Int) + (m : Int) - (s0 : Int) := by omega
            have t2 : ¬ (m : Int) < (mid : Int) + (m : Int) - (s0 : Int) := by omega
            by_cases p4 : endd < b
            · have t4 : (mid : Int) + (m : Int) - (s0 : Int) < (b : Int) := by omega
              first
              | (exfalso; omega)
              | (
                  have HR1 : Aside0 (RowE wr g cap (X ++ (u1 ++ v1) ++ (u2 ++ v2) ++ Y)) := ⟨by
                    have h := HRow.out
                    have h0 : u2 = [] ∨ v1 = [] := by
                      have := HLen.out
                      rcases Nat.eq_zero_or_pos u2.length with e | e
                      · exact .inl (List.length_eq_zero_iff.1 e)
                      · exact .inr (List.length_eq_zero_iff.1 (by omega))
                    rcases h0 with rfl | rfl <;> simpa [List.append_assoc] using h⟩
                  have HW1 := HW
                  obtain ⟨s1, hs1⟩ : ∃ s1, s1 = u1 ++ v1 := ⟨_, rfl⟩
                  have HS1 : Aside0 (StableOf key (u1 ++ v1) s1) := ⟨by
                    rw [hs1]
                    have h0 : u1 = [] ∨ v1 = [] := by
                      have := HLen.out
                      rcases Nat.eq_zero_or_pos u1.length with e | e
                      · exact .inl (List.length_eq_zero_iff.1 e)
                      · exact .inr (List.length_eq_zero_iff.1 (by omega))
                    rcases h0 with rfl | rfl
                    · exact ⟨by simpa using srt_left HSV.out, Same.refl _⟩
                    · exact ⟨by simpa using srt_left HSU.out, Same.refl _⟩⟩
                  have HR2 : Aside0 (RowE wr g cap (X ++ s1 ++ (u2 ++ v2) ++ Y)) := ⟨by rw [hs1]; exact HR1.out⟩
                  have HW2 := HW1
                  have HSL : Aside0 (s1.length = mid - a) := ⟨by rw [hs1]; have := HLen.out; simp; omega⟩
                  clear hs1
                  have HC2 := Aside0.mk (HIH.out wr g cap B hg (Nat.le_trans hB HW2.out.size) (X ++ s1) u2 v2 (Y) (fun e => by have h := HLen.out; have h2 := len_nil u2 e; omega) (fun e => by have h := HLen.out; have h2 := len_nil v2 e; omega) (by have := HLen.out; have := HM.out; omega) (srt_right HSU.out) (srt_right HSV.out) (by have := HR2.out; simpa [List.append_assoc] using this) mid endd b len (by have h := HM.out; have h2 := HLen.out; have h3 := HSL.out; simp at h ⊢; omega) (by have h := HM.out; have h2 := HLen.out; have h3 := HSL.out; simp at h ⊢; omega) (by have h := HM.out; have h2 := HLen.out; have h3 := HSL.out; simp at h ⊢; omega) (by have h := HM.out; have h2 := HLen.out; have h3 := HSL.out; simp at h ⊢; omega) hsm)
                  go_wp2_with fail
                  rw [he.out]
                  go_at_call 47
                  refine HC2.out.mono ?_
                  rintro e w3 ⟨rfl, ⟨s2, hs2, hrow3⟩, hb3⟩
                  have HS2 := Aside0.mk hs2
                  have HR3 : Aside0 (RowE w3 g cap (X ++ (s1 ++ s2) ++ Y)) := ⟨by simpa [List.append_assoc] using hrow3⟩
                  have HW3 := Aside0.mk (HW2.out.trans hb3)
                  clear hs2 hrow3 hb3
                  go_wp2_with fail
                  go_end0
                  exact ⟨rfl, ⟨s1 ++ s2, by have h := merge_glue HSU.out HSV.out HCut.out.1 HCut.out.2 HS1.out HS2.out; first | exact h | (rw [List.append_assoc] at h; exact h), by have h := HR3.out; first | exact h | (rw [List.append_assoc] at h; exact h)⟩, HW3.out⟩
                )
            · have t4 : ¬ (mid : Int) + (m : Int) - (s0 : Int) < (b : Int) := by omega
              first
              | (exfalso; omega)
              | (
                  have HR1 : Aside0 (RowE wr g cap (X ++ (u1 ++ v1) ++ (u2 ++ v2) ++ Y)) := ⟨by
                    have h := HRow.out
                    have h0 : u2 = [] ∨ v1 = [] := by
                      have := HLen.out
                      rcases Nat.eq_zero_or_pos u2.length with e | e
                      · exact .inl (List.length_eq_zero_iff.1 e)
                      · exact .inr (List.length_eq_zero_iff.1 (by omega))
                    rcases h0 with rfl | rfl <;> simpa [List.append_assoc] using h⟩
                  have HW1 := HW
                  obtain ⟨s1, hs1⟩ : ∃ s1, s1 = u1 ++ v1 := ⟨_, rfl⟩
                  have HS1 : Aside0 (StableOf key (u1 ++ v1) s1) := ⟨by
                    rw [hs1]
                    have h0 : u1 = [] ∨ v1 = [] := by
                      have := HLen.out
                      rcases Nat.eq_zero_or_pos u1.length with e | e
                      · exact .inl (List.length_eq_zero_iff.1 e)
                      · exact .inr (List.length_eq_zero_iff.1 (by omega))
                    rcases h0 with rfl | rfl
                    · exact ⟨by simpa using srt_left HSV.out, Same.refl _⟩
                    · exact ⟨by simpa using srt_left HSU.out, Same.refl _⟩⟩
                  have HR2 : Aside0 (RowE wr g cap (X ++ s1 ++ (u2 ++ v2) ++ Y)) := ⟨by rw [hs1]; exact HR1.out⟩
                  have HW2 := HW1
                  have HSL : Aside0 (s1.length = mid - a) := ⟨by rw [hs1]; have := HLen.out; simp; omega⟩
                  clear hs1
                  obtain ⟨s2, hs2⟩ : ∃ s2, s2 = u2 ++ v2 := ⟨_, rfl⟩
                  have HS2 : Aside0 (StableOf key (u2 ++ v2) s2) := ⟨by
                    rw [hs2]
                    have h0 : u2 = [] ∨ v2 = [] := by
                      have := HLen.out
                      rcases Nat.eq_zero_or_pos u2.length with e | e
                      · exact .inl (List.length_eq_zero_iff.1 e)
                      · exact .inr (List.length_eq_zero_iff.1 (by omega))
                    rcases h0 with rfl | rfl
                    · exact ⟨by simpa using srt_right HSV.out, Same.refl _⟩
                    · exact ⟨by simpa using srt_right HSU.out, Same.refl _⟩⟩
                  have HR3 : Aside0 (RowE wr g cap (X ++ (s1 ++ s2) ++ Y)) := ⟨by rw [hs2]; have := HR2.out; simpa [List.append_assoc] using this⟩
                  have HW3 := HW2
                  clear hs2
                  go_wp2_with fail
                  go_end0
                  exact ⟨rfl, ⟨s1 ++ s2, by have h := merge_glue HSU.out HSV.out HCut.out.1 HCut.out.2 HS1.out HS2.out; first | exact h | (rw [List.append_assoc] at h; exact h), by have h := HR3.out; first | exact h | (rw [List.append_assoc] at h; exact h)⟩, HW3.out⟩
                )
        · have t3 : ¬ (mid : Int) < (mid : Int) + (m : Int) - (s0 : Int) := by omega
          by_cases p2 : s0 < mid
          · have p3 : a < s0 := by omega
            first
            | (exfalso; omega)
            | (
                have HR1 : Aside0 (RowE wr g cap (X ++ (u1 ++ v1) ++ (u2 ++ v2) ++ Y)) := ⟨by
                  have h := HRow.out
                  have h0 : u2 = [] ∨ v1 = [] := by
                    have := HLen.out
                    rcases Nat.eq_zero_or_pos u2.length with e | e
                    · exact .inl (List.length_eq_zero_iff.1 e)
                    · exact .inr (List.length_eq_zero_iff.1 (by omega))
                  rcases h0 with rfl | rfl <;> simpa [List.append_assoc] using h⟩
                have HW1 := HW
                have HC1 := Aside0.mk (HIH.out wr g cap B hg (Nat.le_trans hB HW1.out.size) (X) u1 v1 (u2 ++ v2 ++ Y) (fun e => by have h := HLen.out; have h2 := len_nil u1 e; omega) (fun e => by have h := HLen.out; have h2 := len_nil v1 e; omega) (by have := HLen.out; have := HM.out; omega) (srt_left HSU.out) (srt_left HSV.out) (by have := HR1.out; simpa [List.append_assoc] using this) a s0 mid len (HM.out.1) (by have h := HM.out; have h2 := HLen.out; simp at h ⊢; omega) (by have h := HM.out; have h2 := HLen.out; simp at h ⊢; omega) (by have h := HM.out; have h2 := HLen.out; simp at h ⊢; omega) hsm)
                go_wp2_with fail
                go_at_call 47
                refine HC1.out.mono ?_
                rintro e w2 ⟨rfl, ⟨s1, hs1, hrow2⟩, hb2⟩
                have HS1 := Aside0.mk hs1
                have HR2 : Aside0 (RowE w2 g cap (X ++ s1 ++ (u2 ++ v2) ++ Y)) := ⟨by simpa [List.append_assoc] using hrow2⟩
                have HW2 := Aside0.mk (HW1.out.trans hb2)
                have HSL : Aside0 (s1.length = mid - a) := ⟨by have := hs1.same.length; have := HLen.out; simp at *; omega⟩
                clear hs1 hrow2 hb2
                obtain ⟨s2, hs2⟩ : ∃ s2, s2 = u2 ++ v2 := ⟨_, rfl⟩
                have HS2 : Aside0 (StableOf key (u2 ++ v2) s2) := ⟨by
                  rw [hs2]
                  have h0 : u2 = [] ∨ v2 = [] := by
                    have := HLen.out
                    rcases Nat.eq_zero_or_pos u2.length with e | e
                    · exact .inl (List.length_eq_zero_iff.1 e)
                    · exact .inr (List.length_eq_zero_iff.1 (by omega))
                  rcases h0 with rfl | rfl
                  · exact ⟨by simpa using srt_right HSV.out, Same.refl _⟩
                  · exact ⟨by simpa using srt_right HSU.out, Same.refl _⟩⟩
                have HR3 : Aside0 (RowE w2 g cap (X ++ (s1 ++ s2) ++ Y)) := ⟨by rw [hs2]; have := HR2.out; simpa [List.append_assoc] using this⟩
                have HW3 := HW2
                clear hs2
                go_wp2_with fail
                go_end0
                exact ⟨rfl, ⟨s1 ++ s2, by have h := merge_glue HSU.out HSV.out HCut.out.1 HCut.out.2 HS1.out HS2.out; first | exact h | (rw [List.append_assoc] at h; exact h), by have h := HR3.out; first | exact h | (rw [List.append_assoc] at h; exact h)⟩, HW3.out⟩
              )
          · have q : s0 = mid := by omega
            first
            | (exfalso; omega)
            | (
                have HR1 : Aside0 (RowE wr g cap (X ++ (u1 ++ v1) ++ (u2 ++ v2) ++ Y)) := ⟨by
                  have h := HRow.out
                  have h0 : u2 = [] ∨ v1 = [] := by
                    have := HLen.out
                    rcases Nat.eq_zero_or_pos u2.length with e | e
                    · exact .inl (List.length_eq_zero_iff.1 e)
                    · exact .inr (List.length_eq_zero_iff.1 (by omega))
                  rcases h0 with rfl | rfl <;> simpa [List.append_assoc] using h⟩
                have HW1 := HW
                obtain ⟨s1, hs1⟩ : ∃ s1, s1 = u1 ++ v1 := ⟨_, rfl⟩
                have HS1 : Aside0 (StableOf key (u1 ++ v1) s1) := ⟨by
                  rw [hs1]
                  have h0 : u1 = [] ∨ v1 = [] := by
                    have := HLen.out
                    rcases Nat.eq_zero_or_pos u1.length with e | e
                    · exact .inl (List.length_eq_zero_iff.1 e)
                    · exact .inr (List.length_eq_zero_iff.1 (by omega))
                  rcases h0 with rfl | rfl
                  · exact ⟨by simpa using srt_left HSV.out, Same.refl _⟩
                  · exact ⟨by simpa using srt_left HSU.out, Same.refl _⟩⟩
                have HR2 : Aside0 (RowE wr g cap (X ++ s1 ++ (u2 ++ v2) ++ Y)) := ⟨by rw [hs1]; exact HR1.out⟩
                have HW2 := HW1
                have HSL : Aside0 (s1.length = mid - a) := ⟨by rw [hs1]; have := HLen.out; simp; omega⟩
                clear hs1
                obtain ⟨s2, hs2⟩ : ∃ s2, s2 = u2 ++ v2 := ⟨_, rfl⟩
                have HS2 : Aside0 (StableOf key (u2 ++ v2) s2) := ⟨by
                  rw [hs2]
                  have h0 : u2 = [] ∨ v2 = [] := by
                    have := HLen.out
                    rcases Nat.eq_zero_or_pos u2.length with e | e
                    · exact .inl (List.length_eq_zero_iff.1 e)
                    · exact .inr (List.length_eq_zero_iff.1 (by omega))
                  rcases h0 with rfl | rfl
                  · exact ⟨by simpa using srt_right HSV.out, Same.refl _⟩
                  · exact ⟨by simpa using srt_right HSU.out, Same.refl _⟩⟩
                have HR3 : Aside0 (RowE wr g cap (X ++ (s1 ++ s2) ++ Y)) := ⟨by rw [hs2]; have := HR2.out; simpa [List.append_assoc] using this⟩
                have HW3 := HW2
                clear hs2
                go_wp2_with fail
                go_end0
                exact ⟨rfl, ⟨s1 ++ s2, by have h := merge_glue HSU.out HSV.out HCut.out.1 HCut.out.2 HS1.out HS2.out; first | exact h | (rw [List.append_assoc] at h; exact h), by have h := HR3.out; first | exact h | (rw [List.append_assoc] at h; exact h)⟩, HW3.out⟩
              )
  · have k1' : ¬ ((a : Int) + (b : Int)) / 2 < (m : Int) := by rw [HHalf.out]; omega
    have HK0 : Aside0 ((a : Int) = (lo0 : Int) ∧ (m : Int) = (r0 : Int)) := ⟨by rw [k2], by rw [k3]⟩
    clear k2 k3
    go_wp2_with fail
    simp only [HHalf.out]
    rw [HPP.out]
    have hpl : mid + m - 1 < 2 * len := by omega
    have HPE : Aside0 (mid + m - 1 + 1 = mid + m) := ⟨by omega⟩
    generalize mid + m - 1 = p at hpl HPE
    go_loopg [20, 21, 23] (r0 - lo0) (fun kq v20 v21 _ wr => ∃ (lo hi : Nat), v20 = .int .i64 lo ∧ v21 = .int .i64 hi ∧ lo0 ≤ lo ∧ lo ≤ hi ∧ hi ≤ r0 ∧ Aside0 (hi - lo ≤ kq) ∧ Aside0 (lo = lo0 ∨ ∃ x y, u[lo - 1 - a]? = some x ∧ v[mid - lo]? = some y ∧ key x ≤ key y) ∧ Aside0 (hi = r0 ∨ ∃ x y, u[hi - a]? = some x ∧ v[mid - 1 - hi]? = some y ∧ key y < key x) ∧ Aside0 (RowE wr g cap (X ++ u ++ v ++ Y)) ∧ Aside0 (Below B w wr))
    case atStart => exact ⟨lo0, r0, by first | rfl | (congr 1; have := HK0.out; omega), by first | rfl | (congr 1; have := HK0.out; omega), Nat.le_refl _, c3, Nat.le_refl _, ⟨by omega⟩, ⟨.inl rfl⟩, ⟨.inl rfl⟩, HR, ⟨Below.refl _ _⟩⟩
    case round =>
      obtain ⟨lo, hi, rfl, rfl, l1, l2, l3, HK, HLo, HHi, HRow, HW⟩ := hrel
      by_cases cc : lo < hi
      · go_wp2_with fail
        rw [half]
        have hh1 : lo ≤ (lo + hi) / 2 := by omega
        have hh2 : (lo + hi) / 2 < hi := by omega
        generalize (lo + hi) / 2 = h at hh1 hh2
        obtain ⟨x, hux, hrx⟩ := hDu.out h (by omega) (by omega)
        obtain ⟨y, hvy, hry⟩ := hDv.out (p - h) (by have := HPE.out; omega) (by have := HPE.out; omega)
        have HUX := Aside0.mk hux
        have HVY := Aside0.mk hvy
        have hhl : h < len := by omega
        have hph : h ≤ p := by have := HPE.out; omega
        have hpl2 : p - h < len := by have := HPE.out; omega
        have hI1 : (p : Int) - (h : Int) < (len : Int) := by have := HPE.out; omega
        have hI0 : 0 ≤ (p : Int) - (h : Int) := by omega
        have hIN : ((p : Int) - (h : Int)).toNat = p - h := by omega
        clear hux hvy
        obtain ⟨xc0, xc1, xc2, xc3, xc4, xc5, xc6⟩ := HRow.out.seven hry
        replace xc0 := cell_regrown xc0
        replace xc1 := cell_regrown xc1
        replace xc2 := cell_regrown xc2
        replace xc3 := cell_regrown xc3
        replace xc4 := cell_regrown xc4
        replace xc5 := cell_regrown xc5
        replace xc6 := cell_regrown xc6
        obtain ⟨yc0, yc1, yc2, yc3, yc4, yc5, yc6⟩ := HRow.out.seven hrx
        replace yc0 := cell_regrown yc0
        replace yc1 := cell_regrown yc1
        replace yc2 := cell_regrown yc2
        replace yc3 := cell_regrown yc3
        replace yc4 := cell_regrown yc4
        replace yc5 := cell_regrown yc5
        replace yc6 := cell_regrown yc6
        have CR := Aside0.mk (fun d os => Calls.regrown_of (d := d) (os := os) (w := wr) (HC.out y x _))
        by_cases hlt : key y < key x
        · have hneg : keyCmp key y x < 0 := (keyCmp_neg key y x).2 hlt
          have HLT := Aside0.mk hlt
          clear hlt
          generalize keyCmp key y x = cv at CR hneg
          refine wp_region_quiet_below (by kernel_rfl) (by kernel_rfl) ?_
          repeat (go_big_quiet_step (exact CR.out _ _))
          refine wpQuiet_nil ?_
          intro _ hw'
          obtain ⟨⟨dq, osq⟩, hw''⟩ := hw'
          have hbz := below_regrown wr dq osq
          rw [← hw''] at hbz
          have HRz := Aside0.mk (HRow.out.below hbz)
          have HWz := Aside0.mk (HW.out.trans (hbz.mono (Nat.le_trans hB HW.out.size)))
          clear hrx hry hw'' hbz xc0 yc0 xc1 yc1 xc2 yc2 xc3 yc3 xc4 yc4 xc5 yc5 xc6 yc6
          go_wp2_with fail
          go_roundg (gk - 1)
          case measure => have := HK.out; omega
          case rel => exact ⟨lo, h, rfl, rfl, l1, hh1, by omega, ⟨by have := HK.out; omega⟩, HLo, ⟨.inr ⟨x, y, HUX.out, by rw [show mid - 1 - h = p - h - m by have := HPE.out; omega]; exact HVY.out, HLT.out⟩⟩, HRz, HWz⟩
        · have hneg : ¬ keyCmp key y x < 0 := fun h => hlt ((keyCmp_neg key y x).1 h)
          have HLT := Aside0.mk hlt
          clear hlt
          generalize keyCmp key y x = cv at CR hneg
          refine wp_region_quiet_below (by kernel_rfl) (by kernel_rfl) ?_
          repeat (go_big_quiet_step (exact CR.out _ _))
          refine wpQuiet_nil ?_
          intro _ hw'
          obtain ⟨⟨dq, osq⟩, hw''⟩ := hw'
          have hbz := below_regrown wr dq osq
          rw [← hw''] at hbz
          have HRz := Aside0.mk (HRow.out.below hbz)
          have HWz := Aside0.mk (HW.out.trans (hbz.mono (Nat.le_trans hB HW.out.size)))
          clear hrx hry hw'' hbz xc0 yc0 xc1 yc1 xc2 yc2 xc3 yc3 xc4 yc4 xc5 yc5 xc6 yc6
          go_wp2_with fail
          go_roundg (gk - 1)
          case measure => have := HK.out; omega
          case rel => exact ⟨h + 1, hi, by go_num, rfl, by omega, by omega, l3, ⟨by have := HK.out; omega⟩, ⟨.inr ⟨x, y, by rw [show h + 1 - 1 - a = h - a by omega]; exact HUX.out, by rw [show mid - (h + 1) = p - h - m by have := HPE.out; omega]; exact HVY.out, by have := HLT.out; omega⟩⟩, HHi, HRz, HWz⟩
      · obtain rfl : lo = hi := by omega
        obtain ⟨s0, rfl⟩ : ∃ s0, s0 = lo := ⟨_, rfl⟩
        have l1' : a ≤ s0 := by omega
        have l3' : s0 ≤ m := by omega
        have l4' : s0 ≤ mid := by omega
        have l5' : mid + m ≤ s0 + b := by omega
        obtain ⟨endd, hend⟩ : ∃ endd, endd + s0 = mid + m := ⟨mid + m - s0, by omega⟩
        have he : Aside0 ((mid : Int) + (m : Int) - (s0 : Int) = (endd : Int)) := ⟨by omega⟩
        have e1 : endd ≤ b := by omega
        obtain ⟨u1, u2, hu12, hu1l⟩ : ∃ u1 u2, u = u1 ++ u2 ∧ u1.length = s0 - a := ⟨u.take (s0 - a), u.drop (s0 - a), (List.take_append_drop _ _).symm, by rw [List.length_take]; have := HM.out; omega⟩
        obtain ⟨v1, v2, hv12, hv1l⟩ : ∃ v1 v2, v = v1 ++ v2 ∧ v1.length = mid - s0 := ⟨v.take (mid - s0), v.drop (mid - s0), (List.take_append_drop _ _).symm, by rw [List.length_take]; have := HM.out; omega⟩
        have hcut := sym_cut HSU.out HSV.out HM.out.2.1 HM.out.2.2.1 l1' l3' l4' l5' c7.out.1 c7.out.2 HLo.out HHi.out
        rw [← hu1l, ← hv1l, hu12, hv12, List.take_left, List.drop_left, List.take_left, List.drop_left] at hcut
        subst hu12
        subst hv12
        have HCut := Aside0.mk hcut
        have hlu : m - s0 = u2.length := by have := HM.out; simp at this; omega
        have hlv : b - m - (mid - s0) = v2.length := by have := HM.out; simp at this; omega
        have HLen : Aside0 (u1.length = s0 - a ∧ v1.length = mid - s0 ∧ u2.length = m - s0 ∧ v2.length = b - m - (mid - s0)) := ⟨hu1l, hv1l, hlu.symm, hlv.symm⟩
        clear hcut hu1l hv1l hlu hlv HLo HHi hDu hDv
        by_cases p1 : s0 < m
        · by_cases p2 : s0 < mid
          · have t1 : (s0 : Int) < (m : Int) := by omega
            have t2 : (m : Int) < (mid : Int) + (m : Int) - (s0 : Int) := by omega
            have t3 : (mid : Int) < (mid : Int) + (m : Int) - (s0 : Int) := by omega
            by_cases p3 : a < s0
            · by_cases p4 : endd < b
              · have t4 : (mid : Int) + (m : Int) - (s0 : Int) < (b : Int) := by omega
                first
                | (exfalso; omega)
                | (
                    have HCr := Aside0.mk (rotateF (.func (.func gc) #[] #[]) wr g cap B hg (Nat.le_trans hB HW.out.size) (X ++ u1) u2 v1 (v2 ++ Y) (fun e => by have h := HLen.out; have h2 := len_nil u2 e; omega) (fun e => by have h := HLen.out; have h2 := len_nil v1 e; omega) (by have := HRow.out; simpa [List.append_assoc] using this) (s0 : Int) (m : Int) (endd : Int) len (by have h := HM.out; have h2 := HLen.out; simp at h ⊢; omega) (by have h := HM.out; have h2 := HLen.out; simp at h ⊢; omega) (by have h := HM.out; have h2 := HLen.out; simp at h ⊢; omega) (by have h := HM.out; have h2 := HLen.out; simp at h ⊢; omega))
                    go_wp2_with fail
                    rw [he.out]
                    go_at_call 48
                    refine HCr.out.mono ?_
                    rintro e w1 ⟨rfl, hrow1, hb1⟩
                    have HR1 : Aside0 (RowE w1 g cap (X ++ (u1 ++ v1) ++ (u2 ++ v2) ++ Y)) := ⟨by simpa [List.append_assoc] using hrow1⟩
                    have HW1 := Aside0.mk (HW.out.trans hb1)
                    clear hrow1 hb1
                    have HC1 := Aside0.mk (HIH.out w1 g cap B hg (Nat.le_trans hB HW1.out.size) (X) u1 v1 (u2 ++ v2 ++ Y) (fun e => by have h := HLen.out; have h2 := len_nil u1 e; omega) (fun e => by have h := HLen.out; have h2 := len_nil v1 e; omega) (by have := HLen.out; have := HM.out; omega) (srt_left HSU.out) (srt_left HSV.out) (by have := HR1.out; simpa [List.append_assoc] using this) a s0 mid len (HM.out.1) (by have h := HM.out; have h2 := HLen.out; simp at h ⊢; omega) (by have h := HM.out; have h2 := HLen.out; simp at h ⊢; omega) (by have h := HM.out; have h2 := HLen.out; simp at h ⊢; omega) hsm)
                    go_wp2_with fail
                    go_at_call 47
                    refine HC1.out.mono ?_
                    rintro e w2 ⟨rfl, ⟨s1, hs1, hrow2⟩, hb2⟩
                    have HS1 := Aside0.mk hs1
                    have HR2 : Aside0 (RowE w2 g cap (X ++ s1 ++ (u2 ++ v2) ++ Y)) := ⟨by simpa [List.append_assoc] using hrow2⟩
                    have HW2 := Aside0.mk (HW1.out.trans hb2)
                    have HSL : Aside0 (s1.length = mid - a) := ⟨by have := hs1.same.length; have := HLen.out; simp at *; omega⟩
                    clear hs1 hrow2 hb2
                    have HC2 := Aside0.mk (HIH.out w2 g cap B hg (Nat.le_trans hB HW2.out.size) (X ++ s1) u2 v2 (Y) (fun e => by have h := HLen.out; have h2 := len_nil u2 e; omega) (fun e => by have h := HLen.out; have h2 := len_nil v2 e; omega) (by have := HLen.out; have := HM.out; omega) (srt_right HSU.out) (srt_right HSV.out) (by have := HR2.out; simpa [List.append_assoc] using this) mid endd b len (by have h := HM.out; have h2 := HLen.out; have h3 := HSL.out; simp at h ⊢; omega) (by have h := HM.out; have h2 := HLen.out; have h3 := HSL.out; simp at h ⊢; omega) (by have h := HM.out; have h2 := HLen.out; have h3 := HSL.out; simp at h ⊢; omega) (by have h := HM.out; have h2 := HLen.out; have h3 := HSL.out; simp at h ⊢; omega) hsm)
                    go_wp2_with fail
                    go_at_call 47
                    refine HC2.out.mono ?_
                    rintro e w3 ⟨rfl, ⟨s2, hs2, hrow3⟩, hb3⟩
                    have HS2 := Aside0.mk hs2
                    have HR3 : Aside0 (RowE w3 g cap (X ++ (s1 ++ s2) ++ Y)) := ⟨by simpa [List.append_assoc] using hrow3⟩
                    have HW3 := Aside0.mk (HW2.out.trans hb3)
                    clear hs2 hrow3 hb3
                    go_wp2_with fail
                    go_end0
                    exact ⟨rfl, ⟨s1 ++ s2, by have h := merge_glue HSU.out HSV.out HCut.out.1 HCut.out.2 HS1.out HS2.out; first | exact h | (rw [List.append_assoc] at h; exact h), by have h := HR3.out; first | exact h | (rw [List.append_assoc] at h; exact h)⟩, HW3.out⟩
                  )
              · have t4 : ¬ (mid : Int) + (m : Int) - (s0 : Int) < (b : Int) := by omega
                first
                | (exfalso; omega)
                | (
                    have HCr := Aside0.mk (rotateF (.func (.func gc) #[] #[]) wr g cap B hg (Nat.le_trans hB HW.out.size) (X ++ u1) u2 v1 (v2 ++ Y) (fun e => by have h := HLen.out; have h2 := len_nil u2 e; omega) (fun e => by have h := HLen.out; have h2 := len_nil v1 e; omega) (by have := HRow.out; simpa [List.append_assoc] using this) (s0 : Int) (m : Int) (endd : Int) len (by have h := HM.out; have h2 := HLen.out; simp at h ⊢; omega) (by have h := HM.out; have h2 := HLen.out; simp at h ⊢; omega) (by have h := HM.out; have h2 := HLen.out; simp at h ⊢; omega) (by have h := HM.out; have h2 := HLen.out; simp at h ⊢; omega))
                    go_wp2_with fail
                    rw [he.out]
                    go_at_call 48
                    refine HCr.out.mono ?_
                    rintro e w1 ⟨rfl, hrow1, hb1⟩
                    have HR1 : Aside0 (RowE w1 g cap (X ++ (u1 ++ v1) ++ (u2 ++ v2) ++ Y)) := ⟨by simpa [List.append_assoc] using hrow1⟩
                    have HW1 := Aside0.mk (HW.out.trans hb1)
                    clear hrow1 hb1
                    have HC1 := Aside0.mk (HIH.out w1 g cap B hg (Nat.le_trans hB HW1.out.size) (X) u1 v1 (u2 ++ v2 ++ Y) (fun e => by have h := HLen.out; have h2 := len_nil u1 e; omega) (fun e => by have h := HLen.out; have h2 := len_nil v1 e; omega) (by have := HLen.out; have := HM.out; omega) (srt_left HSU.out) (srt_left HSV.out) (by have := HR1.out; simpa [List.append_assoc] using this) a s0 mid len (HM.out.1) (by have h := HM.out; have h2 := HLen.out; simp at h ⊢; omega) (by have h := HM.out; have h2 := HLen.out; simp at h ⊢; omega) (by have h := HM.out; have h2 := HLen.out; simp at h ⊢; omega) hsm)
                    go_wp2_with fail
                    go_at_call 47
                    refine HC1.out.mono ?_
                    rintro e w2 ⟨rfl, ⟨s1, hs1, hrow2⟩, hb2⟩
                    have HS1 := Aside0.mk hs1
                    have HR2 : Aside0 (RowE w2 g cap (X ++ s1 ++ (u2 ++ v2) ++ Y)) := ⟨by simpa [List.append_assoc] using hrow2⟩
                    have HW2 := Aside0.mk (HW1.out.trans hb2)
                    have HSL : Aside0 (s1.length = mid - a) := ⟨by have := hs1.same.length; have := HLen.out; simp at *; omega⟩
                    clear hs1 hrow2 hb2
                    obtain ⟨s2, hs2⟩ : ∃ s2, s2 = u2 ++ v2 := ⟨_, rfl⟩
                    have HS2 : Aside0 (StableOf key (u2 ++ v2) s2) := ⟨by
                      rw [hs2]
                      have h0 : u2 = [] ∨ v2 = [] := by
                        have := HLen.out
                        rcases Nat.eq_zero_or_pos u2.length with e | e
                        · exact .inl (List.length_eq_zero_iff.1 e)
                        · exact .inr (List.length_eq_zero_iff.1 (by omega))
                      rcases h0 with rfl | rfl
                      · exact ⟨by simpa using srt_right HSV.out, Same.refl _⟩
                      · exact ⟨by simpa using srt_right HSU.out, Same.refl _⟩⟩
                    have HR3 : Aside0 (RowE w2 g cap (X ++ (s1 ++ s2) ++ Y)) := ⟨by rw [hs2]; have := HR2.out; simpa [List.append_assoc] using this⟩
                    have HW3 := HW2
                    clear hs2
                    go_wp2_with fail
                    go_end0
                    exact ⟨rfl, ⟨s1 ++ s2, by have h := merge_glue HSU.out HSV.out HCut.out.1 HCut.out.2 HS1.out HS2.out; first | exact h | (rw [List.append_assoc] at h; exact h), by have h := HR3.out; first | exact h | (rw [List.append_assoc] at h; exact h)⟩, HW3.out⟩
                  )
            · by_cases p4 : endd < b
              · have t4 : (mid : Int) + (m : Int) - (s0 : Int) < (b : Int) := by omega
                first
                | (exfalso; omega)
                | (
                    have HCr := Aside0.mk (rotateF (.func (.func gc) #[] #[]) wr g cap B hg (Nat.le_trans hB HW.out.size) (X ++ u1) u2 v1 (v2 ++ Y) (fun e => by have h := HLen.out; have h2 := len_nil u2 e; omega) (fun e => by have h := HLen.out; have h2 := len_nil v1 e; omega) (by have := HRow.out; simpa [List.append_assoc] using this) (s0 : Int) (m : Int) (endd : Int) len (by have h := HM.out; have h2 := HLen.out; simp at h ⊢; omega) (by have h := HM.out; have h2 := HLen.out; simp at h ⊢; omega) (by have h := HM.out; have h2 := HLen.out; simp at h ⊢; omega) (by have h := HM.out; have h2 := HLen.out; simp at h ⊢; omega))
                    go_wp2_with fail
                    rw [he.out]
                    go_at_call 48
                    refine HCr.out.mono ?_
                    rintro e w1 ⟨rfl, hrow1, hb1⟩
                    have HR1 : Aside0 (RowE w1 g cap (X ++ (u1 ++ v1) ++ (u2 ++ v2) ++ Y)) := ⟨by simpa [List.append_assoc] using hrow1⟩
                    have HW1 := Aside0.mk (HW.out.trans hb1)
                    clear hrow1 hb1
                    obtain ⟨s1, hs1⟩ : ∃ s1, s1 = u1 ++ v1 := ⟨_, rfl⟩
                    have HS1 : Aside0 (StableOf key (u1 ++ v1) s1) := ⟨by
                      rw [hs1]
                      have h0 : u1 = [] ∨ v1 = [] := by
                        have := HLen.out
                        rcases Nat.eq_zero_or_pos u1.length with e | e
                        · exact .inl (List.length_eq_zero_iff.1 e)
                        · exact .inr (List.length_eq_zero_iff.1 (by omega))
                      rcases h0 with rfl | rfl
                      · exact ⟨by simpa using srt_left HSV.out, Same.refl _⟩
                      · exact ⟨by simpa using srt_left HSU.out, Same.refl _⟩⟩
                    have HR2 : Aside0 (RowE w1 g cap (X ++ s1 ++ (u2 ++ v2) ++ Y)) := ⟨by rw [hs1]; exact HR1.out⟩
                    have HW2 := HW1
                    have HSL : Aside0 (s1.length = mid - a) := ⟨by rw [hs1]; have := HLen.out; simp; omega⟩
                    clear hs1
                    have HC2 := Aside0.mk (HIH.out w1 g cap B hg (Nat.le_trans hB HW2.out.size) (X ++ s1) u2 v2 (Y) (fun e => by have h := HLen.out; have h2 := len_nil u2 e; omega) (fun e => by have h := HLen.out; have h2 := len_nil v2 e; omega) (by have := HLen.out; have := HM.out; omega) (srt_right HSU.out) (srt_right HSV.out) (by have := HR2.out; simpa [List.append_assoc] using this) mid endd b len (by have h := HM.out; have h2 := HLen.out; have h3 := HSL.out; simp at h ⊢; omega) (by have h := HM.out; have h2 := HLen.out; have h3 := HSL.out; simp at h ⊢; omega) (by have h := HM.out; have h2 := HLen.out; have h3 := HSL.out; simp at h ⊢; omega) (by have h := HM.out; have h2 := HLen.out; have h3 := HSL.out; simp at h ⊢; omega) hsm)
                    go_wp2_with fail
                    go_at_call 47
                    refine HC2.out.mono ?_
                    rintro e w3 ⟨rfl, ⟨s2, hs2, hrow3⟩, hb3⟩
                    have HS2 := Aside0.mk hs2
                    have HR3 : Aside0 (RowE w3 g cap (X ++ (s1 ++ s2) ++ Y)) := ⟨by simpa [List.append_assoc] using hrow3⟩
                    have HW3 := Aside0.mk (HW2.out.trans hb3)
                    clear hs2 hrow3 hb3
                    go_wp2_with fail
                    go_end0
                    exact ⟨rfl, ⟨s1 ++ s2, by have h := merge_glue HSU.out HSV.out HCut.out.1 HCut.out.2 HS1.out HS2.out; first | exact h | (rw [List.append_assoc] at h; exact h), by have h := HR3.out; first | exact h | (rw [List.append_assoc] at h; exact h)⟩, HW3.out⟩
                  )
              · have t4 : ¬ (mid : Int) + (m : Int) - (s0 : Int) < (b : Int) := by omega
                first
                | (exfalso; omega)
                | (
                    have HCr := Aside0.mk (rotateF (.func (.func gc) #[] #[]) wr g cap B hg (Nat.le_trans hB HW.out.size) (X ++ u1) u2 v1 (v2 ++ Y) (fun e => by have h := HLen.out; have h2 := len_nil u2 e; omega) (fun e => by have h := HLen.out; have h2 := len_nil v1 e; omega) (by have := HRow.out; simpa [List.append_assoc] using this) (s0 : Int) (m : Int) (endd : Int) len (by have h := HM.out; have h2 := HLen.out; simp at h ⊢; omega) (by have h := HM.out; have h2 := HLen.out; simp at h ⊢; omega) (by have h := HM.out; have h2 := HLen.out; simp at h ⊢; omega) (by have h := HM.out; have h2 := HLen.out; simp at h ⊢; omega))
                    go_wp2_with fail
                    rw [he.out]
                    go_at_call 48
                    refine HCr.out.mono ?_
                    rintro e w1 ⟨rfl, hrow1, hb1⟩
                    have HR1 : Aside0 (RowE w1 g cap (X ++ (u1 ++ v1) ++ (u2 ++ v2) ++ Y)) := ⟨by simpa [List.append_assoc] using hrow1⟩
                    have HW1 := Aside0.mk (HW.out.trans hb1)
                    clear hrow1 hb1
                    obtain ⟨s1, hs1⟩ : ∃ s1, s1 = u1 ++ v1 := ⟨_, rfl⟩
                    have HS1 : Aside0 (StableOf key (u1 ++ v1) s1) := ⟨by
                      rw [hs1]
                      have h0 : u1 = [] ∨ v1 = [] := by
                        have := HLen.out
                        rcases Nat.eq_zero_or_pos u1.length with e | e
                        · exact .inl (List.length_eq_zero_iff.1 e)
                        · exact .inr (List.length_eq_zero_iff.1 (by omega))
                      rcases h0 with rfl | rfl
                      · exact ⟨by simpa using srt_left HSV.out, Same.refl _⟩
                      · exact ⟨by simpa using srt_left HSU.out, Same.refl _⟩⟩
                    have HR2 : Aside0 (RowE w1 g cap (X ++ s1 ++ (u2 ++ v2) ++ Y)) := ⟨by rw [hs1]; exact HR1.out⟩
                    have HW2 := HW1
                    have HSL : Aside0 (s1.length = mid - a) := ⟨by rw [hs1]; have := HLen.out; simp; omega⟩
                    clear hs1
                    obtain ⟨s2, hs2⟩ : ∃ s2, s2 = u2 ++ v2 := ⟨_, rfl⟩
                    have HS2 : Aside0 (StableOf key (u2 ++ v2) s2) := ⟨by
                      rw [hs2]
                      have h0 : u2 = [] ∨ v2 = [] := by
                        have := HLen.out
                        rcases Nat.eq_zero_or_pos u2.length with e | e
                        · exact .inl (List.length_eq_zero_iff.1 e)
                        · exact .inr (List.length_eq_zero_iff.1 (by omega))
                      rcases h0 with rfl | rfl
                      · exact ⟨by simpa using srt_right HSV.out, Same.refl _⟩
                      · exact ⟨by simpa using srt_right HSU.out, Same.refl _⟩⟩
                    have HR3 : Aside0 (RowE w1 g cap (X ++ (s1 ++ s2) ++ Y)) := ⟨by rw [hs2]; have := HR2.out; simpa [List.append_assoc] using this⟩
                    have HW3 := HW2
                    clear hs2
                    go_wp2_with fail
                    go_end0
                    exact ⟨rfl, ⟨s1 ++ s2, by have h := merge_glue HSU.out HSV.out HCut.out.1 HCut.out.2 HS1.out HS2.out; first | exact h | (rw [List.append_assoc] at h; exact h), by have h := HR3.out; first | exact h | (rw [List.append_assoc] at h; exact h)⟩, HW3.out⟩
                  )
          · have t3 : (mid : Int) < (mid : Int) + (m : Int) - (s0 : Int) := by omega
            have t2 : ¬ (m : Int) < (mid : Int) + (m : Int) - (s0 : Int) := by omega
            by_cases p4 : endd < b
            · have t4 : (mid : Int) + (m : Int) - (s0 : Int) < (b : Int) := by omega
              first
              | (exfalso; omega)
              | (
                  have HR1 : Aside0 (RowE wr g cap (X ++ (u1 ++ v1) ++ (u2 ++ v2) ++ Y)) := ⟨by
                    have h := HRow.out
                    have h0 : u2 = [] ∨ v1 = [] := by
                      have := HLen.out
                      rcases Nat.eq_zero_or_pos u2.length with e | e
                      · exact .inl (List.length_eq_zero_iff.1 e)
                      · exact .inr (List.length_eq_zero_iff.1 (by omega))
                    rcases h0 with rfl | rfl <;> simpa [List.append_assoc] using h⟩
                  have HW1 := HW
                  obtain ⟨s1, hs1⟩ : ∃ s1, s1 = u1 ++ v1 := ⟨_, rfl⟩
                  have HS1 : Aside0 (StableOf key (u1 ++ v1) s1) := ⟨by
                    rw [hs1]
                    have h0 : u1 = [] ∨ v1 = [] := by
                      have := HLen.out
                      rcases Nat.eq_zero_or_pos u1.length with e | e
                      · exact .inl (List.length_eq_zero_iff.1 e)
                      · exact .inr (List.length_eq_zero_iff.1 (by omega))
                    rcases h0 with rfl | rfl
                    · exact ⟨by simpa using srt_left HSV.out, Same.refl _⟩
                    · exact ⟨by simpa using srt_left HSU.out, Same.refl _⟩⟩
                  have HR2 : Aside0 (RowE wr g cap (X ++ s1 ++ (u2 ++ v2) ++ Y)) := ⟨by rw [hs1]; exact HR1.out⟩
                  have HW2 := HW1
                  have HSL : Aside0 (s1.length = mid - a) := ⟨by rw [hs1]; have := HLen.out; simp; omega⟩
                  clear hs1
                  have HC2 := Aside0.mk (HIH.out wr g cap B hg (Nat.le_trans hB HW2.out.size) (X ++ s1) u2 v2 (Y) (fun e => by have h := HLen.out; have h2 := len_nil u2 e; omega) (fun e => by have h := HLen.out; have h2 := len_nil v2 e; omega) (by have := HLen.out; have := HM.out; omega) (srt_right HSU.out) (srt_right HSV.out) (by have := HR2.out; simpa [List.append_assoc] using this) mid endd b len (by have h := HM.out; have h2 := HLen.out; have h3 := HSL.out; simp at h ⊢; omega) (by have h := HM.out; have h2 := HLen.out; have h3 := HSL.out; simp at h ⊢; omega) (by have h := HM.out; have h2 := HLen.out; have h3 := HSL.out; simp at h ⊢; omega) (by have h := HM.out; have h2 := HLen.out; have h3 := HSL.out; simp at h ⊢; omega) hsm)
                  go_wp2_with fail
                  rw [he.out]
                  go_at_call 47
                  refine HC2.out.mono ?_
                  rintro e w3 ⟨rfl, ⟨s2, hs2, hrow3⟩, hb3⟩
                  have HS2 := Aside0.mk hs2
                  have HR3 : Aside0 (RowE w3 g cap (X ++ (s1 ++ s2) ++ Y)) := ⟨by simpa [List.append_assoc] using hrow3⟩
                  have HW3 := Aside0.mk (HW2.out.trans hb3)
                  clear hs2 hrow3 hb3
                  go_wp2_with fail
                  go_end0
                  exact ⟨rfl, ⟨s1 ++ s2, by have h := merge_glue HSU.out HSV.out HCut.out.1 HCut.out.2 HS1.out HS2.out; first | exact h | (rw [List.append_assoc] at h; exact h), by have h := HR3.out; first | exact h | (rw [List.append_assoc] at h; exact h)⟩, HW3.out⟩
                )
            · have t4 : ¬ (mid : Int) + (m : Int) - (s0 : Int) < (b : Int) := by omega
              first
              | (exfalso; omega)
              | (
                  have HR1 : Aside0 (RowE wr g cap (X ++ (u1 ++ v1) ++ (u2 ++ v2) ++ Y)) := ⟨by
                    have h := HRow.out
                    have h0 : u2 = [] ∨ v1 = [] := by
                      have := HLen.out
                      rcases Nat.eq_zero_or_pos u2.length with e | e
                      · exact .inl (List.length_eq_zero_iff.1 e)
                      · exact .inr (List.length_eq_zero_iff.1 (by omega))
                    rcases h0 with rfl | rfl <;> simpa [List.append_assoc] using h⟩
                  have HW1 := HW
                  obtain ⟨s1, hs1⟩ : ∃ s1, s1 = u1 ++ v1 := ⟨_, rfl⟩
                  have HS1 : Aside0 (StableOf key (u1 ++ v1) s1) := ⟨by
                    rw [hs1]
                    have h0 : u1 = [] ∨ v1 = [] := by
                      have := HLen.out
                      rcases Nat.eq_zero_or_pos u1.length with e | e
                      · exact .inl (List.length_eq_zero_iff.1 e)
                      · exact .inr (List.length_eq_zero_iff.1 (by omega))
                    rcases h0 with rfl | rfl
                    · exact ⟨by simpa using srt_left HSV.out, Same.refl _⟩
                    · exact ⟨by simpa using srt_left HSU.out, Same.refl _⟩⟩
                  have HR2 : Aside0 (RowE wr g cap (X ++ s1 ++ (u2 ++ v2) ++ Y)) := ⟨by rw [hs1]; exact HR1.out⟩
                  have HW2 := HW1
                  have HSL : Aside0 (s1.length = mid - a) := ⟨by rw [hs1]; have := HLen.out; simp; omega⟩
                  clear hs1
                  obtain ⟨s2, hs2⟩ : ∃ s2, s2 = u2 ++ v2 := ⟨_, rfl⟩
                  have HS2 : Aside0 (StableOf key (u2 ++ v2) s2) := ⟨by
                    rw [hs2]
                    have h0 : u2 = [] ∨ v2 = [] := by
                      have := HLen.out
                      rcases Nat.eq_zero_or_pos u2.length with e | e
                      · exact .inl (List.length_eq_zero_iff.1 e)
                      · exact .inr (List.length_eq_zero_iff.1 (by omega))
                    rcases h0 with rfl | rfl
                    · exact ⟨by simpa using srt_right HSV.out, Same.refl _⟩
                    · exact ⟨by simpa using srt_right HSU.out, Same.refl _⟩⟩
                  have HR3 : Aside0 (RowE wr g cap (X ++ (s1 ++ s2) ++ Y)) := ⟨by rw [hs2]; have := HR2.out; simpa [List.append_assoc] using this⟩
                  have HW3 := HW2
                  clear hs2
                  go_wp2_with fail
                  go_end0
                  exact ⟨rfl, ⟨s1 ++ s2, by have h := merge_glue HSU.out HSV.out HCut.out.1 HCut.out.2 HS1.out HS2.out; first | exact h | (rw [List.append_assoc] at h; exact h), by have h := HR3.out; first | exact h | (rw [List.append_assoc] at h; exact h)⟩, HW3.out⟩
                )
        · have t3 : ¬ (mid : Int) < (mid : Int) + (m : Int) - (s0 : Int) := by omega
          by_cases p2 : s0 < mid
          · have p3 : a < s0 := by omega
            first
            | (exfalso; omega)
            | (
                have HR1 : Aside0 (RowE wr g cap (X ++ (u1 ++ v1) ++ (u2 ++ v2) ++ Y)) := ⟨by
                  have h := HRow.out
                  have h0 : u2 = [] ∨ v1 = [] := by
                    have := HLen.out
                    rcases Nat.eq_zero_or_pos u2.length with e | e
                    · exact .inl (List.length_eq_zero_iff.1 e)
                    · exact .inr (List.length_eq_zero_iff.1 (by omega))
                  rcases h0 with rfl | rfl <;> simpa [List.append_assoc] using h⟩
                have HW1 := HW
                have HC1 := Aside0.mk (HIH.out wr g cap B hg (Nat.le_trans hB HW1.out.size) (X) u1 v1 (u2 ++ v2 ++ Y) (fun e => by have h := HLen.out; have h2 := len_nil u1 e; omega) (fun e => by have h := HLen.out; have h2 := len_nil v1 e; omega) (by have := HLen.out; have := HM.out; omega) (srt_left HSU.out) (srt_left HSV.out) (by have := HR1.out; simpa [List.append_assoc] using this) a s0 mid len (HM.out.1) (by have h := HM.out; have h2 := HLen.out; simp at h ⊢; omega) (by have h := HM.out; have h2 := HLen.out; simp at h ⊢; omega) (by have h := HM.out; have h2 := HLen.out; simp at h ⊢; omega) hsm)
                go_wp2_with fail
                go_at_call 47
                refine HC1.out.mono ?_
                rintro e w2 ⟨rfl, ⟨s1, hs1, hrow2⟩, hb2⟩
                have HS1 := Aside0.mk hs1
                have HR2 : Aside0 (RowE w2 g cap (X ++ s1 ++ (u2 ++ v2) ++ Y)) := ⟨by simpa [List.append_assoc] using hrow2⟩
                have HW2 := Aside0.mk (HW1.out.trans hb2)
                have HSL : Aside0 (s1.length = mid - a) := ⟨by have := hs1.same.length; have := HLen.out; simp at *; omega⟩
                clear hs1 hrow2 hb2
                obtain ⟨s2, hs2⟩ : ∃ s2, s2 = u2 ++ v2 := ⟨_, rfl⟩
                have HS2 : Aside0 (StableOf key (u2 ++ v2) s2) := ⟨by
                  rw [hs2]
                  have h0 : u2 = [] ∨ v2 = [] := by
                    have := HLen.out
                    rcases Nat.eq_zero_or_pos u2.length with e | e
                    · exact .inl (List.length_eq_zero_iff.1 e)
                    · exact .inr (List.length_eq_zero_iff.1 (by omega))
                  rcases h0 with rfl | rfl
                  · exact ⟨by simpa using srt_right HSV.out, Same.refl _⟩
                  · exact ⟨by simpa using srt_right HSU.out, Same.refl _⟩⟩
                have HR3 : Aside0 (RowE w2 g cap (X ++ (s1 ++ s2) ++ Y)) := ⟨by rw [hs2]; have := HR2.out; simpa [List.append_assoc] using this⟩
                have HW3 := HW2
                clear hs2
                go_wp2_with fail
                go_end0
                exact ⟨rfl, ⟨s1 ++ s2, by have h := merge_glue HSU.out HSV.out HCut.out.1 HCut.out.2 HS1.out HS2.out; first | exact h | (rw [List.append_assoc] at h; exact h), by have h := HR3.out; first | exact h | (rw [List.append_assoc] at h; exact h)⟩, HW3.out⟩
              )
          · have q : s0 = mid := by omega
            first
            | (exfalso; omega)
            | (
                have HR1 : Aside0 (RowE wr g cap (X ++ (u1 ++ v1) ++ (u2 ++ v2) ++ Y)) := ⟨by
                  have h := HRow.out
                  have h0 : u2 = [] ∨ v1 = [] := by
                    have := HLen.out
                    rcases Nat.eq_zero_or_pos u2.length with e | e
                    · exact .inl (List.length_eq_zero_iff.1 e)
                    · exact .inr (List.length_eq_zero_iff.1 (by omega))
                  rcases h0 with rfl | rfl <;> simpa [List.append_assoc] using h⟩
                have HW1 := HW
                obtain ⟨s1, hs1⟩ : ∃ s1, s1 = u1 ++ v1 := ⟨_, rfl⟩
                have HS1 : Aside0 (StableOf key (u1 ++ v1) s1) := ⟨by
                  rw [hs1]
                  have h0 : u1 = [] ∨ v1 = [] := by
                    have := HLen.out
                    rcases Nat.eq_zero_or_pos u1.length with e | e
                    · exact .inl (List.length_eq_zero_iff.1 e)
                    · exact .inr (List.length_eq_zero_iff.1 (by omega))
                  rcases h0 with rfl | rfl
                  · exact ⟨by simpa using srt_left HSV.out, Same.refl _⟩
                  · exact ⟨by simpa using srt_left HSU.out, Same.refl _⟩⟩
                have HR2 : Aside0 (RowE wr g cap (X ++ s1 ++ (u2 ++ v2) ++ Y)) := ⟨by rw [hs1]; exact HR1.out⟩
                have HW2 := HW1
                have HSL : Aside0 (s1.length = mid - a) := ⟨by rw [hs1]; have := HLen.out; simp; omega⟩
                clear hs1
                obtain ⟨s2, hs2⟩ : ∃ s2, s2 = u2 ++ v2 := ⟨_, rfl⟩
                have HS2 : Aside0 (StableOf key (u2 ++ v2) s2) := ⟨by
                  rw [hs2]
                  have h0 : u2 = [] ∨ v2 = [] := by
                    have := HLen.out
                    rcases Nat.eq_zero_or_pos u2.length with e | e
                    · exact .inl (List.length_eq_zero_iff.1 e)
                    · exact .inr (List.length_eq_zero_iff.1 (by omega))
                  rcases h0 with rfl | rfl
                  · exact ⟨by simpa using srt_right HSV.out, Same.refl _⟩
                  · exact ⟨by simpa using srt_right HSU.out, Same.refl _⟩⟩
                have HR3 : Aside0 (RowE wr g cap (X ++ (s1 ++ s2) ++ Y)) := ⟨by rw [hs2]; have := HR2.out; simpa [List.append_assoc] using this⟩
                have HW3 := HW2
                clear hs2
                go_wp2_with fail
                go_end0
                exact ⟨rfl, ⟨s1 ++ s2, by have h := merge_glue HSU.out HSV.out HCut.out.1 HCut.out.2 HS1.out HS2.out; first | exact h | (rw [List.append_assoc] at h; exact h), by have h := HR3.out; first | exact h | (rw [List.append_assoc] at h; exact h)⟩, HW3.out⟩
              )
end Go.Proofs.Ytlmjopodghikgaa.Print
