/- slices.symMergeCmpFunc at entries, where one of the two runs has one entry. -/
import Derived.Test.YtlmjopodghikgaaHIns
namespace Go.Proofs.Ytlmjopodghikgaa.Print
open Go.RowKit Go.Proofs.YtlmjopodghikgaaW.PrintWords Go.Proofs.Ytlmjopodghikgaa.Stable
set_option linter.unusedVariables false
set_option linter.unusedSimpArgs false

/-- An entry is moved behind a run of smaller ones. -/
theorem one_stable {key : S36 → Int} {x : S36} {v1 v2 : List S36} (sv : Srt key (v1 ++ v2)) (h1 : ∀ y ∈ v1, key y < key x) (h2 : ∀ y ∈ v2, key x ≤ key y) : StableOf key ([x] ++ (v1 ++ v2)) (v1 ++ x :: v2) := by
  refine ⟨?_, ?_⟩
  · refine srt_append (srt_left sv) (List.pairwise_cons.2 ⟨h2, srt_right sv⟩) fun a ha b hb => ?_
    rcases List.mem_cons.1 hb with rfl | hb
    · exact Int.le_of_lt (h1 a ha)
    · exact srt_cross sv a ha b hb
  · have := (same_swap (u := [x]) (v := v1) (fun a ha b hb => by rw [List.mem_singleton.1 hb]; exact h1 a ha)).append (Same.refl (key := key) v2)
    simpa [List.append_assoc] using this
theorem two_stable {key : S36 → Int} {x : S36} {u1 u2 : List S36} (su : Srt key (u1 ++ u2)) (h1 : ∀ y ∈ u1, key y ≤ key x) (h2 : ∀ y ∈ u2, key x < key y) : StableOf key (u1 ++ u2 ++ [x]) (u1 ++ x :: u2) := by
  refine ⟨?_, ?_⟩
  · refine srt_append (srt_left su) (List.pairwise_cons.2 ⟨fun y hy => Int.le_of_lt (h2 y hy), srt_right su⟩) fun a ha b hb => ?_
    rcases List.mem_cons.1 hb with rfl | hb
    · exact h1 a ha
    · exact srt_cross su a ha b hb
  · have := (Same.refl (key := key) u1).append (same_swap (u := u2) (v := [x]) (fun a ha b hb => by rw [List.mem_singleton.1 ha]; exact h2 b hb))
    simpa [List.append_assoc] using this
/-- What a binary search's two ends say of a sorted run. -/
theorem search_lt {key : S36 → Int} {v : List S36} (sv : Srt key v) (i : Nat) (hi : i ≤ v.length) (c : Int) (h : i = 0 ∨ ∃ y, v[i - 1]? = some y ∧ key y < c) : ∀ y ∈ v.take i, key y < c := by
  rcases h with rfl | ⟨z, hz, hlt⟩
  · simp
  · intro y hy
    have hp : 0 < i := by rcases Nat.eq_zero_or_pos i with h | h; (subst h; simp at hy); exact h
    have h1 : Srt key (v.take i) := by rw [← List.take_append_drop i v] at sv; exact srt_left sv
    have := le_last h1 (x := y) (y := z) (by rw [List.length_take, Nat.min_eq_left hi, List.getElem?_take, if_pos (by omega)]; exact hz) hy
    omega
theorem search_le {key : S36 → Int} {v : List S36} (sv : Srt key v) (i : Nat) (hi : i ≤ v.length) (c : Int) (h : i = 0 ∨ ∃ y, v[i - 1]? = some y ∧ key y ≤ c) : ∀ y ∈ v.take i, key y ≤ c := by
  have := search_lt sv i hi (c + 1) (by rcases h with h | ⟨y, hy, h⟩; exact .inl h; exact .inr ⟨y, hy, by omega⟩)
  intro y hy
  have := this y hy
  omega
theorem search_ge {key : S36 → Int} {v : List S36} (sv : Srt key v) (i : Nat) (c : Int) (h : i = v.length ∨ ∃ y, v[i]? = some y ∧ c ≤ key y) : ∀ y ∈ v.drop i, c ≤ key y := by
  rcases h with rfl | ⟨z, hz, hlt⟩
  · simp
  · intro y hy
    have h1 : Srt key (v.drop i) := by rw [← List.take_append_drop i v] at sv; exact srt_right sv
    have := first_le h1 (x := y) (y := z) (by rw [List.getElem?_drop]; exact hz) hy
    omega

/-- What symMerge leaves of the runs u and v behind X. -/
def SymSaid (key : S36 → Int) (gc N : Nat) : Prop :=
  ∀ (w : World) (g cap B : Nat) (hg : B ≤ g) (hB : B ≤ w.heap.size) (X u v Y : List S36) (hu : u ≠ []) (hv : v ≠ []) (hN : u.length + v.length ≤ N) (su : Srt key u) (sv : Srt key v) (hr : RowE w g cap (X ++ u ++ v ++ Y)) (a m b len : Nat) (ha : a = X.length) (hm : m = X.length + u.length) (hb : b = X.length + u.length + v.length) (hl : len = (X ++ u ++ v ++ Y).length) (hsm : len < 4611686018427387904),
    Calls Try.prog 47 #[.slice (some ⟨g, 0, none⟩) len cap, .int .i64 a, .int .i64 m, .int .i64 b, .func (.func gc) #[] #[]] w fun e w' => e = .returned (.tuple #[]) ∧ (∃ s, StableOf key (u ++ v) s ∧ RowE w' g cap (X ++ s ++ Y)) ∧ Below B w w'

theorem half (lo hi : Nat) : ((lo : Int) + (hi : Int)) / 2 = (((lo + hi) / 2 : Nat) : Int) := by omega

set_option maxHeartbeats 4000000 in
set_option maxRecDepth 100000 in
theorem symOne (key : S36 → Int) (gc : Nat) (eg : ∀ args w, (callFunc gc args).run Try.prog w = .ok (.enter gc args) w) (hcmp : CmpB gc key) (w : World) (g cap B : Nat) (hg : B ≤ g) (hB : B ≤ w.heap.size) (X v Y : List S36) (x : S36) (sv : Srt key v) (hr : RowE w g cap (X ++ x :: (v ++ Y))) (a m b len : Nat) (ha : a = X.length) (hm : m = X.length + 1) (hb : b = X.length + 1 + v.length) (hl : len = (X ++ x :: (v ++ Y)).length) (hsm : len < 4611686018427387904) :
    Calls Try.prog 47 #[.slice (some ⟨g, 0, none⟩) len cap, .int .i64 a, .int .i64 m, .int .i64 b, .func (.func gc) #[] #[]] w fun e w' => e = .returned (.tuple #[]) ∧ (∃ s, StableOf key ([x] ++ v) s ∧ RowE w' g cap (X ++ s ++ Y)) ∧ Below B w w' := by
  have hle := hr.len
  have hlen : len = X.length + 1 + v.length + Y.length := by rw [hl]; simp; omega
  have b1 : a < m := by omega
  have b2 : m ≤ b := by omega
  have b3 : b ≤ len := by omega
  have ht : ((m : Int) - (a : Int) == 1) = true := by simp; omega
  have HR := Aside0.mk hr
  have HC := Aside0.mk hcmp
  have HM := Aside0.mk (show a = X.length ∧ m = a + 1 ∧ b = m + v.length ∧ len = X.length + 1 + v.length + Y.length from ⟨ha, by omega, by omega, hlen⟩)
  have HSV := Aside0.mk sv
  have ex : (X ++ x :: (v ++ Y))[a]? = some x := by rw [ha, List.getElem?_append_right (Nat.le_refl _), Nat.sub_self]; rfl
  have HEX := Aside0.mk ex
  have hv : Aside0 (∀ k, m ≤ k → k < b → ∃ y, v[k - m]? = some y ∧ (X ++ x :: (v ++ Y))[k]? = some y) := ⟨fun k h1 h2 => by
    have hk : k - m < v.length := by omega
    refine ⟨_, List.getElem?_eq_getElem hk, ?_⟩
    rw [List.getElem?_append_right (by omega), show k - X.length = (k - m) + 1 by omega, List.getElem?_cons_succ, List.getElem?_append_left hk, List.getElem?_eq_getElem hk]⟩
  clear hr hle ha hm hb hl hlen hcmp sv ex
  go_enter Try.func47, Try.ntmps47
  go_wp2_with fail
  go_loopg [10, 11, 12] (b - m) (fun kq v10 v11 _ wr => ∃ (lo hi : Nat), v10 = .int .i64 lo ∧ v11 = .int .i64 hi ∧ m ≤ lo ∧ lo ≤ hi ∧ hi ≤ b ∧ Aside0 (hi - lo ≤ kq) ∧ Aside0 (lo = m ∨ ∃ y, v[lo - m - 1]? = some y ∧ key y < key x) ∧ Aside0 (hi = b ∨ ∃ y, v[hi - m]? = some y ∧ key x ≤ key y) ∧ Aside0 (RowE wr g cap (X ++ x :: (v ++ Y))) ∧ Aside0 (Below B w wr))
  case atStart => exact ⟨m, b, rfl, rfl, Nat.le_refl _, b2, Nat.le_refl _, ⟨by omega⟩, ⟨.inl rfl⟩, ⟨.inl rfl⟩, HR, ⟨Below.refl _ _⟩⟩
  case round =>
    obtain ⟨lo, hi, rfl, rfl, l1, l2, l3, HK, HLo, HHi, HRow, HW⟩ := hrel
    by_cases c2 : lo < hi
    · go_wp2_with fail
      rw [half]
      have hh1 : lo ≤ (lo + hi) / 2 := by omega
      have hh2 : (lo + hi) / 2 < hi := by omega
      generalize (lo + hi) / 2 = h at hh1 hh2
      obtain ⟨y, hvy, hry⟩ := hv.out h (by omega) (by omega)
      have HVY := Aside0.mk hvy
      have hhl : h < len := by omega
      have hal : a < len := by omega
      clear hvy
      obtain ⟨xc0, xc1, xc2, xc3, xc4, xc5, xc6⟩ := HRow.out.seven hry
      replace xc0 := cell_regrown xc0
      replace xc1 := cell_regrown xc1
      replace xc2 := cell_regrown xc2
      replace xc3 := cell_regrown xc3
      replace xc4 := cell_regrown xc4
      replace xc5 := cell_regrown xc5
      replace xc6 := cell_regrown xc6
      obtain ⟨yc0, yc1, yc2, yc3, yc4, yc5, yc6⟩ := HRow.out.seven HEX.out
      replace yc0 := cell_regrown yc0
      replace yc1 := cell_regrown yc1
      replace yc2 := cell_regrown yc2
      replace yc3 := cell_regrown yc3
      replace yc4 := cell_regrown yc4
      replace yc5 := cell_regrown yc5
      replace yc6 := cell_regrown yc6
      have CR := Aside0.mk (fun d os => Calls.regrown_of (d := d) (os := os) (w := wr) (HC.out y x _))
      by_cases hlt : key y < key x
      · have hneg : keyCmp key y x < 0 := (keyCmp_neg key y x).2 hlt
        have HLT := Aside0.mk hlt
        clear hlt
        generalize keyCmp key y x = cv at CR hneg
        refine wp_region_quiet_below (by kernel_rfl) (by kernel_rfl) ?_
        repeat (go_big_quiet_step (exact CR.out _ _))
        refine wpQuiet_nil ?_
        intro _ hw'
        obtain ⟨⟨dq, osq⟩, hw''⟩ := hw'
        have hbz := below_regrown wr dq osq
        rw [← hw''] at hbz
        have HRz := Aside0.mk (HRow.out.below hbz)
        have HWz := Aside0.mk (HW.out.trans (hbz.mono (Nat.le_trans hB HW.out.size)))
        clear hry hw'' hbz xc0 yc0 xc1 yc1 xc2 yc2 xc3 yc3 xc4 yc4 xc5 yc5 xc6 yc6
        go_wp2_with fail
        go_roundg (gk - 1)
        case measure => have := HK.out; omega
        case rel => exact ⟨h + 1, hi, by go_num, rfl, by omega, by omega, l3, ⟨by have := HK.out; omega⟩, ⟨.inr ⟨y, by rw [show h + 1 - m - 1 = h - m by omega]; exact HVY.out, HLT.out⟩⟩, HHi, HRz, HWz⟩
      · have hneg : ¬ keyCmp key y x < 0 := fun h => hlt ((keyCmp_neg key y x).1 h)
        have HLT := Aside0.mk hlt
        clear hlt
        generalize keyCmp key y x = cv at CR hneg
        refine wp_region_quiet_below (by kernel_rfl) (by kernel_rfl) ?_
        repeat (go_big_quiet_step (exact CR.out _ _))
        refine wpQuiet_nil ?_
        intro _ hw'
        obtain ⟨⟨dq, osq⟩, hw''⟩ := hw'
        have hbz := below_regrown wr dq osq
        rw [← hw''] at hbz
        have HRz := Aside0.mk (HRow.out.below hbz)
        have HWz := Aside0.mk (HW.out.trans (hbz.mono (Nat.le_trans hB HW.out.size)))
        clear hry hw'' hbz xc0 yc0 xc1 yc1 xc2 yc2 xc3 yc3 xc4 yc4 xc5 yc5 xc6 yc6
        go_wp2_with fail
        go_roundg (gk - 1)
        case measure => have := HK.out; omega
        case rel => exact ⟨lo, h, rfl, rfl, l1, hh1, by omega, ⟨by have := HK.out; omega⟩, HLo, ⟨.inr ⟨y, HVY.out, by have := HLT.out; omega⟩⟩, HRz, HWz⟩
    · have e : lo = hi := by omega
      subst e
      have hi1 : lo - m ≤ v.length := by have := HM.out; omega
      have HA1 := Aside0.mk (search_lt HSV.out (lo - m) hi1 (key x) (by rcases HLo.out with h | h; exact .inl (by omega); exact .inr h))
      have HA2 := Aside0.mk (search_ge HSV.out (lo - m) (key x) (by rcases HHi.out with h | h; exact .inl (by have := HM.out; omega); exact .inr h))
      clear HHi HLo hv
      go_wp2_with fail
      go_loopg [13] (lo - m) (fun kq v13 wq => ∃ (k : Nat) (v1 v2 : List S36), v13 = .int .i64 k ∧ Aside0 (k = a + v1.length ∧ k + kq + 1 = lo ∧ v.take (lo - m) = v1 ++ v2) ∧ Aside0 (RowE wq g cap (X ++ v1 ++ x :: (v2 ++ (v.drop (lo - m) ++ Y)))) ∧ Aside0 (Below B w wq))
      case atStart => exact ⟨a, [], v.take (lo - m), rfl, ⟨rfl, by have := HM.out; omega, rfl⟩, ⟨by rw [show X ++ [] ++ x :: (v.take (lo - m) ++ (v.drop (lo - m) ++ Y)) = X ++ x :: (v ++ Y) by rw [← List.append_assoc (v.take (lo - m)), List.take_append_drop]; simp]; exact HRow.out⟩, HW⟩
      case round =>
        obtain ⟨k, v1, v2, rfl, HK2, HRq, HWq⟩ := hrel
        by_cases c3 : (k : Int) < (lo : Int) - 1
        · have hv2 : ∃ y v3, v2 = y :: v3 := by
            cases v2 with
            | nil =>
              exfalso
              have h := HK2.out
              have h2 := congrArg List.length h.2.2
              have := HM.out
              simp at h2
              omega
            | cons y v3 => exact ⟨y, v3, rfl⟩
          obtain ⟨y, v3, rfl⟩ := hv2
          have ha2 := HM.out.1
          have hk1 := HK2.out.1
          have ey : (X ++ v1 ++ x :: (y :: v3 ++ (v.drop (lo - m) ++ Y)))[k + 1]? = some y := by
            rw [show X ++ v1 ++ x :: (y :: v3 ++ (v.drop (lo - m) ++ Y)) = (X ++ v1 ++ [x]) ++ y :: (v3 ++ (v.drop (lo - m) ++ Y)) by simp, List.getElem?_append_right (by simp; omega), show k + 1 - (X ++ v1 ++ [x]).length = 0 by simp; omega]
            rfl
          have ex : (X ++ v1 ++ x :: (y :: v3 ++ (v.drop (lo - m) ++ Y)))[k]? = some x := by
            rw [show X ++ v1 ++ x :: (y :: v3 ++ (v.drop (lo - m) ++ Y)) = (X ++ v1) ++ x :: (y :: v3 ++ (v.drop (lo - m) ++ Y)) by simp, List.getElem?_append_right (by simp; omega), show k - (X ++ v1).length = 0 by simp; omega]
            rfl
          obtain ⟨y0, y1, y2, y3, y4, y5, y6⟩ := HRq.out.seven ey
          obtain ⟨x0, x1, x2, x3, x4, x5, x6⟩ := HRq.out.seven ex
          have fr := HRq.out.frozen
          have HEY := Aside0.mk ey
          have hkl : k + 1 < len := by omega
          clear ex ey ha2 hk1
          go_wp2_with fail
          go_big_region
          all_goals go_wp2_with fail
          all_goals
            go_roundg (gk - 1)
            case measure => have := HK2.out; omega
            case rel =>
              have h := HK2.out
              have hlen2 : k + 1 < (X ++ v1 ++ x :: (y :: v3 ++ (v.drop (lo - m) ++ Y))).length := (List.getElem?_eq_some_iff.1 HEY.out).1
              obtain ⟨hs, hbl⟩ := HRq.out.swap hg (s := k) (t := k + 1) (by omega) hlen2 x y
              have e := swap_lists (X ++ v1) [] (v3 ++ (v.drop (lo - m) ++ Y)) x y k (k + 1) (by have := HM.out; simp; omega) (by simp)
              rw [show X ++ v1 ++ x :: (y :: v3 ++ (v.drop (lo - m) ++ Y)) = (X ++ v1) ++ x :: ([] ++ y :: (v3 ++ (v.drop (lo - m) ++ Y))) by simp, e] at hs
              have hs2 := Aside0.mk hs
              have hb2 := Aside0.mk (HWq.out.trans hbl)
              unfold put7 at hs2 hb2
              rw [show (X ++ v1) ++ y :: ([] ++ x :: (v3 ++ (v.drop (lo - m) ++ Y))) = X ++ (v1 ++ [y]) ++ x :: (v3 ++ (v.drop (lo - m) ++ Y)) by simp] at hs2
              exact ⟨k + 1, v1 ++ [y], v3, by go_num, ⟨by simp; omega, by omega, by rw [h.2.2]; simp⟩, hs2, hb2⟩
        · go_wp2_with fail
          refine bodyPost_ret (results_none rfl _ _ _) rfl ?_
          have h := HK2.out
          have h2 := congrArg List.length h.2.2
          have hm := HM.out
          have h0 : v2 = [] := List.length_eq_zero_iff.1 (by simp at h2; omega)
          have hR := HRq.out
          rw [h0] at hR
          rw [h0, List.append_nil] at h
          refine ⟨rfl, ⟨v.take (lo - m) ++ x :: v.drop (lo - m), ?_, ?_⟩, HWq.out⟩
          · have := one_stable (key := key) (x := x) (v1 := v.take (lo - m)) (v2 := v.drop (lo - m)) (by rw [List.take_append_drop]; exact HSV.out) HA1.out HA2.out
            rwa [List.take_append_drop] at this
          · rw [h.2.2]
            simpa using hR
end Go.Proofs.Ytlmjopodghikgaa.Print
