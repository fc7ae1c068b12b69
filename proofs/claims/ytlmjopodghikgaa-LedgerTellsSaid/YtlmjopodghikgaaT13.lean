/- Contracts and plain lemmas that the claim rests on: part 13 of 17 (joined, without what the theorem does not rest on). -/
import Derived.Test.YtlmjopodghikgaaT12
import Derived.Lib.QuietBelow
import Derived.BigQuiet
import Derived.Test.YtlmjopodghikgaaT8
import Derived.Test.YtlmjopodghikgaaT10
import Derived.Test.YtlmjopodghikgaaT4
import Derived.Test.YtlmjopodghikgaaT9
import Derived.Test.YtlmjopodghikgaaT11
section
/- slices.insertionSortCmpFunc at entries: a run of a row is sorted stably. -/
namespace Go.Proofs.Ytlmjopodghikgaa.Print
open Go.RowKit Go.Proofs.YtlmjopodghikgaaW.PrintWords Go.Proofs.Ytlmjopodghikgaa.Stable
set_option linter.unusedVariables false
set_option linter.unusedSimpArgs false

def keyCmp (key : S36 → Int) (x y : S36) : Int := if key x < key y then -1 else if key y < key x then 1 else 0
theorem keyCmp_neg (key : S36 → Int) (x y : S36) : keyCmp key x y < 0 ↔ key x < key y := by
  unfold keyCmp
  split
  · simp [*]
  · split <;> simp <;> omega
/-- A function that compares two entries by a key. -/
def CmpB (gc : Nat) (key : S36 → Int) : Prop :=
  ∀ x y W, Calls Try.prog gc #[.agg #[.int .i64 x.f0, .int .i64 x.f1, .int .i64 x.f2, .int .i64 x.f3, .int .i64 x.f4, .int .i64 x.f5, .int .i64 x.f6], .agg #[.int .i64 y.f0, .int .i64 y.f1, .int .i64 y.f2, .int .i64 y.f3, .int .i64 y.f4, .int .i64 y.f5, .int .i64 y.f6]] W fun e w' => e = .returned (.int .i64 (keyCmp key x y)) ∧ Below W.heap.size W w'

theorem ins_step {key : S36 → Int} {xs l1 l2 : List S36} {x : S36} (h : StableOf key xs (l1 ++ l2)) (h1 : ∀ y, l1[l1.length - 1]? = some y → key y ≤ key x) (h2 : ∀ y ∈ l2, key x < key y) : StableOf key (xs ++ [x]) (l1 ++ x :: l2) := by
  have hl : ∀ y ∈ l1, key y ≤ key x := fun y hy => by
    have hne : l1 ≠ [] := fun e => by subst e; cases hy
    have hlt : l1.length - 1 < l1.length := by have := List.length_pos_iff.2 hne; omega
    have := le_last (srt_left h.srt) (List.getElem?_eq_getElem hlt) hy
    exact Int.le_trans this (h1 _ (List.getElem?_eq_getElem hlt))
  refine ⟨?_, ?_⟩
  · refine srt_append (srt_left h.srt) ?_ fun a ha b hb => ?_
    · exact List.pairwise_cons.2 ⟨fun y hy => Int.le_of_lt (h2 y hy), srt_right h.srt⟩
    · rcases List.mem_cons.1 hb with rfl | hb
      · exact hl a ha
      · exact srt_cross h.srt a ha b hb
  · have e : Same key (l1 ++ l2 ++ [x]) (l1 ++ x :: l2) := by
      have := (Same.refl (key := key) l1).append (same_swap (u := l2) (v := [x]) (fun a ha b hb => by rw [List.mem_singleton.1 ha]; exact h2 b hb))
      simpa [List.append_assoc] using this
    exact (h.same.append (Same.refl [x])).trans e

theorem swap_adj {α : Type} (A Z : List α) (x y : α) (j : Nat) (hj : A.length = j) : ((A ++ y :: x :: Z).set (j + 1) y).set j x = A ++ x :: y :: Z := by
  subst hj
  rw [List.set_append_right _ _ (by omega), show A.length + 1 - A.length = 1 by omega]
  simp

set_option maxHeartbeats 4000000 in
set_option maxRecDepth 100000 in
theorem insertionF (key : S36 → Int) (gc : Nat) (eg : ∀ args w, (callFunc gc args).run Try.prog w = .ok (.enter gc args) w) (hcmp : CmpB gc key) (w : World) (g cap B : Nat) (hg : B ≤ g) (hB : B ≤ w.heap.size) (X s Y : List S36) (hr : RowE w g cap (X ++ s ++ Y)) (a b len : Nat) (ha : a = X.length) (hb : b = X.length + s.length) (hl : len = (X ++ s ++ Y).length) (hsm : len < 4611686018427387904) :
    Calls Try.prog 46 #[.slice (some ⟨g, 0, none⟩) len cap, .int .i64 a, .int .i64 b, .func (.func gc) #[] #[]] w fun e w' => e = .returned (.tuple #[]) ∧ (∃ s', StableOf key s s' ∧ RowE w' g cap (X ++ s' ++ Y)) ∧ Below B w w' := by
  have hle := hr.len
  have hlen : len = X.length + s.length + Y.length := by rw [hl]; simp; omega
  have b2 : a ≤ b := by omega
  have b3 : b ≤ len := by omega
  have HR := Aside0.mk hr
  have HC := Aside0.mk hcmp
  have HM := Aside0.mk (show a = X.length ∧ b = X.length + s.length ∧ len = (X ++ s ++ Y).length from ⟨ha, hb, hl⟩)
  clear hr hle ha hb hl hlen hcmp
  go_enter Try.func46, Try.ntmps46
  go_wp2_with fail
  go_loopg [8, 9] (b - a) (fun kq v8 _ wr => ∃ (i : Nat) (t1 s2 : List S36), v8 = .int .i64 i ∧ Aside0 (a < i ∧ b + 1 - i ≤ kq + 1 ∧ s = s.take (i - a) ++ s2 ∧ StableOf key (s.take (i - a)) t1) ∧ Aside0 (RowE wr g cap (X ++ t1 ++ s2 ++ Y)) ∧ Aside0 (Below B w wr))
  case atStart =>
    refine ⟨a + 1, s.take 1, s.drop 1, by go_num, ⟨by omega, by omega, by rw [show a + 1 - a = 1 by omega, List.take_append_drop], by
      rw [show a + 1 - a = 1 by omega]
      refine ⟨?_, Same.refl _⟩
      cases s with
      | nil => exact List.Pairwise.nil
      | cons x s => exact List.pairwise_singleton _ _⟩, ⟨?_⟩, ⟨Below.refl _ _⟩⟩
    have := HR.out
    rw [← List.take_append_drop 1 s] at this
    simpa using this
  case round =>
    obtain ⟨i, t1, s2, rfl, HK, HRow, HW⟩ := hrel
    obtain ⟨ko, rfl⟩ : ∃ ko, ko = gk := ⟨_, rfl⟩
    by_cases c2 : i < b
    · have hs2 : ∃ x s3, s2 = x :: s3 := by
        cases s2 with
        | nil =>
          exfalso
          have h := HK.out
          have h2 := congrArg List.length h.2.2.1
          have := HM.out
          simp at h2
          omega
        | cons x s3 => exact ⟨x, s3, rfl⟩
      obtain ⟨x, s3, rfl⟩ := hs2
      have ht1 : Aside0 (t1.length = i - a) := ⟨by
        have h := HK.out
        have h2 := h.2.2.2.same.length
        have := HM.out
        rw [h2, List.length_take]
        omega⟩
      have i1 : a < i := HK.out.1
      go_wp2_with fail
      go_loopg [9] (i - a) (fun kr v9 wq => ∃ (j : Nat) (l1 l2 : List S36), v9 = .int .i64 j ∧ Aside0 (j = a + l1.length ∧ j ≤ i ∧ l1.length ≤ kr ∧ t1 = l1 ++ l2 ∧ ∀ y ∈ l2, key x < key y) ∧ Aside0 (RowE wq g cap (X ++ l1 ++ x :: (l2 ++ s3 ++ Y))) ∧ Aside0 (Below B w wq))
      case atStart => exact ⟨i, t1, [], rfl, ⟨by have := ht1.out; omega, by omega, by have := ht1.out; omega, by simp, by simp⟩, ⟨by simpa using HRow.out⟩, HW⟩
      case round =>
        obtain ⟨j, l1, l2, rfl, HJ, HRq, HWq⟩ := hrel
        have hout : Aside0 ((∀ y, l1[l1.length - 1]? = some y → key y ≤ key x) → a < i + 1 ∧ b + 1 - (i + 1) ≤ (ko - 1) + 1 ∧ s = s.take (i + 1 - a) ++ s3 ∧ StableOf key (s.take (i + 1 - a)) (l1 ++ x :: l2)) := ⟨fun hy => by
          have h := HK.out
          have hj := HJ.out
          have e : s.take (i + 1 - a) = s.take (i - a) ++ [x] := by
            have hlt : i - a < s.length := by have := HM.out; omega
            rw [show i + 1 - a = (i - a) + 1 by omega, List.take_succ_eq_append_getElem hlt]
            congr 1
            have h3 := h.2.2.1
            have h4 : s[i - a]? = some x := by
              rw [h3, List.getElem?_append_right (by rw [List.length_take]; omega), List.length_take, show i - a - min (i - a) s.length = 0 by omega]
              rfl
            rw [List.getElem?_eq_getElem hlt] at h4
            injection h4 with h4
            rw [h4]
          refine ⟨by omega, by omega, ?_, ?_⟩
          · rw [e, List.append_assoc, List.singleton_append]
            exact h.2.2.1
          · rw [e]
            have hst := h.2.2.2
            rw [hj.2.2.2.1] at hst
            exact ins_step hst hy hj.2.2.2.2⟩
        by_cases c3 : a < j
        · obtain ⟨jp, rfl⟩ : ∃ jp, j = jp + 1 := ⟨j - 1, by omega⟩
          have hl1 : ∃ l3 y, l1 = l3 ++ [y] := by
            rcases List.eq_nil_or_concat l1 with e | ⟨l3, y, e⟩
            · exfalso; have := HJ.out; rw [e] at this; simp at this; omega
            · exact ⟨l3, y, by simpa using e⟩
          obtain ⟨l3, y, rfl⟩ := hl1
          have hja : Aside0 (jp = a + l3.length) := ⟨by have := HJ.out.1; simp at this; omega⟩
          have ey : (X ++ (l3 ++ [y]) ++ x :: (l2 ++ s3 ++ Y))[jp]? = some y := by
            have := HM.out
            rw [show X ++ (l3 ++ [y]) ++ x :: (l2 ++ s3 ++ Y) = (X ++ l3) ++ y :: (x :: (l2 ++ s3 ++ Y)) by simp, List.getElem?_append_right (by have := hja.out; simp; omega), show jp - (X ++ l3).length = 0 by have := hja.out; simp; omega]
            rfl
          have ex : (X ++ (l3 ++ [y]) ++ x :: (l2 ++ s3 ++ Y))[jp + 1]? = some x := by
            have := HM.out
            rw [show X ++ (l3 ++ [y]) ++ x :: (l2 ++ s3 ++ Y) = (X ++ l3 ++ [y]) ++ x :: (l2 ++ s3 ++ Y) by simp, List.getElem?_append_right (by have := hja.out; simp; omega), show jp + 1 - (X ++ l3 ++ [y]).length = 0 by have := hja.out; simp; omega]
            rfl
          have hji : jp + 1 < len := by have := HJ.out; omega
          obtain ⟨y0, y1, y2, y3, y4, y5, y6⟩ := HRq.out.seven ey
          obtain ⟨x0, x1, x2, x3, x4, x5, x6⟩ := HRq.out.seven ex
          have HEX := Aside0.mk ex
          have HEY := Aside0.mk ey
          clear ex ey
          replace y0 := cell_regrown y0
          replace y1 := cell_regrown y1
          replace y2 := cell_regrown y2
          replace y3 := cell_regrown y3
          replace y4 := cell_regrown y4
          replace y5 := cell_regrown y5
          replace y6 := cell_regrown y6
          replace x0 := cell_regrown x0
          replace x1 := cell_regrown x1
          replace x2 := cell_regrown x2
          replace x3 := cell_regrown x3
          replace x4 := cell_regrown x4
          replace x5 := cell_regrown x5
          replace x6 := cell_regrown x6
          have CR := Aside0.mk (fun d os => Calls.regrown_of (d := d) (os := os) (w := wr) (HC.out x y _))
          by_cases hlt : key x < key y
          · have hneg : keyCmp key x y < 0 := (keyCmp_neg key x y).2 hlt
            have HLT := Aside0.mk hlt
            generalize keyCmp key x y = cv at CR hneg
            have g1 : decide ((a : Int) < (jp : Int) + 1) = true := by simp; omega
            have g2 : decide (a < jp + 1) = true := by simpa using c3
            go_wp2_with fail
            refine wp_region_quiet_below (by kernel_rfl) (by kernel_rfl) ?_
            repeat (go_big_quiet_step (exact CR.out _ _))
            refine wpQuiet_nil ?_
            intro _ hw'
            obtain ⟨⟨dq, osq⟩, hw''⟩ := hw'
            have hbz := below_regrown wr dq osq
            rw [← hw''] at hbz
            have HRz := Aside0.mk (HRq.out.below hbz)
            have HWz := Aside0.mk (HWq.out.trans (hbz.mono (Nat.le_trans hB HWq.out.size)))
            clear hw'' hbz y0 y1 y2 y3 y4 y5 y6 x0 x1 x2 x3 x4 x5 x6
            rename_i wz
            obtain ⟨y0, y1, y2, y3, y4, y5, y6⟩ := HRz.out.seven HEY.out
            obtain ⟨x0, x1, x2, x3, x4, x5, x6⟩ := HRz.out.seven HEX.out
            have fr := HRz.out.frozen
            go_wp2_with fail
            go_big_region
            all_goals go_wp2_with fail
            all_goals
              go_roundg (gk - 1)
              case measure => have := HJ.out; simp at this; omega
              case rel =>
                have hj := HJ.out
                have hm := HM.out
                have hlen2 : (X ++ (l3 ++ [y]) ++ x :: (l2 ++ s3 ++ Y)).length > jp + 1 := (List.getElem?_eq_some_iff.1 HEX.out).1
                obtain ⟨hs, hbl⟩ := HRz.out.swap hg (s := jp + 1) (t := jp) hlen2 (by omega) x y
                rw [show X ++ (l3 ++ [y]) ++ x :: (l2 ++ s3 ++ Y) = (X ++ l3) ++ y :: x :: (l2 ++ s3 ++ Y) by simp, swap_adj _ _ _ _ _ (by have := hja.out; simp; omega)] at hs
                have hs2 := Aside0.mk hs
                have hb2 := Aside0.mk (HWz.out.trans hbl)
                unfold put7 at hs2 hb2
                rw [show (X ++ l3) ++ x :: y :: (l2 ++ s3 ++ Y) = X ++ l3 ++ x :: ((y :: l2) ++ s3 ++ Y) by simp] at hs2
                refine ⟨jp, l3, y :: l2, by go_num, ⟨hja.out, by omega, by simp at hj; omega, by rw [hj.2.2.2.1]; simp, fun z hz => ?_⟩, hs2, hb2⟩
                rcases List.mem_cons.1 hz with rfl | hz
                · exact HLT.out
                · exact hj.2.2.2.2 z hz
          · have hneg : ¬ keyCmp key x y < 0 := fun h => hlt ((keyCmp_neg key x y).1 h)
            have HLT := Aside0.mk (hout.out (fun z hz => by
              have : y = z := by simpa using hz
              subst this
              omega))
            clear hlt
            generalize keyCmp key x y = cv at CR hneg
            have g1 : decide ((a : Int) < (jp : Int) + 1) = true := by simp; omega
            have g2 : decide (a < jp + 1) = true := by simpa using c3
            go_wp2_with fail
            refine wp_region_quiet_below (by kernel_rfl) (by kernel_rfl) ?_
            repeat (go_big_quiet_step (exact CR.out _ _))
            refine wpQuiet_nil ?_
            intro _ hw'
            obtain ⟨⟨dq, osq⟩, hw''⟩ := hw'
            have hbz := below_regrown wr dq osq
            rw [← hw''] at hbz
            have HRz := Aside0.mk (HRq.out.below hbz)
            have HWz := Aside0.mk (HWq.out.trans (hbz.mono (Nat.le_trans hB HWq.out.size)))
            clear hw'' hbz y0 y1 y2 y3 y4 y5 y6 x0 x1 x2 x3 x4 x5 x6
            go_wp2_with fail
            go_roundg (ko - 1)
            case measure => have := HK.out; omega
            case rel => exact ⟨i + 1, _, s3, by go_num, HLT, ⟨by have := HRz.out; simpa using this⟩, HWz⟩
        · have g1 : decide ((a : Int) < (j : Int)) = false := by simp; omega
          have g2 : decide (a < j) = false := by simpa using c3
          have HLT := Aside0.mk (hout.out (fun z hz => by
            have h0 : l1 = [] := List.length_eq_zero_iff.1 (by have := HJ.out; omega)
            subst h0
            cases hz))
          go_wp2_with fail
          go_quiet (fail)
          have HWz : Aside0 (Below B w (wr.drewN nq)) := ⟨HWq.out.trans ((Drawn0.mk ⟨nq, rfl⟩ : Drawn0 wr (wr.drewN nq)).below.mono (Nat.le_trans hB HWq.out.size))⟩
          have HRz : Aside0 (RowE (wr.drewN nq) g cap (X ++ l1 ++ x :: (l2 ++ s3 ++ Y))) := ⟨HRq.out.move rfl⟩
          go_wp2_with fail
          go_roundg (ko - 1)
          case measure => have := HK.out; omega
          case rel => exact ⟨i + 1, _, s3, by go_num, HLT, ⟨by have := HRz.out; simpa using this⟩, HWz⟩
    · go_wp2_with fail
      go_end0
      have h := HK.out
      have hm := HM.out
      have h2 := congrArg List.length h.2.2.1
      have h0 : s2 = [] := List.length_eq_zero_iff.1 (by simp at h2; omega)
      have e : s.take (i - a) = s := List.take_of_length_le (by omega)
      rw [e] at h
      refine ⟨rfl, ⟨t1, h.2.2.2, ?_⟩, HW.out⟩
      have := HRow.out
      rw [h0] at this
      simpa using this
end Go.Proofs.Ytlmjopodghikgaa.Print
end
section
/- slices.symMergeCmpFunc at entries, where one of the two runs has one entry. -/
namespace Go.Proofs.Ytlmjopodghikgaa.Print
open Go.RowKit Go.Proofs.YtlmjopodghikgaaW.PrintWords Go.Proofs.Ytlmjopodghikgaa.Stable
set_option linter.unusedVariables false
set_option linter.unusedSimpArgs false

/-- An entry is moved behind a run of smaller ones. -/
theorem one_stable {key : S36 → Int} {x : S36} {v1 v2 : List S36} (sv : Srt key (v1 ++ v2)) (h1 : ∀ y ∈ v1, key y < key x) (h2 : ∀ y ∈ v2, key x ≤ key y) : StableOf key ([x] ++ (v1 ++ v2)) (v1 ++ x :: v2) := by
  refine ⟨?_, ?_⟩
  · refine srt_append (srt_left sv) (List.pairwise_cons.2 ⟨h2, srt_right sv⟩) fun a ha b hb => ?_
    rcases List.mem_cons.1 hb with rfl | hb
    · exact Int.le_of_lt (h1 a ha)
    · exact srt_cross sv a ha b hb
  · have := (same_swap (u := [x]) (v := v1) (fun a ha b hb => by rw [List.mem_singleton.1 hb]; exact h1 a ha)).append (Same.refl (key := key) v2)
    simpa [List.append_assoc] using this
theorem two_stable {key : S36 → Int} {x : S36} {u1 u2 : List S36} (su : Srt key (u1 ++ u2)) (h1 : ∀ y ∈ u1, key y ≤ key x) (h2 : ∀ y ∈ u2, key x < key y) : StableOf key (u1 ++ u2 ++ [x]) (u1 ++ x :: u2) := by
  refine ⟨?_, ?_⟩
  · refine srt_append (srt_left su) (List.pairwise_cons.2 ⟨fun y hy => Int.le_of_lt (h2 y hy), srt_right su⟩) fun a ha b hb => ?_
    rcases List.mem_cons.1 hb with rfl | hb
    · exact h1 a ha
    · exact srt_cross su a ha b hb
  · have := (Same.refl (key := key) u1).append (same_swap (u := u2) (v := [x]) (fun a ha b hb => by rw [List.mem_singleton.1 ha]; exact h2 b hb))
    simpa [List.append_assoc] using this
/-- What a binary search's two ends say of a sorted run. -/
theorem search_lt {key : S36 → Int} {v : List S36} (sv : Srt key v) (i : Nat) (hi : i ≤ v.length) (c : Int) (h : i = 0 ∨ ∃ y, v[i - 1]? = some y ∧ key y < c) : ∀ y ∈ v.take i, key y < c := by
  rcases h with rfl | ⟨z, hz, hlt⟩
  · simp
  · intro y hy
    have hp : 0 < i := by rcases Nat.eq_zero_or_pos i with h | h; (subst h; simp at hy); exact h
    have h1 : Srt key (v.take i) := by rw [← List.take_append_drop i v] at sv; exact srt_left sv
    have := le_last h1 (x := y) (y := z) (by rw [List.length_take, Nat.min_eq_left hi, List.getElem?_take, if_pos (by omega)]; exact hz) hy
    omega
theorem search_le {key : S36 → Int} {v : List S36} (sv : Srt key v) (i : Nat) (hi : i ≤ v.length) (c : Int) (h : i = 0 ∨ ∃ y, v[i - 1]? = some y ∧ key y ≤ c) : ∀ y ∈ v.take i, key y ≤ c := by
  have := search_lt sv i hi (c + 1) (by rcases h with h | ⟨y, hy, h⟩; exact .inl h; exact .inr ⟨y, hy, by omega⟩)
  intro y hy
  have := this y hy
  omega
theorem search_ge {key : S36 → Int} {v : List S36} (sv : Srt key v) (i : Nat) (c : Int) (h : i = v.length ∨ ∃ y, v[i]? = some y ∧ c ≤ key y) : ∀ y ∈ v.drop i, c ≤ key y := by
  rcases h with rfl | ⟨z, hz, hlt⟩
  · simp
  · intro y hy
    have h1 : Srt key (v.drop i) := by rw [← List.take_append_drop i v] at sv; exact srt_right sv
    have := first_le h1 (x := y) (y := z) (by rw [List.getElem?_drop]; exact hz) hy
    omega

/-- What symMerge leaves of the runs u and v behind X. -/
def SymSaid (key : S36 → Int) (gc N : Nat) : Prop :=
  ∀ (w : World) (g cap B : Nat) (hg : B ≤ g) (hB : B ≤ w.heap.size) (X u v Y : List S36) (hu : u ≠ []) (hv : v ≠ []) (hN : u.length + v.length ≤ N) (su : Srt key u) (sv : Srt key v) (hr : RowE w g cap (X ++ u ++ v ++ Y)) (a m b len : Nat) (ha : a = X.length) (hm : m = X.length + u.length) (hb : b = X.length + u.length + v.length) (hl : len = (X ++ u ++ v ++ Y).length) (hsm : len < 4611686018427387904),
    Calls Try.prog 47 #[.slice (some ⟨g, 0, none⟩) len cap, .int .i64 a, .int .i64 m, .int .i64 b, .func (.func gc) #[] #[]] w fun e w' => e = .returned (.tuple #[]) ∧ (∃ s, StableOf key (u ++ v) s ∧ RowE w' g cap (X ++ s ++ Y)) ∧ Below B w w'

theorem half (lo hi : Nat) : ((lo : Int) + (hi : Int)) / 2 = (((lo + hi) / 2 : Nat) : Int) := by omega

set_option maxHeartbeats 4000000 in
set_option maxRecDepth 100000 in
theorem symOne (key : S36 → Int) (gc : Nat) (eg : ∀ args w, (callFunc gc args).run Try.prog w = .ok (.enter gc args) w) (hcmp : CmpB gc key) (w : World) (g cap B : Nat) (hg : B ≤ g) (hB : B ≤ w.heap.size) (X v Y : List S36) (x : S36) (sv : Srt key v) (hr : RowE w g cap (X ++ x :: (v ++ Y))) (a m b len : Nat) (ha : a = X.length) (hm : m = X.length + 1) (hb : b = X.length + 1 + v.length) (hl : len = (X ++ x :: (v ++ Y)).length) (hsm : len < 4611686018427387904) :
    Calls Try.prog 47 #[.slice (some ⟨g, 0, none⟩) len cap, .int .i64 a, .int .i64 m, .int .i64 b, .func (.func gc) #[] #[]] w fun e w' => e = .returned (.tuple #[]) ∧ (∃ s, StableOf key ([x] ++ v) s ∧ RowE w' g cap (X ++ s ++ Y)) ∧ Below B w w' := by
  have hle := hr.len
  have hlen : len = X.length + 1 + v.length + Y.length := by rw [hl]; simp; omega
  have b1 : a < m := by omega
  have b2 : m ≤ b := by omega
  have b3 : b ≤ len := by omega
  have ht : ((m : Int) - (a : Int) == 1) = true := by simp; omega
  have HR := Aside0.mk hr
  have HC := Aside0.mk hcmp
  have HM := Aside0.mk (show a = X.length ∧ m = a + 1 ∧ b = m + v.length ∧ len = X.length + 1 + v.length + Y.length from ⟨ha, by omega, by omega, hlen⟩)
  have HSV := Aside0.mk sv
  have ex : (X ++ x :: (v ++ Y))[a]? = some x := by rw [ha, List.getElem?_append_right (Nat.le_refl _), Nat.sub_self]; rfl
  have HEX := Aside0.mk ex
  have hv : Aside0 (∀ k, m ≤ k → k < b → ∃ y, v[k - m]? = some y ∧ (X ++ x :: (v ++ Y))[k]? = some y) := ⟨fun k h1 h2 => by
    have hk : k - m < v.length := by omega
    refine ⟨_, List.getElem?_eq_getElem hk, ?_⟩
    rw [List.getElem?_append_right (by omega), show k - X.length = (k - m) + 1 by omega, List.getElem?_cons_succ, List.getElem?_append_left hk, List.getElem?_eq_getElem hk]⟩
  clear hr hle ha hm hb hl hlen hcmp sv ex
  go_enter Try.func47, Try.ntmps47
  go_wp2_with fail
  go_loopg [10, 11, 12] (b - m) (fun kq v10 v11 _ wr => ∃ (lo hi : Nat), v10 = .int .i64 lo ∧ v11 = .int .i64 hi ∧ m ≤ lo ∧ lo ≤ hi ∧ hi ≤ b ∧ Aside0 (hi - lo ≤ kq) ∧ Aside0 (lo = m ∨ ∃ y, v[lo - m - 1]? = some y ∧ key y < key x) ∧ Aside0 (hi = b ∨ ∃ y, v[hi - m]? = some y ∧ key x ≤ key y) ∧ Aside0 (RowE wr g cap (X ++ x :: (v ++ Y))) ∧ Aside0 (Below B w wr))
  case atStart => exact ⟨m, b, rfl, rfl, Nat.le_refl _, b2, Nat.le_refl _, ⟨by omega⟩, ⟨.inl rfl⟩, ⟨.inl rfl⟩, HR, ⟨Below.refl _ _⟩⟩
  case round =>
    obtain ⟨lo, hi, rfl, rfl, l1, l2, l3, HK, HLo, HHi, HRow, HW⟩ := hrel
    by_cases c2 : lo < hi
    · go_wp2_with fail
      rw [half]
      have hh1 : lo ≤ (lo + hi) / 2 := by omega
      have hh2 : (lo + hi) / 2 < hi := by omega
      generalize (lo + hi) / 2 = h at hh1 hh2
      obtain ⟨y, hvy, hry⟩ := hv.out h (by omega) (by omega)
      have HVY := Aside0.mk hvy
      have hhl : h < len := by omega
      have hal : a < len := by omega
      clear hvy
      obtain ⟨xc0, xc1, xc2, xc3, xc4, xc5, xc6⟩ := HRow.out.seven hry
      replace xc0 := cell_regrown xc0
      replace xc1 := cell_regrown xc1
      replace xc2 := cell_regrown xc2
      replace xc3 := cell_regrown xc3
      replace xc4 := cell_regrown xc4
      replace xc5 := cell_regrown xc5
      replace xc6 := cell_regrown xc6
      obtain ⟨yc0, yc1, yc2, yc3, yc4, yc5, yc6⟩ := HRow.out.seven HEX.out
      replace yc0 := cell_regrown yc0
      replace yc1 := cell_regrown yc1
      replace yc2 := cell_regrown yc2
      replace yc3 := cell_regrown yc3
      replace yc4 := cell_regrown yc4
      replace yc5 := cell_regrown yc5
      replace yc6 := cell_regrown yc6
      have CR := Aside0.mk (fun d os => Calls.regrown_of (d := d) (os := os) (w := wr) (HC.out y x _))
      by_cases hlt : key y < key x
      · have hneg : keyCmp key y x < 0 := (keyCmp_neg key y x).2 hlt
        have HLT := Aside0.mk hlt
        clear hlt
        generalize keyCmp key y x = cv at CR hneg
        refine wp_region_quiet_below (by kernel_rfl) (by kernel_rfl) ?_
        repeat (go_big_quiet_step (exact CR.out _ _))
        refine wpQuiet_nil ?_
        intro _ hw'
        obtain ⟨⟨dq, osq⟩, hw''⟩ := hw'
        have hbz := below_regrown wr dq osq
        rw [← hw''] at hbz
        have HRz := Aside0.mk (HRow.out.below hbz)
        have HWz := Aside0.mk (HW.out.trans (hbz.mono (Nat.le_trans hB HW.out.size)))
        clear hry hw'' hbz xc0 yc0 xc1 yc1 xc2 yc2 xc3 yc3 xc4 yc4 xc5 yc5 xc6 yc6
        go_wp2_with fail
        go_roundg (gk - 1)
        case measure => have := HK.out; omega
        case rel => exact ⟨h + 1, hi, by go_num, rfl, by omega, by omega, l3, ⟨by have := HK.out; omega⟩, ⟨.inr ⟨y, by rw [show h + 1 - m - 1 = h - m by omega]; exact HVY.out, HLT.out⟩⟩, HHi, HRz, HWz⟩
      · have hneg : ¬ keyCmp key y x < 0 := fun h => hlt ((keyCmp_neg key y x).1 h)
        have HLT := Aside0.mk hlt
        clear hlt
        generalize keyCmp key y x = cv at CR hneg
        refine wp_region_quiet_below (by kernel_rfl) (by kernel_rfl) ?_
        repeat (go_big_quiet_step (exact CR.out _ _))
        refine wpQuiet_nil ?_
        intro _ hw'
        obtain ⟨⟨dq, osq⟩, hw''⟩ := hw'
        have hbz := below_regrown wr dq osq
        rw [← hw''] at hbz
        have HRz := Aside0.mk (HRow.out.below hbz)
        have HWz := Aside0.mk (HW.out.trans (hbz.mono (Nat.le_trans hB HW.out.size)))
        clear hry hw'' hbz xc0 yc0 xc1 yc1 xc2 yc2 xc3 yc3 xc4 yc4 xc5 yc5 xc6 yc6
        go_wp2_with fail
        go_roundg (gk - 1)
        case measure => have := HK.out; omega
        case rel => exact ⟨lo, h, rfl, rfl, l1, hh1, by omega, ⟨by have := HK.out; omega⟩, HLo, ⟨.inr ⟨y, HVY.out, by have := HLT.out; omega⟩⟩, HRz, HWz⟩
    · have e : lo = hi := by omega
      subst e
      have hi1 : lo - m ≤ v.length := by have := HM.out; omega
      have HA1 := Aside0.mk (search_lt HSV.out (lo - m) hi1 (key x) (by rcases HLo.out with h | h; exact .inl (by omega); exact .inr h))
      have HA2 := Aside0.mk (search_ge HSV.out (lo - m) (key x) (by rcases HHi.out with h | h; exact .inl (by have := HM.out; omega); exact .inr h))
      clear HHi HLo hv
      go_wp2_with fail
      go_loopg [13] (lo - m) (fun kq v13 wq => ∃ (k : Nat) (v1 v2 : List S36), v13 = .int .i64 k ∧ Aside0 (k = a + v1.length ∧ k + kq + 1 = lo ∧ v.take (lo - m) = v1 ++ v2) ∧ Aside0 (RowE wq g cap (X ++ v1 ++ x :: (v2 ++ (v.drop (lo - m) ++ Y)))) ∧ Aside0 (Below B w wq))
      case atStart => exact ⟨a, [], v.take (lo - m), rfl, ⟨rfl, by have := HM.out; omega, rfl⟩, ⟨by rw [show X ++ [] ++ x :: (v.take (lo - m) ++ (v.drop (lo - m) ++ Y)) = X ++ x :: (v ++ Y) by rw [← List.append_assoc (v.take (lo - m)), List.take_append_drop]; simp]; exact HRow.out⟩, HW⟩
      case round =>
        obtain ⟨k, v1, v2, rfl, HK2, HRq, HWq⟩ := hrel
        by_cases c3 : (k : Int) < (lo : Int) - 1
        · have hv2 : ∃ y v3, v2 = y :: v3 := by
            cases v2 with
            | nil =>
              exfalso
              have h := HK2.out
              have h2 := congrArg List.length h.2.2
              have := HM.out
              simp at h2
              omega
            | cons y v3 => exact ⟨y, v3, rfl⟩
          obtain ⟨y, v3, rfl⟩ := hv2
          have ha2 := HM.out.1
          have hk1 := HK2.out.1
          have ey : (X ++ v1 ++ x :: (y :: v3 ++ (v.drop (lo - m) ++ Y)))[k + 1]? = some y := by
            rw [show X ++ v1 ++ x :: (y :: v3 ++ (v.drop (lo - m) ++ Y)) = (X ++ v1 ++ [x]) ++ y :: (v3 ++ (v.drop (lo - m) ++ Y)) by simp, List.getElem?_append_right (by simp; omega), show k + 1 - (X ++ v1 ++ [x]).length = 0 by simp; omega]
            rfl
          have ex : (X ++ v1 ++ x :: (y :: v3 ++ (v.drop (lo - m) ++ Y)))[k]? = some x := by
            rw [show X ++ v1 ++ x :: (y :: v3 ++ (v.drop (lo - m) ++ Y)) = (X ++ v1) ++ x :: (y :: v3 ++ (v.drop (lo - m) ++ Y)) by simp, List.getElem?_append_right (by simp; omega), show k - (X ++ v1).length = 0 by simp; omega]
            rfl
          obtain ⟨y0, y1, y2, y3, y4, y5, y6⟩ := HRq.out.seven ey
          obtain ⟨x0, x1, x2, x3, x4, x5, x6⟩ := HRq.out.seven ex
          have fr := HRq.out.frozen
          have HEY := Aside0.mk ey
          have hkl : k + 1 < len := by omega
          clear ex ey ha2 hk1
          go_wp2_with fail
          go_big_region
          all_goals go_wp2_with fail
          all_goals
            go_roundg (gk - 1)
            case measure => have := HK2.out; omega
            case rel =>
              have h := HK2.out
              have hlen2 : k + 1 < (X ++ v1 ++ x :: (y :: v3 ++ (v.drop (lo - m) ++ Y))).length := (List.getElem?_eq_some_iff.1 HEY.out).1
              obtain ⟨hs, hbl⟩ := HRq.out.swap hg (s := k) (t := k + 1) (by omega) hlen2 x y
              have e := swap_lists (X ++ v1) [] (v3 ++ (v.drop (lo - m) ++ Y)) x y k (k + 1) (by have := HM.out; simp; omega) (by simp)
              rw [show X ++ v1 ++ x :: (y :: v3 ++ (v.drop (lo - m) ++ Y)) = (X ++ v1) ++ x :: ([] ++ y :: (v3 ++ (v.drop (lo - m) ++ Y))) by simp, e] at hs
              have hs2 := Aside0.mk hs
              have hb2 := Aside0.mk (HWq.out.trans hbl)
              unfold put7 at hs2 hb2
              rw [show (X ++ v1) ++ y :: ([] ++ x :: (v3 ++ (v.drop (lo - m) ++ Y))) = X ++ (v1 ++ [y]) ++ x :: (v3 ++ (v.drop (lo - m) ++ Y)) by simp] at hs2
              exact ⟨k + 1, v1 ++ [y], v3, by go_num, ⟨by simp; omega, by omega, by rw [h.2.2]; simp⟩, hs2, hb2⟩
        · go_wp2_with fail
          refine bodyPost_ret (results_none rfl _ _ _) rfl ?_
          have h := HK2.out
          have h2 := congrArg List.length h.2.2
          have hm := HM.out
          have h0 : v2 = [] := List.length_eq_zero_iff.1 (by simp at h2; omega)
          have hR := HRq.out
          rw [h0] at hR
          rw [h0, List.append_nil] at h
          refine ⟨rfl, ⟨v.take (lo - m) ++ x :: v.drop (lo - m), ?_, ?_⟩, HWq.out⟩
          · have := one_stable (key := key) (x := x) (v1 := v.take (lo - m)) (v2 := v.drop (lo - m)) (by rw [List.take_append_drop]; exact HSV.out) HA1.out HA2.out
            rwa [List.take_append_drop] at this
          · rw [h.2.2]
            simpa using hR
end Go.Proofs.Ytlmjopodghikgaa.Print
end
section
/- slices.symMergeCmpFunc at entries, where the right run has one entry. -/
namespace Go.Proofs.Ytlmjopodghikgaa.Print
open Go.RowKit Go.Proofs.YtlmjopodghikgaaW.PrintWords Go.Proofs.Ytlmjopodghikgaa.Stable
set_option linter.unusedVariables false
set_option linter.unusedSimpArgs false

set_option maxHeartbeats 4000000 in
set_option maxRecDepth 100000 in
theorem symTwo (key : S36 → Int) (gc : Nat) (eg : ∀ args w, (callFunc gc args).run Try.prog w = .ok (.enter gc args) w) (hcmp : CmpB gc key) (w : World) (g cap B : Nat) (hg : B ≤ g) (hB : B ≤ w.heap.size) (X u Y : List S36) (x : S36) (su : Srt key u) (hr : RowE w g cap (X ++ u ++ x :: Y)) (hu2 : 2 ≤ u.length) (a m b len : Nat) (ha : a = X.length) (hm : m = X.length + u.length) (hb : b = m + 1) (hl : len = (X ++ u ++ x :: Y).length) (hsm : len < 4611686018427387904) :
    Calls Try.prog 47 #[.slice (some ⟨g, 0, none⟩) len cap, .int .i64 a, .int .i64 m, .int .i64 b, .func (.func gc) #[] #[]] w fun e w' => e = .returned (.tuple #[]) ∧ (∃ s, StableOf key (u ++ [x]) s ∧ RowE w' g cap (X ++ s ++ Y)) ∧ Below B w w' := by
  have hle := hr.len
  have hlen : len = X.length + u.length + 1 + Y.length := by rw [hl]; simp; omega
  have b1 : a < m := by omega
  have b2 : m < b := by omega
  have b3 : b ≤ len := by omega
  have ht : ((m : Int) - (a : Int) == 1) = false := by simp; omega
  have ht2 : ((b : Int) - (m : Int) == 1) = true := by simp; omega
  have HR := Aside0.mk hr
  have HC := Aside0.mk hcmp
  have HM := Aside0.mk (show a = X.length ∧ m = a + u.length ∧ b = m + 1 ∧ len = X.length + u.length + 1 + Y.length from ⟨ha, by omega, by omega, hlen⟩)
  have HSU := Aside0.mk su
  have ex : (X ++ u ++ x :: Y)[m]? = some x := by rw [List.getElem?_append_right (by simp; omega), show m - (X ++ u).length = 0 by simp; omega]; rfl
  have HEX := Aside0.mk ex
  have hv : Aside0 (∀ k, a ≤ k → k < m → ∃ y, u[k - a]? = some y ∧ (X ++ u ++ x :: Y)[k]? = some y) := ⟨fun k h1 h2 => by
    have hk : k - a < u.length := by omega
    refine ⟨_, List.getElem?_eq_getElem hk, ?_⟩
    rw [List.append_assoc, List.getElem?_append_right (by omega), show k - X.length = k - a by omega, List.getElem?_append_left hk, List.getElem?_eq_getElem hk]⟩
  clear hr hle ha hm hb hl hlen hcmp su ex hu2
  go_enter Try.func47, Try.ntmps47
  go_wp2_with fail
  go_loopg [14, 15, 16] (m - a) (fun kq v10 v11 _ wr => ∃ (lo hi : Nat), v10 = .int .i64 lo ∧ v11 = .int .i64 hi ∧ a ≤ lo ∧ lo ≤ hi ∧ hi ≤ m ∧ Aside0 (hi - lo ≤ kq) ∧ Aside0 (lo = a ∨ ∃ y, u[lo - a - 1]? = some y ∧ key y ≤ key x) ∧ Aside0 (hi = m ∨ ∃ y, u[hi - a]? = some y ∧ key x < key y) ∧ Aside0 (RowE wr g cap (X ++ u ++ x :: Y)) ∧ Aside0 (Below B w wr))
  case atStart => exact ⟨a, m, rfl, rfl, Nat.le_refl _, Nat.le_of_lt b1, Nat.le_refl _, ⟨by omega⟩, ⟨.inl rfl⟩, ⟨.inl rfl⟩, HR, ⟨Below.refl _ _⟩⟩
  case round =>
    obtain ⟨lo, hi, rfl, rfl, l1, l2, l3, HK, HLo, HHi, HRow, HW⟩ := hrel
    by_cases c2 : lo < hi
    · go_wp2_with fail
      rw [half]
      have hh1 : lo ≤ (lo + hi) / 2 := by omega
      have hh2 : (lo + hi) / 2 < hi := by omega
      generalize (lo + hi) / 2 = h at hh1 hh2
      obtain ⟨y, hvy, hry⟩ := hv.out h (by omega) (by omega)
      have HVY := Aside0.mk hvy
      have hhl : h < len := by omega
      have hml : m < len := by omega
      clear hvy
      obtain ⟨xc0, xc1, xc2, xc3, xc4, xc5, xc6⟩ := HRow.out.seven HEX.out
      replace xc0 := cell_regrown xc0
      replace xc1 := cell_regrown xc1
      replace xc2 := cell_regrown xc2
      replace xc3 := cell_regrown xc3
      replace xc4 := cell_regrown xc4
      replace xc5 := cell_regrown xc5
      replace xc6 := cell_regrown xc6
      obtain ⟨yc0, yc1, yc2, yc3, yc4, yc5, yc6⟩ := HRow.out.seven hry
      replace yc0 := cell_regrown yc0
      replace yc1 := cell_regrown yc1
      replace yc2 := cell_regrown yc2
      replace yc3 := cell_regrown yc3
      replace yc4 := cell_regrown yc4
      replace yc5 := cell_regrown yc5
      replace yc6 := cell_regrown yc6
      have CR := Aside0.mk (fun d os => Calls.regrown_of (d := d) (os := os) (w := wr) (HC.out x y _))
      by_cases hlt : key x < key y
      · have hneg : keyCmp key x y < 0 := (keyCmp_neg key x y).2 hlt
        have HLT := Aside0.mk hlt
        clear hlt
        generalize keyCmp key x y = cv at CR hneg
        refine wp_region_quiet_below (by kernel_rfl) (by kernel_rfl) ?_
        repeat (go_big_quiet_step (exact CR.out _ _))
        refine wpQuiet_nil ?_
        intro _ hw'
        obtain ⟨⟨dq, osq⟩, hw''⟩ := hw'
        have hbz := below_regrown wr dq osq
        rw [← hw''] at hbz
        have HRz := Aside0.mk (HRow.out.below hbz)
        have HWz := Aside0.mk (HW.out.trans (hbz.mono (Nat.le_trans hB HW.out.size)))
        clear hry hw'' hbz xc0 yc0 xc1 yc1 xc2 yc2 xc3 yc3 xc4 yc4 xc5 yc5 xc6 yc6
        go_wp2_with fail
        go_roundg (gk - 1)
        case measure => have := HK.out; omega
        case rel => exact ⟨lo, h, rfl, rfl, l1, hh1, by omega, ⟨by have := HK.out; omega⟩, HLo, ⟨.inr ⟨y, HVY.out, HLT.out⟩⟩, HRz, HWz⟩
      · have hneg : ¬ keyCmp key x y < 0 := fun h => hlt ((keyCmp_neg key x y).1 h)
        have HLT := Aside0.mk hlt
        clear hlt
        generalize keyCmp key x y = cv at CR hneg
        refine wp_region_quiet_below (by kernel_rfl) (by kernel_rfl) ?_
        repeat (go_big_quiet_step (exact CR.out _ _))
        refine wpQuiet_nil ?_
        intro _ hw'
        obtain ⟨⟨dq, osq⟩, hw''⟩ := hw'
        have hbz := below_regrown wr dq osq
        rw [← hw''] at hbz
        have HRz := Aside0.mk (HRow.out.below hbz)
        have HWz := Aside0.mk (HW.out.trans (hbz.mono (Nat.le_trans hB HW.out.size)))
        clear hry hw'' hbz xc0 yc0 xc1 yc1 xc2 yc2 xc3 yc3 xc4 yc4 xc5 yc5 xc6 yc6
        go_wp2_with fail
        go_roundg (gk - 1)
        case measure => have := HK.out; omega
        case rel => exact ⟨h + 1, hi, by go_num, rfl, by omega, by omega, l3, ⟨by have := HK.out; omega⟩, ⟨.inr ⟨y, by rw [show h + 1 - a - 1 = h - a by omega]; exact HVY.out, by have := HLT.out; omega⟩⟩, HHi, HRz, HWz⟩
    · have e : lo = hi := by omega
      subst e
      have hi1 : lo - a ≤ u.length := by have := HM.out; omega
      have HA1 := Aside0.mk (search_le HSU.out (lo - a) hi1 (key x) (by rcases HLo.out with h | h; exact .inl (by omega); exact .inr h))
      have HA2 := Aside0.mk (search_ge HSU.out (lo - a) (key x + 1) (by rcases HHi.out with h | ⟨y, h, h'⟩; exact .inl (by have := HM.out; omega); exact .inr ⟨y, h, by omega⟩))
      clear HHi HLo hv
      go_wp2_with fail
      go_loopg [17] (m - lo) (fun kq v17 wq => ∃ (k : Nat) (w1 w2 : List S36), v17 = .int .i64 k ∧ Aside0 (k = lo + w1.length ∧ w1.length ≤ kq ∧ u.drop (lo - a) = w1 ++ w2) ∧ lo ≤ k ∧ k ≤ m ∧ Aside0 (RowE wq g cap (X ++ u.take (lo - a) ++ w1 ++ x :: (w2 ++ Y))) ∧ Aside0 (Below B w wq))
      case atStart => exact ⟨m, u.drop (lo - a), [], rfl, ⟨by have := HM.out; simp; omega, by have := HM.out; simp; omega, by simp⟩, l3, Nat.le_refl _, ⟨by rw [show X ++ u.take (lo - a) ++ u.drop (lo - a) ++ x :: ([] ++ Y) = X ++ u ++ x :: Y by rw [List.append_assoc X, List.take_append_drop]; simp]; exact HRow.out⟩, HW⟩
      case round =>
        obtain ⟨k, w1, w2, rfl, HK2, k1, k2, HRq, HWq⟩ := hrel
        by_cases c3 : lo < k
        · obtain ⟨kp, rfl⟩ : ∃ kp, k = kp + 1 := ⟨k - 1, by omega⟩
          have hw1 : ∃ w3 y, w1 = w3 ++ [y] := by
            rcases List.eq_nil_or_concat w1 with e | ⟨w3, y, e⟩
            · exfalso; have := HK2.out; rw [e] at this; simp at this; omega
            · exact ⟨w3, y, by simpa using e⟩
          obtain ⟨w3, y, rfl⟩ := hw1
          have hkp : Aside0 (kp = lo + w3.length) := ⟨by have := HK2.out.1; simp at this; omega⟩
          have htl : (u.take (lo - a)).length = lo - a := by rw [List.length_take]; omega
          have HTL := Aside0.mk htl
          have ha2 := HM.out.1
          have ey : (X ++ u.take (lo - a) ++ (w3 ++ [y]) ++ x :: (w2 ++ Y))[kp]? = some y := by
            have := hkp.out
            rw [show X ++ u.take (lo - a) ++ (w3 ++ [y]) ++ x :: (w2 ++ Y) = (X ++ u.take (lo - a) ++ w3) ++ y :: (x :: (w2 ++ Y)) by simp, List.getElem?_append_right (by rw [List.length_append, List.length_append, htl]; omega), show kp - (X ++ u.take (lo - a) ++ w3).length = 0 by rw [List.length_append, List.length_append, htl]; omega]
            rfl
          have ex : (X ++ u.take (lo - a) ++ (w3 ++ [y]) ++ x :: (w2 ++ Y))[kp + 1]? = some x := by
            have := hkp.out
            rw [show X ++ u.take (lo - a) ++ (w3 ++ [y]) ++ x :: (w2 ++ Y) = (X ++ u.take (lo - a) ++ w3 ++ [y]) ++ x :: (w2 ++ Y) by simp, List.getElem?_append_right (by rw [List.length_append, List.length_append, List.length_append, htl]; simp; omega), show kp + 1 - (X ++ u.take (lo - a) ++ w3 ++ [y]).length = 0 by rw [List.length_append, List.length_append, List.length_append, htl]; simp; omega]
            rfl
          obtain ⟨y0, y1, y2, y3, y4, y5, y6⟩ := HRq.out.seven ey
          obtain ⟨x0, x1, x2, x3, x4, x5, x6⟩ := HRq.out.seven ex
          have fr := HRq.out.frozen
          have HEX2 := Aside0.mk ex
          have hkl : kp + 1 < len := by omega
          clear ex ey htl ha2
          go_wp2_with fail
          go_big_region
          all_goals go_wp2_with fail
          all_goals
            go_roundg (gk - 1)
            case measure => have := HK2.out; simp at this; omega
            case rel =>
              have h := HK2.out
              have hlen2 : kp + 1 < (X ++ u.take (lo - a) ++ (w3 ++ [y]) ++ x :: (w2 ++ Y)).length := (List.getElem?_eq_some_iff.1 HEX2.out).1
              obtain ⟨hs, hbl⟩ := HRq.out.swap hg (s := kp + 1) (t := kp) hlen2 (by omega) x y
              rw [show X ++ u.take (lo - a) ++ (w3 ++ [y]) ++ x :: (w2 ++ Y) = (X ++ u.take (lo - a) ++ w3) ++ y :: x :: (w2 ++ Y) by simp, swap_adj _ _ _ _ _ (by have := hkp.out; have := HM.out.1; rw [List.length_append, List.length_append, HTL.out]; omega)] at hs
              have hs2 := Aside0.mk hs
              have hb2 := Aside0.mk (HWq.out.trans hbl)
              unfold put7 at hs2 hb2
              rw [show (X ++ u.take (lo - a) ++ w3) ++ x :: y :: (w2 ++ Y) = X ++ u.take (lo - a) ++ w3 ++ x :: ((y :: w2) ++ Y) by simp] at hs2
              exact ⟨kp, w3, y :: w2, by go_num, ⟨hkp.out, by simp at h; omega, by rw [h.2.2]; simp⟩, by omega, by omega, hs2, hb2⟩
        · go_wp2_with fail
          refine bodyPost_ret (results_none rfl _ _ _) rfl ?_
          have h := HK2.out
          have h0 : w1 = [] := List.length_eq_zero_iff.1 (by omega)
          have hR := HRq.out
          rw [h0] at hR
          rw [h0, List.nil_append] at h
          refine ⟨rfl, ⟨u.take (lo - a) ++ x :: u.drop (lo - a), ?_, ?_⟩, HWq.out⟩
          · have := two_stable (key := key) (x := x) (u1 := u.take (lo - a)) (u2 := u.drop (lo - a)) (by rw [List.take_append_drop]; exact HSU.out) HA1.out (fun y hy => by have := HA2.out y hy; omega)
            rwa [List.take_append_drop] at this
          · rw [h.2.2]
            simpa using hR
end Go.Proofs.Ytlmjopodghikgaa.Print
end
section
/- slices.symMergeCmpFunc at entries: two sorted runs of a row are merged stably. -/
namespace Go.Proofs.Ytlmjopodghikgaa.Print
open Go.RowKit Go.Proofs.YtlmjopodghikgaaW.PrintWords Go.Proofs.Ytlmjopodghikgaa.Stable
set_option linter.unusedVariables false
set_option linter.unusedSimpArgs false

/-- What the search of symMerge gives: where to cut the two runs. -/
theorem sym_cut {key : S36 → Int} {u v : List S36} (su : Srt key u) (sv : Srt key v) {a m b mid lo0 r0 s0 : Nat} (hm : m = a + u.length) (hb : b = m + v.length) (h1 : a ≤ s0) (h2 : s0 ≤ m) (h3 : s0 ≤ mid) (h4 : mid + m ≤ s0 + b)
    (hl : lo0 = a ∨ mid + m = lo0 + b) (hr : r0 = m ∨ r0 = mid)
    (HLo : s0 = lo0 ∨ ∃ x y, u[s0 - 1 - a]? = some x ∧ v[mid - s0]? = some y ∧ key x ≤ key y) (HHi : s0 = r0 ∨ ∃ x y, u[s0 - a]? = some x ∧ v[mid - 1 - s0]? = some y ∧ key y < key x) :
    (∀ x ∈ v.take (mid - s0), ∀ y ∈ u.drop (s0 - a), key x < key y) ∧ (∀ x ∈ u.take (s0 - a), ∀ y ∈ v.drop (mid - s0), key x ≤ key y) := by
  constructor
  · rcases HHi with h | ⟨x, y, hx, hy, hlt⟩
    · rcases hr with e | e
      · intro x _ y hy
        rw [List.drop_eq_nil_of_le (by omega)] at hy
        cases hy
      · intro x hx
        rw [show mid - s0 = 0 by omega, List.take_zero] at hx
        cases hx
    · intro z hz z' hz'
      have i1 := search_lt sv (mid - s0) (by omega) (key x) (by
        rcases Nat.eq_zero_or_pos (mid - s0) with e | e
        · exact .inl e
        · exact .inr ⟨y, by rw [show mid - s0 - 1 = mid - 1 - s0 by omega]; exact hy, hlt⟩) z hz
      have i2 := search_ge su (s0 - a) (key x) (.inr ⟨x, hx, Int.le_refl _⟩) z' hz'
      omega
  · rcases HLo with h | ⟨x, y, hx, hy, hle⟩
    · rcases hl with e | e
      · intro x hx
        rw [show s0 - a = 0 by omega, List.take_zero] at hx
        cases hx
      · intro x _ y hy
        rw [List.drop_eq_nil_of_le (by omega)] at hy
        cases hy
    · intro z hz z' hz'
      have i1 := search_le su (s0 - a) (by omega) (key x) (by
        rcases Nat.eq_zero_or_pos (s0 - a) with e | e
        · exact .inl e
        · exact .inr ⟨x, by rw [show s0 - a - 1 = s0 - 1 - a by omega]; exact hx, Int.le_refl _⟩) z hz
      have i2 := search_ge sv (mid - s0) (key y) (.inr ⟨y, hy, Int.le_refl _⟩) z' hz'
      omega
theorem len_nil (l : List S36) (e : l = []) : l.length = 0 := by rw [e]; rfl
set_option maxHeartbeats 8000000 in
set_option maxRecDepth 100000 in
theorem symGen (key : S36 → Int) (gc : Nat) (eg : ∀ args w, (callFunc gc args).run Try.prog w = .ok (.enter gc args) w) (hcmp : CmpB gc key) (N : Nat) (IH : SymSaid key gc N) (w : World) (g cap B : Nat) (hg : B ≤ g) (hB : B ≤ w.heap.size) (X u v Y : List S36) (hu : 2 ≤ u.length) (hv : 2 ≤ v.length) (hN : u.length + v.length ≤ N + 1) (su : Srt key u) (sv : Srt key v) (hr : RowE w g cap (X ++ u ++ v ++ Y)) (a m b len : Nat) (ha : a = X.length) (hm : m = X.length + u.length) (hb : b = X.length + u.length + v.length) (hl : len = (X ++ u ++ v ++ Y).length) (hsm : len < 4611686018427387904) :
    Calls Try.prog 47 #[.slice (some ⟨g, 0, none⟩) len cap, .int .i64 a, .int .i64 m, .int .i64 b, .func (.func gc) #[] #[]] w fun e w' => e = .returned (.tuple #[]) ∧ (∃ s, StableOf key (u ++ v) s ∧ RowE w' g cap (X ++ s ++ Y)) ∧ Below B w w' := by
  have hle := hr.len
  have hlen : len = X.length + u.length + v.length + Y.length := by rw [hl]; simp; omega
  have b1 : a < m := by omega
  have b2 : m < b := by omega
  have b3 : b ≤ len := by omega
  have ht : ((m : Int) - (a : Int) == 1) = false := by simp; omega
  have ht2 : ((b : Int) - (m : Int) == 1) = false := by simp; omega
  obtain ⟨mid, hmid⟩ : ∃ mid, (a + b) / 2 = mid := ⟨_, rfl⟩
  have m1 : 2 * mid ≤ a + b := by omega
  have m2 : a + b ≤ 2 * mid + 1 := by omega
  have m3 : a < mid := by omega
  have m4 : mid < b := by omega
  have HR := Aside0.mk hr
  have HC := Aside0.mk hcmp
  have HIH := Aside0.mk IH
  have HM := Aside0.mk (show a = X.length ∧ m = a + u.length ∧ b = m + v.length ∧ len = X.length + u.length + v.length + Y.length ∧ u.length + v.length ≤ N + 1 from ⟨ha, by omega, by omega, hlen, hN⟩)
  have HSU := Aside0.mk su
  have HSV := Aside0.mk sv
  have hDu : Aside0 (∀ k, a ≤ k → k < m → ∃ x, u[k - a]? = some x ∧ (X ++ u ++ v ++ Y)[k]? = some x) := ⟨fun k h1 h2 => by
    have hk : k - a < u.length := by omega
    refine ⟨_, List.getElem?_eq_getElem hk, ?_⟩
    rw [List.append_assoc, List.append_assoc, List.getElem?_append_right (by omega), show k - X.length = k - a by omega, List.getElem?_append_left hk, List.getElem?_eq_getElem hk]⟩
  have hDv : Aside0 (∀ k, m ≤ k → k < b → ∃ y, v[k - m]? = some y ∧ (X ++ u ++ v ++ Y)[k]? = some y) := ⟨fun k h1 h2 => by
    have hk : k - m < v.length := by omega
    refine ⟨_, List.getElem?_eq_getElem hk, ?_⟩
    rw [List.append_assoc, List.getElem?_append_right (by simp; omega), show k - (X ++ u).length = k - m by simp; omega, List.getElem?_append_left hk, List.getElem?_eq_getElem hk]⟩
  have hp : ((mid : Int) + (m : Int) - 1) = ((mid + m - 1 : Nat) : Int) := by omega
  have HPP := Aside0.mk hp
  have HHalf : Aside0 (((a : Int) + (b : Int)) / 2 = (mid : Int)) := ⟨by rw [half, hmid]⟩
  obtain ⟨lo0, r0, c1, c3, c4, c5, c6, c7, hcase⟩ : ∃ lo0 r0, a ≤ lo0 ∧ lo0 ≤ r0 ∧ r0 ≤ m ∧ r0 ≤ mid ∧ (mid + m ≤ lo0 + b) ∧ Aside0 ((lo0 = a ∨ mid + m = lo0 + b) ∧ (r0 = m ∨ r0 = mid)) ∧ ((mid < m ∧ lo0 + b = mid + m ∧ r0 = mid) ∨ (m ≤ mid ∧ lo0 = a ∧ r0 = m)) := by
    by_cases h : mid < m
    · exact ⟨mid + m - b, mid, by omega, by omega, by omega, by omega, by omega, ⟨.inr (by omega), .inr rfl⟩, .inl ⟨h, by omega, rfl⟩⟩
    · exact ⟨a, m, by omega, by omega, by omega, by omega, by omega, ⟨.inl rfl, .inl rfl⟩, .inr ⟨by omega, rfl, rfl⟩⟩
  clear hr hle ha hm hb hl hlen hcmp su sv hu hv hN hp IH
  have hmidI : ((a : Int) + (b : Int)) / 2 ≤ (b : Int) ∧ (a : Int) ≤ ((a : Int) + (b : Int)) / 2 := by omega
  obtain ⟨hmid1, hmid2⟩ := hmidI
  clear hmid
  go_enter Try.func47, Try.ntmps47
  rcases hcase with ⟨k1, k2, k3⟩ | ⟨k1, k2, k3⟩
  · have k1' : ((a : Int) + (b : Int)) / 2 < (m : Int) := by rw [HHalf.out]; omega
    have HK0 : Aside0 ((mid : Int) + (m : Int) - (b : Int) = (lo0 : Int) ∧ (mid : Int) = (r0 : Int)) := ⟨by omega, by rw [k3]⟩
    clear k2 k3
    go_wp2_with fail
    simp only [HHalf.out]
    rw [HPP.out]
    have hpl : mid + m - 1 < 2 * len := by omega
    have HPE : Aside0 (mid + m - 1 + 1 = mid + m) := ⟨by omega⟩
    generalize mid + m - 1 = p at hpl HPE
    go_loopg [20, 21, 23] (r0 - lo0) (fun kq v20 v21 _ wr => ∃ (lo hi : Nat), v20 = .int .i64 lo ∧ v21 = .int .i64 hi ∧ lo0 ≤ lo ∧ lo ≤ hi ∧ hi ≤ r0 ∧ Aside0 (hi - lo ≤ kq) ∧ Aside0 (lo = lo0 ∨ ∃ x y, u[lo - 1 - a]? = some x ∧ v[mid - lo]? = some y ∧ key x ≤ key y) ∧ Aside0 (hi = r0 ∨ ∃ x y, u[hi - a]? = some x ∧ v[mid - 1 - hi]? = some y ∧ key y < key x) ∧ Aside0 (RowE wr g cap (X ++ u ++ v ++ Y)) ∧ Aside0 (Below B w wr))
    case atStart => exact ⟨lo0, r0, by first | rfl | (congr 1; have := HK0.out; omega), by first | rfl | (congr 1; have := HK0.out; omega), Nat.le_refl _, c3, Nat.le_refl _, ⟨by omega⟩, ⟨.inl rfl⟩, ⟨.inl rfl⟩, HR, ⟨Below.refl _ _⟩⟩
    case round =>
      obtain ⟨lo, hi, rfl, rfl, l1, l2, l3, HK, HLo, HHi, HRow, HW⟩ := hrel
      by_cases cc : lo < hi
      · go_wp2_with fail
        rw [half]
        have hh1 : lo ≤ (lo + hi) / 2 := by omega
        have hh2 : (lo + hi) / 2 < hi := by omega
        generalize (lo + hi) / 2 = h at hh1 hh2
        obtain ⟨x, hux, hrx⟩ := hDu.out h (by omega) (by omega)
        obtain ⟨y, hvy, hry⟩ := hDv.out (p - h) (by have := HPE.out; omega) (by have := HPE.out; omega)
        have HUX := Aside0.mk hux
        have HVY := Aside0.mk hvy
        have hhl : h < len := by omega
        have hph : h ≤ p := by have := HPE.out; omega
        have hpl2 : p - h < len := by have := HPE.out; omega
        have hI1 : (p : Int) - (h : Int) < (len : Int) := by have := HPE.out; omega
        have hI0 : 0 ≤ (p : Int) - (h : Int) := by omega
        have hIN : ((p : Int) - (h : Int)).toNat = p - h := by omega
        clear hux hvy
        obtain ⟨xc0, xc1, xc2, xc3, xc4, xc5, xc6⟩ := HRow.out.seven hry
        replace xc0 := cell_regrown xc0
        replace xc1 := cell_regrown xc1
        replace xc2 := cell_regrown xc2
        replace xc3 := cell_regrown xc3
        replace xc4 := cell_regrown xc4
        replace xc5 := cell_regrown xc5
        replace xc6 := cell_regrown xc6
        obtain ⟨yc0, yc1, yc2, yc3, yc4, yc5, yc6⟩ := HRow.out.seven hrx
        replace yc0 := cell_regrown yc0
        replace yc1 := cell_regrown yc1
        replace yc2 := cell_regrown yc2
        replace yc3 := cell_regrown yc3
        replace yc4 := cell_regrown yc4
        replace yc5 := cell_regrown yc5
        replace yc6 := cell_regrown yc6
        have CR := Aside0.mk (fun d os => Calls.regrown_of (d := d) (os := os) (w := wr) (HC.out y x _))
        by_cases hlt : key y < key x
        · have hneg : keyCmp key y x < 0 := (keyCmp_neg key y x).2 hlt
          have HLT := Aside0.mk hlt
          clear hlt
          generalize keyCmp key y x = cv at CR hneg
          refine wp_region_quiet_below (by kernel_rfl) (by kernel_rfl) ?_
          repeat (go_big_quiet_step (exact CR.out _ _))
          refine wpQuiet_nil ?_
          intro _ hw'
          obtain ⟨⟨dq, osq⟩, hw''⟩ := hw'
          have hbz := below_regrown wr dq osq
          rw [← hw''] at hbz
          have HRz := Aside0.mk (HRow.out.below hbz)
          have HWz := Aside0.mk (HW.out.trans (hbz.mono (Nat.le_trans hB HW.out.size)))
          clear hrx hry hw'' hbz xc0 yc0 xc1 yc1 xc2 yc2 xc3 yc3 xc4 yc4 xc5 yc5 xc6 yc6
          go_wp2_with fail
          go_roundg (gk - 1)
          case measure => have := HK.out; omega
          case rel => exact ⟨lo, h, rfl, rfl, l1, hh1, by omega, ⟨by have := HK.out; omega⟩, HLo, ⟨.inr ⟨x, y, HUX.out, by rw [show mid - 1 - h = p - h - m by have := HPE.out; omega]; exact HVY.out, HLT.out⟩⟩, HRz, HWz⟩
        · have hneg : ¬ keyCmp key y x < 0 := fun h => hlt ((keyCmp_neg key y x).1 h)
          have HLT := Aside0.mk hlt
          clear hlt
          generalize keyCmp key y x = cv at CR hneg
          refine wp_region_quiet_below (by kernel_rfl) (by kernel_rfl) ?_
          repeat (go_big_quiet_step (exact CR.out _ _))
          refine wpQuiet_nil ?_
          intro _ hw'
          obtain ⟨⟨dq, osq⟩, hw''⟩ := hw'
          have hbz := below_regrown wr dq osq
          rw [← hw''] at hbz
          have HRz := Aside0.mk (HRow.out.below hbz)
          have HWz := Aside0.mk (HW.out.trans (hbz.mono (Nat.le_trans hB HW.out.size)))
          clear hrx hry hw'' hbz xc0 yc0 xc1 yc1 xc2 yc2 xc3 yc3 xc4 yc4 xc5 yc5 xc6 yc6
          go_wp2_with fail
          go_roundg (gk - 1)
          case measure => have := HK.out; omega
          case rel => exact ⟨h + 1, hi, by go_num, rfl, by omega, by omega, l3, ⟨by have := HK.out; omega⟩, ⟨.inr ⟨x, y, by rw [show h + 1 - 1 - a = h - a by omega]; exact HUX.out, by rw [show mid - (h + 1) = p - h - m by have := HPE.out; omega]; exact HVY.out, by have := HLT.out; omega⟩⟩, HHi, HRz, HWz⟩
      · obtain rfl : lo = hi := by omega
        obtain ⟨s0, rfl⟩ : ∃ s0, s0 = lo := ⟨_, rfl⟩
        have l1' : a ≤ s0 := by omega
        have l3' : s0 ≤ m := by omega
        have l4' : s0 ≤ mid := by omega
        have l5' : mid + m ≤ s0 + b := by omega
        obtain ⟨endd, hend⟩ : ∃ endd, endd + s0 = mid + m := ⟨mid + m - s0, by omega⟩
        have he : Aside0 ((mid : Int) + (m : Int) - (s0 : Int) = (endd : Int)) := ⟨by omega⟩
        have e1 : endd ≤ b := by omega
        obtain ⟨u1, u2, hu12, hu1l⟩ : ∃ u1 u2, u = u1 ++ u2 ∧ u1.length = s0 - a := ⟨u.take (s0 - a), u.drop (s0 - a), (List.take_append_drop _ _).symm, by rw [List.length_take]; have := HM.out; omega⟩
        obtain ⟨v1, v2, hv12, hv1l⟩ : ∃ v1 v2, v = v1 ++ v2 ∧ v1.length = mid - s0 := ⟨v.take (mid - s0), v.drop (mid - s0), (List.take_append_drop _ _).symm, by rw [List.length_take]; have := HM.out; omega⟩
        have hcut := sym_cut HSU.out HSV.out HM.out.2.1 HM.out.2.2.1 l1' l3' l4' l5' c7.out.1 c7.out.2 HLo.out HHi.out
        rw [← hu1l, ← hv1l, hu12, hv12, List.take_left, List.drop_left, List.take_left, List.drop_left] at hcut
        subst hu12
        subst hv12
        have HCut := Aside0.mk hcut
        have hlu : m - s0 = u2.length := by have := HM.out; simp at this; omega
        have hlv : b - m - (mid - s0) = v2.length := by have := HM.out; simp at this; omega
        have HLen : Aside0 (u1.length = s0 - a ∧ v1.length = mid - s0 ∧ u2.length = m - s0 ∧ v2.length = b - m - (mid - s0)) := ⟨hu1l, hv1l, hlu.symm, hlv.symm⟩
        clear hcut hu1l hv1l hlu hlv HLo HHi hDu hDv
        by_cases p1 : s0 < m
        · by_cases p2 : s0 < mid
          · have t1 : (s0 : Int) < (m : Int) := by omega
            have t2 : (m : Int) < (mid : Int) + (m : Int) - (s0 : Int) := by omega
            have t3 : (mid : Int) < (mid : Int) + (m : Int) - (s0 : Int) := by omega
            by_cases p3 : a < s0
            · by_cases p4 : endd < b
              · have t4 : (mid : Int) + (m : Int) - (s0 : Int) < (b : Int) := by omega
                first
                | (exfalso; omega)
                | (
                    have HCr := Aside0.mk (rotateF (.func (.func gc) #[] #[]) wr g cap B hg (Nat.le_trans hB HW.out.size) (X ++ u1) u2 v1 (v2 ++ Y) (fun e => by have h := HLen.out; have h2 := len_nil u2 e; omega) (fun e => by have h := HLen.out; have h2 := len_nil v1 e; omega) (by have := HRow.out; simpa [List.append_assoc] using this) (s0 : Int) (m : Int) (endd : Int) len (by have h := HM.out; have h2 := HLen.out; simp at h ⊢; omega) (by have h := HM.out; have h2 := HLen.out; simp at h ⊢; omega) (by have h := HM.out; have h2 := HLen.out; simp at h ⊢; omega) (by have h := HM.out; have h2 := HLen.out; simp at h ⊢; omega))
                    go_wp2_with fail
                    rw [he.out]
                    go_at_call 48
                    refine HCr.out.mono ?_
                    rintro e w1 ⟨rfl, hrow1, hb1⟩
                    have HR1 : Aside0 (RowE w1 g cap (X ++ (u1 ++ v1) ++ (u2 ++ v2) ++ Y)) := ⟨by simpa [List.append_assoc] using hrow1⟩
                    have HW1 := Aside0.mk (HW.out.trans hb1)
                    clear hrow1 hb1
                    have HC1 := Aside0.mk (HIH.out w1 g cap B hg (Nat.le_trans hB HW1.out.size) (X) u1 v1 (u2 ++ v2 ++ Y) (fun e => by have h := HLen.out; have h2 := len_nil u1 e; omega) (fun e => by have h := HLen.out; have h2 := len_nil v1 e; omega) (by have := HLen.out; have := HM.out; omega) (srt_left HSU.out) (srt_left HSV.out) (by have := HR1.out; simpa [List.append_assoc] using this) a s0 mid len (HM.out.1) (by have h := HM.out; have h2 := HLen.out; simp at h ⊢; omega) (by have h := HM.out; have h2 := HLen.out; simp at h ⊢; omega) (by have h := HM.out; have h2 := HLen.out; simp at h ⊢; omega) hsm)
                    go_wp2_with fail
                    go_at_call 47
                    refine HC1.out.mono ?_
                    rintro e w2 ⟨rfl, ⟨s1, hs1, hrow2⟩, hb2⟩
                    have HS1 := Aside0.mk hs1
                    have HR2 : Aside0 (RowE w2 g cap (X ++ s1 ++ (u2 ++ v2) ++ Y)) := ⟨by simpa [List.append_assoc] using hrow2⟩
                    have HW2 := Aside0.mk (HW1.out.trans hb2)
                    have HSL : Aside0 (s1.length = mid - a) := ⟨by have := hs1.same.length; have := HLen.out; simp at *; omega⟩
                    clear hs1 hrow2 hb2
                    have HC2 := Aside0.mk (HIH.out w2 g cap B hg (Nat.le_trans hB HW2.out.size) (X ++ s1) u2 v2 (Y) (fun e => by have h := HLen.out; have h2 := len_nil u2 e; omega) (fun e => by have h := HLen.out; have h2 := len_nil v2 e; omega) (by have := HLen.out; have := HM.out; omega) (srt_right HSU.out) (srt_right HSV.out) (by have := HR2.out; simpa [List.append_assoc] using this) mid endd b len (by have h := HM.out; have h2 := HLen.out; have h3 := HSL.out; simp at h ⊢; omega) (by have h := HM.out; have h2 := HLen.out; have h3 := HSL.out; simp at h ⊢; omega) (by have h := HM.out; have h2 := HLen.out; have h3 := HSL.out; simp at h ⊢; omega) (by have h := HM.out; have h2 := HLen.out; have h3 := HSL.out; simp at h ⊢; omega) hsm)
                    go_wp2_with fail
                    go_at_call 47
                    refine HC2.out.mono ?_
                    rintro e w3 ⟨rfl, ⟨s2, hs2, hrow3⟩, hb3⟩
                    have HS2 := Aside0.mk hs2
                    have HR3 : Aside0 (RowE w3 g cap (X ++ (s1 ++ s2) ++ Y)) := ⟨by simpa [List.append_assoc] using hrow3⟩
                    have HW3 := Aside0.mk (HW2.out.trans hb3)
                    clear hs2 hrow3 hb3
                    go_wp2_with fail
                    go_end0
                    exact ⟨rfl, ⟨s1 ++ s2, by have h := merge_glue HSU.out HSV.out HCut.out.1 HCut.out.2 HS1.out HS2.out; first | exact h | (rw [List.append_assoc] at h; exact h), by have h := HR3.out; first | exact h | (rw [List.append_assoc] at h; exact h)⟩, HW3.out⟩
                  )
              · have t4 : ¬ (mid : Int) + (m : Int) - (s0 : Int) < (b : Int) := by omega
                first
                | (exfalso; omega)
                | (
                    have HCr := Aside0.mk (rotateF (.func (.func gc) #[] #[]) wr g cap B hg (Nat.le_trans hB HW.out.size) (X ++ u1) u2 v1 (v2 ++ Y) (fun e => by have h := HLen.out; have h2 := len_nil u2 e; omega) (fun e => by have h := HLen.out; have h2 := len_nil v1 e; omega) (by have := HRow.out; simpa [List.append_assoc] using this) (s0 : Int) (m : Int) (endd : Int) len (by have h := HM.out; have h2 := HLen.out; simp at h ⊢; omega) (by have h := HM.out; have h2 := HLen.out; simp at h ⊢; omega) (by have h := HM.out; have h2 := HLen.out; simp at h ⊢; omega) (by have h := HM.out; have h2 := HLen.out; simp at h ⊢; omega))
                    go_wp2_with fail
                    rw [he.out]
                    go_at_call 48
                    refine HCr.out.mono ?_
                    rintro e w1 ⟨rfl, hrow1, hb1⟩
                    have HR1 : Aside0 (RowE w1 g cap (X ++ (u1 ++ v1) ++ (u2 ++ v2) ++ Y)) := ⟨by simpa [List.append_assoc] using hrow1⟩
                    have HW1 := Aside0.mk (HW.out.trans hb1)
                    clear hrow1 hb1
                    have HC1 := Aside0.mk (HIH.out w1 g cap B hg (Nat.le_trans hB HW1.out.size) (X) u1 v1 (u2 ++ v2 ++ Y) (fun e => by have h := HLen.out; have h2 := len_nil u1 e; omega) (fun e => by have h := HLen.out; have h2 := len_nil v1 e; omega) (by have := HLen.out; have := HM.out; omega) (srt_left HSU.out) (srt_left HSV.out) (by have := HR1.out; simpa [List.append_assoc] using this) a s0 mid len (HM.out.1) (by have h := HM.out; have h2 := HLen.out; simp at h ⊢; omega) (by have h := HM.out; have h2 := HLen.out; simp at h ⊢; omega) (by have h := HM.out; have h2 := HLen.out; simp at h ⊢; omega) hsm)
                    go_wp2_with fail
                    go_at_call 47
                    refine HC1.out.mono ?_
                    rintro e w2 ⟨rfl, ⟨s1, hs1, hrow2⟩, hb2⟩
                    have HS1 := Aside0.mk hs1
                    have HR2 : Aside0 (RowE w2 g cap (X ++ s1 ++ (u2 ++ v2) ++ Y)) := ⟨by simpa [List.append_assoc] using hrow2⟩
                    have HW2 := Aside0.mk (HW1.out.trans hb2)
                    have HSL : Aside0 (s1.length = mid - a) := ⟨by have := hs1.same.length; have := HLen.out; simp at *; omega⟩
                    clear hs1 hrow2 hb2
                    obtain ⟨s2, hs2⟩ : ∃ s2, s2 = u2 ++ v2 := ⟨_, rfl⟩
                    have HS2 : Aside0 (StableOf key (u2 ++ v2) s2) := ⟨by
                      rw [hs2]
                      have h0 : u2 = [] ∨ v2 = [] := by
                        have := HLen.out
                        rcases Nat.eq_zero_or_pos u2.length with e | e
                        · exact .inl (List.length_eq_zero_iff.1 e)
                        · exact .inr (List.length_eq_zero_iff.1 (by omega))
                      rcases h0 with rfl | rfl
                      · exact ⟨by simpa using srt_right HSV.out, Same.refl _⟩
                      · exact ⟨by simpa using srt_right HSU.out, Same.refl _⟩⟩
                    have HR3 : Aside0 (RowE w2 g cap (X ++ (s1 ++ s2) ++ Y)) := ⟨by rw [hs2]; have := HR2.out; simpa [List.append_assoc] using this⟩
                    have HW3 := HW2
                    clear hs2
                    go_wp2_with fail
                    go_end0
                    exact ⟨rfl, ⟨s1 ++ s2, by have h := merge_glue HSU.out HSV.out HCut.out.1 HCut.out.2 HS1.out HS2.out; first | exact h | (rw [List.append_assoc] at h; exact h), by have h := HR3.out; first | exact h | (rw [List.append_assoc] at h; exact h)⟩, HW3.out⟩
                  )
            · by_cases p4 : endd < b
              · have t4 : (mid : Int) + (m : Int) - (s0 : Int) < (b : Int) := by omega
                first
                | (exfalso; omega)
                | (
                    have HCr := Aside0.mk (rotateF (.func (.func gc) #[] #[]) wr g cap B hg (Nat.le_trans hB HW.out.size) (X ++ u1) u2 v1 (v2 ++ Y) (fun e => by have h := HLen.out; have h2 := len_nil u2 e; omega) (fun e => by have h := HLen.out; have h2 := len_nil v1 e; omega) (by have := HRow.out; simpa [List.append_assoc] using this) (s0 : Int) (m : Int) (endd : Int) len (by have h := HM.out; have h2 := HLen.out; simp at h ⊢; omega) (by have h := HM.out; have h2 := HLen.out; simp at h ⊢; omega) (by have h := HM.out; have h2 := HLen.out; simp at h ⊢; omega) (by have h := HM.out; have h2 := HLen.out; simp at h ⊢; omega))
                    go_wp2_with fail
                    rw [he.out]
                    go_at_call 48
                    refine HCr.out.mono ?_
                    rintro e w1 ⟨rfl, hrow1, hb1⟩
                    have HR1 : Aside0 (RowE w1 g cap (X ++ (u1 ++ v1) ++ (u2 ++ v2) ++ Y)) := ⟨by simpa [List.append_assoc] using hrow1⟩
                    have HW1 := Aside0.mk (HW.out.trans hb1)
                    clear hrow1 hb1
                    obtain ⟨s1, hs1⟩ : ∃ s1, s1 = u1 ++ v1 := ⟨_, rfl⟩
                    have HS1 : Aside0 (StableOf key (u1 ++ v1) s1) := ⟨by
                      rw [hs1]
                      have h0 : u1 = [] ∨ v1 = [] := by
                        have := HLen.out
                        rcases Nat.eq_zero_or_pos u1.length with e | e
                        · exact .inl (List.length_eq_zero_iff.1 e)
                        · exact .inr (List.length_eq_zero_iff.1 (by omega))
                      rcases h0 with rfl | rfl
                      · exact ⟨by simpa using srt_left HSV.out, Same.refl _⟩
                      · exact ⟨by simpa using srt_left HSU.out, Same.refl _⟩⟩
                    have HR2 : Aside0 (RowE w1 g cap (X ++ s1 ++ (u2 ++ v2) ++ Y)) := ⟨by rw [hs1]; exact HR1.out⟩
                    have HW2 := HW1
                    have HSL : Aside0 (s1.length = mid - a) := ⟨by rw [hs1]; have := HLen.out; simp; omega⟩
                    clear hs1
                    have HC2 := Aside0.mk (HIH.out w1 g cap B hg (Nat.le_trans hB HW2.out.size) (X ++ s1) u2 v2 (Y) (fun e => by have h := HLen.out; have h2 := len_nil u2 e; omega) (fun e => by have h := HLen.out; have h2 := len_nil v2 e; omega) (by have := HLen.out; have := HM.out; omega) (srt_right HSU.out) (srt_right HSV.out) (by have := HR2.out; simpa [List.append_assoc] using this) mid endd b len (by have h := HM.out; have h2 := HLen.out; have h3 := HSL.out; simp at h ⊢; omega) (by have h := HM.out; have h2 := HLen.out; have h3 := HSL.out; simp at h ⊢; omega) (by have h := HM.out; have h2 := HLen.out; have h3 := HSL.out; simp at h ⊢; omega) (by have h := HM.out; have h2 := HLen.out; have h3 := HSL.out; simp at h ⊢; omega) hsm)
                    go_wp2_with fail
                    go_at_call 47
                    refine HC2.out.mono ?_
                    rintro e w3 ⟨rfl, ⟨s2, hs2, hrow3⟩, hb3⟩
                    have HS2 := Aside0.mk hs2
                    have HR3 : Aside0 (RowE w3 g cap (X ++ (s1 ++ s2) ++ Y)) := ⟨by simpa [List.append_assoc] using hrow3⟩
                    have HW3 := Aside0.mk (HW2.out.trans hb3)
                    clear hs2 hrow3 hb3
                    go_wp2_with fail
                    go_end0
                    exact ⟨rfl, ⟨s1 ++ s2, by have h := merge_glue HSU.out HSV.out HCut.out.1 HCut.out.2 HS1.out HS2.out; first | exact h | (rw [List.append_assoc] at h; exact h), by have h := HR3.out; first | exact h | (rw [List.append_assoc] at h; exact h)⟩, HW3.out⟩
                  )
              · have t4 : ¬ (mid : Int) + (m : Int) - (s0 : Int) < (b : Int) := by omega
                first
                | (exfalso; omega)
                | (
                    have HCr := Aside0.mk (rotateF (.func (.func gc) #[] #[]) wr g cap B hg (Nat.le_trans hB HW.out.size) (X ++ u1) u2 v1 (v2 ++ Y) (fun e => by have h := HLen.out; have h2 := len_nil u2 e; omega) (fun e => by have h := HLen.out; have h2 := len_nil v1 e; omega) (by have := HRow.out; simpa [List.append_assoc] using this) (s0 : Int) (m : Int) (endd : Int) len (by have h := HM.out; have h2 := HLen.out; simp at h ⊢; omega) (by have h := HM.out; have h2 := HLen.out; simp at h ⊢; omega) (by have h := HM.out; have h2 := HLen.out; simp at h ⊢; omega) (by have h := HM.out; have h2 := HLen.out; simp at h ⊢; omega))
                    go_wp2_with fail
                    rw [he.out]
                    go_at_call 48
                    refine HCr.out.mono ?_
                    rintro e w1 ⟨rfl, hrow1, hb1⟩
                    have HR1 : Aside0 (RowE w1 g cap (X ++ (u1 ++ v1) ++ (u2 ++ v2) ++ Y)) := ⟨by simpa [List.append_assoc] using hrow1⟩
                    have HW1 := Aside0.mk (HW.out.trans hb1)
                    clear hrow1 hb1
                    obtain ⟨s1, hs1⟩ : ∃ s1, s1 = u1 ++ v1 := ⟨_, rfl⟩
                    have HS1 : Aside0 (StableOf key (u1 ++ v1) s1) := ⟨by
                      rw [hs1]
                      have h0 : u1 = [] ∨ v1 = [] := by
                        have := HLen.out
                        rcases Nat.eq_zero_or_pos u1.length with e | e
                        · exact .inl (List.length_eq_zero_iff.1 e)
                        · exact .inr (List.length_eq_zero_iff.1 (by omega))
                      rcases h0 with rfl | rfl
                      · exact ⟨by simpa using srt_left HSV.out, Same.refl _⟩
                      · exact ⟨by simpa using srt_left HSU.out, Same.refl _⟩⟩
                    have HR2 : Aside0 (RowE w1 g cap (X ++ s1 ++ (u2 ++ v2) ++ Y)) := ⟨by rw [hs1]; exact HR1.out⟩
                    have HW2 := HW1
                    have HSL : Aside0 (s1.length = mid - a) := ⟨by rw [hs1]; have := HLen.out; simp; omega⟩
                    clear hs1
                    obtain ⟨s2, hs2⟩ : ∃ s2, s2 = u2 ++ v2 := ⟨_, rfl⟩
                    have HS2 : Aside0 (StableOf key (u2 ++ v2) s2) := ⟨by
                      rw [hs2]
                      have h0 : u2 = [] ∨ v2 = [] := by
                        have := HLen.out
                        rcases Nat.eq_zero_or_pos u2.length with e | e
                        · exact .inl (List.length_eq_zero_iff.1 e)
                        · exact .inr (List.length_eq_zero_iff.1 (by omega))
                      rcases h0 with rfl | rfl
                      · exact ⟨by simpa using srt_right HSV.out, Same.refl _⟩
                      · exact ⟨by simpa using srt_right HSU.out, Same.refl _⟩⟩
                    have HR3 : Aside0 (RowE w1 g cap (X ++ (s1 ++ s2) ++ Y)) := ⟨by rw [hs2]; have := HR2.out; simpa [List.append_assoc] using this⟩
                    have HW3 := HW2
                    clear hs2
                    go_wp2_with fail
                    go_end0
                    exact ⟨rfl, ⟨s1 ++ s2, by have h := merge_glue HSU.out HSV.out HCut.out.1 HCut.out.2 HS1.out HS2.out; first | exact h | (rw [List.append_assoc] at h; exact h), by have h := HR3.out; first | exact h | (rw [List.append_assoc] at h; exact h)⟩, HW3.out⟩
                  )
          · have t3 : (mid : Int) < (mid : Int) + (m : Int) - (s0 : Int) := by omega
            have t2 : ¬ (m : Int) < (mid : Int) + (m : Int) - (s0 : Int) := by omega
            by_cases p4 : endd < b
            · have t4 : (mid : Int) + (m : Int) - (s0 : Int) < (b : Int) := by omega
              first
              | (exfalso; omega)
              | (
                  have HR1 : Aside0 (RowE wr g cap (X ++ (u1 ++ v1) ++ (u2 ++ v2) ++ Y)) := ⟨by
                    have h := HRow.out
                    have h0 : u2 = [] ∨ v1 = [] := by
                      have := HLen.out
                      rcases Nat.eq_zero_or_pos u2.length with e | e
                      · exact .inl (List.length_eq_zero_iff.1 e)
                      · exact .inr (List.length_eq_zero_iff.1 (by omega))
                    rcases h0 with rfl | rfl <;> simpa [List.append_assoc] using h⟩
                  have HW1 := HW
                  obtain ⟨s1, hs1⟩ : ∃ s1, s1 = u1 ++ v1 := ⟨_, rfl⟩
                  have HS1 : Aside0 (StableOf key (u1 ++ v1) s1) := ⟨by
                    rw [hs1]
                    have h0 : u1 = [] ∨ v1 = [] := by
                      have := HLen.out
                      rcases Nat.eq_zero_or_pos u1.length with e | e
                      · exact .inl (List.length_eq_zero_iff.1 e)
                      · exact .inr (List.length_eq_zero_iff.1 (by omega))
                    rcases h0 with rfl | rfl
                    · exact ⟨by simpa using srt_left HSV.out, Same.refl _⟩
                    · exact ⟨by simpa using srt_left HSU.out, Same.refl _⟩⟩
                  have HR2 : Aside0 (RowE wr g cap (X ++ s1 ++ (u2 ++ v2) ++ Y)) := ⟨by rw [hs1]; exact HR1.out⟩
                  have HW2 := HW1
                  have HSL : Aside0 (s1.length = mid - a) := ⟨by rw [hs1]; have := HLen.out; simp; omega⟩
                  clear hs1
                  have HC2 := Aside0.mk (HIH.out wr g cap B hg (Nat.le_trans hB HW2.out.size) (X ++ s1) u2 v2 (Y) (fun e => by have h := HLen.out; have h2 := len_nil u2 e; omega) (fun e => by have h := HLen.out; have h2 := len_nil v2 e; omega) (by have := HLen.out; have := HM.out; omega) (srt_right HSU.out) (srt_right HSV.out) (by have := HR2.out; simpa [List.append_assoc] using this) mid endd b len (by have h := HM.out; have h2 := HLen.out; have h3 := HSL.out; simp at h ⊢; omega) (by have h := HM.out; have h2 := HLen.out; have h3 := HSL.out; simp at h ⊢; omega) (by have h := HM.out; have h2 := HLen.out; have h3 := HSL.out; simp at h ⊢; omega) (by have h := HM.out; have h2 := HLen.out; have h3 := HSL.out; simp at h ⊢; omega) hsm)
                  go_wp2_with fail
                  rw [he.out]
                  go_at_call 47
                  refine HC2.out.mono ?_
                  rintro e w3 ⟨rfl, ⟨s2, hs2, hrow3⟩, hb3⟩
                  have HS2 := Aside0.mk hs2
                  have HR3 : Aside0 (RowE w3 g cap (X ++ (s1 ++ s2) ++ Y)) := ⟨by simpa [List.append_assoc] using hrow3⟩
                  have HW3 := Aside0.mk (HW2.out.trans hb3)
                  clear hs2 hrow3 hb3
                  go_wp2_with fail
                  go_end0
                  exact ⟨rfl, ⟨s1 ++ s2, by have h := merge_glue HSU.out HSV.out HCut.out.1 HCut.out.2 HS1.out HS2.out; first | exact h | (rw [List.append_assoc] at h; exact h), by have h := HR3.out; first | exact h | (rw [List.append_assoc] at h; exact h)⟩, HW3.out⟩
                )
            · have t4 : ¬ (mid : Int) + (m : Int) - (s0 : Int) < (b : Int) := by omega
              first
              | (exfalso; omega)
              | (
                  have HR1 : Aside0 (RowE wr g cap (X ++ (u1 ++ v1) ++ (u2 ++ v2) ++ Y)) := ⟨by
                    have h := HRow.out
                    have h0 : u2 = [] ∨ v1 = [] := by
                      have := HLen.out
                      rcases Nat.eq_zero_or_pos u2.length with e | e
                      · exact .inl (List.length_eq_zero_iff.1 e)
                      · exact .inr (List.length_eq_zero_iff.1 (by omega))
                    rcases h0 with rfl | rfl <;> simpa [List.append_assoc] using h⟩
                  have HW1 := HW
                  obtain ⟨s1, hs1⟩ : ∃ s1, s1 = u1 ++ v1 := ⟨_, rfl⟩
                  have HS1 : Aside0 (StableOf key (u1 ++ v1) s1) := ⟨by
                    rw [hs1]
                    have h0 : u1 = [] ∨ v1 = [] := by
                      have := HLen.out
                      rcases Nat.eq_zero_or_pos u1.length with e | e
                      · exact .inl (List.length_eq_zero_iff.1 e)
                      · exact .inr (List.length_eq_zero_iff.1 (by omega))
                    rcases h0 with rfl | rfl
                    · exact ⟨by simpa using srt_left HSV.out, Same.refl _⟩
                    · exact ⟨by simpa using srt_left HSU.out, Same.refl _⟩⟩
                  have HR2 : Aside0 (RowE wr g cap (X ++ s1 ++ (u2 ++ v2) ++ Y)) := ⟨by rw [hs1]; exact HR1.out⟩
                  have HW2 := HW1
                  have HSL : Aside0 (s1.length = mid - a) := ⟨by rw [hs1]; have := HLen.out; simp; omega⟩
                  clear hs1
                  obtain ⟨s2, hs2⟩ : ∃ s2, s2 = u2 ++ v2 := ⟨_, rfl⟩
                  have HS2 : Aside0 (StableOf key (u2 ++ v2) s2) := ⟨by
                    rw [hs2]
                    have h0 : u2 = [] ∨ v2 = [] := by
                      have := HLen.out
                      rcases Nat.eq_zero_or_pos u2.length with e | e
                      · exact .inl (List.length_eq_zero_iff.1 e)
                      · exact .inr (List.length_eq_zero_iff.1 (by omega))
                    rcases h0 with rfl | rfl
                    · exact ⟨by simpa using srt_right HSV.out, Same.refl _⟩
                    · exact ⟨by simpa using srt_right HSU.out, Same.refl _⟩⟩
                  have HR3 : Aside0 (RowE wr g cap (X ++ (s1 ++ s2) ++ Y)) := ⟨by rw [hs2]; have := HR2.out; simpa [List.append_assoc] using this⟩
                  have HW3 := HW2
                  clear hs2
                  go_wp2_with fail
                  go_end0
                  exact ⟨rfl, ⟨s1 ++ s2, by have h := merge_glue HSU.out HSV.out HCut.out.1 HCut.out.2 HS1.out HS2.out; first | exact h | (rw [List.append_assoc] at h; exact h), by have h := HR3.out; first | exact h | (rw [List.append_assoc] at h; exact h)⟩, HW3.out⟩
                )
        · have t3 : ¬ (mid : Int) < (mid : Int) + (m : Int) - (s0 : Int) := by omega
          by_cases p2 : s0 < mid
          · have p3 : a < s0 := by omega
            first
            | (exfalso; omega)
            | (
                have HR1 : Aside0 (RowE wr g cap (X ++ (u1 ++ v1) ++ (u2 ++ v2) ++ Y)) := ⟨by
                  have h := HRow.out
                  have h0 : u2 = [] ∨ v1 = [] := by
                    have := HLen.out
                    rcases Nat.eq_zero_or_pos u2.length with e | e
                    · exact .inl (List.length_eq_zero_iff.1 e)
                    · exact .inr (List.length_eq_zero_iff.1 (by omega))
                  rcases h0 with rfl | rfl <;> simpa [List.append_assoc] using h⟩
                have HW1 := HW
                have HC1 := Aside0.mk (HIH.out wr g cap B hg (Nat.le_trans hB HW1.out.size) (X) u1 v1 (u2 ++ v2 ++ Y) (fun e => by have h := HLen.out; have h2 := len_nil u1 e; omega) (fun e => by have h := HLen.out; have h2 := len_nil v1 e; omega) (by have := HLen.out; have := HM.out; omega) (srt_left HSU.out) (srt_left HSV.out) (by have := HR1.out; simpa [List.append_assoc] using this) a s0 mid len (HM.out.1) (by have h := HM.out; have h2 := HLen.out; simp at h ⊢; omega) (by have h := HM.out; have h2 := HLen.out; simp at h ⊢; omega) (by have h := HM.out; have h2 := HLen.out; simp at h ⊢; omega) hsm)
                go_wp2_with fail
                go_at_call 47
                refine HC1.out.mono ?_
                rintro e w2 ⟨rfl, ⟨s1, hs1, hrow2⟩, hb2⟩
                have HS1 := Aside0.mk hs1
                have HR2 : Aside0 (RowE w2 g cap (X ++ s1 ++ (u2 ++ v2) ++ Y)) := ⟨by simpa [List.append_assoc] using hrow2⟩
                have HW2 := Aside0.mk (HW1.out.trans hb2)
                have HSL : Aside0 (s1.length = mid - a) := ⟨by have := hs1.same.length; have := HLen.out; simp at *; omega⟩
                clear hs1 hrow2 hb2
                obtain ⟨s2, hs2⟩ : ∃ s2, s2 = u2 ++ v2 := ⟨_, rfl⟩
                have HS2 : Aside0 (StableOf key (u2 ++ v2) s2) := ⟨by
                  rw [hs2]
                  have h0 : u2 = [] ∨ v2 = [] := by
                    have := HLen.out
                    rcases Nat.eq_zero_or_pos u2.length with e | e
                    · exact .inl (List.length_eq_zero_iff.1 e)
                    · exact .inr (List.length_eq_zero_iff.1 (by omega))
                  rcases h0 with rfl | rfl
                  · exact ⟨by simpa using srt_right HSV.out, Same.refl _⟩
                  · exact ⟨by simpa using srt_right HSU.out, Same.refl _⟩⟩
                have HR3 : Aside0 (RowE w2 g cap (X ++ (s1 ++ s2) ++ Y)) := ⟨by rw [hs2]; have := HR2.out; simpa [List.append_assoc] using this⟩
                have HW3 := HW2
                clear hs2
                go_wp2_with fail
                go_end0
                exact ⟨rfl, ⟨s1 ++ s2, by have h := merge_glue HSU.out HSV.out HCut.out.1 HCut.out.2 HS1.out HS2.out; first | exact h | (rw [List.append_assoc] at h; exact h), by have h := HR3.out; first | exact h | (rw [List.append_assoc] at h; exact h)⟩, HW3.out⟩
              )
          · have q : s0 = mid := by omega
            first
            | (exfalso; omega)
            | (
                have HR1 : Aside0 (RowE wr g cap (X ++ (u1 ++ v1) ++ (u2 ++ v2) ++ Y)) := ⟨by
                  have h := HRow.out
                  have h0 : u2 = [] ∨ v1 = [] := by
                    have := HLen.out
                    rcases Nat.eq_zero_or_pos u2.length with e | e
                    · exact .inl (List.length_eq_zero_iff.1 e)
                    · exact .inr (List.length_eq_zero_iff.1 (by omega))
                  rcases h0 with rfl | rfl <;> simpa [List.append_assoc] using h⟩
                have HW1 := HW
                obtain ⟨s1, hs1⟩ : ∃ s1, s1 = u1 ++ v1 := ⟨_, rfl⟩
                have HS1 : Aside0 (StableOf key (u1 ++ v1) s1) := ⟨by
                  rw [hs1]
                  have h0 : u1 = [] ∨ v1 = [] := by
                    have := HLen.out
                    rcases Nat.eq_zero_or_pos u1.length with e | e
                    · exact .inl (List.length_eq_zero_iff.1 e)
                    · exact .inr (List.length_eq_zero_iff.1 (by omega))
                  rcases h0 with rfl | rfl
                  · exact ⟨by simpa using srt_left HSV.out, Same.refl _⟩
                  · exact ⟨by simpa using srt_left HSU.out, Same.refl _⟩⟩
                have HR2 : Aside0 (RowE wr g cap (X ++ s1 ++ (u2 ++ v2) ++ Y)) := ⟨by rw [hs1]; exact HR1.out⟩
                have HW2 := HW1
                have HSL : Aside0 (s1.length = mid - a) := ⟨by rw [hs1]; have := HLen.out; simp; omega⟩
                clear hs1
                obtain ⟨s2, hs2⟩ : ∃ s2, s2 = u2 ++ v2 := ⟨_, rfl⟩
                have HS2 : Aside0 (StableOf key (u2 ++ v2) s2) := ⟨by
                  rw [hs2]
                  have h0 : u2 = [] ∨ v2 = [] := by
                    have := HLen.out
                    rcases Nat.eq_zero_or_pos u2.length with e | e
                    · exact .inl (List.length_eq_zero_iff.1 e)
                    · exact .inr (List.length_eq_zero_iff.1 (by omega))
                  rcases h0 with rfl | rfl
                  · exact ⟨by simpa using srt_right HSV.out, Same.refl _⟩
                  · exact ⟨by simpa using srt_right HSU.out, Same.refl _⟩⟩
                have HR3 : Aside0 (RowE wr g cap (X ++ (s1 ++ s2) ++ Y)) := ⟨by rw [hs2]; have := HR2.out; simpa [List.append_assoc] using this⟩
                have HW3 := HW2
                clear hs2
                go_wp2_with fail
                go_end0
                exact ⟨rfl, ⟨s1 ++ s2, by have h := merge_glue HSU.out HSV.out HCut.out.1 HCut.out.2 HS1.out HS2.out; first | exact h | (rw [List.append_assoc] at h; exact h), by have h := HR3.out; first | exact h | (rw [List.append_assoc] at h; exact h)⟩, HW3.out⟩
              )
  · have k1' : ¬ ((a : Int) + (b : Int)) / 2 < (m : Int) := by rw [HHalf.out]; omega
    have HK0 : Aside0 ((a : Int) = (lo0 : Int) ∧ (m : Int) = (r0 : Int)) := ⟨by rw [k2], by rw [k3]⟩
    clear k2 k3
    go_wp2_with fail
    simp only [HHalf.out]
    rw [HPP.out]
    have hpl : mid + m - 1 < 2 * len := by omega
    have HPE : Aside0 (mid + m - 1 + 1 = mid + m) := ⟨by omega⟩
    generalize mid + m - 1 = p at hpl HPE
    go_loopg [20, 21, 23] (r0 - lo0) (fun kq v20 v21 _ wr => ∃ (lo hi : Nat), v20 = .int .i64 lo ∧ v21 = .int .i64 hi ∧ lo0 ≤ lo ∧ lo ≤ hi ∧ hi ≤ r0 ∧ Aside0 (hi - lo ≤ kq) ∧ Aside0 (lo = lo0 ∨ ∃ x y, u[lo - 1 - a]? = some x ∧ v[mid - lo]? = some y ∧ key x ≤ key y) ∧ Aside0 (hi = r0 ∨ ∃ x y, u[hi - a]? = some x ∧ v[mid - 1 - hi]? = some y ∧ key y < key x) ∧ Aside0 (RowE wr g cap (X ++ u ++ v ++ Y)) ∧ Aside0 (Below B w wr))
    case atStart => exact ⟨lo0, r0, by first | rfl | (congr 1; have := HK0.out; omega), by first | rfl | (congr 1; have := HK0.out; omega), Nat.le_refl _, c3, Nat.le_refl _, ⟨by omega⟩, ⟨.inl rfl⟩, ⟨.inl rfl⟩, HR, ⟨Below.refl _ _⟩⟩
    case round =>
      obtain ⟨lo, hi, rfl, rfl, l1, l2, l3, HK, HLo, HHi, HRow, HW⟩ := hrel
      by_cases cc : lo < hi
      · go_wp2_with fail
        rw [half]
        have hh1 : lo ≤ (lo + hi) / 2 := by omega
        have hh2 : (lo + hi) / 2 < hi := by omega
        generalize (lo + hi) / 2 = h at hh1 hh2
        obtain ⟨x, hux, hrx⟩ := hDu.out h (by omega) (by omega)
        obtain ⟨y, hvy, hry⟩ := hDv.out (p - h) (by have := HPE.out; omega) (by have := HPE.out; omega)
        have HUX := Aside0.mk hux
        have HVY := Aside0.mk hvy
        have hhl : h < len := by omega
        have hph : h ≤ p := by have := HPE.out; omega
        have hpl2 : p - h < len := by have := HPE.out; omega
        have hI1 : (p : Int) - (h : Int) < (len : Int) := by have := HPE.out; omega
        have hI0 : 0 ≤ (p : Int) - (h : Int) := by omega
        have hIN : ((p : Int) - (h : Int)).toNat = p - h := by omega
        clear hux hvy
        obtain ⟨xc0, xc1, xc2, xc3, xc4, xc5, xc6⟩ := HRow.out.seven hry
        replace xc0 := cell_regrown xc0
        replace xc1 := cell_regrown xc1
        replace xc2 := cell_regrown xc2
        replace xc3 := cell_regrown xc3
        replace xc4 := cell_regrown xc4
        replace xc5 := cell_regrown xc5
        replace xc6 := cell_regrown xc6
        obtain ⟨yc0, yc1, yc2, yc3, yc4, yc5, yc6⟩ := HRow.out.seven hrx
        replace yc0 := cell_regrown yc0
        replace yc1 := cell_regrown yc1
        replace yc2 := cell_regrown yc2
        replace yc3 := cell_regrown yc3
        replace yc4 := cell_regrown yc4
        replace yc5 := cell_regrown yc5
        replace yc6 := cell_regrown yc6
        have CR := Aside0.mk (fun d os => Calls.regrown_of (d := d) (os := os) (w := wr) (HC.out y x _))
        by_cases hlt : key y < key x
        · have hneg : keyCmp key y x < 0 := (keyCmp_neg key y x).2 hlt
          have HLT := Aside0.mk hlt
          clear hlt
          generalize keyCmp key y x = cv at CR hneg
          refine wp_region_quiet_below (by kernel_rfl) (by kernel_rfl) ?_
          repeat (go_big_quiet_step (exact CR.out _ _))
          refine wpQuiet_nil ?_
          intro _ hw'
          obtain ⟨⟨dq, osq⟩, hw''⟩ := hw'
          have hbz := below_regrown wr dq osq
          rw [← hw''] at hbz
          have HRz := Aside0.mk (HRow.out.below hbz)
          have HWz := Aside0.mk (HW.out.trans (hbz.mono (Nat.le_trans hB HW.out.size)))
          clear hrx hry hw'' hbz xc0 yc0 xc1 yc1 xc2 yc2 xc3 yc3 xc4 yc4 xc5 yc5 xc6 yc6
          go_wp2_with fail
          go_roundg (gk - 1)
          case measure => have := HK.out; omega
          case rel => exact ⟨lo, h, rfl, rfl, l1, hh1, by omega, ⟨by have := HK.out; omega⟩, HLo, ⟨.inr ⟨x, y, HUX.out, by rw [show mid - 1 - h = p - h - m by have := HPE.out; omega]; exact HVY.out, HLT.out⟩⟩, HRz, HWz⟩
        · have hneg : ¬ keyCmp key y x < 0 := fun h => hlt ((keyCmp_neg key y x).1 h)
          have HLT := Aside0.mk hlt
          clear hlt
          generalize keyCmp key y x = cv at CR hneg
          refine wp_region_quiet_below (by kernel_rfl) (by kernel_rfl) ?_
          repeat (go_big_quiet_step (exact CR.out _ _))
          refine wpQuiet_nil ?_
          intro _ hw'
          obtain ⟨⟨dq, osq⟩, hw''⟩ := hw'
          have hbz := below_regrown wr dq osq
          rw [← hw''] at hbz
          have HRz := Aside0.mk (HRow.out.below hbz)
          have HWz := Aside0.mk (HW.out.trans (hbz.mono (Nat.le_trans hB HW.out.size)))
          clear hrx hry hw'' hbz xc0 yc0 xc1 yc1 xc2 yc2 xc3 yc3 xc4 yc4 xc5 yc5 xc6 yc6
          go_wp2_with fail
          go_roundg (gk - 1)
          case measure => have := HK.out; omega
          case rel => exact ⟨h + 1, hi, by go_num, rfl, by omega, by omega, l3, ⟨by have := HK.out; omega⟩, ⟨.inr ⟨x, y, by rw [show h + 1 - 1 - a = h - a by omega]; exact HUX.out, by rw [show mid - (h + 1) = p - h - m by have := HPE.out; omega]; exact HVY.out, by have := HLT.out; omega⟩⟩, HHi, HRz, HWz⟩
      · obtain rfl : lo = hi := by omega
        obtain ⟨s0, rfl⟩ : ∃ s0, s0 = lo := ⟨_, rfl⟩
        have l1' : a ≤ s0 := by omega
        have l3' : s0 ≤ m := by omega
        have l4' : s0 ≤ mid := by omega
        have l5' : mid + m ≤ s0 + b := by omega
        obtain ⟨endd, hend⟩ : ∃ endd, endd + s0 = mid + m := ⟨mid + m - s0, by omega⟩
        have he : Aside0 ((mid : Int) + (m : Int) - (s0 : Int) = (endd : Int)) := ⟨by omega⟩
        have e1 : endd ≤ b := by omega
        obtain ⟨u1, u2, hu12, hu1l⟩ : ∃ u1 u2, u = u1 ++ u2 ∧ u1.length = s0 - a := ⟨u.take (s0 - a), u.drop (s0 - a), (List.take_append_drop _ _).symm, by rw [List.length_take]; have := HM.out; omega⟩
        obtain ⟨v1, v2, hv12, hv1l⟩ : ∃ v1 v2, v = v1 ++ v2 ∧ v1.length = mid - s0 := ⟨v.take (mid - s0), v.drop (mid - s0), (List.take_append_drop _ _).symm, by rw [List.length_take]; have := HM.out; omega⟩
        have hcut := sym_cut HSU.out HSV.out HM.out.2.1 HM.out.2.2.1 l1' l3' l4' l5' c7.out.1 c7.out.2 HLo.out HHi.out
        rw [← hu1l, ← hv1l, hu12, hv12, List.take_left, List.drop_left, List.take_left, List.drop_left] at hcut
        subst hu12
        subst hv12
        have HCut := Aside0.mk hcut
        have hlu : m - s0 = u2.length := by have := HM.out; simp at this; omega
        have hlv : b - m - (mid - s0) = v2.length := by have := HM.out; simp at this; omega
        have HLen : Aside0 (u1.length = s0 - a ∧ v1.length = mid - s0 ∧ u2.length = m - s0 ∧ v2.length = b - m - (mid - s0)) := ⟨hu1l, hv1l, hlu.symm, hlv.symm⟩
        clear hcut hu1l hv1l hlu hlv HLo HHi hDu hDv
        by_cases p1 : s0 < m
        · by_cases p2 : s0 < mid
          · have t1 : (s0 : Int) < (m : Int) := by omega
            have t2 : (m : Int) < (mid : Int) + (m : Int) - (s0 : Int) := by omega
            have t3 : (mid : Int) < (mid : Int) + (m : Int) - (s0 : Int) := by omega
            by_cases p3 : a < s0
            · by_cases p4 : endd < b
              · have t4 : (mid : Int) + (m : Int) - (s0 : Int) < (b : Int) := by omega
                first
                | (exfalso; omega)
                | (
                    have HCr := Aside0.mk (rotateF (.func (.func gc) #[] #[]) wr g cap B hg (Nat.le_trans hB HW.out.size) (X ++ u1) u2 v1 (v2 ++ Y) (fun e => by have h := HLen.out; have h2 := len_nil u2 e; omega) (fun e => by have h := HLen.out; have h2 := len_nil v1 e; omega) (by have := HRow.out; simpa [List.append_assoc] using this) (s0 : Int) (m : Int) (endd : Int) len (by have h := HM.out; have h2 := HLen.out; simp at h ⊢; omega) (by have h := HM.out; have h2 := HLen.out; simp at h ⊢; omega) (by have h := HM.out; have h2 := HLen.out; simp at h ⊢; omega) (by have h := HM.out; have h2 := HLen.out; simp at h ⊢; omega))
                    go_wp2_with fail
                    rw [he.out]
                    go_at_call 48
                    refine HCr.out.mono ?_
                    rintro e w1 ⟨rfl, hrow1, hb1⟩
                    have HR1 : Aside0 (RowE w1 g cap (X ++ (u1 ++ v1) ++ (u2 ++ v2) ++ Y)) := ⟨by simpa [List.append_assoc] using hrow1⟩
                    have HW1 := Aside0.mk (HW.out.trans hb1)
                    clear hrow1 hb1
                    have HC1 := Aside0.mk (HIH.out w1 g cap B hg (Nat.le_trans hB HW1.out.size) (X) u1 v1 (u2 ++ v2 ++ Y) (fun e => by have h := HLen.out; have h2 := len_nil u1 e; omega) (fun e => by have h := HLen.out; have h2 := len_nil v1 e; omega) (by have := HLen.out; have := HM.out; omega) (srt_left HSU.out) (srt_left HSV.out) (by have := HR1.out; simpa [List.append_assoc] using this) a s0 mid len (HM.out.1) (by have h := HM.out; have h2 := HLen.out; simp at h ⊢; omega) (by have h := HM.out; have h2 := HLen.out; simp at h ⊢; omega) (by have h := HM.out; have h2 := HLen.out; simp at h ⊢; omega) hsm)
                    go_wp2_with fail
                    go_at_call 47
                    refine HC1.out.mono ?_
                    rintro e w2 ⟨rfl, ⟨s1, hs1, hrow2⟩, hb2⟩
                    have HS1 := Aside0.mk hs1
                    have HR2 : Aside0 (RowE w2 g cap (X ++ s1 ++ (u2 ++ v2) ++ Y)) := ⟨by simpa [List.append_assoc] using hrow2⟩
                    have HW2 := Aside0.mk (HW1.out.trans hb2)
                    have HSL : Aside0 (s1.length = mid - a) := ⟨by have := hs1.same.length; have := HLen.out; simp at *; omega⟩
                    clear hs1 hrow2 hb2
                    have HC2 := Aside0.mk (HIH.out w2 g cap B hg (Nat.le_trans hB HW2.out.size) (X ++ s1) u2 v2 (Y) (fun e => by have h := HLen.out; have h2 := len_nil u2 e; omega) (fun e => by have h := HLen.out; have h2 := len_nil v2 e; omega) (by have := HLen.out; have := HM.out; omega) (srt_right HSU.out) (srt_right HSV.out) (by have := HR2.out; simpa [List.append_assoc] using this) mid endd b len (by have h := HM.out; have h2 := HLen.out; have h3 := HSL.out; simp at h ⊢; omega) (by have h := HM.out; have h2 := HLen.out; have h3 := HSL.out; simp at h ⊢; omega) (by have h := HM.out; have h2 := HLen.out; have h3 := HSL.out; simp at h ⊢; omega) (by have h := HM.out; have h2 := HLen.out; have h3 := HSL.out; simp at h ⊢; omega) hsm)
                    go_wp2_with fail
                    go_at_call 47
                    refine HC2.out.mono ?_
                    rintro e w3 ⟨rfl, ⟨s2, hs2, hrow3⟩, hb3⟩
                    have HS2 := Aside0.mk hs2
                    have HR3 : Aside0 (RowE w3 g cap (X ++ (s1 ++ s2) ++ Y)) := ⟨by simpa [List.append_assoc] using hrow3⟩
                    have HW3 := Aside0.mk (HW2.out.trans hb3)
                    clear hs2 hrow3 hb3
                    go_wp2_with fail
                    go_end0
                    exact ⟨rfl, ⟨s1 ++ s2, by have h := merge_glue HSU.out HSV.out HCut.out.1 HCut.out.2 HS1.out HS2.out; first | exact h | (rw [List.append_assoc] at h; exact h), by have h := HR3.out; first | exact h | (rw [List.append_assoc] at h; exact h)⟩, HW3.out⟩
                  )
              · have t4 : ¬ (mid : Int) + (m : Int) - (s0 : Int) < (b : Int) := by omega
                first
                | (exfalso; omega)
                | (
                    have HCr := Aside0.mk (rotateF (.func (.func gc) #[] #[]) wr g cap B hg (Nat.le_trans hB HW.out.size) (X ++ u1) u2 v1 (v2 ++ Y) (fun e => by have h := HLen.out; have h2 := len_nil u2 e; omega) (fun e => by have h := HLen.out; have h2 := len_nil v1 e; omega) (by have := HRow.out; simpa [List.append_assoc] using this) (s0 : Int) (m : Int) (endd : Int) len (by have h := HM.out; have h2 := HLen.out; simp at h ⊢; omega) (by have h := HM.out; have h2 := HLen.out; simp at h ⊢; omega) (by have h := HM.out; have h2 := HLen.out; simp at h ⊢; omega) (by have h := HM.out; have h2 := HLen.out; simp at h ⊢; omega))
                    go_wp2_with fail
                    rw [he.out]
                    go_at_call 48
                    refine HCr.out.mono ?_
                    rintro e w1 ⟨rfl, hrow1, hb1⟩
                    have HR1 : Aside0 (RowE w1 g cap (X ++ (u1 ++ v1) ++ (u2 ++ v2) ++ Y)) := ⟨by simpa [List.append_assoc] using hrow1⟩
                    have HW1 := Aside0.mk (HW.out.trans hb1)
                    clear hrow1 hb1
                    have HC1 := Aside0.mk (HIH.out w1 g cap B hg (Nat.le_trans hB HW1.out.size) (X) u1 v1 (u2 ++ v2 ++ Y) (fun e => by have h := HLen.out; have h2 := len_nil u1 e; omega) (fun e => by have h := HLen.out; have h2 := len_nil v1 e; omega) (by have := HLen.out; have := HM.out; omega) (srt_left HSU.out) (srt_left HSV.out) (by have := HR1.out; simpa [List.append_assoc] using this) a s0 mid len (HM.out.1) (by have h := HM.out; have h2 := HLen.out; simp at h ⊢; omega) (by have h := HM.out; have h2 := HLen.out; simp at h ⊢; omega) (by have h := HM.out; have h2 := HLen.out; simp at h ⊢; omega) hsm)
                    go_wp2_with fail
                    go_at_call 47
                    refine HC1.out.mono ?_
                    rintro e w2 ⟨rfl, ⟨s1, hs1, hrow2⟩, hb2⟩
                    have HS1 := Aside0.mk hs1
                    have HR2 : Aside0 (RowE w2 g cap (X ++ s1 ++ (u2 ++ v2) ++ Y)) := ⟨by simpa [List.append_assoc] using hrow2⟩
                    have HW2 := Aside0.mk (HW1.out.trans hb2)
                    have HSL : Aside0 (s1.length = mid - a) := ⟨by have := hs1.same.length; have := HLen.out; simp at *; omega⟩
                    clear hs1 hrow2 hb2
                    obtain ⟨s2, hs2⟩ : ∃ s2, s2 = u2 ++ v2 := ⟨_, rfl⟩
                    have HS2 : Aside0 (StableOf key (u2 ++ v2) s2) := ⟨by
                      rw [hs2]
                      have h0 : u2 = [] ∨ v2 = [] := by
                        have := HLen.out
                        rcases Nat.eq_zero_or_pos u2.length with e | e
                        · exact .inl (List.length_eq_zero_iff.1 e)
                        · exact .inr (List.length_eq_zero_iff.1 (by omega))
                      rcases h0 with rfl | rfl
                      · exact ⟨by simpa using srt_right HSV.out, Same.refl _⟩
                      · exact ⟨by simpa using srt_right HSU.out, Same.refl _⟩⟩
                    have HR3 : Aside0 (RowE w2 g cap (X ++ (s1 ++ s2) ++ Y)) := ⟨by rw [hs2]; have := HR2.out; simpa [List.append_assoc] using this⟩
                    have HW3 := HW2
                    clear hs2
                    go_wp2_with fail
                    go_end0
                    exact ⟨rfl, ⟨s1 ++ s2, by have h := merge_glue HSU.out HSV.out HCut.out.1 HCut.out.2 HS1.out HS2.out; first | exact h | (rw [List.append_assoc] at h; exact h), by have h := HR3.out; first | exact h | (rw [List.append_assoc] at h; exact h)⟩, HW3.out⟩
                  )
            · by_cases p4 : endd < b
              · have t4 : (mid : Int) + (m : Int) - (s0 : Int) < (b : Int) := by omega
                first
                | (exfalso; omega)
                | (
                    have HCr := Aside0.mk (rotateF (.func (.func gc) #[] #[]) wr g cap B hg (Nat.le_trans hB HW.out.size) (X ++ u1) u2 v1 (v2 ++ Y) (fun e => by have h := HLen.out; have h2 := len_nil u2 e; omega) (fun e => by have h := HLen.out; have h2 := len_nil v1 e; omega) (by have := HRow.out; simpa [List.append_assoc] using this) (s0 : Int) (m : Int) (endd : Int) len (by have h := HM.out; have h2 := HLen.out; simp at h ⊢; omega) (by have h := HM.out; have h2 := HLen.out; simp at h ⊢; omega) (by have h := HM.out; have h2 := HLen.out; simp at h ⊢; omega) (by have h := HM.out; have h2 := HLen.out; simp at h ⊢; omega))
                    go_wp2_with fail
                    rw [he.out]
                    go_at_call 48
                    refine HCr.out.mono ?_
                    rintro e w1 ⟨rfl, hrow1, hb1⟩
                    have HR1 : Aside0 (RowE w1 g cap (X ++ (u1 ++ v1) ++ (u2 ++ v2) ++ Y)) := ⟨by simpa [List.append_assoc] using hrow1⟩
                    have HW1 := Aside0.mk (HW.out.trans hb1)
                    clear hrow1 hb1
                    obtain ⟨s1, hs1⟩ : ∃ s1, s1 = u1 ++ v1 := ⟨_, rfl⟩
                    have HS1 : Aside0 (StableOf key (u1 ++ v1) s1) := ⟨by
                      rw [hs1]
                      have h0 : u1 = [] ∨ v1 = [] := by
                        have := HLen.out
                        rcases Nat.eq_zero_or_pos u1.length with e | e
                        · exact .inl (List.length_eq_zero_iff.1 e)
                        · exact .inr (List.length_eq_zero_iff.1 (by omega))
                      rcases h0 with rfl | rfl
                      · exact ⟨by simpa using srt_left HSV.out, Same.refl _⟩
                      · exact ⟨by simpa using srt_left HSU.out, Same.refl _⟩⟩
                    have HR2 : Aside0 (RowE w1 g cap (X ++ s1 ++ (u2 ++ v2) ++ Y)) := ⟨by rw [hs1]; exact HR1.out⟩
                    have HW2 := HW1
                    have HSL : Aside0 (s1.length = mid - a) := ⟨by rw [hs1]; have := HLen.out; simp; omega⟩
                    clear hs1
                    have HC2 := Aside0.mk (HIH.out w1 g cap B hg (Nat.le_trans hB HW2.out.size) (X ++ s1) u2 v2 (Y) (fun e => by have h := HLen.out; have h2 := len_nil u2 e; omega) (fun e => by have h := HLen.out; have h2 := len_nil v2 e; omega) (by have := HLen.out; have := HM.out; omega) (srt_right HSU.out) (srt_right HSV.out) (by have := HR2.out; simpa [List.append_assoc] using this) mid endd b len (by have h := HM.out; have h2 := HLen.out; have h3 := HSL.out; simp at h ⊢; omega) (by have h := HM.out; have h2 := HLen.out; have h3 := HSL.out; simp at h ⊢; omega) (by have h := HM.out; have h2 := HLen.out; have h3 := HSL.out; simp at h ⊢; omega) (by have h := HM.out; have h2 := HLen.out; have h3 := HSL.out; simp at h ⊢; omega) hsm)
                    go_wp2_with fail
                    go_at_call 47
                    refine HC2.out.mono ?_
                    rintro e w3 ⟨rfl, ⟨s2, hs2, hrow3⟩, hb3⟩
                    have HS2 := Aside0.mk hs2
                    have HR3 : Aside0 (RowE w3 g cap (X ++ (s1 ++ s2) ++ Y)) := ⟨by simpa [List.append_assoc] using hrow3⟩
                    have HW3 := Aside0.mk (HW2.out.trans hb3)
                    clear hs2 hrow3 hb3
                    go_wp2_with fail
                    go_end0
                    exact ⟨rfl, ⟨s1 ++ s2, by have h := merge_glue HSU.out HSV.out HCut.out.1 HCut.out.2 HS1.out HS2.out; first | exact h | (rw [List.append_assoc] at h; exact h), by have h := HR3.out; first | exact h | (rw [List.append_assoc] at h; exact h)⟩, HW3.out⟩
                  )
              · have t4 : ¬ (mid : Int) + (m : Int) - (s0 : Int) < (b : Int) := by omega
                first
                | (exfalso; omega)
                | (
                    have HCr := Aside0.mk (rotateF (.func (.func gc) #[] #[]) wr g cap B hg (Nat.le_trans hB HW.out.size) (X ++ u1) u2 v1 (v2 ++ Y) (fun e => by have h := HLen.out; have h2 := len_nil u2 e; omega) (fun e => by have h := HLen.out; have h2 := len_nil v1 e; omega) (by have := HRow.out; simpa [List.append_assoc] using this) (s0 : Int) (m : Int) (endd : Int) len (by have h := HM.out; have h2 := HLen.out; simp at h ⊢; omega) (by have h := HM.out; have h2 := HLen.out; simp at h ⊢; omega) (by have h := HM.out; have h2 := HLen.out; simp at h ⊢; omega) (by have h := HM.out; have h2 := HLen.out; simp at h ⊢; omega))
                    go_wp2_with fail
                    rw [he.out]
                    go_at_call 48
                    refine HCr.out.mono ?_
                    rintro e w1 ⟨rfl, hrow1, hb1⟩
                    have HR1 : Aside0 (RowE w1 g cap (X ++ (u1 ++ v1) ++ (u2 ++ v2) ++ Y)) := ⟨by simpa [List.append_assoc] using hrow1⟩
                    have HW1 := Aside0.mk (HW.out.trans hb1)
                    clear hrow1 hb1
                    obtain ⟨s1, hs1⟩ : ∃ s1, s1 = u1 ++ v1 := ⟨_, rfl⟩
                    have HS1 : Aside0 (StableOf key (u1 ++ v1) s1) := ⟨by
                      rw [hs1]
                      have h0 : u1 = [] ∨ v1 = [] := by
                        have := HLen.out
                        rcases Nat.eq_zero_or_pos u1.length with e | e
                        · exact .inl (List.length_eq_zero_iff.1 e)
                        · exact .inr (List.length_eq_zero_iff.1 (by omega))
                      rcases h0 with rfl | rfl
                      · exact ⟨by simpa using srt_left HSV.out, Same.refl _⟩
                      · exact ⟨by simpa using srt_left HSU.out, Same.refl _⟩⟩
                    have HR2 : Aside0 (RowE w1 g cap (X ++ s1 ++ (u2 ++ v2) ++ Y)) := ⟨by rw [hs1]; exact HR1.out⟩
                    have HW2 := HW1
                    have HSL : Aside0 (s1.length = mid - a) := ⟨by rw [hs1]; have := HLen.out; simp; omega⟩
                    clear hs1
                    obtain ⟨s2, hs2⟩ : ∃ s2, s2 = u2 ++ v2 := ⟨_, rfl⟩
                    have HS2 : Aside0 (StableOf key (u2 ++ v2) s2) := ⟨by
                      rw [hs2]
                      have h0 : u2 = [] ∨ v2 = [] := by
                        have := HLen.out
                        rcases Nat.eq_zero_or_pos u2.length with e | e
                        · exact .inl (List.length_eq_zero_iff.1 e)
                        · exact .inr (List.length_eq_zero_iff.1 (by omega))
                      rcases h0 with rfl | rfl
                      · exact ⟨by simpa using srt_right HSV.out, Same.refl _⟩
                      · exact ⟨by simpa using srt_right HSU.out, Same.refl _⟩⟩
                    have HR3 : Aside0 (RowE w1 g cap (X ++ (s1 ++ s2) ++ Y)) := ⟨by rw [hs2]; have := HR2.out; simpa [List.append_assoc] using this⟩
                    have HW3 := HW2
                    clear hs2
                    go_wp2_with fail
                    go_end0
                    exact ⟨rfl, ⟨s1 ++ s2, by have h := merge_glue HSU.out HSV.out HCut.out.1 HCut.out.2 HS1.out HS2.out; first | exact h | (rw [List.append_assoc] at h; exact h), by have h := HR3.out; first | exact h | (rw [List.append_assoc] at h; exact h)⟩, HW3.out⟩
                  )
          · have t3 : (mid : Int) < (mid : Int) + (m : Int) - (s0 : Int) := by omega
            have t2 : ¬ (m : Int) < (mid : Int) + (m : Int) - (s0 : Int) := by omega
            by_cases p4 : endd < b
            · have t4 : (mid : Int) + (m : Int) - (s0 : Int) < (b : Int) := by omega
              first
              | (exfalso; omega)
              | (
                  have HR1 : Aside0 (RowE wr g cap (X ++ (u1 ++ v1) ++ (u2 ++ v2) ++ Y)) := ⟨by
                    have h := HRow.out
                    have h0 : u2 = [] ∨ v1 = [] := by
                      have := HLen.out
                      rcases Nat.eq_zero_or_pos u2.length with e | e
                      · exact .inl (List.length_eq_zero_iff.1 e)
                      · exact .inr (List.length_eq_zero_iff.1 (by omega))
                    rcases h0 with rfl | rfl <;> simpa [List.append_assoc] using h⟩
                  have HW1 := HW
                  obtain ⟨s1, hs1⟩ : ∃ s1, s1 = u1 ++ v1 := ⟨_, rfl⟩
                  have HS1 : Aside0 (StableOf key (u1 ++ v1) s1) := ⟨by
                    rw [hs1]
                    have h0 : u1 = [] ∨ v1 = [] := by
                      have := HLen.out
                      rcases Nat.eq_zero_or_pos u1.length with e | e
                      · exact .inl (List.length_eq_zero_iff.1 e)
                      · exact .inr (List.length_eq_zero_iff.1 (by omega))
                    rcases h0 with rfl | rfl
                    · exact ⟨by simpa using srt_left HSV.out, Same.refl _⟩
                    · exact ⟨by simpa using srt_left HSU.out, Same.refl _⟩⟩
                  have HR2 : Aside0 (RowE wr g cap (X ++ s1 ++ (u2 ++ v2) ++ Y)) := ⟨by rw [hs1]; exact HR1.out⟩
                  have HW2 := HW1
                  have HSL : Aside0 (s1.length = mid - a) := ⟨by rw [hs1]; have := HLen.out; simp; omega⟩
                  clear hs1
                  have HC2 := Aside0.mk (HIH.out wr g cap B hg (Nat.le_trans hB HW2.out.size) (X ++ s1) u2 v2 (Y) (fun e => by have h := HLen.out; have h2 := len_nil u2 e; omega) (fun e => by have h := HLen.out; have h2 := len_nil v2 e; omega) (by have := HLen.out; have := HM.out; omega) (srt_right HSU.out) (srt_right HSV.out) (by have := HR2.out; simpa [List.append_assoc] using this) mid endd b len (by have h := HM.out; have h2 := HLen.out; have h3 := HSL.out; simp at h ⊢; omega) (by have h := HM.out; have h2 := HLen.out; have h3 := HSL.out; simp at h ⊢; omega) (by have h := HM.out; have h2 := HLen.out; have h3 := HSL.out; simp at h ⊢; omega) (by have h := HM.out; have h2 := HLen.out; have h3 := HSL.out; simp at h ⊢; omega) hsm)
                  go_wp2_with fail
                  rw [he.out]
                  go_at_call 47
                  refine HC2.out.mono ?_
                  rintro e w3 ⟨rfl, ⟨s2, hs2, hrow3⟩, hb3⟩
                  have HS2 := Aside0.mk hs2
                  have HR3 : Aside0 (RowE w3 g cap (X ++ (s1 ++ s2) ++ Y)) := ⟨by simpa [List.append_assoc] using hrow3⟩
                  have HW3 := Aside0.mk (HW2.out.trans hb3)
                  clear hs2 hrow3 hb3
                  go_wp2_with fail
                  go_end0
                  exact ⟨rfl, ⟨s1 ++ s2, by have h := merge_glue HSU.out HSV.out HCut.out.1 HCut.out.2 HS1.out HS2.out; first | exact h | (rw [List.append_assoc] at h; exact h), by have h := HR3.out; first | exact h | (rw [List.append_assoc] at h; exact h)⟩, HW3.out⟩
                )
            · have t4 : ¬ (mid : Int) + (m : Int) - (s0 : Int) < (b : Int) := by omega
              first
              | (exfalso; omega)
              | (
                  have HR1 : Aside0 (RowE wr g cap (X ++ (u1 ++ v1) ++ (u2 ++ v2) ++ Y)) := ⟨by
                    have h := HRow.out
                    have h0 : u2 = [] ∨ v1 = [] := by
                      have := HLen.out
                      rcases Nat.eq_zero_or_pos u2.length with e | e
                      · exact .inl (List.length_eq_zero_iff.1 e)
                      · exact .inr (List.length_eq_zero_iff.1 (by omega))
                    rcases h0 with rfl | rfl <;> simpa [List.append_assoc] using h⟩
                  have HW1 := HW
                  obtain ⟨s1, hs1⟩ : ∃ s1, s1 = u1 ++ v1 := ⟨_, rfl⟩
                  have HS1 : Aside0 (StableOf key (u1 ++ v1) s1) := ⟨by
                    rw [hs1]
                    have h0 : u1 = [] ∨ v1 = [] := by
                      have := HLen.out
                      rcases Nat.eq_zero_or_pos u1.length with e | e
                      · exact .inl (List.length_eq_zero_iff.1 e)
                      · exact .inr (List.length_eq_zero_iff.1 (by omega))
                    rcases h0 with rfl | rfl
                    · exact ⟨by simpa using srt_left HSV.out, Same.refl _⟩
                    · exact ⟨by simpa using srt_left HSU.out, Same.refl _⟩⟩
                  have HR2 : Aside0 (RowE wr g cap (X ++ s1 ++ (u2 ++ v2) ++ Y)) := ⟨by rw [hs1]; exact HR1.out⟩
                  have HW2 := HW1
                  have HSL : Aside0 (s1.length = mid - a) := ⟨by rw [hs1]; have := HLen.out; simp; omega⟩
                  clear hs1
                  obtain ⟨s2, hs2⟩ : ∃ s2, s2 = u2 ++ v2 := ⟨_, rfl⟩
                  have HS2 : Aside0 (StableOf key (u2 ++ v2) s2) := ⟨by
                    rw [hs2]
                    have h0 : u2 = [] ∨ v2 = [] := by
                      have := HLen.out
                      rcases Nat.eq_zero_or_pos u2.length with e | e
                      · exact .inl (List.length_eq_zero_iff.1 e)
                      · exact .inr (List.length_eq_zero_iff.1 (by omega))
                    rcases h0 with rfl | rfl
                    · exact ⟨by simpa using srt_right HSV.out, Same.refl _⟩
                    · exact ⟨by simpa using srt_right HSU.out, Same.refl _⟩⟩
                  have HR3 : Aside0 (RowE wr g cap (X ++ (s1 ++ s2) ++ Y)) := ⟨by rw [hs2]; have := HR2.out; simpa [List.append_assoc] using this⟩
                  have HW3 := HW2
                  clear hs2
                  go_wp2_with fail
                  go_end0
                  exact ⟨rfl, ⟨s1 ++ s2, by have h := merge_glue HSU.out HSV.out HCut.out.1 HCut.out.2 HS1.out HS2.out; first | exact h | (rw [List.append_assoc] at h; exact h), by have h := HR3.out; first | exact h | (rw [List.append_assoc] at h; exact h)⟩, HW3.out⟩
                )
        · have t3 : ¬ (mid : Int) < (mid : Int) + (m : Int) - (s0 : Int) := by omega
          by_cases p2 : s0 < mid
          · have p3 : a < s0 := by omega
            first
            | (exfalso; omega)
            | (
                have HR1 : Aside0 (RowE wr g cap (X ++ (u1 ++ v1) ++ (u2 ++ v2) ++ Y)) := ⟨by
                  have h := HRow.out
                  have h0 : u2 = [] ∨ v1 = [] := by
                    have := HLen.out
                    rcases Nat.eq_zero_or_pos u2.length with e | e
                    · exact .inl (List.length_eq_zero_iff.1 e)
                    · exact .inr (List.length_eq_zero_iff.1 (by omega))
                  rcases h0 with rfl | rfl <;> simpa [List.append_assoc] using h⟩
                have HW1 := HW
                have HC1 := Aside0.mk (HIH.out wr g cap B hg (Nat.le_trans hB HW1.out.size) (X) u1 v1 (u2 ++ v2 ++ Y) (fun e => by have h := HLen.out; have h2 := len_nil u1 e; omega) (fun e => by have h := HLen.out; have h2 := len_nil v1 e; omega) (by have := HLen.out; have := HM.out; omega) (srt_left HSU.out) (srt_left HSV.out) (by have := HR1.out; simpa [List.append_assoc] using this) a s0 mid len (HM.out.1) (by have h := HM.out; have h2 := HLen.out; simp at h ⊢; omega) (by have h := HM.out; have h2 := HLen.out; simp at h ⊢; omega) (by have h := HM.out; have h2 := HLen.out; simp at h ⊢; omega) hsm)
                go_wp2_with fail
                go_at_call 47
                refine HC1.out.mono ?_
                rintro e w2 ⟨rfl, ⟨s1, hs1, hrow2⟩, hb2⟩
                have HS1 := Aside0.mk hs1
                have HR2 : Aside0 (RowE w2 g cap (X ++ s1 ++ (u2 ++ v2) ++ Y)) := ⟨by simpa [List.append_assoc] using hrow2⟩
                have HW2 := Aside0.mk (HW1.out.trans hb2)
                have HSL : Aside0 (s1.length = mid - a) := ⟨by have := hs1.same.length; have := HLen.out; simp at *; omega⟩
                clear hs1 hrow2 hb2
                obtain ⟨s2, hs2⟩ : ∃ s2, s2 = u2 ++ v2 := ⟨_, rfl⟩
                have HS2 : Aside0 (StableOf key (u2 ++ v2) s2) := ⟨by
                  rw [hs2]
                  have h0 : u2 = [] ∨ v2 = [] := by
                    have := HLen.out
                    rcases Nat.eq_zero_or_pos u2.length with e | e
                    · exact .inl (List.length_eq_zero_iff.1 e)
                    · exact .inr (List.length_eq_zero_iff.1 (by omega))
                  rcases h0 with rfl | rfl
                  · exact ⟨by simpa using srt_right HSV.out, Same.refl _⟩
                  · exact ⟨by simpa using srt_right HSU.out, Same.refl _⟩⟩
                have HR3 : Aside0 (RowE w2 g cap (X ++ (s1 ++ s2) ++ Y)) := ⟨by rw [hs2]; have := HR2.out; simpa [List.append_assoc] using this⟩
                have HW3 := HW2
                clear hs2
                go_wp2_with fail
                go_end0
                exact ⟨rfl, ⟨s1 ++ s2, by have h := merge_glue HSU.out HSV.out HCut.out.1 HCut.out.2 HS1.out HS2.out; first | exact h | (rw [List.append_assoc] at h; exact h), by have h := HR3.out; first | exact h | (rw [List.append_assoc] at h; exact h)⟩, HW3.out⟩
              )
          · have q : s0 = mid := by omega
            first
            | (exfalso; omega)
            | (
                have HR1 : Aside0 (RowE wr g cap (X ++ (u1 ++ v1) ++ (u2 ++ v2) ++ Y)) := ⟨by
                  have h := HRow.out
                  have h0 : u2 = [] ∨ v1 = [] := by
                    have := HLen.out
                    rcases Nat.eq_zero_or_pos u2.length with e | e
                    · exact .inl (List.length_eq_zero_iff.1 e)
                    · exact .inr (List.length_eq_zero_iff.1 (by omega))
                  rcases h0 with rfl | rfl <;> simpa [List.append_assoc] using h⟩
                have HW1 := HW
                obtain ⟨s1, hs1⟩ : ∃ s1, s1 = u1 ++ v1 := ⟨_, rfl⟩
                have HS1 : Aside0 (StableOf key (u1 ++ v1) s1) := ⟨by
                  rw [hs1]
                  have h0 : u1 = [] ∨ v1 = [] := by
                    have := HLen.out
                    rcases Nat.eq_zero_or_pos u1.length with e | e
                    · exact .inl (List.length_eq_zero_iff.1 e)
                    · exact .inr (List.length_eq_zero_iff.1 (by omega))
                  rcases h0 with rfl | rfl
                  · exact ⟨by simpa using srt_left HSV.out, Same.refl _⟩
                  · exact ⟨by simpa using srt_left HSU.out, Same.refl _⟩⟩
                have HR2 : Aside0 (RowE wr g cap (X ++ s1 ++ (u2 ++ v2) ++ Y)) := ⟨by rw [hs1]; exact HR1.out⟩
                have HW2 := HW1
                have HSL : Aside0 (s1.length = mid - a) := ⟨by rw [hs1]; have := HLen.out; simp; omega⟩
                clear hs1
                obtain ⟨s2, hs2⟩ : ∃ s2, s2 = u2 ++ v2 := ⟨_, rfl⟩
                have HS2 : Aside0 (StableOf key (u2 ++ v2) s2) := ⟨by
                  rw [hs2]
                  have h0 : u2 = [] ∨ v2 = [] := by
                    have := HLen.out
                    rcases Nat.eq_zero_or_pos u2.length with e | e
                    · exact .inl (List.length_eq_zero_iff.1 e)
                    · exact .inr (List.length_eq_zero_iff.1 (by omega))
                  rcases h0 with rfl | rfl
                  · exact ⟨by simpa using srt_right HSV.out, Same.refl _⟩
                  · exact ⟨by simpa using srt_right HSU.out, Same.refl _⟩⟩
                have HR3 : Aside0 (RowE wr g cap (X ++ (s1 ++ s2) ++ Y)) := ⟨by rw [hs2]; have := HR2.out; simpa [List.append_assoc] using this⟩
                have HW3 := HW2
                clear hs2
                go_wp2_with fail
                go_end0
                exact ⟨rfl, ⟨s1 ++ s2, by have h := merge_glue HSU.out HSV.out HCut.out.1 HCut.out.2 HS1.out HS2.out; first | exact h | (rw [List.append_assoc] at h; exact h), by have h := HR3.out; first | exact h | (rw [List.append_assoc] at h; exact h)⟩, HW3.out⟩
              )
end Go.Proofs.Ytlmjopodghikgaa.Print
end
section
/- slices.SortStableFunc at entries: a row is sorted stably by a key. -/
namespace Go.Proofs.Ytlmjopodghikgaa.Print
open Go.RowKit Go.Proofs.YtlmjopodghikgaaW.PrintWords Go.Proofs.Ytlmjopodghikgaa.Stable
set_option linter.unusedVariables false
set_option linter.unusedSimpArgs false

theorem symAll (key : S36 → Int) (gc : Nat) (eg : ∀ args w, (callFunc gc args).run Try.prog w = .ok (.enter gc args) w) (hcmp : CmpB gc key) : ∀ N, SymSaid key gc N
  | 0 => by
    intro w g cap B hg hB X u v Y hu hv hN
    exact absurd (List.length_eq_zero_iff.1 (by omega)) hu
  | N + 1 => by
    have IH := symAll key gc eg hcmp N
    intro w g cap B hg hB X u v Y hu hv hN su sv hr a m b len ha hm hb hl hsm
    have hup := List.length_pos_iff.2 hu
    have hvp := List.length_pos_iff.2 hv
    by_cases h1 : u.length = 1
    · obtain ⟨x, rfl⟩ := List.length_eq_one_iff.1 h1
      have e : X ++ [x] ++ v ++ Y = X ++ x :: (v ++ Y) := by simp
      rw [e] at hr hl
      exact symOne key gc eg hcmp w g cap B hg hB X v Y x sv hr a m b len ha (by simpa using hm) (by simpa using hb) hl hsm
    · by_cases h2 : v.length = 1
      · obtain ⟨x, rfl⟩ := List.length_eq_one_iff.1 h2
        have e : X ++ u ++ [x] ++ Y = X ++ u ++ x :: Y := by simp
        rw [e] at hr hl
        exact symTwo key gc eg hcmp w g cap B hg hB X u Y x su hr (by omega) a m b len ha hm (by simp at hb; omega) hl hsm
      · exact symGen key gc eg hcmp N IH w g cap B hg hB X u v Y (by omega) (by omega) hN su sv hr a m b len ha hm hb hl hsm

/-- A list of sorted blocks of s entries each, the last of which may be shorter. -/
inductive Blk (key : S36 → Int) (s : Nat) : List S36 → Prop
  | last (l : List S36) (h : l.length ≤ s) (hs : Srt key l) : Blk key s l
  | cons (u l : List S36) (h : u.length = s) (hs : Srt key u) (hl : Blk key s l) : Blk key s (u ++ l)
/-- Whole blocks alone. -/
inductive BlkF (key : S36 → Int) (s : Nat) : List S36 → Prop
  | nil : BlkF key s []
  | snoc (P u : List S36) (hP : BlkF key s P) (h : u.length = s) (hs : Srt key u) : BlkF key s (P ++ u)
theorem BlkF.close {key : S36 → Int} {s : Nat} {P : List S36} (h : BlkF key s P) : ∀ {Q : List S36}, Blk key s Q → Blk key s (P ++ Q) := by
  induction h with
  | nil => intro Q hQ; simpa using hQ
  | snoc P u hP h hs ih =>
    intro Q hQ
    rw [List.append_assoc]
    exact ih (.cons u Q h hs hQ)
theorem Blk.two {key : S36 → Int} {s : Nat} {Q : List S36} (h : Blk key s Q) (hs : 0 < s) (hl : 2 * s ≤ Q.length) : ∃ u v R, Q = u ++ v ++ R ∧ u.length = s ∧ v.length = s ∧ Srt key u ∧ Srt key v ∧ Blk key s R := by
  cases h with
  | last _ h _ => omega
  | cons u l h hu hl2 =>
    simp at hl
    cases hl2 with
    | last _ h2 hv => exact ⟨u, l, [], by simp, h, by omega, hu, hv, .last [] (by simp) List.Pairwise.nil⟩
    | cons v R h2 hv hR => exact ⟨u, v, R, by simp, h, h2, hu, hv, hR⟩
theorem Blk.one {key : S36 → Int} {s : Nat} {Q : List S36} (h : Blk key s Q) (h1 : s < Q.length) (h2 : Q.length < 2 * s) : ∃ u v, Q = u ++ v ∧ u.length = s ∧ v ≠ [] ∧ Srt key u ∧ Srt key v := by
  cases h with
  | last _ h _ => omega
  | cons u l h hu hl2 =>
    simp at h1 h2
    have hne : l ≠ [] := fun e => by subst e; simp at h1; omega
    cases hl2 with
    | last _ h3 hv => exact ⟨u, l, rfl, h, hne, hu, hv⟩
    | cons v R h3 hv hR => simp at h2; omega
theorem Blk.none {key : S36 → Int} {s : Nat} {Q : List S36} (h : Blk key s Q) (h1 : Q.length ≤ s) : Srt key Q := by
  cases h with
  | last _ _ hs => exact hs
  | cons u l h hu hl2 =>
    simp at h1
    have : l = [] := List.length_eq_zero_iff.1 (by omega)
    subst this
    simpa using hu

set_option maxHeartbeats 8000000 in
set_option maxRecDepth 100000 in
theorem stableF (key : S36 → Int) (gc : Nat) (eg : ∀ args w, (callFunc gc args).run Try.prog w = .ok (.enter gc args) w) (hcmp : CmpB gc key) (w : World) (g cap B : Nat) (hg : B ≤ g) (hB : B ≤ w.heap.size) (l : List S36) (hr : RowE w g cap l) (len : Nat) (hl : len = l.length) (hsm : len ≤ 35184372088832) :
    Calls Try.prog 43 #[.slice (some ⟨g, 0, none⟩) len cap, .int .i64 len, .func (.func gc) #[] #[]] w fun e w' => e = .returned (.tuple #[]) ∧ (∃ s, StableOf key l s ∧ RowE w' g cap s) ∧ Below B w w' := by
  have HR := Aside0.mk hr
  have HL := Aside0.mk hl
  have HI := Aside0.mk (fun w hB => insertionF key gc eg hcmp w g cap B hg hB)
  have HS := Aside0.mk (fun w hB X u v Y hu hv su sv hr a m b len ha hm hb hl hsm => symAll key gc eg hcmp (u.length + v.length) w g cap B hg hB X u v Y hu hv (Nat.le_refl _) su sv hr a m b len ha hm hb hl hsm)
  clear hr hl hcmp
  go_enter Try.func43, Try.ntmps43
  go_wp2_with fail
  go_loopg [7, 8] len (fun kq v7 v8 wr => ∃ (a : Nat) (P Q : List S36), v7 = .int .i64 a ∧ v8 = .int .i64 ((a : Int) + 20) ∧ a ≤ len ∧ Aside0 (a = P.length ∧ len = P.length + Q.length ∧ len - a ≤ kq) ∧ Aside0 (BlkF key 20 P) ∧ Aside0 (Same key l (P ++ Q)) ∧ Aside0 (RowE wr g cap (P ++ Q)) ∧ Aside0 (Below B w wr))
  case atStart => exact ⟨0, [], l, rfl, rfl, by omega, ⟨rfl, by simpa using HL.out, by omega⟩, ⟨.nil⟩, ⟨Same.refl _⟩, HR, ⟨Below.refl _ _⟩⟩
  case round =>
    obtain ⟨a, P, Q, rfl, rfl, ha, HK, HP, HSm, HRow, HW⟩ := hrel
    by_cases c2 : a + 20 ≤ len
    · have c2' : (a : Int) + 20 ≤ (len : Int) := by omega
      have hq : (Q.take 20).length = 20 := by rw [List.length_take]; have := HK.out; omega
      have HC := Aside0.mk (HI.out wr (Nat.le_trans hB HW.out.size) P (Q.take 20) (Q.drop 20) (by rw [List.append_assoc, List.take_append_drop]; exact HRow.out) a (a + 20) len HK.out.1 (by rw [hq]; have := HK.out; omega) (by rw [List.append_assoc, List.take_append_drop, List.length_append]; exact HK.out.2.1) (by omega))
      have HQ := Aside0.mk hq
      clear hq
      go_wp2_with fail
      go_at_call 46
      have e20 : ((a : Int) + 20) = ((a + 20 : Nat) : Int) := by omega
      rw [e20]
      refine HC.out.mono ?_
      rintro e w1 ⟨rfl, ⟨s', hs', hrow'⟩, hb'⟩
      have HS' := Aside0.mk hs'
      have HR' := Aside0.mk hrow'
      have HW' := Aside0.mk (HW.out.trans hb')
      clear hs' hrow' hb' e20
      go_wp2_with fail
      go_roundg (gk - 20)
      case measure => have := HK.out; omega
      case rel =>
        have hl' := HS'.out.same.length
        have hq := HQ.out
        refine ⟨a + 20, P ++ s', Q.drop 20, by go_num, by first | rfl | (congr 1; omega), by omega, ⟨by have := HK.out; simp; omega, by have := HK.out; simp; omega, by have := HK.out; omega⟩, ⟨.snoc P s' HP.out (by omega) HS'.out.srt⟩, ⟨?_⟩, HR', HW'⟩
        refine HSm.out.trans ?_
        have := ((Same.refl (key := key) P).append HS'.out.same).append (Same.refl (Q.drop 20))
        rwa [List.append_assoc, List.take_append_drop] at this
    · have c2' : ¬ (a : Int) + 20 ≤ (len : Int) := by omega
      have HC := Aside0.mk (HI.out wr (Nat.le_trans hB HW.out.size) P Q [] (by simpa using HRow.out) a len len HK.out.1 HK.out.2.1 (by simpa using HK.out.2.1) (by omega))
      go_wp2_with fail
      go_at_call 46
      refine HC.out.mono ?_
      rintro e w1 ⟨rfl, ⟨s', hs', hrow'⟩, hb'⟩
      have HSc : Aside0 (Blk key 20 (P ++ s') ∧ Same key l (P ++ s') ∧ (P ++ s').length = len) := ⟨by
        have hl' := hs'.same.length
        refine ⟨HP.out.close (.last s' (by have := HK.out; omega) hs'.srt), HSm.out.trans ((Same.refl P).append hs'.same), by have := HK.out; simp; omega⟩⟩
      have HR' : Aside0 (RowE w1 g cap (P ++ s')) := ⟨by simpa using hrow'⟩
      have HW' := Aside0.mk (HW.out.trans hb')
      clear hs' hrow' hb' HC HP HSm HRow HW HK c2 c2'
      generalize P ++ s' = c at HSc HR'
      go_wp2_with fail
      go_loopg [6, 7, 8, 9] len (fun kr v6 _ _ _ wq => ∃ (s : Nat) (c : List S36), v6 = .int .i64 s ∧ 20 ≤ s ∧ s ≤ 2 * len + 20 ∧ Aside0 (len - s ≤ kr) ∧ Aside0 (Blk key s c ∧ Same key l c ∧ c.length = len) ∧ Aside0 (RowE wq g cap c) ∧ Aside0 (Below B w wq))
      case atStart => exact ⟨20, c, rfl, by omega, by omega, ⟨by omega⟩, HSc, HR', HW'⟩
      case round =>
        obtain ⟨s, c, rfl, s1, s2, HK, HBk, HRow, HW⟩ := hrel
        obtain ⟨ko, rfl⟩ : ∃ ko, ko = gk := ⟨_, rfl⟩
        by_cases c3 : s < len
        · go_wp2_with fail
          go_loopg [7, 8] len (fun kr v7 v8 wq => ∃ (a : Nat) (P Q : List S36), v7 = .int .i64 a ∧ v8 = .int .i64 ((a : Int) + 2 * (s : Int)) ∧ a ≤ len ∧ Aside0 (a = P.length ∧ len = P.length + Q.length ∧ len - a ≤ kr) ∧ Aside0 (BlkF key (2 * s) P ∧ Blk key s Q) ∧ Aside0 (Same key l (P ++ Q)) ∧ Aside0 (RowE wq g cap (P ++ Q)) ∧ Aside0 (Below B w wq))
          case atStart => exact ⟨0, [], c, rfl, by first | rfl | (congr 1; omega), by omega, ⟨rfl, by have := HBk.out.2.2; simp; omega, by omega⟩, ⟨.nil, HBk.out.1⟩, ⟨HBk.out.2.1⟩, HRow, HW⟩
          case round =>
            obtain ⟨a, P, Q, rfl, rfl, ha, HK2, HP, HSm, HRow, HW⟩ := hrel
            by_cases c4 : a + 2 * s ≤ len
            · have c4' : (a : Int) + 2 * (s : Int) ≤ (len : Int) := by omega
              obtain ⟨u, v, R, hQ, hul, hvl, hus, hvs, hRb⟩ := HP.out.2.two (by omega) (by have := HK2.out; omega)
              subst hQ
              have HUV := Aside0.mk (show u.length = s ∧ v.length = s ∧ Blk key s R from ⟨hul, hvl, hRb⟩)
              have HC := Aside0.mk (HS.out wr (Nat.le_trans hB HW.out.size) P u v R (fun e => by rw [e] at hul; simp at hul; omega) (fun e => by rw [e] at hvl; simp at hvl; omega) hus hvs (by have := HRow.out; simpa [List.append_assoc] using this) a (a + s) (a + 2 * s) len HK2.out.1 (by have := HK2.out; omega) (by have := HK2.out; omega) (by have := HK2.out; simp at this ⊢; omega) (by omega))
              clear hul hvl hus hvs hRb
              go_wp2_with fail
              go_at_call 47
              have e1 : ((a : Int) + (s : Int)) = ((a + s : Nat) : Int) := by omega
              have e2 : ((a : Int) + 2 * (s : Int)) = ((a + 2 * s : Nat) : Int) := by omega
              rw [e1, e2]
              refine HC.out.mono ?_
              rintro e w1 ⟨rfl, ⟨s', hs', hrow'⟩, hb'⟩
              have HS' := Aside0.mk hs'
              have HR' := Aside0.mk hrow'
              have HW' := Aside0.mk (HW.out.trans hb')
              clear hs' hrow' hb' e1 e2
              go_wp2_with fail
              go_roundg (gk - 1)
              case measure => have := HK2.out; omega
              case rel =>
                have hl' := HS'.out.same.length
                have huv := HUV.out
                simp at hl'
                refine ⟨a + 2 * s, P ++ s', R, by first | rfl | go_num, by first | rfl | (congr 1; omega), by omega, ⟨by have := HK2.out; simp; omega, by have := HK2.out; simp at this ⊢; omega, by have := HK2.out; omega⟩, ⟨.snoc P s' HP.out.1 (by omega) HS'.out.srt, huv.2.2⟩, ⟨?_⟩, HR', HW'⟩
                refine HSm.out.trans ?_
                have := ((Same.refl (key := key) P).append HS'.out.same).append (Same.refl R)
                simpa [List.append_assoc] using this
            · have c4' : ¬ (a : Int) + 2 * (s : Int) ≤ (len : Int) := by omega
              by_cases c5 : a + s < len
              · have c5' : (a : Int) + (s : Int) < (len : Int) := by omega
                obtain ⟨u, v, hQ, hul, hvn, hus, hvs⟩ := HP.out.2.one (by have := HK2.out; omega) (by have := HK2.out; omega)
                subst hQ
                have HUV := Aside0.mk hul
                have HC := Aside0.mk (HS.out wr (Nat.le_trans hB HW.out.size) P u v [] (fun e => by rw [e] at hul; simp at hul; omega) hvn hus hvs (by have := HRow.out; simpa [List.append_assoc] using this) a (a + s) len len HK2.out.1 (by have := HK2.out; omega) (by have := HK2.out; simp at this; omega) (by have := HK2.out; simp at this ⊢; omega) (by omega))
                clear hul hvn hus hvs
                go_wp2_with fail
                go_at_call 47
                have e1 : ((a : Int) + (s : Int)) = ((a + s : Nat) : Int) := by omega
                rw [e1]
                refine HC.out.mono ?_
                rintro e w1 ⟨rfl, ⟨s', hs', hrow'⟩, hb'⟩
                have HS' := Aside0.mk hs'
                have HR' := Aside0.mk hrow'
                have HW' := Aside0.mk (HW.out.trans hb')
                clear hs' hrow' hb' e1
                go_wp2_with fail
                go_roundg (ko - 1)
                case measure => have := HK.out; omega
                case rel =>
                  have hl' := HS'.out.same.length
                  simp at hl'
                  have hk2 := HK2.out
                  simp at hk2
                  refine ⟨2 * s, P ++ s', by first | rfl | go_num | (congr 1; omega), by omega, by omega, ⟨by have := HK.out; omega⟩, ⟨HP.out.1.close (.last s' (by omega) HS'.out.srt), ?_, by simp; omega⟩, ⟨by have := HR'.out; simpa using this⟩, HW'⟩
                  exact HSm.out.trans ((Same.refl (key := key) P).append HS'.out.same)
              · have c5' : ¬ (a : Int) + (s : Int) < (len : Int) := by omega
                go_wp2_with fail
                go_roundg (ko - 1)
                case measure => have := HK.out; omega
                case rel =>
                  have hk2 := HK2.out
                  exact ⟨2 * s, P ++ Q, by first | rfl | go_num | (congr 1; omega), by omega, by omega, ⟨by have := HK.out; omega⟩, ⟨HP.out.1.close (.last Q (by omega) (HP.out.2.none (by omega))), HSm.out, by simp; omega⟩, HRow, HW⟩
        · go_wp2_with fail
          go_end0
          have h := HBk.out
          exact ⟨rfl, ⟨c, ⟨h.1.none (by omega), h.2.1⟩, HRow.out⟩, HW.out⟩

theorem sortStableF (key : S36 → Int) (gc : Nat) (eg : ∀ args w, (callFunc gc args).run Try.prog w = .ok (.enter gc args) w) (hcmp : CmpB gc key) (w : World) (g cap B : Nat) (hg : B ≤ g) (hB : B ≤ w.heap.size) (l : List S36) (hr : RowE w g cap l) (hsm : l.length ≤ 35184372088832) :
    Calls Try.prog 35 #[.slice (some ⟨g, 0, none⟩) l.length cap, .func (.func gc) #[] #[]] w fun e w' => e = .returned (.tuple #[]) ∧ RowE w' g cap (ssort key l) ∧ Below B w w' := by
  have HC := Aside0.mk (stableF key gc eg hcmp w g cap B hg hB l hr l.length rfl hsm)
  clear hr hcmp
  go_enter Try.func35, Try.ntmps35
  go_wp2_with (go_at_call 43; refine HC.out.mono ?_; rintro e w1 ⟨rfl, hs, hb⟩)
  go_end0
  obtain ⟨s, hs, hrow⟩ := hs
  have := hs.eq
  subst this
  exact ⟨rfl, hrow, hb⟩
end Go.Proofs.Ytlmjopodghikgaa.Print
end
section
/- ledger.Lines: the entries of an owner from a day until a day, as known at an hour, sorted stably by day. -/
namespace Go.Proofs.Ytlmjopodghikgaa.Print
open Go.RowKit Go.Proofs.YtlmjopodghikgaaW.PrintWords Go.Proofs.Ytlmjopodghikgaa.Stable
set_option linter.unusedVariables false
set_option linter.unusedSimpArgs false

theorem insertion_nil (f : Value) (w : World) : Calls Try.prog 46 #[.slice none 0 0, .int .i64 0, .int .i64 0, f] w fun e w' => e = .returned (.tuple #[]) ∧ w' = w := by
  go_enter Try.func46, Try.ntmps46
  go_wp2_with fail
  refine wp_loop_rounds 1 ?_
  rw [rounds_succ]
  go_wp2_with fail
  go_end0
  exact ⟨rfl, rfl⟩
theorem stable_nil (f : Value) (w : World) : Calls Try.prog 43 #[.slice none 0 0, .int .i64 0, f] w fun e w' => e = .returned (.tuple #[]) ∧ w' = w := by
  go_enter Try.func43, Try.ntmps43
  go_wp2_with fail
  refine wp_loop_rounds 1 ?_
  rw [rounds_succ]
  go_wp2_with (go_at_call 46; refine (insertion_nil _ _).mono ?_; rintro e w' ⟨rfl, rfl⟩)
  refine wp_loop_rounds 1 ?_
  rw [rounds_succ]
  go_wp2_with fail
  go_end0
  exact ⟨rfl, rfl⟩
theorem sortStable_nil (f : Value) (w : World) : Calls Try.prog 35 #[.slice none 0 0, f] w fun e w' => e = .returned (.tuple #[]) ∧ w' = w := by
  go_enter Try.func35, Try.ntmps35
  go_wp2_with (go_at_call 43; refine (stable_nil _ _).mono ?_; rintro e w' ⟨rfl, rfl⟩)
  go_end0
  exact ⟨rfl, rfl⟩

def linesOf (l : List S36) (owner from_ until_ known : Int) : List S36 := ssort (·.f0) (l.filter (linP owner from_ until_ known))
def ledger_Lines.f (l0 : List S36) (a1 a2 a3 a4 : Int) : Option (List S36) := if l0.length * 56 ≤ 140737488355328 then some (linesOf l0 a1 a2 a3 a4) else none

theorem dayCmpB : CmpB 36 (·.f0) := fun x y W => cmp1 x y W
theorem linPB {W4 : World} {p1 p2 p3 p4 : Addr} {owner from_ until_ known : Int} (h1 : W4.cell? p1 = some (.int .i64 owner)) (h2 : W4.cell? p2 = some (.int .i64 from_)) (h3 : W4.cell? p3 = some (.int .i64 until_)) (h4 : W4.cell? p4 = some (.int .i64 known)) :
    PredB W4.heap.size W4 33 #[.pointer (some p1), .pointer (some p2), .pointer (some p3), .pointer (some p4)] (linP owner from_ until_ known) := by
  intro W x hB
  exact lin1 x owner from_ until_ known p1 p2 p3 p4 W (pw_cell_below hB h1) (pw_cell_below hB h2) (pw_cell_below hB h3) (pw_cell_below hB h4)

set_option maxHeartbeats 1000000 in
theorem ledger_Lines.calls (A0 : Option Addr) (c0 : Nat) (l0 : List S36) (a1 : Int) (a2 : Int) (a3 : Int) (a4 : Int) (r : List S36) (w : World) (hr0 : Kd.C k36 w A0 l0.length l0) (hc0 : l0.length ≤ c0) (h : ledger_Lines.f l0 a1 a2 a3 a4 = some r) :
    Calls Try.prog 16 #[.slice A0 l0.length c0, .int .i64 a1, .int .i64 a2, .int .i64 a3, .int .i64 a4] w fun e w' => ∃ v0_ : Value, e = .returned (v0_) ∧ Kd.R k36 36 w' w.heap.size (fun _ => True) v0_ r ∧ Below w.heap.size w w' := by
  unfold ledger_Lines.f at h
  by_cases hl : l0.length * 56 ≤ 140737488355328
  case neg => rw [if_neg hl] at h; cases h
  rw [if_pos hl] at h
  injection h with h
  have HR := Aside0.mk h
  have HL := Aside0.mk hl
  have HR0 := Aside0.mk hr0
  have e33 : ∀ args w, (callFunc 33 args).run Try.prog w = .ok (.enter 33 args) w := enters_of Try.func33 (by kernel_rfl) rfl
  have e36 : ∀ args w, (callFunc 36 args).run Try.prog w = .ok (.enter 36 args) w := enters_of Try.func36 (by kernel_rfl) rfl
  have E33 := Aside0.mk e33
  have E36 := Aside0.mk e36
  clear h hr0 hl e33 e36
  go_enter Try.func16, Try.ntmps16
  go_wp2_with fail
  go_at_call 29
  obtain ⟨k1, k2, k3, k4, hb4⟩ := four_cells w a1 a2 a3 a4
  have HC4 := Aside0.mk (chosenF E33.out A0 c0 l0 (four w a1 a2 a3 a4) (linPB k1 k2 k3 k4) (Kd.C_below HR0.out hb4) hc0 HL.out)
  have HB4 := Aside0.mk hb4
  clear k1 k2 k3 k4 hb4
  unfold four at HC4 HB4
  refine HC4.out.mono ?_
  rintro e w1 ⟨v1, rfl, hR, hb⟩
  have HB := Aside0.mk (HB4.out.trans (hb.mono HB4.out.size))
  have HBS := Aside0.mk HB4.out.size
  clear HC4 HB4 hb
  have hf := List.length_filter_le (linP a1 a2 a3 a4) l0
  have hlen : (l0.filter (linP a1 a2 a3 a4)).length ≤ 35184372088832 := by have := HL.out; omega
  have HRS : Aside0 (ssort (·.f0) (l0.filter (linP a1 a2 a3 a4)) = r) := HR
  clear hf HR
  generalize l0.filter (linP a1 a2 a3 a4) = lf at hR hlen HRS
  rcases RowE.ofR hR with ⟨rfl, rfl⟩ | ⟨gr, cap, rfl, hgr, _, hrow⟩
  · clear hR
    have e0 : r = [] := HRS.out.symm
    subst e0
    go_wp2_with (go_at_call 35; refine (sortStable_nil _ _).mono ?_; rintro e w' ⟨rfl, rfl⟩)
    go_ret
    exact ⟨_, rfl, Kd.R_nil _ _ _ _ _, HB.out⟩
  · have hgr' : w.heap.size ≤ gr := Nat.le_trans HBS.out hgr
    have HG := Aside0.mk hgr'
    have HS := Aside0.mk (sortStableF (·.f0) 36 E36.out dayCmpB w1 gr cap w.heap.size hgr' HB.out.size lf hrow hlen)
    clear hR hgr hgr' hrow
    go_wp2_with (go_at_call 35; refine HS.out.mono ?_; rintro e w' ⟨rfl, hrow, hb⟩)
    go_ret
    have hlr : (ssort (·.f0) lf).length = lf.length := (ssort_stable (key := (·.f0)) lf).same.length
    have hto := hrow.toR (base := w.heap.size) (ok := fun _ => True) HG.out trivial
    rw [HRS.out] at hlr hto
    rw [hlr] at hto
    exact ⟨_, rfl, hto, HB.out.trans hb⟩
end Go.Proofs.Ytlmjopodghikgaa.Print
end
section
/- bournelaw39.small: the examples of the documentation come out as told. -/
namespace Go.Proofs.Ytlmjopodghikgaa.Print
open Go.RowKit Go.Proofs.YtlmjopodghikgaaW.PrintWords
set_option linter.unusedVariables false
set_option linter.unusedSimpArgs false

theorem flat_at : ∀ (l : List S36) (j i : Nat) (x : S36) (u : Value), l[j]? = some x → (cE x)[i]? = some u → (l.flatMap cE)[j * 7 + i]? = some u
  | [], j, i, x, u, h, _ => by simp at h
  | y :: l, 0, i, x, u, h, hu => by
    have : y = x := by simpa using h
    subst this
    have hi : i < 7 := by have := (List.getElem?_eq_some_iff.1 hu).1; rwa [cE_len] at this
    rw [List.flatMap_cons, Nat.zero_mul, Nat.zero_add, List.getElem?_append_left (by rw [cE_len]; exact hi)]
    exact hu
  | y :: l, j + 1, i, x, u, h, hu => by
    rw [List.flatMap_cons, List.getElem?_append_right (by rw [cE_len]; omega), cE_len, show (j + 1) * 7 + i - 7 = j * 7 + i by omega]
    exact flat_at l j i x u (by simpa using h) hu
/-- A literal's entries. -/
theorem litC {W : World} {g : Nat} {l : List S36} {cs : Array Value} (hc : cs = (l.flatMap cE).toArray) (hl : l.length ≤ maxLen) (h : W.heap[g]? = some (.cells cs 36 (0, 0))) : Kd.C k36 W (some ⟨g, 0, none⟩) l.length l := by
  have hr : RowE W g l.length l := ⟨cs, h, by rw [hc, List.size_toArray, flat_len], Nat.le_refl _, hl, fun j x hj i u hu => by rw [hc, List.getElem?_toArray]; exact flat_at l j i x u hj hu⟩
  exact (Kd.R_reads' (RowE.toR hr (base := 0) (ok := fun _ => True) (Nat.zero_le _) trivial)).2.2

def bournelaw39_small.f : Option Bool := some true

def sA : List S36 := [⟨3, 80, 1, 2, 50, 0, 0⟩, ⟨3, 80, -1, 2, -50, 0, 0⟩]
def sB : List S36 := [⟨3, 200, 1, 2, -8, 0, 0⟩, ⟨3, 200, -1, 2, 8, 0, 0⟩]
def sL : List S36 := [⟨3, 80, 1, 2, 50, 0, 0⟩, ⟨3, 80, -1, 2, -50, 0, 0⟩, ⟨3, 200, 1, 2, -8, 0, 0⟩, ⟨3, 200, -1, 2, 8, 0, 0⟩]
theorem sm1 : ledger_Post.f [] sA = some (sA, 0) := by kernel_rfl
theorem sm2 : ledger_Post.f sA sB = some (sL, 0) := by kernel_rfl
theorem sm3 : ledger_Post.f sL [⟨3, 199, 0, 0, 0, 0, 0⟩] = some ([], 15) := by kernel_rfl
theorem sm4 : ledger_Post.f sL [⟨3, 300, 0, 0, 5, 0, 0⟩] = some ([], 1) := by kernel_rfl
theorem sm5 : ledger_Account.f sL 1 (-1) 3 100 = some 50 := by kernel_rfl
theorem sm6 : ledger_Account.f sL 1 (-1) 3 200 = some 42 := by kernel_rfl
theorem sm7 : ledger_Account.f sL 1 (-1) 2 300 = some 0 := by kernel_rfl
theorem sm8 : ledger_Account.f sL (-1) (-1) 9 999 = some 0 := by kernel_rfl
theorem sm9 : ledger_Balanced.f sL 999 = some true := by kernel_rfl
theorem sm10 : ∃ r, ledger_Lines.f sL 1 0 9 999 = some r ∧ r.length = 2 := ⟨[⟨3, 80, 1, 2, 50, 0, 0⟩, ⟨3, 200, 1, 2, -8, 0, 0⟩], by kernel_rfl, rfl⟩
theorem sm11 : ∃ r, ledger_Lines.f sL 1 0 9 100 = some r ∧ r.length = 1 := ⟨[⟨3, 80, 1, 2, 50, 0, 0⟩], by kernel_rfl, rfl⟩
theorem maxLen_big : 100 ≤ maxLen := by unfold maxLen; omega

set_option maxHeartbeats 1000000 in
theorem bournelaw39_small.calls (r : Bool) (w : World) (h : bournelaw39_small.f = some r) : Calls Try.prog 8 #[] w fun e w' => e = .returned (.bool r) ∧ Below w.heap.size w w' := by
  obtain rfl : true = r := by injection h
  go_enter Try.func8, Try.ntmps8
  go_wp2_with fail
  go_at_call 9
  refine (ledger_Post.calls none 0 [] (some ⟨w.heap.size, 0, none⟩) (sA : List S36).length sA sA 0 _ (Kd.C_nil _ _) (Nat.le_refl _) (litC (cs := _) rfl (Nat.le_trans (by decide) maxLen_big) (MapKept.heap_alloc w _).1) (Nat.le_refl _) sm1).mono ?_
  rintro e w1 ⟨v1, rfl, hR1, hb1⟩
  obtain ⟨A1, c1, rfl, hc1, hC1⟩ := Kd.R_reads hR1
  have hm1 : Below w.heap.size w w1 := ((Below.refl _ w).alloc (Nat.le_refl _) _).trans (hb1.mono (by simp))
  have HC1 := Aside0.mk hC1
  have HB1 := Aside0.mk hm1
  clear hR1 hb1 hC1 hm1
  go_wp2_with fail
  go_at_call 9
  refine (ledger_Post.calls A1 c1 sA (some ⟨w1.heap.size, 0, none⟩) (sB : List S36).length sB sL 0 _ (Kd.C_alloc HC1.out _) hc1 (litC (cs := _) rfl (Nat.le_trans (by decide) maxLen_big) (MapKept.heap_alloc w1 _).1) (Nat.le_refl _) sm2).mono ?_
  rintro e w2 ⟨v2, rfl, hR2, hb2⟩
  obtain ⟨A2, c2, rfl, hc2, hC2⟩ := Kd.R_reads hR2
  have hm2 : Below w1.heap.size w1 w2 := ((Below.refl _ w1).alloc (Nat.le_refl _) _).trans (hb2.mono (by simp))
  have HC2 := Aside0.mk hC2
  have HB2 := Aside0.mk (HB1.out.trans (hm2.mono HB1.out.size))
  clear hR2 hb2 hC2 hm2
  go_wp2_with fail
  go_at_call 9
  refine (ledger_Post.calls A2 c2 sL (some ⟨w2.heap.size, 0, none⟩) ([⟨3, 199, 0, 0, 0, 0, 0⟩] : List S36).length [⟨3, 199, 0, 0, 0, 0, 0⟩] [] 15 _ (Kd.C_alloc HC2.out _) hc2 (litC (cs := _) rfl (Nat.le_trans (by decide) maxLen_big) (MapKept.heap_alloc w2 _).1) (Nat.le_refl _) sm3).mono ?_
  rintro e w3 ⟨v3, rfl, hR3, hb3⟩
  obtain ⟨A3, c3, rfl, hc3, hC3⟩ := Kd.R_reads hR3
  have hm3 : Below w2.heap.size w2 w3 := ((Below.refl _ w2).alloc (Nat.le_refl _) _).trans (hb3.mono (by simp))
  have HC3 := Aside0.mk (Kd.C_below HC2.out hm3)
  have HB3 := Aside0.mk (HB2.out.trans (hm3.mono HB2.out.size))
  clear hR3 hb3 hC3 hm3
  go_wp2_with fail
  go_at_call 9
  refine (ledger_Post.calls A2 c2 sL (some ⟨w3.heap.size, 0, none⟩) ([⟨3, 300, 0, 0, 5, 0, 0⟩] : List S36).length [⟨3, 300, 0, 0, 5, 0, 0⟩] [] 1 _ (Kd.C_alloc HC3.out _) hc2 (litC (cs := _) rfl (Nat.le_trans (by decide) maxLen_big) (MapKept.heap_alloc w3 _).1) (Nat.le_refl _) sm4).mono ?_
  rintro e w4 ⟨v4, rfl, hR4, hb4⟩
  obtain ⟨A4, c4, rfl, hc4, hC4⟩ := Kd.R_reads hR4
  have hm4 : Below w3.heap.size w3 w4 := ((Below.refl _ w3).alloc (Nat.le_refl _) _).trans (hb4.mono (by simp))
  have HC4 := Aside0.mk (Kd.C_below HC3.out hm4)
  have HB4 := Aside0.mk (HB3.out.trans (hm4.mono HB3.out.size))
  clear hR4 hb4 hC4 hm4
  go_wp2_with fail
  go_at_call 12
  refine (ledger_Account.calls A2 c2 sL 1 (-1) 3 100 50 _ HC4.out hc2 sm5).mono ?_
  rintro e w5 ⟨rfl, hm5⟩
  have HC5 := Aside0.mk (Kd.C_below HC4.out hm5)
  have HB5 := Aside0.mk (HB4.out.trans (hm5.mono HB4.out.size))
  clear hm5
  go_wp2_with fail
  go_at_call 12
  refine (ledger_Account.calls A2 c2 sL 1 (-1) 3 200 42 _ HC5.out hc2 sm6).mono ?_
  rintro e w6 ⟨rfl, hm6⟩
  have HC6 := Aside0.mk (Kd.C_below HC5.out hm6)
  have HB6 := Aside0.mk (HB5.out.trans (hm6.mono HB5.out.size))
  clear hm6
  go_wp2_with fail
  go_at_call 12
  refine (ledger_Account.calls A2 c2 sL 1 (-1) 2 300 0 _ HC6.out hc2 sm7).mono ?_
  rintro e w7 ⟨rfl, hm7⟩
  have HC7 := Aside0.mk (Kd.C_below HC6.out hm7)
  have HB7 := Aside0.mk (HB6.out.trans (hm7.mono HB6.out.size))
  clear hm7
  go_wp2_with fail
  go_at_call 12
  refine (ledger_Account.calls A2 c2 sL (-1) (-1) 9 999 0 _ HC7.out hc2 sm8).mono ?_
  rintro e w8 ⟨rfl, hm8⟩
  have HC8 := Aside0.mk (Kd.C_below HC7.out hm8)
  have HB8 := Aside0.mk (HB7.out.trans (hm8.mono HB7.out.size))
  clear hm8
  go_wp2_with fail
  go_at_call 14
  refine (ledger_Balanced.calls A2 c2 sL 999 true _ HC8.out hc2 sm9).mono ?_
  rintro e w9 ⟨rfl, hm9⟩
  have HC9 := Aside0.mk (Kd.C_below HC8.out hm9)
  have HB9 := Aside0.mk (HB8.out.trans (hm9.mono HB8.out.size))
  clear hm9
  obtain ⟨r10, h10, e10⟩ := sm10
  go_wp2_with fail
  go_at_call 16
  refine (ledger_Lines.calls A2 c2 sL 1 0 9 999 r10 _ HC9.out hc2 h10).mono ?_
  rintro e w10 ⟨v10, rfl, hR10, hm10⟩
  obtain ⟨A10, c10, rfl, hc10, hC10⟩ := Kd.R_reads hR10
  clear hR10 hC10
  have HC10 := Aside0.mk (Kd.C_below HC9.out hm10)
  have HB10 := Aside0.mk (HB9.out.trans (hm10.mono HB9.out.size))
  clear hm10
  obtain ⟨r11, h11, e11⟩ := sm11
  go_wp2_with fail
  go_at_call 16
  refine (ledger_Lines.calls A2 c2 sL 1 0 9 100 r11 _ HC10.out hc2 h11).mono ?_
  rintro e w11 ⟨v11, rfl, hR11, hm11⟩
  obtain ⟨A11, c11, rfl, hc11, hC11⟩ := Kd.R_reads hR11
  clear hR11 hC11
  have HC11 := Aside0.mk (Kd.C_below HC10.out hm11)
  have HB11 := Aside0.mk (HB10.out.trans (hm11.mono HB10.out.size))
  clear hm11
  go_wp2_with fail
  go_ret
  exact ⟨rfl, HB11.out⟩
end Go.Proofs.Ytlmjopodghikgaa.Print
end
section
namespace Go.Proofs.Ytlmjopodghikgaa.Print
open Go.RowKit Go.Proofs.YtlmjopodghikgaaW.PrintWords Go.Proofs.YtlmjopodghikgaaW.PrintLast Go.Proofs.YtlmjopodghikgaaW.PrintMore
attribute [local go_sem] max2_int min2_int max_two min_two max_three min_three max_four min_four   -- for this text's walks alone
set_option linter.unusedVariables false
set_option linter.unusedSimpArgs false

/-! ### bournelaw39_few: function 18 -/
end Go.Proofs.Ytlmjopodghikgaa.Print
end
section
namespace Go.Proofs.Ytlmjopodghikgaa.Print
open Go.RowKit Go.Proofs.YtlmjopodghikgaaW.PrintWords Go.Proofs.YtlmjopodghikgaaW.PrintLast Go.Proofs.YtlmjopodghikgaaW.PrintMore
attribute [local go_sem] max2_int min2_int max_two min_two max_three min_three max_four min_four   -- for this text's walks alone
set_option linter.unusedVariables false
set_option linter.unusedSimpArgs false

/-! ### bournelaw39_booked: function 19 -/
end Go.Proofs.Ytlmjopodghikgaa.Print
end
section
/- What the laws of the ledger rest on, with no program in sight: sums over chosen entries; ledgers of accepted postings. -/
namespace Go.Proofs.Ytlmjopodghikgaa.Print
open Go.RowKit Go.Proofs.YtlmjopodghikgaaW.PrintWords
open Go.Proofs.Ytlmjopodghikgaa.Stable
set_option linter.unusedVariables false
set_option linter.unusedSimpArgs false

/-! ### Sums over chosen entries -/
theorem w64 {n : Int} (h : -9223372036854775808 ≤ n ∧ n ≤ 9223372036854775807) : wrap64 n = n := by unfold wrap64; omega
/-! ### The sorted list is a permutation -/
theorem ins_perm (x : S36) : ∀ (l : List S36), (ins (key := (·.f0)) x l).Perm (x :: l)
  | [] => List.Perm.refl _
  | y :: l => by
    unfold ins
    split
    · exact ((ins_perm x l).cons y).trans (List.Perm.swap x y l)
    · exact List.Perm.refl _
theorem foldl_perm : ∀ (l out : List S36), (l.foldl (fun out x => ins (key := (·.f0)) x out) out).Perm (out ++ l)
  | [], out => by simp
  | x :: l, out => by
    rw [List.foldl_cons]
    refine (foldl_perm l _).trans ?_
    refine ((ins_perm x out).append_right l).trans ?_
    simp only [List.cons_append]
    exact List.perm_middle.symm
theorem ssort_perm (l : List S36) : (ssort (·.f0) l).Perm l := by
  have := foldl_perm l []
  simpa [ssort] using this

/-! ### Ledgers of accepted postings -/
def step (l e : List S36) : List S36 := if (postOf l e).2 = 0 then (postOf l e).1 else l
/-- A ledger: at most n entries, in postings that are right; every field a whole number. -/
structure Bk (n : Nat) (l : List S36) : Prop where
  len : l.length ≤ n
  ok : okL l = true
  ps : ∃ ps : List (List S36), l = ps.flatten ∧ ∀ p ∈ ps, postingB p = true
theorem posting_right {p : List S36} (h : postingB p = true) : zeroE p = true ∧ p ≠ [] ∧ ∀ e ∈ p, rightB e = true ∧ e.f0 = (p.getD 0 z36).f0 ∧ e.f1 = (p.getD 0 z36).f1 := by
  cases p with
  | nil => cases h
  | cons x p =>
    simp only [postingB, Bool.and_eq_true, List.all_eq_true, beq_iff_eq] at h
    exact ⟨h.1, by simp, fun e he => ⟨(h.2 e he).1.1, (h.2 e he).1.2, (h.2 e he).2⟩⟩
/-! ### The law's own helpers -/
theorem post_f {l e : List S36} (hl : l.length ≤ 1000) (he : e.length ≤ 1000) (h1 : okL l = true) (h2 : okL e = true) : ledger_Post.f l e = some (postOf l e) := by
  unfold ledger_Post.f
  rw [if_pos (by omega), if_pos (okL_i64E h1), if_pos (okL_i64E h2)]
/-! ### Accounts of such ledgers -/
end Go.Proofs.Ytlmjopodghikgaa.Print
end
section
namespace Go.Proofs.Ytlmjopodghikgaa.Print
open Go.RowKit Go.Proofs.YtlmjopodghikgaaW.PrintWords Go.Proofs.YtlmjopodghikgaaW.PrintLast Go.Proofs.YtlmjopodghikgaaW.PrintMore
attribute [local go_sem] max2_int min2_int max_two min_two max_three min_three max_four min_four   -- for this text's walks alone
set_option linter.unusedVariables false
set_option linter.unusedSimpArgs false

/-! ### bourneref01_Sum: function 31 -/
def bourneref01_Sum.l0 : Nat → List Int → Int → Int → Int → Option (Int × Bool)
  | 0, _, _, _, _ => none
  | k + 1, x0, x4, x5, x6 => if x6 < (x0.length : Int) then (if 0 ≤ x6 then (bourneref01_Sum.l0 k x0 (wrap64 (x4 + ((rd x0 x6) / 4294967296))) (wrap64 (x5 + (Go.bits .and .i64 (rd x0 x6) 4294967295))) (wrap64 (x6 + 1))) else (none)) else (if (wrap64 (x4 + (x5 / 4294967296))) < (-2147483648) then (some (0, false)) else (if (wrap64 (x4 + (x5 / 4294967296))) > 2147483647 then (some (0, false)) else (some (wrap64 ((wrap64 ((wrap64 (x4 + (x5 / 4294967296))) * 4294967296)) + (Go.bits .and .i64 x5 4294967295)), true))))
def bourneref01_Sum.f (k : Nat) (l0 : List Int) : Option (Int × Bool) := bourneref01_Sum.l0 k l0 0 0 0
set_option maxHeartbeats 8000000 in
set_option maxRecDepth 100000 in
theorem bourneref01_Sum.calls (k : Nat) (A0 : Option Addr) (c0 : Nat) (l0 : List Int) (r1 : Int) (r2 : Bool) (w : World) (hr0 : Kd.C (Kd.int .i64) w A0 l0.length l0) (hc0 : l0.length ≤ c0) (h : bourneref01_Sum.f k l0 = some (r1, r2)) :
    Calls Try.prog 31 #[.slice A0 l0.length c0] w fun e w' => e = .returned (.tuple #[.int .i64 r1, .bool r2]) ∧ Drawn0 w w' := by
  have HR0 := Aside0.mk hr0
  have HC0 := Aside0.mk hc0
  clear hr0 hc0
  have H : (bourneref01_Sum.l0 k l0 0 0 0) = some (r1, r2) := h
  clear h
  have H' := Aside0.mk H
  clear H
  go_enter Try.func31, Try.ntmps31
  go_wp2
  go_loopg [4, 5, 6] k (fun kq v4 v5 v6 w' => ∃ (x4_1 : Int) (x5_1 : Int) (x6_1 : Int), v4 = .int .i64 x4_1 ∧ v5 = .int .i64 x5_1 ∧ v6 = .int .i64 x6_1 ∧ Aside0 (bourneref01_Sum.l0 kq l0 x4_1 x5_1 x6_1 = some (r1, r2)) ∧ Aside0 (kq ≤ k) ∧ Drawn0 w w')
  case atStart => exact ⟨(0), (0), (0), (by first | rfl | (simp; done) | (simp [*]; done)), (by first | rfl | (simp; done) | (simp [*]; done)), (by first | rfl | (simp; done) | (simp [*]; done)), H', ⟨Nat.le_refl _⟩, by repeat (first | exact Drawn0.refl _ | apply Drawn0.step)⟩
  case round =>
    clear H'
    obtain ⟨x4_1, x5_1, x6_1, rfl, rfl, rfl, HA, HK1, ⟨m1, rfl⟩⟩ := hrel
    cases gk with
    | zero => exact absurd HA.out (by simp [bourneref01_Sum.l0])
    | succ k1 =>
      have H := HA.out
      clear HA
      simp only [bourneref01_Sum.l0] at H
      by_cases c2 : x6_1 < (l0.length : Int)
      · rw [if_pos c2] at H
        have c2b0 : decide (x6_1 < (l0.length : Int)) = true := decide_eq_true c2
        clear c2
        by_cases c3 : 0 ≤ x6_1
        · rw [if_pos c3] at H
          have c3b0 : decide (0 ≤ x6_1) = true := decide_eq_true c3
          clear c3
          have H' := Aside0.mk H
          clear H
          have p101 : 0 ≤ (x6_1 : Int) := of_decide_eq_true (by first | (with_reducible assumption) | assumption)
          have q101 : x6_1 < (l0.length : Int) := of_decide_eq_true (by first | (with_reducible assumption) | assumption)
          obtain ⟨ad101, e101, hx101_0⟩ := Kd.at_int HR0.out x6_1 p101 q101
          cases e101
          replace p101 := eq_true p101
          replace q101 := eq_true q101
          have p102 : 0 ≤ (x6_1 : Int) := of_decide_eq_true (by first | (with_reducible assumption) | assumption)
          have q102 : x6_1 < (l0.length : Int) := of_decide_eq_true (by first | (with_reducible assumption) | assumption)
          obtain ⟨ad102, e102, hx102_0⟩ := Kd.at_int HR0.out x6_1 p102 q102
          obtain rfl : ad101 = ad102 := (by injection e102)
          replace p102 := eq_true p102
          replace q102 := eq_true q102
          go_wp2
          go_roundg k1
          case measure => have := HK1.out; omega
          case rel => exact ⟨(wrap64 (x4_1 + ((rd l0 x6_1) / 4294967296))), (wrap64 (x5_1 + (Go.bits .and .i64 (rd l0 x6_1) 4294967295))), (wrap64 (x6_1 + 1)), (by first | rfl | (simp; done) | (simp [*]; done)), (by first | rfl | (simp; done) | (simp [*]; done)), (by first | rfl | (simp; done) | (simp [*]; done)), H', ⟨by have := HK1.out; omega⟩, by repeat (first | exact Drawn0.refl _ | apply Drawn0.step)⟩
        · rw [if_neg c3] at H
          exact absurd H (by simp)
      · rw [if_neg c2] at H
        have c2b0 : decide (x6_1 < (l0.length : Int)) = false := decide_eq_false c2
        clear c2
        by_cases c4 : (wrap64 (x4_1 + (x5_1 / 4294967296))) < (-2147483648)
        · rw [if_pos c4] at H
          have c4b0 : decide ((wrap64 (x4_1 + (x5_1 / 4294967296))) < (-2147483648)) = true := decide_eq_true c4
          clear c4
          simp only [Option.some.injEq, Prod.mk.injEq] at H
          obtain ⟨rfl, rfl⟩ := H
          go_wp2
          go_ret2
          exact ⟨by first | rfl | (simp; done) | (simp [*]; done), by repeat (first | exact Drawn0.refl _ | apply Drawn0.step)⟩
        · rw [if_neg c4] at H
          have c4b0 : decide ((wrap64 (x4_1 + (x5_1 / 4294967296))) < (-2147483648)) = false := decide_eq_false c4
          clear c4
          by_cases c5 : (wrap64 (x4_1 + (x5_1 / 4294967296))) > 2147483647
          · rw [if_pos c5] at H
            have c5b0 : decide (2147483647 < (wrap64 (x4_1 + (x5_1 / 4294967296)))) = true := decide_eq_true c5
            clear c5
            simp only [Option.some.injEq, Prod.mk.injEq] at H
            obtain ⟨rfl, rfl⟩ := H
            go_wp2
            go_ret2
            exact ⟨by first | rfl | (simp; done) | (simp [*]; done), by repeat (first | exact Drawn0.refl _ | apply Drawn0.step)⟩
          · rw [if_neg c5] at H
            have c5b0 : decide (2147483647 < (wrap64 (x4_1 + (x5_1 / 4294967296)))) = false := decide_eq_false c5
            clear c5
            simp only [Option.some.injEq, Prod.mk.injEq] at H
            obtain ⟨rfl, rfl⟩ := H
            go_wp2
            go_ret2
            exact ⟨by first | rfl | (simp; done) | (simp [*]; done), by repeat (first | exact Drawn0.refl _ | apply Drawn0.step)⟩

end Go.Proofs.Ytlmjopodghikgaa.Print
end
