/- slices.swapRangeCmpFunc and rotateCmpFunc at entries: two runs of a row change places. -/
import Derived.Test.YtlmjopodghikgaaHDel
import Derived.RegionTactic
import Derived.BigRegion
namespace Go.Proofs.Ytlmjopodghikgaa.Print
open Go.RowKit Go.Proofs.YtlmjopodghikgaaW.PrintWords
set_option linter.unusedVariables false
set_option linter.unusedSimpArgs false

/-- Two elements of a row change places. -/
theorem swap_lists {α : Type} (A M Z : List α) (x y : α) (s t : Nat) (hs : A.length = s) (ht : s + 1 + M.length = t) :
    ((A ++ x :: (M ++ y :: Z)).set s y).set t x = A ++ y :: (M ++ x :: Z) := by
  subst hs
  subst ht
  rw [List.set_append_right _ _ (by omega), Nat.sub_self, List.set_cons_zero, List.set_append_right _ _ (by omega)]
  rw [show A.length + 1 + M.length - A.length = M.length + 1 by omega, List.set_cons_succ, List.set_append_right _ _ (by omega), Nat.sub_self, List.set_cons_zero]

theorem RowE.len {w : World} {g cap : Nat} {l : List S36} (h : RowE w g cap l) : l.length ≤ cap ∧ cap ≤ 9223372036854775807 := by
  obtain ⟨_, _, _, h1, h2, _⟩ := h
  simp only [maxLen] at h2
  omega

/-- An entry's seven cells stored, as the walk spells it. -/
def put7 (w : World) (g o : Nat) (x : S36) : World :=
  ((((((w.setCell ⟨g, o, none⟩ (.int .i64 x.f0)).setCell ⟨g, o + 1, none⟩ (.int .i64 x.f1)).setCell ⟨g, o + 2, none⟩ (.int .i64 x.f2)).setCell ⟨g, o + 3, none⟩ (.int .i64 x.f3)).setCell ⟨g, o + 4, none⟩ (.int .i64 x.f4)).setCell ⟨g, o + 5, none⟩ (.int .i64 x.f5)).setCell ⟨g, o + 6, none⟩ (.int .i64 x.f6)
theorem put7_eq (w : World) (g o : Nat) (x : S36) : put7 w g o x = w.setCells g o (cE x) := rfl
theorem RowE.drew {w : World} {g cap : Nat} {l : List S36} (h : RowE w g cap l) : RowE w.drew g cap l := h
/-- Entries s and t of a row change places. -/
theorem RowE.swap {w : World} {g cap B : Nat} {l : List S36} (h : RowE w g cap l) (hg : B ≤ g) {s t : Nat} (hs : s < l.length) (ht : t < l.length) (x y : S36) : RowE (put7 (put7 w g (s * 7) y) g (t * 7) x).drew g cap ((l.set s y).set t x) ∧ Below B w (put7 (put7 w g (s * 7) y) g (t * 7) x).drew := by
  rw [put7_eq, put7_eq]
  exact ⟨((h.set hs y).set (by rw [List.length_set]; exact ht) x).drew, ((setCells_below hg _ _ _).trans (setCells_below hg _ _ _)).drew⟩

set_option maxHeartbeats 4000000 in
set_option maxRecDepth 100000 in
theorem swapRangeF (cmp : Value) (w : World) (g cap B : Nat) (hg : B ≤ g) (hB : B ≤ w.heap.size) (X p q r Y : List S36) (hpr : p.length = r.length) (hr : RowE w g cap (X ++ p ++ q ++ r ++ Y)) (a b n len : Nat) (ha : a = X.length) (hb : b = X.length + p.length + q.length) (hn : n = p.length) (hl : len = (X ++ p ++ q ++ r ++ Y).length) :
    Calls Try.prog 49 #[.slice (some ⟨g, 0, none⟩) len cap, .int .i64 a, .int .i64 b, .int .i64 n, cmp] w fun e w' => e = .returned (.tuple #[]) ∧ RowE w' g cap (X ++ r ++ q ++ p ++ Y) ∧ Below B w w' := by
  have hle := hr.len
  have hlen : len = X.length + p.length + q.length + r.length + Y.length := by rw [hl]; simp [Nat.add_assoc]
  have hbd : (len : Int) ≤ 9223372036854775807 := by
    rw [← hl] at hle; omega
  have HR := Aside0.mk hr
  have HLE : Aside0 (len ≤ cap) := ⟨by rw [hl]; exact hle.1⟩
  have HA := Aside0.mk ha
  have HBb := Aside0.mk hb
  have HN := Aside0.mk hn
  have HL := Aside0.mk hlen
  have HP := Aside0.mk hpr
  have i1 : a + n ≤ b := by omega
  have i2 : b + n ≤ len := by omega
  clear hr hle ha hb hn hl hlen hpr
  go_enter Try.func49, Try.ntmps49
  go_wp2_with fail
  go_loopg [10] n (fun kq v10 wr => ∃ (i : Nat) (p1 p2 r1 r2 : List S36), v10 = .int .i64 i ∧ Aside0 (i + kq = n) ∧ Aside0 (p = p1 ++ p2 ∧ r = r1 ++ r2 ∧ p1.length = i ∧ r1.length = i) ∧ Aside0 (RowE wr g cap (X ++ r1 ++ p2 ++ q ++ p1 ++ r2 ++ Y)) ∧ Aside0 (Below B w wr))
  case atStart => exact ⟨0, [], p, [], r, rfl, ⟨by omega⟩, ⟨rfl, rfl, rfl, rfl⟩, ⟨by simpa using HR.out⟩, ⟨Below.refl _ _⟩⟩
  case round =>
    obtain ⟨i, p1, p2, r1, r2, rfl, HK, HS, HRow, HW⟩ := hrel
    by_cases c2 : i < n
    · have hx : ∃ x p3, p2 = x :: p3 := by
        cases p2 with
        | nil => exfalso; have := HS.out; have := HN.out; simp_all
        | cons x p3 => exact ⟨x, p3, rfl⟩
      have hy : ∃ y r3, r2 = y :: r3 := by
        cases r2 with
        | nil => exfalso; have := HS.out; have := HN.out; have := HP.out; simp_all
        | cons y r3 => exact ⟨y, r3, rfl⟩
      obtain ⟨x, p3, rfl⟩ := hx
      obtain ⟨y, r3, rfl⟩ := hy
      have ex : (X ++ r1 ++ (x :: p3) ++ q ++ p1 ++ (y :: r3) ++ Y)[a + i]? = some x := by
        have := HS.out; have := HA.out
        rw [show X ++ r1 ++ (x :: p3) ++ q ++ p1 ++ (y :: r3) ++ Y = (X ++ r1) ++ (x :: (p3 ++ q ++ p1 ++ (y :: r3) ++ Y)) by simp, List.getElem?_append_right (by simp; omega)]
        simp; 
        rw [show a + i - (X.length + r1.length) = 0 by omega]; rfl
      have ey : (X ++ r1 ++ (x :: p3) ++ q ++ p1 ++ (y :: r3) ++ Y)[b + i]? = some y := by
        have h1 := HS.out; have := HBb.out
        have h2 : p.length = p1.length + (p3.length + 1) := by rw [h1.1]; simp
        rw [show X ++ r1 ++ (x :: p3) ++ q ++ p1 ++ (y :: r3) ++ Y = (X ++ r1 ++ (x :: p3) ++ q ++ p1) ++ (y :: (r3 ++ Y)) by simp, List.getElem?_append_right (by simp; omega)]
        rw [show b + i - (X ++ r1 ++ (x :: p3) ++ q ++ p1).length = 0 by simp; omega]; rfl
      obtain ⟨x0, x1, x2, x3, x4, x5, x6⟩ := HRow.out.seven ex
      obtain ⟨y0, y1, y2, y3, y4, y5, y6⟩ := HRow.out.seven ey
      have fr := HRow.out.frozen
      have HEX := Aside0.mk ex
      clear ex ey
      go_wp2_with fail
      go_big_region
      all_goals go_wp2_with fail
      all_goals
        go_roundg (gk - 1)
        case measure => have := HK.out; omega
        case rel =>
          have h1 := HS.out
          have h2 := HN.out
          have h3 := HL.out
          have h4 : p.length = p1.length + (p3.length + 1) := by rw [h1.1]; simp
          have h5 : r.length = r1.length + (r3.length + 1) := by rw [h1.2.1]; simp
          have h6 : p1.length = i := h1.2.2.1
          have h7 : r1.length = i := h1.2.2.2
          have h8 := HA.out
          have h9 := HBb.out
          have hlen : (X ++ r1 ++ (x :: p3) ++ q ++ p1 ++ (y :: r3) ++ Y).length = len := by simp; omega
          have e := swap_lists (X ++ r1) (p3 ++ q ++ p1) (r3 ++ Y) x y (a + i) (b + i) (by simp; omega) (by simp; omega)
          obtain ⟨hs, hbl⟩ := HRow.out.swap hg (s := a + i) (t := b + i) (by rw [hlen]; omega) (by rw [hlen]; omega) x y
          rw [show X ++ r1 ++ (x :: p3) ++ q ++ p1 ++ (y :: r3) ++ Y = X ++ r1 ++ x :: (p3 ++ q ++ p1 ++ y :: (r3 ++ Y)) by simp, e] at hs
          have hs2 := Aside0.mk hs
          have hb2 := Aside0.mk (HW.out.trans hbl)
          unfold put7 at hs2 hb2
          rw [show X ++ r1 ++ y :: (p3 ++ q ++ p1 ++ x :: (r3 ++ Y)) = X ++ (r1 ++ [y]) ++ p3 ++ q ++ (p1 ++ [x]) ++ r3 ++ Y by simp] at hs2
          exact ⟨i + 1, p1 ++ [x], p3, r1 ++ [y], r3, by go_num, ⟨by have := HK.out; omega⟩, ⟨by rw [h1.1]; simp, by rw [h1.2.1]; simp, by simp; omega, by simp; omega⟩, hs2, hb2⟩
    · go_wp2_with fail
      go_end0
      have h1 := HS.out
      have h2 := HN.out
      have h3 := HP.out
      have h4 : p.length = p1.length + p2.length := by rw [h1.1]; simp
      have h5 : r.length = r1.length + r2.length := by rw [h1.2.1]; simp
      have e1 : p2 = [] := List.length_eq_zero_iff.1 (by have := HK.out; omega)
      have e2 : r2 = [] := List.length_eq_zero_iff.1 (by have := HK.out; omega)
      have hR := HRow.out
      rw [e1, e2] at hR
      rw [h1.1, h1.2.1, e1, e2]
      exact ⟨rfl, by simpa using hR, HW.out⟩

theorem swapRangeI (cmp : Value) (w : World) (g cap B : Nat) (hg : B ≤ g) (hB : B ≤ w.heap.size) (X p q r Y : List S36) (hpr : p.length = r.length) (hr : RowE w g cap (X ++ p ++ q ++ r ++ Y)) (a b n : Int) (len : Nat) (ha : a = X.length) (hb : b = (X.length : Int) + p.length + q.length) (hn : n = p.length) (hl : len = (X ++ p ++ q ++ r ++ Y).length) :
    Calls Try.prog 49 #[.slice (some ⟨g, 0, none⟩) len cap, .int .i64 a, .int .i64 b, .int .i64 n, cmp] w fun e w' => e = .returned (.tuple #[]) ∧ RowE w' g cap (X ++ r ++ q ++ p ++ Y) ∧ Below B w w' := by
  have h := swapRangeF cmp w g cap B hg hB X p q r Y hpr hr X.length (X.length + p.length + q.length) p.length len rfl rfl rfl hl
  rw [ha, hn, show b = ((X.length + p.length + q.length : Nat) : Int) by rw [hb]; simp]
  exact h

set_option maxHeartbeats 1000000 in
theorem rotateF (cmp : Value) (w : World) (g cap B : Nat) (hg : B ≤ g) (hB : B ≤ w.heap.size) (X u v Y : List S36) (hu : u ≠ []) (hv : v ≠ []) (hr : RowE w g cap (X ++ u ++ v ++ Y)) (a m b : Int) (len : Nat) (ha : a = X.length) (hm : m = (X.length : Int) + u.length) (hb : b = (X.length : Int) + u.length + v.length) (hl : len = (X ++ u ++ v ++ Y).length) :
    Calls Try.prog 48 #[.slice (some ⟨g, 0, none⟩) len cap, .int .i64 a, .int .i64 m, .int .i64 b, cmp] w fun e w' => e = .returned (.tuple #[]) ∧ RowE w' g cap (X ++ v ++ u ++ Y) ∧ Below B w w' := by
  have hle := hr.len
  have hlen : (len : Int) = X.length + u.length + v.length + Y.length := by rw [hl]; simp; omega
  have hbd : (len : Int) ≤ 9223372036854775807 := by rw [← hl] at hle; omega
  have hup : 0 < u.length := List.length_pos_iff.2 hu
  have hvp : 0 < v.length := List.length_pos_iff.2 hv
  have b1 : 0 ≤ a := by omega
  have b2 : a < m := by omega
  have b3 : m < b := by omega
  have b4 : b ≤ len := by omega
  have HR := Aside0.mk hr
  have HM := Aside0.mk (show m - a = u.length ∧ b - m = v.length ∧ m = (X.length : Int) + u.length ∧ len = (X ++ u ++ v ++ Y).length from ⟨by omega, by omega, hm, hl⟩)
  clear hr hle ha hm hb hl hlen hup hvp hu hv
  go_enter Try.func48, Try.ntmps48
  go_wp2_with fail
  go_loopg [10, 11] (u.length + v.length) (fun kq v10 v11 wr => ∃ (i j : Int) (X1 u1 v1 Y1 : List S36), v10 = .int .i64 i ∧ v11 = .int .i64 j ∧ 0 < i ∧ 0 < j ∧ i ≤ m ∧ m + j ≤ len ∧ Aside0 (i + j ≤ kq) ∧ Aside0 (i = u1.length ∧ j = v1.length ∧ m = (X1.length : Int) + u1.length ∧ len = (X1 ++ u1 ++ v1 ++ Y1).length) ∧ Aside0 (RowE wr g cap (X1 ++ u1 ++ v1 ++ Y1)) ∧ Aside0 (X1 ++ v1 ++ u1 ++ Y1 = X ++ v ++ u ++ Y) ∧ Aside0 (Below B w wr))
  case atStart => exact ⟨m - a, b - m, X, u, v, Y, by go_num, by go_num, by omega, by omega, by omega, by omega, ⟨by have := HM.out; omega⟩, ⟨HM.out.1, HM.out.2.1, HM.out.2.2.1, HM.out.2.2.2⟩, HR, ⟨rfl⟩, ⟨Below.refl _ _⟩⟩
  case round =>
    obtain ⟨i, j, X1, u1, v1, Y1, rfl, rfl, hi, hj, him, hjm, HK, HS, HRow, HT, HW⟩ := hrel
    have hsz := HW.out.size
    rcases Int.lt_trichotomy i j with hlt | heq | hgt
    · have hne : (i != j) = true := by simp; omega
      have hng : ¬ j < i := by omega
      have hq : v1 = v1.take (v1.length - u1.length) ++ v1.drop (v1.length - u1.length) := (List.take_append_drop _ _).symm
      have HC := Aside0.mk (swapRangeI cmp wr g cap B hg (Nat.le_trans hB hsz) X1 u1 (v1.take (v1.length - u1.length)) (v1.drop (v1.length - u1.length)) Y1 (by have := HS.out; simp; omega) (by have := HRow.out; rw [hq] at this; simpa using this) (m - i) (m + j - i) i len (by have := HS.out; omega) (by have := HS.out; simp; omega) HS.out.1 (by have := HS.out.2.2.2; rw [hq] at this; simpa using this))
      have HQ := Aside0.mk hq
      clear hq
      go_wp2_with (go_at_call 49; refine HC.out.mono ?_; rintro e w1 ⟨rfl, hrow, hb⟩)
      go_roundg (gk - 1)
      case measure => have := HK.out; omega
      case rel =>
        have h := HS.out
        refine ⟨i, j - i, X1, v1.drop (v1.length - u1.length), v1.take (v1.length - u1.length), u1 ++ Y1, rfl, by go_num, hi, by omega, him, by omega, ⟨by have := HK.out; omega⟩, ⟨by simp; omega, by simp; omega, by simp; omega, ?_⟩, ⟨by simpa using hrow⟩, ⟨?_⟩, ⟨HW.out.trans hb⟩⟩
        · have := h.2.2.2; simp at this ⊢; omega
        · rw [← HT.out]; conv => rhs; rw [HQ.out]
          simp
    · subst heq
      have hne : (i != i) = false := by simp
      have HC := Aside0.mk (swapRangeI cmp wr g cap B hg (Nat.le_trans hB hsz) X1 u1 [] v1 Y1 (by have := HS.out; omega) (by simpa using HRow.out) (m - i) m i len (by have := HS.out; omega) (by have := HS.out; simp; omega) HS.out.1 (by simpa using HS.out.2.2.2))
      go_wp2_with (go_at_call 49; refine HC.out.mono ?_; rintro e w1 ⟨rfl, hrow, hb⟩)
      go_end0
      refine ⟨rfl, ?_, HW.out.trans hb⟩
      rw [← HT.out]
      simpa using hrow
    · have hne : (i != j) = true := by simp; omega
      have hq : u1 = u1.take v1.length ++ u1.drop v1.length := (List.take_append_drop _ _).symm
      have HC := Aside0.mk (swapRangeI cmp wr g cap B hg (Nat.le_trans hB hsz) X1 (u1.take v1.length) (u1.drop v1.length) v1 Y1 (by have := HS.out; simp; omega) (by have := HRow.out; rw [hq] at this; simpa using this) (m - i) m j len (by have := HS.out; omega) (by have := HS.out; simp; omega) (by have := HS.out; simp; omega) (by have := HS.out.2.2.2; rw [hq] at this; simpa using this))
      have HQ := Aside0.mk hq
      clear hq
      go_wp2_with (go_at_call 49; refine HC.out.mono ?_; rintro e w1 ⟨rfl, hrow, hb⟩)
      go_roundg (gk - 1)
      case measure => have := HK.out; omega
      case rel =>
        have h := HS.out
        refine ⟨i - j, j, X1 ++ v1, u1.drop v1.length, u1.take v1.length, Y1, by go_num, rfl, by omega, hj, by omega, hjm, ⟨by have := HK.out; omega⟩, ⟨by simp; omega, by simp; omega, by simp; omega, ?_⟩, ⟨by simpa using hrow⟩, ⟨?_⟩, ⟨HW.out.trans hb⟩⟩
        · have := h.2.2.2; simp at this ⊢; omega
        · rw [← HT.out]; conv => rhs; rw [HQ.out]
          simp
end Go.Proofs.Ytlmjopodghikgaa.Print
