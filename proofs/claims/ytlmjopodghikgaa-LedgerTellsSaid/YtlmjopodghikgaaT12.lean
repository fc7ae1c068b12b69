/- Contracts and plain lemmas that the claim rests on: part 12 of 17 (joined, without what the theorem does not rest on). -/
import Derived.Test.YtlmjopodghikgaaT6
import Derived.RegionTactic
import Derived.BigRegion
section
/- slices.swapRangeCmpFunc and rotateCmpFunc at entries: two runs of a row change places. -/
namespace Go.Proofs.Ytlmjopodghikgaa.Print
open Go.RowKit Go.Proofs.YtlmjopodghikgaaW.PrintWords
set_option linter.unusedVariables false
set_option linter.unusedSimpArgs false

/-- Two elements of a row change places. -/
theorem swap_lists {α : Type} (A M Z : List α) (x y : α) (s t : Nat) (hs : A.length = s) (ht : s + 1 + M.length = t) :
    ((A ++ x :: (M ++ y :: Z)).set s y).set t x = A ++ y :: (M ++ x :: Z) := by
  subst hs
  subst ht
  rw [List.set_append_right _ _ (by omega), Nat.sub_self, List.set_cons_zero, List.set_append_right _ _ (by omega)]
  rw [show A.length + 1 + M.length - A.length = M.length + 1 by omega, List.set_cons_succ, List.set_append_right _ _ (by omega), Nat.sub_self, List.set_cons_zero]

theorem RowE.len {w : World} {g cap : Nat} {l : List S36} (h : RowE w g cap l) : l.length ≤ cap ∧ cap ≤ 9223372036854775807 := by
  obtain ⟨_, _, _, h1, h2, _⟩ := h
  simp only [maxLen] at h2
  omega

/-- An entry's seven cells stored, as the walk spells it. -/
def put7 (w : World) (g o : Nat) (x : S36) : World :=
  ((((((w.setCell ⟨g, o, none⟩ (.int .i64 x.f0)).setCell ⟨g, o + 1, none⟩ (.int .i64 x.f1)).setCell ⟨g, o + 2, none⟩ (.int .i64 x.f2)).setCell ⟨g, o + 3, none⟩ (.int .i64 x.f3)).setCell ⟨g, o + 4, none⟩ (.int .i64 x.f4)).setCell ⟨g, o + 5, none⟩ (.int .i64 x.f5)).setCell ⟨g, o + 6, none⟩ (.int .i64 x.f6)
theorem put7_eq (w : World) (g o : Nat) (x : S36) : put7 w g o x = w.setCells g o (cE x) := rfl
theorem RowE.drew {w : World} {g cap : Nat} {l : List S36} (h : RowE w g cap l) : RowE w.drew g cap l := h
/-- Entries s and t of a row change places. -/
theorem RowE.swap {w : World} {g cap B : Nat} {l : List S36} (h : RowE w g cap l) (hg : B ≤ g) {s t : Nat} (hs : s < l.length) (ht : t < l.length) (x y : S36) : RowE (put7 (put7 w g (s * 7) y) g (t * 7) x).drew g cap ((l.set s y).set t x) ∧ Below B w (put7 (put7 w g (s * 7) y) g (t * 7) x).drew := by
  rw [put7_eq, put7_eq]
  exact ⟨((h.set hs y).set (by rw [List.length_set]; exact ht) x).drew, ((setCells_below hg _ _ _).trans (setCells_below hg _ _ _)).drew⟩

set_option maxHeartbeats 4000000 in
set_option maxRecDepth 100000 in
theorem swapRangeF (cmp : Value) (w : World) (g cap B : Nat) (hg : B ≤ g) (hB : B ≤ w.heap.size) (X p q r Y : List S36) (hpr : p.length = r.length) (hr : RowE w g cap (X ++ p ++ q ++ r ++ Y)) (a b n len : Nat) (ha : a = X.length) (hb : b = X.length + p.length + q.length) (hn : n = p.length) (hl : len = (X ++ p ++ q ++ r ++ Y).length) :
    Calls Try.prog 49 #[.slice (some ⟨g, 0, none⟩) len cap, .int .i64 a, .int .i64 b, .int .i64 n, cmp] w fun e w' => e = .returned (.tuple #[]) ∧ RowE w' g cap (X ++ r ++ q ++ p ++ Y) ∧ Below B w w' := by
  have hle := hr.len
  have hlen : len = X.length + p.length + q.length + r.length + Y.length := by rw [hl]; simp [Nat.add_assoc]
  have hbd : (len : Int) ≤ 9223372036854775807 := by
    rw [← hl] at hle; omega
  have HR := Aside0.mk hr
  have HLE : Aside0 (len ≤ cap) := ⟨by rw [hl]; exact hle.1⟩
  have HA := Aside0.mk ha
  have HBb := Aside0.mk hb
  have HN := Aside0.mk hn
  have HL := Aside0.mk hlen
  have HP := Aside0.mk hpr
  have i1 : a + n ≤ b := by omega
  have i2 : b + n ≤ len := by omega
  clear hr hle ha hb hn hl hlen hpr
  go_enter Try.func49, Try.ntmps49
  go_wp2_with fail
  go_loopg [10] n (fun kq v10 wr => ∃ (i : Nat) (p1 p2 r1 r2 : List S36), v10 = .int .i64 i ∧ Aside0 (i + kq = n) ∧ Aside0 (p = p1 ++ p2 ∧ r = r1 ++ r2 ∧ p1.length = i ∧ r1.length = i) ∧ Aside0 (RowE wr g cap (X ++ r1 ++ p2 ++ q ++ p1 ++ r2 ++ Y)) ∧ Aside0 (Below B w wr))
  case atStart => exact ⟨0, [], p, [], r, rfl, ⟨by omega⟩, ⟨rfl, rfl, rfl, rfl⟩, ⟨by simpa using HR.out⟩, ⟨Below.refl _ _⟩⟩
  case round =>
    obtain ⟨i, p1, p2, r1, r2, rfl, HK, HS, HRow, HW⟩ := hrel
    by_cases c2 : i < n
    · have hx : ∃ x p3, p2 = x :: p3 := by
        cases p2 with
        | nil => exfalso; have := HS.out; have := HN.out; simp_all
        | cons x p3 => exact ⟨x, p3, rfl⟩
      have hy : ∃ y r3, r2 = y :: r3 := by
        cases r2 with
        | nil => exfalso; have := HS.out; have := HN.out; have := HP.out; simp_all
        | cons y r3 => exact ⟨y, r3, rfl⟩
      obtain ⟨x, p3, rfl⟩ := hx
      obtain ⟨y, r3, rfl⟩ := hy
      have ex : (X ++ r1 ++ (x :: p3) ++ q ++ p1 ++ (y :: r3) ++ Y)[a + i]? = some x := by
        have := HS.out; have := HA.out
        rw [show X ++ r1 ++ (x :: p3) ++ q ++ p1 ++ (y :: r3) ++ Y = (X ++ r1) ++ (x :: (p3 ++ q ++ p1 ++ (y :: r3) ++ Y)) by simp, List.getElem?_append_right (by simp; omega)]
        simp; 
        rw [show a + i - (X.length + r1.length) = 0 by omega]; rfl
      have ey : (X ++ r1 ++ (x :: p3) ++ q ++ p1 ++ (y :: r3) ++ Y)[b + i]? = some y := by
        have h1 := HS.out; have := HBb.out
        have h2 : p.length = p1.length + (p3.length + 1) := by rw [h1.1]; simp
        rw [show X ++ r1 ++ (x :: p3) ++ q ++ p1 ++ (y :: r3) ++ Y = (X ++ r1 ++ (x :: p3) ++ q ++ p1) ++ (y :: (r3 ++ Y)) by simp, List.getElem?_append_right (by simp; omega)]
        rw [show b + i - (X ++ r1 ++ (x :: p3) ++ q ++ p1).length = 0 by simp; omega]; rfl
      obtain ⟨x0, x1, x2, x3, x4, x5, x6⟩ := HRow.out.seven ex
      obtain ⟨y0, y1, y2, y3, y4, y5, y6⟩ := HRow.out.seven ey
      have fr := HRow.out.frozen
      have HEX := Aside0.mk ex
      clear ex ey
      go_wp2_with fail
      go_big_region
      all_goals go_wp2_with fail
      all_goals
        go_roundg (gk - 1)
        case measure => have := HK.out; omega
        case rel =>
          have h1 := HS.out
          have h2 := HN.out
          have h3 := HL.out
          have h4 : p.length = p1.length + (p3.length + 1) := by rw [h1.1]; simp
          have h5 : r.length = r1.length + (r3.length + 1) := by rw [h1.2.1]; simp
          have h6 : p1.length = i := h1.2.2.1
          have h7 : r1.length = i := h1.2.2.2
          have h8 := HA.out
          have h9 := HBb.out
          have hlen : (X ++ r1 ++ (x :: p3) ++ q ++ p1 ++ (y :: r3) ++ Y).length = len := by simp; omega
          have e := swap_lists (X ++ r1) (p3 ++ q ++ p1) (r3 ++ Y) x y (a + i) (b + i) (by simp; omega) (by simp; omega)
          obtain ⟨hs, hbl⟩ := HRow.out.swap hg (s := a + i) (t := b + i) (by rw [hlen]; omega) (by rw [hlen]; omega) x y
          rw [show X ++ r1 ++ (x :: p3) ++ q ++ p1 ++ (y :: r3) ++ Y = X ++ r1 ++ x :: (p3 ++ q ++ p1 ++ y :: (r3 ++ Y)) by simp, e] at hs
          have hs2 := Aside0.mk hs
          have hb2 := Aside0.mk (HW.out.trans hbl)
          unfold put7 at hs2 hb2
          rw [show X ++ r1 ++ y :: (p3 ++ q ++ p1 ++ x :: (r3 ++ Y)) = X ++ (r1 ++ [y]) ++ p3 ++ q ++ (p1 ++ [x]) ++ r3 ++ Y by simp] at hs2
          exact ⟨i + 1, p1 ++ [x], p3, r1 ++ [y], r3, by go_num, ⟨by have := HK.out; omega⟩, ⟨by rw [h1.1]; simp, by rw [h1.2.1]; simp, by simp; omega, by simp; omega⟩, hs2, hb2⟩
    · go_wp2_with fail
      go_end0
      have h1 := HS.out
      have h2 := HN.out
      have h3 := HP.out
      have h4 : p.length = p1.length + p2.length := by rw [h1.1]; simp
      have h5 : r.length = r1.length + r2.length := by rw [h1.2.1]; simp
      have e1 : p2 = [] := List.length_eq_zero_iff.1 (by have := HK.out; omega)
      have e2 : r2 = [] := List.length_eq_zero_iff.1 (by have := HK.out; omega)
      have hR := HRow.out
      rw [e1, e2] at hR
      rw [h1.1, h1.2.1, e1, e2]
      exact ⟨rfl, by simpa using hR, HW.out⟩

theorem swapRangeI (cmp : Value) (w : World) (g cap B : Nat) (hg : B ≤ g) (hB : B ≤ w.heap.size) (X p q r Y : List S36) (hpr : p.length = r.length) (hr : RowE w g cap (X ++ p ++ q ++ r ++ Y)) (a b n : Int) (len : Nat) (ha : a = X.length) (hb : b = (X.length : Int) + p.length + q.length) (hn : n = p.length) (hl : len = (X ++ p ++ q ++ r ++ Y).length) :
    Calls Try.prog 49 #[.slice (some ⟨g, 0, none⟩) len cap, .int .i64 a, .int .i64 b, .int .i64 n, cmp] w fun e w' => e = .returned (.tuple #[]) ∧ RowE w' g cap (X ++ r ++ q ++ p ++ Y) ∧ Below B w w' := by
  have h := swapRangeF cmp w g cap B hg hB X p q r Y hpr hr X.length (X.length + p.length + q.length) p.length len rfl rfl rfl hl
  rw [ha, hn, show b = ((X.length + p.length + q.length : Nat) : Int) by rw [hb]; simp]
  exact h

set_option maxHeartbeats 1000000 in
theorem rotateF (cmp : Value) (w : World) (g cap B : Nat) (hg : B ≤ g) (hB : B ≤ w.heap.size) (X u v Y : List S36) (hu : u ≠ []) (hv : v ≠ []) (hr : RowE w g cap (X ++ u ++ v ++ Y)) (a m b : Int) (len : Nat) (ha : a = X.length) (hm : m = (X.length : Int) + u.length) (hb : b = (X.length : Int) + u.length + v.length) (hl : len = (X ++ u ++ v ++ Y).length) :
    Calls Try.prog 48 #[.slice (some ⟨g, 0, none⟩) len cap, .int .i64 a, .int .i64 m, .int .i64 b, cmp] w fun e w' => e = .returned (.tuple #[]) ∧ RowE w' g cap (X ++ v ++ u ++ Y) ∧ Below B w w' := by
  have hle := hr.len
  have hlen : (len : Int) = X.length + u.length + v.length + Y.length := by rw [hl]; simp; omega
  have hbd : (len : Int) ≤ 9223372036854775807 := by rw [← hl] at hle; omega
  have hup : 0 < u.length := List.length_pos_iff.2 hu
  have hvp : 0 < v.length := List.length_pos_iff.2 hv
  have b1 : 0 ≤ a := by omega
  have b2 : a < m := by omega
  have b3 : m < b := by omega
  have b4 : b ≤ len := by omega
  have HR := Aside0.mk hr
  have HM := Aside0.mk (show m - a = u.length ∧ b - m = v.length ∧ m = (X.length : Int) + u.length ∧ len = (X ++ u ++ v ++ Y).length from ⟨by omega, by omega, hm, hl⟩)
  clear hr hle ha hm hb hl hlen hup hvp hu hv
  go_enter Try.func48, Try.ntmps48
  go_wp2_with fail
  go_loopg [10, 11] (u.length + v.length) (fun kq v10 v11 wr => ∃ (i j : Int) (X1 u1 v1 Y1 : List S36), v10 = .int .i64 i ∧ v11 = .int .i64 j ∧ 0 < i ∧ 0 < j ∧ i ≤ m ∧ m + j ≤ len ∧ Aside0 (i + j ≤ kq) ∧ Aside0 (i = u1.length ∧ j = v1.length ∧ m = (X1.length : Int) + u1.length ∧ len = (X1 ++ u1 ++ v1 ++ Y1).length) ∧ Aside0 (RowE wr g cap (X1 ++ u1 ++ v1 ++ Y1)) ∧ Aside0 (X1 ++ v1 ++ u1 ++ Y1 = X ++ v ++ u ++ Y) ∧ Aside0 (Below B w wr))
  case atStart => exact ⟨m - a, b - m, X, u, v, Y, by go_num, by go_num, by omega, by omega, by omega, by omega, ⟨by have := HM.out; omega⟩, ⟨HM.out.1, HM.out.2.1, HM.out.2.2.1, HM.out.2.2.2⟩, HR, ⟨rfl⟩, ⟨Below.refl _ _⟩⟩
  case round =>
    obtain ⟨i, j, X1, u1, v1, Y1, rfl, rfl, hi, hj, him, hjm, HK, HS, HRow, HT, HW⟩ := hrel
    have hsz := HW.out.size
    rcases Int.lt_trichotomy i j with hlt | heq | hgt
    · have hne : (i != j) = true := by simp; omega
      have hng : ¬ j < i := by omega
      have hq : v1 = v1.take (v1.length - u1.length) ++ v1.drop (v1.length - u1.length) := (List.take_append_drop _ _).symm
      have HC := Aside0.mk (swapRangeI cmp wr g cap B hg (Nat.le_trans hB hsz) X1 u1 (v1.take (v1.length - u1.length)) (v1.drop (v1.length - u1.length)) Y1 (by have := HS.out; simp; omega) (by have := HRow.out; rw [hq] at this; simpa using this) (m - i) (m + j - i) i len (by have := HS.out; omega) (by have := HS.out; simp; omega) HS.out.1 (by have := HS.out.2.2.2; rw [hq] at this; simpa using this))
      have HQ := Aside0.mk hq
      clear hq
      go_wp2_with (go_at_call 49; refine HC.out.mono ?_; rintro e w1 ⟨rfl, hrow, hb⟩)
      go_roundg (gk - 1)
      case measure => have := HK.out; omega
      case rel =>
        have h := HS.out
        refine ⟨i, j - i, X1, v1.drop (v1.length - u1.length), v1.take (v1.length - u1.length), u1 ++ Y1, rfl, by go_num, hi, by omega, him, by omega, ⟨by have := HK.out; omega⟩, ⟨by simp; omega, by simp; omega, by simp; omega, ?_⟩, ⟨by simpa using hrow⟩, ⟨?_⟩, ⟨HW.out.trans hb⟩⟩
        · have := h.2.2.2; simp at this ⊢; omega
        · rw [← HT.out]; conv => rhs; rw [HQ.out]
          simp
    · subst heq
      have hne : (i != i) = false := by simp
      have HC := Aside0.mk (swapRangeI cmp wr g cap B hg (Nat.le_trans hB hsz) X1 u1 [] v1 Y1 (by have := HS.out; omega) (by simpa using HRow.out) (m - i) m i len (by have := HS.out; omega) (by have := HS.out; simp; omega) HS.out.1 (by simpa using HS.out.2.2.2))
      go_wp2_with (go_at_call 49; refine HC.out.mono ?_; rintro e w1 ⟨rfl, hrow, hb⟩)
      go_end0
      refine ⟨rfl, ?_, HW.out.trans hb⟩
      rw [← HT.out]
      simpa using hrow
    · have hne : (i != j) = true := by simp; omega
      have hq : u1 = u1.take v1.length ++ u1.drop v1.length := (List.take_append_drop _ _).symm
      have HC := Aside0.mk (swapRangeI cmp wr g cap B hg (Nat.le_trans hB hsz) X1 (u1.take v1.length) (u1.drop v1.length) v1 Y1 (by have := HS.out; simp; omega) (by have := HRow.out; rw [hq] at this; simpa using this) (m - i) m j len (by have := HS.out; omega) (by have := HS.out; simp; omega) (by have := HS.out; simp; omega) (by have := HS.out.2.2.2; rw [hq] at this; simpa using this))
      have HQ := Aside0.mk hq
      clear hq
      go_wp2_with (go_at_call 49; refine HC.out.mono ?_; rintro e w1 ⟨rfl, hrow, hb⟩)
      go_roundg (gk - 1)
      case measure => have := HK.out; omega
      case rel =>
        have h := HS.out
        refine ⟨i - j, j, X1 ++ v1, u1.drop v1.length, u1.take v1.length, Y1, by go_num, rfl, by omega, hj, by omega, hjm, ⟨by have := HK.out; omega⟩, ⟨by simp; omega, by simp; omega, by simp; omega, ?_⟩, ⟨by simpa using hrow⟩, ⟨?_⟩, ⟨HW.out.trans hb⟩⟩
        · have := h.2.2.2; simp at this ⊢; omega
        · rw [← HT.out]; conv => rhs; rw [HQ.out]
          simp
end Go.Proofs.Ytlmjopodghikgaa.Print
end
section
/- Stable sorting, in plain lists: sorted by a key, and for each key the elements in their old order; two such lists are one. -/
namespace Go.Proofs.Ytlmjopodghikgaa.Stable
variable {α : Type} (key : α → Int)

def Srt (l : List α) : Prop := l.Pairwise fun a b => key a ≤ key b
def Same (xs ys : List α) : Prop := ∀ c, ys.filter (fun x => key x == c) = xs.filter (fun x => key x == c)
structure StableOf (xs ys : List α) : Prop where
  srt : Srt key ys
  same : Same key xs ys

variable {key}
theorem Same.refl (xs : List α) : Same key xs xs := fun _ => rfl
theorem Same.trans {xs ys zs : List α} (h : Same key xs ys) (k : Same key ys zs) : Same key xs zs := fun c => (k c).trans (h c)
theorem Same.symm {xs ys : List α} (h : Same key xs ys) : Same key ys xs := fun c => (h c).symm
theorem Same.append {xs ys xs' ys' : List α} (h : Same key xs ys) (k : Same key xs' ys') : Same key (xs ++ xs') (ys ++ ys') := fun c => by rw [List.filter_append, List.filter_append, h c, k c]
theorem Same.mem {xs ys : List α} (h : Same key xs ys) (x : α) : x ∈ ys ↔ x ∈ xs := by
  have := h (key x)
  have e : ∀ l : List α, x ∈ l ↔ x ∈ l.filter (fun y => key y == key x) := fun l => by simp
  rw [e ys, e xs, this]
theorem Same.length {xs ys : List α} (h : Same key xs ys) : ys.length = xs.length := by
  induction xs generalizing ys with
  | nil =>
    cases ys with
    | nil => rfl
    | cons y ys => exact absurd ((h.mem y).1 (List.mem_cons_self)) (by simp)
  | cons x xs ih =>
    have hx : x ∈ ys := (h.mem x).2 (List.mem_cons_self)
    have hf := h (key x)
    obtain ⟨A, B, rfl, hA⟩ : ∃ A B, ys = A ++ x :: B ∧ ∀ y ∈ A, key y ≠ key x := by
      have hne : ys.filter (fun y => key y == key x) ≠ [] := by rw [hf]; simp
      clear hx
      revert hf
      generalize xs.filter (fun y => key y == key x) = z
      intro hf
      have hf' : ys.filter (fun y => key y == key x) = x :: (List.filter (fun y => key y == key x) xs) := by rw [h (key x)]; simp
      clear hf hne h ih
      induction ys with
      | nil => simp at hf'
      | cons y ys ihy =>
        by_cases e : key y = key x
        · have : y = x := by
            simp only [List.filter_cons, e, beq_self_eq_true, if_true, List.cons.injEq] at hf'
            exact hf'.1
          exact ⟨[], ys, by rw [this]; rfl, by simp⟩
        · simp only [List.filter_cons, show (key y == key x) = false by simpa using e, Bool.false_eq_true, if_false] at hf'
          obtain ⟨A, B, hy, hA⟩ := ihy hf'
          exact ⟨y :: A, B, by rw [hy]; rfl, fun z hz => by
            rcases List.mem_cons.1 hz with rfl | hz
            · exact e
            · exact hA z hz⟩
    have hs : Same key xs (A ++ B) := fun c => by
      have hc := h c
      rw [List.filter_append, List.filter_cons] at hc
      rw [List.filter_append]
      by_cases e : key x = c
      · subst e
        have hA0 : A.filter (fun y => key y == key x) = [] := List.filter_eq_nil_iff.2 (fun y hy => by simpa using hA y hy)
        rw [hA0] at hc ⊢
        simpa using hc
      · simp only [show (key x == c) = false by simpa using e, Bool.false_eq_true, if_false, List.filter_cons] at hc
        exact hc
    have := ih hs
    simp only [List.length_append, List.length_cons] at this ⊢
    omega

theorem stable_unique : ∀ (xs ys : List α), Srt key xs → Srt key ys → Same key xs ys → ys = xs
  | [], ys, _, _, h => by
    cases ys with
    | nil => rfl
    | cons y ys => exact absurd ((h.mem y).1 (List.mem_cons_self)) (by simp)
  | x :: xs, [], _, _, h => absurd ((h.mem x).2 (List.mem_cons_self)) (by simp)
  | x :: xs, y :: ys, hx, hy, h => by
    unfold Srt at hx hy
    rw [List.pairwise_cons] at hx hy
    have hyx : key x ≤ key y := by
      rcases List.mem_cons.1 ((h.mem y).1 (List.mem_cons_self)) with e | e
      · rw [e]; exact Int.le_refl _
      · exact hx.1 y e
    have hxy : key y ≤ key x := by
      rcases List.mem_cons.1 ((h.mem x).2 (List.mem_cons_self)) with e | e
      · rw [e]; exact Int.le_refl _
      · exact hy.1 x e
    have he : key y = key x := Int.le_antisymm hxy hyx
    have h1 := h (key x)
    simp only [List.filter_cons, he, beq_self_eq_true, if_true, List.cons.injEq] at h1
    obtain ⟨rfl, h1⟩ := h1
    have hs : Same key xs ys := fun c => by
      have hc := h c
      by_cases e : key y = c
      · subst e
        exact h1
      · simpa [List.filter_cons, e] using hc
    rw [stable_unique xs ys hx.2 hy.2 hs]

/-- Two runs that share no key may change places. -/
theorem same_swap {u v : List α} (h : ∀ x ∈ v, ∀ y ∈ u, key x < key y) : Same key (u ++ v) (v ++ u) := fun c => by
  rw [List.filter_append, List.filter_append]
  by_cases hu : u.filter (fun x => key x == c) = []
  · rw [hu]; simp
  · have hv : v.filter (fun x => key x == c) = [] := by
      rw [List.filter_eq_nil_iff]
      intro x hx e
      apply hu
      rw [List.filter_eq_nil_iff]
      intro y hy e2
      have := h x hx y hy
      simp only [beq_iff_eq] at e e2
      omega
    rw [hv]; simp
theorem srt_append {u v : List α} (hu : Srt key u) (hv : Srt key v) (h : ∀ x ∈ u, ∀ y ∈ v, key x ≤ key y) : Srt key (u ++ v) := by
  unfold Srt
  rw [List.pairwise_append]
  exact ⟨hu, hv, h⟩
theorem srt_left {u v : List α} (h : Srt key (u ++ v)) : Srt key u := (List.pairwise_append.1 h).1
theorem srt_right {u v : List α} (h : Srt key (u ++ v)) : Srt key v := (List.pairwise_append.1 h).2.1
theorem srt_cross {u v : List α} (h : Srt key (u ++ v)) : ∀ x ∈ u, ∀ y ∈ v, key x ≤ key y := (List.pairwise_append.1 h).2.2

/-- SymMerge's step: two halves, each merged. -/
theorem merge_glue {u1 u2 v1 v2 s1 s2 : List α} (hu : Srt key (u1 ++ u2)) (hv : Srt key (v1 ++ v2)) (hA : ∀ x ∈ v1, ∀ y ∈ u2, key x < key y) (hB : ∀ x ∈ u1, ∀ y ∈ v2, key x ≤ key y)
    (h1 : StableOf key (u1 ++ v1) s1) (h2 : StableOf key (u2 ++ v2) s2) : StableOf key (u1 ++ u2 ++ (v1 ++ v2)) (s1 ++ s2) := by
  refine ⟨srt_append h1.srt h2.srt fun x hx y hy => ?_, ?_⟩
  · rcases List.mem_append.1 ((h1.same.mem x).1 hx) with hx | hx <;> rcases List.mem_append.1 ((h2.same.mem y).1 hy) with hy | hy
    · exact srt_cross hu x hx y hy
    · exact hB x hx y hy
    · exact Int.le_of_lt (hA x hx y hy)
    · exact srt_cross hv x hx y hy
  · have e : Same key (u1 ++ u2 ++ (v1 ++ v2)) ((u1 ++ v1) ++ (u2 ++ v2)) := by
      have h := ((Same.refl (key := key) u1).append (same_swap hA)).append (Same.refl v2)
      simpa [List.append_assoc] using h
    exact e.trans (h1.same.append h2.same)
/-- The last of a sorted run bounds it; the first, too. -/
theorem le_last {u : List α} (h : Srt key u) {x y : α} (hy : u[u.length - 1]? = some y) (hx : x ∈ u) : key x ≤ key y := by
  have hne : u ≠ [] := fun e => by subst e; cases hx
  have hl : u.length - 1 < u.length := by have := List.length_pos_iff.2 hne; omega
  rw [List.getElem?_eq_getElem hl] at hy
  injection hy with hy
  have e : u = u.take (u.length - 1) ++ [y] := by
    conv => lhs; rw [← List.take_append_drop (u.length - 1) u]
    rw [List.drop_eq_getElem_cons hl, hy]
    congr 2
    rw [List.drop_eq_nil_iff]; omega
  rw [e] at h hx
  rcases List.mem_append.1 hx with hx | hx
  · exact srt_cross h x hx y (List.mem_singleton.2 rfl)
  · rw [List.mem_singleton.1 hx]; exact Int.le_refl _
theorem first_le {u : List α} (h : Srt key u) {x y : α} (hy : u[0]? = some y) (hx : x ∈ u) : key y ≤ key x := by
  cases u with
  | nil => cases hx
  | cons z u =>
    simp only [List.getElem?_cons_zero, Option.some.injEq] at hy
    subst hy
    rcases List.mem_cons.1 hx with rfl | hx
    · exact Int.le_refl _
    · exact (List.pairwise_cons.1 h).1 x hx

/-- Insertion behind what is not greater. -/
def ins (x : α) : List α → List α
  | [] => [x]
  | y :: l => if key y ≤ key x then y :: ins x l else x :: y :: l
variable (key) in
def ssort (l : List α) : List α := l.foldl (fun out x => ins (key := key) x out) []
theorem ins_mem (x y : α) : ∀ (l : List α), y ∈ ins (key := key) x l ↔ y = x ∨ y ∈ l
  | [] => by simp [ins]
  | z :: l => by
    unfold ins
    split
    · rw [List.mem_cons, ins_mem x y l, List.mem_cons]
      constructor <;> (intro h; rcases h with h | h | h <;> simp [h])
    · simp
theorem ins_srt (x : α) : ∀ (l : List α), Srt key l → Srt key (ins (key := key) x l)
  | [], _ => by simp [ins, Srt]
  | z :: l, h => by
    have hz := List.pairwise_cons.1 h
    unfold ins
    split
    · rename_i hle
      refine List.pairwise_cons.2 ⟨fun y hy => ?_, ins_srt x l hz.2⟩
      rcases (ins_mem x y l).1 hy with rfl | hy
      · exact hle
      · exact hz.1 y hy
    · rename_i hle
      refine List.pairwise_cons.2 ⟨fun y hy => ?_, h⟩
      rcases List.mem_cons.1 hy with rfl | hy
      · omega
      · have := hz.1 y hy
        omega
theorem ins_same (x : α) : ∀ (l : List α), Srt key l → Same key (l ++ [x]) (ins (key := key) x l)
  | [], _ => Same.refl _
  | z :: l, h => by
    have hz := List.pairwise_cons.1 h
    unfold ins
    split
    · exact fun c => by
        have := ins_same x l hz.2 c
        simp only [List.cons_append, List.filter_cons, this]
    · rename_i hle
      have : Same key ((z :: l) ++ [x]) ([x] ++ (z :: l)) := same_swap fun a ha b hb => by
        have hb' := first_le h (x := b) (y := z) rfl hb
        rw [List.mem_singleton.1 ha]
        omega
      exact this
theorem ins_stable {xs l : List α} (x : α) (h : StableOf key xs l) : StableOf key (xs ++ [x]) (ins (key := key) x l) :=
  ⟨ins_srt x l h.srt, (h.same.append (Same.refl [x])).trans (ins_same x l h.srt)⟩
theorem foldl_stable : ∀ (l xs out : List α), StableOf key xs out → StableOf key (xs ++ l) (l.foldl (fun out x => ins (key := key) x out) out)
  | [], xs, out, h => by simpa using h
  | x :: l, xs, out, h => by
    have := foldl_stable l (xs ++ [x]) _ (ins_stable x h)
    simpa [List.append_assoc] using this
theorem ssort_stable (l : List α) : StableOf key l (ssort key l) := by
  have := foldl_stable (key := key) l [] [] ⟨List.Pairwise.nil, Same.refl _⟩
  simpa [ssort] using this
theorem StableOf.eq {xs ys : List α} (h : StableOf key xs ys) : ys = ssort key xs :=
  stable_unique _ _ (ssort_stable xs).srt h.srt (((ssort_stable xs).same.symm).trans h.same)
end Go.Proofs.Ytlmjopodghikgaa.Stable
end
