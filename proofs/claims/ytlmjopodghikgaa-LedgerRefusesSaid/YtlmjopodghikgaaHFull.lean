/- ledger.full: whether the absolute values of the litres of lists are together more than 2^62. -/
import Derived.Test.YtlmjopodghikgaaHAcc
namespace Go.Proofs.Ytlmjopodghikgaa.Print
open Go.RowKit Go.Proofs.YtlmjopodghikgaaW.PrintWords
set_option linter.unusedVariables false
set_option linter.unusedSimpArgs false

def absOf (l : List Int) : Int := (l.map fun n => if n < 0 then -n else n).sum
def absSum (l : List S36) : Int := absOf (l.map (·.f4))
def fullL (ls : List (List S36)) : Bool := decide ((ls.map absSum).sum > 4611686018427387904)

theorem absOf_nonneg : ∀ (l : List Int), 0 ≤ absOf l
  | [] => by simp [absOf]
  | x :: l => by
    have := absOf_nonneg l
    unfold absOf at this ⊢
    simp only [List.map_cons, List.sum_cons]
    split <;> omega
theorem absOf_append (l m : List Int) : absOf (l ++ m) = absOf l + absOf m := by simp [absOf]
theorem absOf_le (l : List Int) (i : Nat) : absOf (l.take i) ≤ absOf l := by
  have := absOf_append (l.take i) (l.drop i)
  rw [List.take_append_drop] at this
  have := absOf_nonneg (l.drop i)
  omega
theorem absOf_succ (l : List Int) (i : Int) (h0 : 0 ≤ i) (h1 : i < l.length) : absOf (l.take (i + 1).toNat) = absOf (l.take i.toNat) + if rd l i < 0 then -(rd l i) else rd l i := by
  have hl : i.toNat < l.length := by omega
  rw [show (i + 1).toNat = i.toNat + 1 by omega, List.take_succ_eq_append_getElem hl, absOf_append]
  simp [absOf, rd, List.getD_eq_getElem?_getD, List.getElem?_eq_getElem hl]
theorem sums_nonneg : ∀ (ls : List (List S36)), 0 ≤ (ls.map absSum).sum
  | [] => by simp
  | x :: l => by
    have := sums_nonneg l
    have := absOf_nonneg (x.map (·.f4))
    simp only [List.map_cons, List.sum_cons]
    unfold absSum at *
    omega
/-- What has been added when i lists and j numbers of the next are behind. -/
def soFar (ls : List (List S36)) (i : Nat) (l : List Int) (j : Nat) : Int := ((ls.take i).map absSum).sum + absOf (l.take j)
theorem soFar_le (ls : List (List S36)) (i j : Nat) (x : List S36) (hx : ls[i]? = some x) : soFar ls i (x.map (·.f4)) j ≤ (ls.map absSum).sum := by
  have hi := (List.getElem?_eq_some_iff.1 hx).1
  have e : ls = ls.take i ++ x :: ls.drop (i + 1) := by
    have h := List.getElem?_eq_getElem hi
    rw [hx] at h
    injection h with h
    rw [h, ← List.drop_eq_getElem_cons hi, List.take_append_drop]
  have h2 := absOf_le (x.map (·.f4)) j
  have h3 := sums_nonneg (ls.drop (i + 1))
  have h4 : (ls.map absSum).sum = ((ls.take i).map absSum).sum + (absSum x + ((ls.drop (i + 1)).map absSum).sum) := by
    conv => lhs; rw [e]
    rw [List.map_append, List.sum_append, List.map_cons, List.sum_cons]
  unfold soFar
  rw [h4]
  unfold absSum at *
  omega
theorem soFar_next (ls : List (List S36)) (i : Nat) (x : List S36) (hx : ls[i]? = some x) (y : List Int) : soFar ls (i + 1) y 0 = soFar ls i (x.map (·.f4)) x.length := by
  have hi := (List.getElem?_eq_some_iff.1 hx).1
  have h := List.getElem?_eq_getElem hi
  rw [hx] at h
  injection h with h
  unfold soFar
  rw [List.take_succ_eq_append_getElem hi, List.map_append, List.sum_append, ← h, List.take_of_length_le (by simp : (x.map (·.f4)).length ≤ x.length)]
  simp [absSum, absOf]

theorem u64_size (n : Int) (hn : -9223372036854775808 ≤ n ∧ n ≤ 9223372036854775807) : (n < 0 → IntKind.u64.wrap (-(IntKind.u64.wrap n)) = -n) ∧ (0 ≤ n → IntKind.u64.wrap n = n) := by
  simp only [u64_wrap]
  constructor <;> intro h <;> omega

set_option maxHeartbeats 1000000 in
theorem fullF (A0 : Option Addr) (c0 : Nat) (ls : List (List S36)) (w : World) (hr0 : Kd.C (Kd.slice 36 k36) w A0 ls.length ls) (hc0 : ls.length ≤ c0) (hl : ∀ l ∈ ls, l.length ≤ 35184372088832 ∧ i64E l = true) :
    Calls Try.prog 23 #[.slice A0 ls.length c0] w fun e w' => e = .returned (.bool (fullL ls)) ∧ Below w.heap.size w w' := by
  have hm := hr0.2.1
  have HR0 := Aside0.mk hr0
  have HL := Aside0.mk hl
  clear hr0 hl
  go_enter Try.func23, Try.ntmps23
  go_wp2_with fail
  go_loopg [3, 5, 7, 8, 9, 10, 13] ls.length (fun kq v3 _ _ _ _ _ v13 wr => ∃ (i s : Int), v13 = .int .i64 i ∧ v3 = .int .u64 s ∧ 0 ≤ i ∧ Aside0 (i + kq = ls.length) ∧ 0 ≤ s ∧ s ≤ 4611686018427387904 ∧ Aside0 (s = soFar ls i.toNat [] 0) ∧ Aside0 (Below w.heap.size w wr))
  case atStart => exact ⟨0, 0, rfl, rfl, by omega, ⟨by omega⟩, by omega, by omega, ⟨by simp [soFar, absOf]⟩, ⟨Below.refl _ _⟩⟩
  case round =>
    obtain ⟨i, s, rfl, rfl, h0, HK, hs0, hs1, HS, HW⟩ := hrel
    obtain ⟨ko, rfl⟩ : ∃ ko, ko = gk := ⟨_, rfl⟩
    by_cases c2 : i < ls.length
    · obtain ⟨ad, cc, e, hcl, hK, hcell⟩ := Kd.C_get (Kd.C_below HR0.out HW.out) [] i h0 c2
      cases e
      obtain ⟨A1, c1, rfl, hc1, hC1⟩ := hK
      have hx0 : wr.cell? (ad.add i.toNat) = some (.slice A1 (ls.getD i.toNat []).length c1) := by
        have := hcell 0 _ rfl
        simpa [show (Kd.slice 36 k36).sz = 1 from rfl] using this
      have hil : i.toNat < ls.length := by omega
      have hx : ls[i.toNat]? = some (ls.getD i.toNat []) := by rw [List.getD_eq_getElem?_getD, List.getElem?_eq_getElem hil]; rfl
      have hmem : ls.getD i.toNat [] ∈ ls := List.mem_of_getElem? hx
      have HX := Aside0.mk hx
      have HM := Aside0.mk (HL.out _ hmem)
      have HC1 := Aside0.mk hC1
      clear hcell hcl hC1 hmem hil hx
      generalize ls.getD i.toNat [] = x at hx0 HX HM HC1 hc1
      have HF := Aside0.mk (litres_f x HM.out.1)
      go_wp2_with fail
      go_at_call 28
      refine (ledger_litres.calls _ A1 c1 x _ wr HC1.out hc1 HF.out).mono ?_
      rintro e w2 ⟨v2, rfl, hR2, hb2⟩
      obtain ⟨A2, c3, rfl, hc2, hC2⟩ := Kd.R_reads hR2
      have HW2 := Aside0.mk (HW.out.trans (hb2.mono HW.out.size))
      have HI : Aside0 ((x.map (·.f4)).all i64B = true) := ⟨by
        have := HM.out.2
        unfold i64E at this
        simpa [List.all_map] using this⟩
      have HT := Aside0.mk (soFar_le ls i.toNat · x HX.out)
      have HN := Aside0.mk (soFar_next ls i.toNat x HX.out)
      have HXL : Aside0 (x.length = (x.map (·.f4)).length) := ⟨by simp⟩
      rw [← HXL.out] at hC2
      rw [← HXL.out]
      have HC2 := Aside0.mk hC2
      have hm2 := hC2.2.1
      clear hR2 hb2 hC2 hc2 hx0 hc1
      generalize x.map (·.f4) = y at HC2 HI HT HN HXL
      have HS0 : Aside0 (s = soFar ls i.toNat y 0) := ⟨by have := HS.out; unfold soFar at this ⊢; simpa using this⟩
      clear HS
      have HK' : Aside0 (i + ko = ls.length) := HK
      go_wp2_with fail
      go_loopg [3, 7, 8, 9, 10, 20] x.length (fun kr v3 _ _ _ _ v20 wq => ∃ (j t : Int), v20 = .int .i64 j ∧ v3 = .int .u64 t ∧ 0 ≤ j ∧ Aside0 (j + kr = x.length) ∧ 0 ≤ t ∧ t ≤ 4611686018427387904 ∧ Aside0 (t = soFar ls i.toNat y j.toNat) ∧ Drawn0 w2 wq)
      case atStart => exact ⟨0, s, rfl, rfl, by omega, ⟨by omega⟩, hs0, hs1, HS0, Drawn0.refl _⟩
      case round =>
        obtain ⟨j, t, rfl, rfl, j0, HJ, ht0, ht1, HTT, ⟨m2, rfl⟩⟩ := hrel
        have HWm : Aside0 (Below w.heap.size w (w2.drewN m2)) := ⟨HW2.out.trans ((Drawn0.mk ⟨m2, rfl⟩ : Drawn0 w2 (w2.drewN m2)).below.mono HW2.out.size)⟩
        by_cases c3 : j < x.length
        · obtain ⟨ad2, e2, hy0⟩ := Kd.at_int HC2.out j j0 c3
          cases e2
          have hrd := rd_i64 HI.out j j0 (by have := HXL.out; omega)
          obtain ⟨hneg, hpos⟩ := u64_size (rd y j) hrd
          have HSUC := Aside0.mk (absOf_succ y j j0 (by have := HXL.out; omega))
          have HJ' := Aside0.mk (HT.out (j + 1).toNat)
          have hstep : Aside0 (soFar ls i.toNat y (j + 1).toNat = t + if rd y j < 0 then -(rd y j) else rd y j) := ⟨by
            have h1 := HTT.out
            have h2 := HSUC.out
            unfold soFar at h1 ⊢
            rw [h2]
            omega⟩
          clear HSUC
          generalize rd y j = q at hy0 hrd hneg hpos hstep
          obtain ⟨q1, q2⟩ := hrd
          by_cases hq : q < 0
          · have hsz := hneg hq
            have hadd : ∀ W, (callFunc 38 #[.int .u64 t, .int .u64 (-q), .int .u64 0]).run Try.prog W = .ok (.value (.tuple #[.int .u64 (t + -q), .int .u64 0])) W := fun W => by
              have := add64_run t (-q) ht0 (by omega) (by omega) (by omega) W
              rwa [show (t + -q) % 18446744073709551616 = t + -q by omega, show (t + -q) / 18446744073709551616 = 0 by omega] at this
            rw [if_pos hq] at hstep
            clear hneg hpos
            by_cases hbig : 4611686018427387904 < t + -q
            · go_wp2_with fail
              go_ret
              refine ⟨?_, HWm.out⟩
              have h1 := HJ'.out
              rw [hstep.out] at h1
              rw [show fullL ls = true from by unfold fullL; exact decide_eq_true (by omega)]
              rfl
            · go_wp2_with fail
              go_roundg (gk - 1)
              case measure => have := HJ.out; omega
              case rel => exact ⟨j + 1, t + -q, rfl, rfl, by omega, ⟨by have := HJ.out; omega⟩, by omega, by omega, ⟨hstep.out.symm⟩, ⟨m2, rfl⟩⟩
          · have hsz := hpos (by omega)
            have hadd : ∀ W, (callFunc 38 #[.int .u64 t, .int .u64 q, .int .u64 0]).run Try.prog W = .ok (.value (.tuple #[.int .u64 (t + q), .int .u64 0])) W := fun W => by
              have := add64_run t q ht0 (by omega) (by omega) (by omega) W
              rwa [show (t + q) % 18446744073709551616 = t + q by omega, show (t + q) / 18446744073709551616 = 0 by omega] at this
            rw [if_neg hq] at hstep
            clear hneg hpos
            by_cases hbig : 4611686018427387904 < t + q
            · go_wp2_with fail
              go_ret
              refine ⟨?_, HWm.out⟩
              have h1 := HJ'.out
              rw [hstep.out] at h1
              rw [show fullL ls = true from by unfold fullL; exact decide_eq_true (by omega)]
              rfl
            · go_wp2_with fail
              go_roundg (gk - 1)
              case measure => have := HJ.out; omega
              case rel => exact ⟨j + 1, t + q, rfl, rfl, by omega, ⟨by have := HJ.out; omega⟩, by omega, by omega, ⟨hstep.out.symm⟩, ⟨m2, rfl⟩⟩
        · have hj : Aside0 (j.toNat = x.length) := ⟨by have := HJ.out; omega⟩
          go_wp2_with fail
          go_roundg (ko - 1)
          case measure => have := HK'.out; omega
          case rel => exact ⟨i + 1, t, rfl, rfl, by omega, ⟨by have := HK'.out; omega⟩, ht0, ht1, ⟨by
            rw [HTT.out, hj.out, show (i + 1).toNat = i.toNat + 1 by omega]
            exact (HN.out []).symm⟩, HWm⟩
    · have hil : Aside0 (i.toNat = ls.length) := ⟨by have := HK.out; omega⟩
      go_wp2_with fail
      go_ret
      refine ⟨?_, HW.out⟩
      have h1 := HS.out
      rw [hil.out] at h1
      have h2 : s = (ls.map absSum).sum := by rw [h1]; simp [soFar, absOf]
      rw [show fullL ls = false from by unfold fullL; exact decide_eq_false (by omega)]
      rfl
end Go.Proofs.Ytlmjopodghikgaa.Print
