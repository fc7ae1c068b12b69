/- bournelaw39.small: the examples of the documentation come out as told. -/
import Derived.Test.YtlmjopodghikgaaHBal
import Derived.Test.YtlmjopodghikgaaHLines
namespace Go.Proofs.Ytlmjopodghikgaa.Print
open Go.RowKit Go.Proofs.YtlmjopodghikgaaW.PrintWords
set_option linter.unusedVariables false
set_option linter.unusedSimpArgs false

theorem flat_at : ∀ (l : List S36) (j i : Nat) (x : S36) (u : Value), l[j]? = some x → (cE x)[i]? = some u → (l.flatMap cE)[j * 7 + i]? = some u
  | [], j, i, x, u, h, _ => by simp at h
  | y :: l, 0, i, x, u, h, hu => by
    have : y = x := by simpa using h
    subst this
    have hi : i < 7 := by have := (List.getElem?_eq_some_iff.1 hu).1; rwa [cE_len] at this
    rw [List.flatMap_cons, Nat.zero_mul, Nat.zero_add, List.getElem?_append_left (by rw [cE_len]; exact hi)]
    exact hu
  | y :: l, j + 1, i, x, u, h, hu => by
    rw [List.flatMap_cons, List.getElem?_append_right (by rw [cE_len]; omega), cE_len, show (j + 1) * 7 + i - 7 = j * 7 + i by omega]
    exact flat_at l j i x u (by simpa using h) hu
/-- A literal's entries. -/
theorem litC {W : World} {g : Nat} {l : List S36} {cs : Array Value} (hc : cs = (l.flatMap cE).toArray) (hl : l.length ≤ maxLen) (h : W.heap[g]? = some (.cells cs 36 (0, 0))) : Kd.C k36 W (some ⟨g, 0, none⟩) l.length l := by
  have hr : RowE W g l.length l := ⟨cs, h, by rw [hc, List.size_toArray, flat_len], Nat.le_refl _, hl, fun j x hj i u hu => by rw [hc, List.getElem?_toArray]; exact flat_at l j i x u hj hu⟩
  exact (Kd.R_reads' (RowE.toR hr (base := 0) (ok := fun _ => True) (Nat.zero_le _) trivial)).2.2

def bournelaw39_small.f : Option Bool := some true

def sA : List S36 := [⟨3, 80, 1, 2, 50, 0, 0⟩, ⟨3, 80, -1, 2, -50, 0, 0⟩]
def sB : List S36 := [⟨3, 200, 1, 2, -8, 0, 0⟩, ⟨3, 200, -1, 2, 8, 0, 0⟩]
def sL : List S36 := [⟨3, 80, 1, 2, 50, 0, 0⟩, ⟨3, 80, -1, 2, -50, 0, 0⟩, ⟨3, 200, 1, 2, -8, 0, 0⟩, ⟨3, 200, -1, 2, 8, 0, 0⟩]
theorem sm1 : ledger_Post.f [] sA = some (sA, 0) := by kernel_rfl
theorem sm2 : ledger_Post.f sA sB = some (sL, 0) := by kernel_rfl
theorem sm3 : ledger_Post.f sL [⟨3, 199, 0, 0, 0, 0, 0⟩] = some ([], 15) := by kernel_rfl
theorem sm4 : ledger_Post.f sL [⟨3, 300, 0, 0, 5, 0, 0⟩] = some ([], 1) := by kernel_rfl
theorem sm5 : ledger_Account.f sL 1 (-1) 3 100 = some 50 := by kernel_rfl
theorem sm6 : ledger_Account.f sL 1 (-1) 3 200 = some 42 := by kernel_rfl
theorem sm7 : ledger_Account.f sL 1 (-1) 2 300 = some 0 := by kernel_rfl
theorem sm8 : ledger_Account.f sL (-1) (-1) 9 999 = some 0 := by kernel_rfl
theorem sm9 : ledger_Balanced.f sL 999 = some true := by kernel_rfl
theorem sm10 : ∃ r, ledger_Lines.f sL 1 0 9 999 = some r ∧ r.length = 2 := ⟨[⟨3, 80, 1, 2, 50, 0, 0⟩, ⟨3, 200, 1, 2, -8, 0, 0⟩], by kernel_rfl, rfl⟩
theorem sm11 : ∃ r, ledger_Lines.f sL 1 0 9 100 = some r ∧ r.length = 1 := ⟨[⟨3, 80, 1, 2, 50, 0, 0⟩], by kernel_rfl, rfl⟩
theorem maxLen_big : 100 ≤ maxLen := by unfold maxLen; omega

set_option maxHeartbeats 1000000 in
theorem bournelaw39_small.calls (r : Bool) (w : World) (h : bournelaw39_small.f = some r) : Calls Try.prog 8 #[] w fun e w' => e = .returned (.bool r) ∧ Below w.heap.size w w' := by
  obtain rfl : true = r := by injection h
  go_enter Try.func8, Try.ntmps8
  go_wp2_with fail
  go_at_call 9
  refine (ledger_Post.calls none 0 [] (some ⟨w.heap.size, 0, none⟩) (sA : List S36).length sA sA 0 _ (Kd.C_nil _ _) (Nat.le_refl _) (litC (cs := _) rfl (Nat.le_trans (by decide) maxLen_big) (MapKept.heap_alloc w _).1) (Nat.le_refl _) sm1).mono ?_
  rintro e w1 ⟨v1, rfl, hR1, hb1⟩
  obtain ⟨A1, c1, rfl, hc1, hC1⟩ := Kd.R_reads hR1
  have hm1 : Below w.heap.size w w1 := ((Below.refl _ w).alloc (Nat.le_refl _) _).trans (hb1.mono (by simp))
  have HC1 := Aside0.mk hC1
  have HB1 := Aside0.mk hm1
  clear hR1 hb1 hC1 hm1
  go_wp2_with fail
  go_at_call 9
  refine (ledger_Post.calls A1 c1 sA (some ⟨w1.heap.size, 0, none⟩) (sB : List S36).length sB sL 0 _ (Kd.C_alloc HC1.out _) hc1 (litC (cs := _) rfl (Nat.le_trans (by decide) maxLen_big) (MapKept.heap_alloc w1 _).1) (Nat.le_refl _) sm2).mono ?_
  rintro e w2 ⟨v2, rfl, hR2, hb2⟩
  obtain ⟨A2, c2, rfl, hc2, hC2⟩ := Kd.R_reads hR2
  have hm2 : Below w1.heap.size w1 w2 := ((Below.refl _ w1).alloc (Nat.le_refl _) _).trans (hb2.mono (by simp))
  have HC2 := Aside0.mk hC2
  have HB2 := Aside0.mk (HB1.out.trans (hm2.mono HB1.out.size))
  clear hR2 hb2 hC2 hm2
  go_wp2_with fail
  go_at_call 9
  refine (ledger_Post.calls A2 c2 sL (some ⟨w2.heap.size, 0, none⟩) ([⟨3, 199, 0, 0, 0, 0, 0⟩] : List S36).length [⟨3, 199, 0, 0, 0, 0, 0⟩] [] 15 _ (Kd.C_alloc HC2.out _) hc2 (litC (cs := _) rfl (Nat.le_trans (by decide) maxLen_big) (MapKept.heap_alloc w2 _).1) (Nat.le_refl _) sm3).mono ?_
  rintro e w3 ⟨v3, rfl, hR3, hb3⟩
  obtain ⟨A3, c3, rfl, hc3, hC3⟩ := Kd.R_reads hR3
  have hm3 : Below w2.heap.size w2 w3 := ((Below.refl _ w2).alloc (Nat.le_refl _) _).trans (hb3.mono (by simp))
  have HC3 := Aside0.mk (Kd.C_below HC2.out hm3)
  have HB3 := Aside0.mk (HB2.out.trans (hm3.mono HB2.out.size))
  clear hR3 hb3 hC3 hm3
  go_wp2_with fail
  go_at_call 9
  refine (ledger_Post.calls A2 c2 sL (some ⟨w3.heap.size, 0, none⟩) ([⟨3, 300, 0, 0, 5, 0, 0⟩] : List S36).length [⟨3, 300, 0, 0, 5, 0, 0⟩] [] 1 _ (Kd.C_alloc HC3.out _) hc2 (litC (cs := _) rfl (Nat.le_trans (by decide) maxLen_big) (MapKept.heap_alloc w3 _).1) (Nat.le_refl _) sm4).mono ?_
  rintro e w4 ⟨v4, rfl, hR4, hb4⟩
  obtain ⟨A4, c4, rfl, hc4, hC4⟩ := Kd.R_reads hR4
  have hm4 : Below w3.heap.size w3 w4 := ((Below.refl _ w3).alloc (Nat.le_refl _) _).trans (hb4.mono (by simp))
  have HC4 := Aside0.mk (Kd.C_below HC3.out hm4)
  have HB4 := Aside0.mk (HB3.out.trans (hm4.mono HB3.out.size))
  clear hR4 hb4 hC4 hm4
  go_wp2_with fail
  go_at_call 12
  refine (ledger_Account.calls A2 c2 sL 1 (-1) 3 100 50 _ HC4.out hc2 sm5).mono ?_
  rintro e w5 ⟨rfl, hm5⟩
  have HC5 := Aside0.mk (Kd.C_below HC4.out hm5)
  have HB5 := Aside0.mk (HB4.out.trans (hm5.mono HB4.out.size))
  clear hm5
  go_wp2_with fail
  go_at_call 12
  refine (ledger_Account.calls A2 c2 sL 1 (-1) 3 200 42 _ HC5.out hc2 sm6).mono ?_
  rintro e w6 ⟨rfl, hm6⟩
  have HC6 := Aside0.mk (Kd.C_below HC5.out hm6)
  have HB6 := Aside0.mk (HB5.out.trans (hm6.mono HB5.out.size))
  clear hm6
  go_wp2_with fail
  go_at_call 12
  refine (ledger_Account.calls A2 c2 sL 1 (-1) 2 300 0 _ HC6.out hc2 sm7).mono ?_
  rintro e w7 ⟨rfl, hm7⟩
  have HC7 := Aside0.mk (Kd.C_below HC6.out hm7)
  have HB7 := Aside0.mk (HB6.out.trans (hm7.mono HB6.out.size))
  clear hm7
  go_wp2_with fail
  go_at_call 12
  refine (ledger_Account.calls A2 c2 sL (-1) (-1) 9 999 0 _ HC7.out hc2 sm8).mono ?_
  rintro e w8 ⟨rfl, hm8⟩
  have HC8 := Aside0.mk (Kd.C_below HC7.out hm8)
  have HB8 := Aside0.mk (HB7.out.trans (hm8.mono HB7.out.size))
  clear hm8
  go_wp2_with fail
  go_at_call 14
  refine (ledger_Balanced.calls A2 c2 sL 999 true _ HC8.out hc2 sm9).mono ?_
  rintro e w9 ⟨rfl, hm9⟩
  have HC9 := Aside0.mk (Kd.C_below HC8.out hm9)
  have HB9 := Aside0.mk (HB8.out.trans (hm9.mono HB8.out.size))
  clear hm9
  obtain ⟨r10, h10, e10⟩ := sm10
  go_wp2_with fail
  go_at_call 16
  refine (ledger_Lines.calls A2 c2 sL 1 0 9 999 r10 _ HC9.out hc2 h10).mono ?_
  rintro e w10 ⟨v10, rfl, hR10, hm10⟩
  obtain ⟨A10, c10, rfl, hc10, hC10⟩ := Kd.R_reads hR10
  clear hR10 hC10
  have HC10 := Aside0.mk (Kd.C_below HC9.out hm10)
  have HB10 := Aside0.mk (HB9.out.trans (hm10.mono HB9.out.size))
  clear hm10
  obtain ⟨r11, h11, e11⟩ := sm11
  go_wp2_with fail
  go_at_call 16
  refine (ledger_Lines.calls A2 c2 sL 1 0 9 100 r11 _ HC10.out hc2 h11).mono ?_
  rintro e w11 ⟨v11, rfl, hR11, hm11⟩
  obtain ⟨A11, c11, rfl, hc11, hC11⟩ := Kd.R_reads hR11
  clear hR11 hC11
  have HC11 := Aside0.mk (Kd.C_below HC10.out hm11)
  have HB11 := Aside0.mk (HB10.out.trans (hm11.mono HB10.out.size))
  clear hm11
  go_wp2_with fail
  go_ret
  exact ⟨rfl, HB11.out⟩
end Go.Proofs.Ytlmjopodghikgaa.Print
