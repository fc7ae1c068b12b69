/- bournelaw06.DiskReorders: the walk. -/
import Derived.Test.YtbhlpnkccdcdiaaKReordP
import Derived.Test.YtbhlpnkccdcdiaaKTurns
import Derived.Deep.QuietTactic
import Derived.BigQuiet
namespace Go.Proofs.Ytbhlpnkccdcdiaa.Dk
open Go.RowKit Go.Proofs.YtbhlpnkccdcdiaaW.PrintWords Go.Lib
set_option linter.unusedVariables false
set_option linter.unusedSimpArgs false
theorem wrap_two (p q : Nat) (hp : p ≤ 60000) (hq : q ≤ 60000) : wrap64 ((p : Int) + q) = (p : Int) + q := by
  simp only [wrap64]
  omega
theorem byte_at {S : ByteArray} {i : Nat} (h : i < S.size) (hb : S.data.toList[i]? = some 0) : S[i] = 0 := by
  have h1 : S.data[i]? = some 0 := by rw [← Array.getElem?_toList]; exact hb
  have h2 : i < S.data.size := h
  rw [Array.getElem?_eq_getElem h2] at h1
  injection h1

set_option maxRecDepth 100000 in
set_option maxHeartbeats 4000000 in
theorem reord_a (a b c : ByteArray) (A : Option Addr) (c4 : Nat) (keep : List Int) (w : World) (ha : a.size ≤ 140737488355328) (hb : b.size ≤ 140737488355328) (hc : c.size ≤ 140737488355328) (hk : Kd.C (Kd.int .i64) w A keep.length keep) (ha' : a.data.toList = []) : Calls Try.prog 4 #[.string a, .string b, .string c, .slice A keep.length c4] w fun e w' => e = .returned (.bool true) ∧ Below w.heap.size w w' := by
  have HK := Aside0.mk hk
  clear hk
  have hw1 : wrap64 ((a.size : Int) + b.size) = (a.size : Int) + b.size := by simp only [wrap64]; omega
  have hw2 : wrap64 ((a.size : Int) + b.size + c.size) = (a.size : Int) + b.size + c.size := by simp only [wrap64]; omega
  have ha0 : (a.toList.isEmpty) = true := by rw [toList_data, ha']; rfl
  go_enter Try.func4, Try.ntmps4
  go_wp2_with fail
  go_at_call 13
  refine (small6F w).mono ?_
  rintro e w1 ⟨rfl, hb⟩
  have HB1 := Aside0.mk hb
  clear hb
  go_wp2_with fail
  go_at_call 14
  refine (newP HB1.out).mono ?_
  rintro e w2 ⟨rfl, hd, _⟩
  have HD2 := Aside0.mk hd
  clear hd
  go_wp2_with fail
  go_ret
  exact ⟨rfl, HD2.out.far⟩

set_option maxRecDepth 100000 in
set_option maxHeartbeats 4000000 in
theorem reord_b (a b c : ByteArray) (A : Option Addr) (c4 : Nat) (keep : List Int) (w : World) (ha : a.size ≤ 140737488355328) (hb : b.size ≤ 140737488355328) (hc : c.size ≤ 140737488355328) (hk : Kd.C (Kd.int .i64) w A keep.length keep) (ha' : a.data.toList ≠ []) (hb' : b.data.toList = []) : Calls Try.prog 4 #[.string a, .string b, .string c, .slice A keep.length c4] w fun e w' => e = .returned (.bool true) ∧ Below w.heap.size w w' := by
  have HK := Aside0.mk hk
  clear hk
  have hw1 : wrap64 ((a.size : Int) + b.size) = (a.size : Int) + b.size := by simp only [wrap64]; omega
  have hw2 : wrap64 ((a.size : Int) + b.size + c.size) = (a.size : Int) + b.size + c.size := by simp only [wrap64]; omega
  have ha0 : (a.toList.isEmpty) = false := by rw [toList_data]; simpa using ha'
  have hb0 : (b.toList.isEmpty) = true := by rw [toList_data, hb']; rfl
  go_enter Try.func4, Try.ntmps4
  go_wp2_with fail
  go_at_call 13
  refine (small6F w).mono ?_
  rintro e w1 ⟨rfl, hb⟩
  have HB1 := Aside0.mk hb
  clear hb
  go_wp2_with fail
  go_at_call 14
  refine (newP HB1.out).mono ?_
  rintro e w2 ⟨rfl, hd, _⟩
  have HD2 := Aside0.mk hd
  clear hd
  go_wp2_with fail
  go_ret
  exact ⟨rfl, HD2.out.far⟩

set_option maxRecDepth 100000 in
set_option maxHeartbeats 4000000 in
theorem reord_c (a b c : ByteArray) (A : Option Addr) (c4 : Nat) (keep : List Int) (w : World) (ha : a.size ≤ 140737488355328) (hb : b.size ≤ 140737488355328) (hc : c.size ≤ 140737488355328) (hk : Kd.C (Kd.int .i64) w A keep.length keep) (ha' : a.data.toList ≠ []) (hb' : b.data.toList ≠ []) (hc' : c.data.toList = []) : Calls Try.prog 4 #[.string a, .string b, .string c, .slice A keep.length c4] w fun e w' => e = .returned (.bool true) ∧ Below w.heap.size w w' := by
  have HK := Aside0.mk hk
  clear hk
  have hw1 : wrap64 ((a.size : Int) + b.size) = (a.size : Int) + b.size := by simp only [wrap64]; omega
  have hw2 : wrap64 ((a.size : Int) + b.size + c.size) = (a.size : Int) + b.size + c.size := by simp only [wrap64]; omega
  have ha0 : (a.toList.isEmpty) = false := by rw [toList_data]; simpa using ha'
  have hb0 : (b.toList.isEmpty) = false := by rw [toList_data]; simpa using hb'
  have hc0 : (c.toList.isEmpty) = true := by rw [toList_data, hc']; rfl
  go_enter Try.func4, Try.ntmps4
  go_wp2_with fail
  go_at_call 13
  refine (small6F w).mono ?_
  rintro e w1 ⟨rfl, hb⟩
  have HB1 := Aside0.mk hb
  clear hb
  go_wp2_with fail
  go_at_call 14
  refine (newP HB1.out).mono ?_
  rintro e w2 ⟨rfl, hd, _⟩
  have HD2 := Aside0.mk hd
  clear hd
  go_wp2_with fail
  go_ret
  exact ⟨rfl, HD2.out.far⟩

set_option maxRecDepth 100000 in
set_option maxHeartbeats 4000000 in
theorem reord_long (a b c : ByteArray) (A : Option Addr) (c4 : Nat) (keep : List Int) (w : World) (ha : a.size ≤ 140737488355328) (hb : b.size ≤ 140737488355328) (hc : c.size ≤ 140737488355328) (hk : Kd.C (Kd.int .i64) w A keep.length keep) (ha' : a.data.toList ≠ []) (hb' : b.data.toList ≠ []) (hc' : c.data.toList ≠ []) (hl : ¬ a.size + b.size + c.size ≤ 60000) : Calls Try.prog 4 #[.string a, .string b, .string c, .slice A keep.length c4] w fun e w' => e = .returned (.bool true) ∧ Below w.heap.size w w' := by
  have HK := Aside0.mk hk
  clear hk
  have hw1 : wrap64 ((a.size : Int) + b.size) = (a.size : Int) + b.size := by simp only [wrap64]; omega
  have hw2 : wrap64 ((a.size : Int) + b.size + c.size) = (a.size : Int) + b.size + c.size := by simp only [wrap64]; omega
  have ha0 : (a.toList.isEmpty) = false := by rw [toList_data]; simpa using ha'
  have hb0 : (b.toList.isEmpty) = false := by rw [toList_data]; simpa using hb'
  have hc0 : (c.toList.isEmpty) = false := by rw [toList_data]; simpa using hc'
  have hlb : decide ((60000 : Int) < a.size + b.size + c.size) = true := decide_eq_true (by omega)
  go_enter Try.func4, Try.ntmps4
  go_wp2_with fail
  go_at_call 13
  refine (small6F w).mono ?_
  rintro e w1 ⟨rfl, hb⟩
  have HB1 := Aside0.mk hb
  clear hb
  go_wp2_with fail
  go_at_call 14
  refine (newP HB1.out).mono ?_
  rintro e w2 ⟨rfl, hd, _⟩
  have HD2 := Aside0.mk hd
  clear hd
  go_wp2_with fail
  go_ret
  exact ⟨rfl, HD2.out.far⟩

set_option maxRecDepth 100000 in
set_option maxHeartbeats 4000000 in
theorem reord_keep (a b c : ByteArray) (A : Option Addr) (c4 : Nat) (keep : List Int) (w : World) (ha : a.size ≤ 140737488355328) (hb : b.size ≤ 140737488355328) (hc : c.size ≤ 140737488355328) (hk : Kd.C (Kd.int .i64) w A keep.length keep) (ha' : a.data.toList ≠ []) (hb' : b.data.toList ≠ []) (hc' : c.data.toList ≠ []) (hl : a.size + b.size + c.size ≤ 60000) (h3 : keep.length ≠ 3) : Calls Try.prog 4 #[.string a, .string b, .string c, .slice A keep.length c4] w fun e w' => e = .returned (.bool true) ∧ Below w.heap.size w w' := by
  have HK := Aside0.mk hk
  clear hk
  have hw1 : wrap64 ((a.size : Int) + b.size) = (a.size : Int) + b.size := by simp only [wrap64]; omega
  have hw2 : wrap64 ((a.size : Int) + b.size + c.size) = (a.size : Int) + b.size + c.size := by simp only [wrap64]; omega
  have ha0 : (a.toList.isEmpty) = false := by rw [toList_data]; simpa using ha'
  have hb0 : (b.toList.isEmpty) = false := by rw [toList_data]; simpa using hb'
  have hc0 : (c.toList.isEmpty) = false := by rw [toList_data]; simpa using hc'
  have hlb : decide ((60000 : Int) < a.size + b.size + c.size) = false := decide_eq_false (by omega)
  have h3b : ((keep.length : Int) != 3) = true := bne_iff_ne.2 (by omega)
  go_enter Try.func4, Try.ntmps4
  go_wp2_with fail
  go_at_call 13
  refine (small6F w).mono ?_
  rintro e w1 ⟨rfl, hb⟩
  have HB1 := Aside0.mk hb
  clear hb
  go_wp2_with fail
  go_at_call 14
  refine (newP HB1.out).mono ?_
  rintro e w2 ⟨rfl, hd, _⟩
  have HD2 := Aside0.mk hd
  clear hd
  go_wp2_with fail
  go_ret
  exact ⟨rfl, HD2.out.far⟩

set_option maxRecDepth 100000 in
set_option maxHeartbeats 4000000 in
theorem reord_zero (a b c : ByteArray) (A : Option Addr) (c4 : Nat) (keep : List Int) (w : World) (ha : a.size ≤ 140737488355328) (hb : b.size ≤ 140737488355328) (hc : c.size ≤ 140737488355328) (hk : Kd.C (Kd.int .i64) w A keep.length keep) (ha' : a.data.toList ≠ []) (hb' : b.data.toList ≠ []) (hc' : c.data.toList ≠ []) (hl : a.size + b.size + c.size ≤ 60000) (k0 k1 k2 : Int) (ad : Addr) (hkeep : keep = [k0, k1, k2]) (hA : A = some ad) (hy0 : clampN k2 b.size = 0) : Calls Try.prog 4 #[.string a, .string b, .string c, .slice A keep.length c4] w fun e w' => e = .returned (.bool true) ∧ Below w.heap.size w w' := by
  have HK := Aside0.mk hk
  clear hk
  have hw1 : wrap64 ((a.size : Int) + b.size) = (a.size : Int) + b.size := by simp only [wrap64]; omega
  have hw2 : wrap64 ((a.size : Int) + b.size + c.size) = (a.size : Int) + b.size + c.size := by simp only [wrap64]; omega
  subst hkeep
  subst hA
  have ha0 : (a.toList.isEmpty) = false := by rw [toList_data]; simpa using ha'
  have hb0 : (b.toList.isEmpty) = false := by rw [toList_data]; simpa using hb'
  have hc0 : (c.toList.isEmpty) = false := by rw [toList_data]; simpa using hc'
  have hlb : decide ((60000 : Int) < a.size + b.size + c.size) = false := decide_eq_false (by omega)
  have la := size_toList a
  have lb := size_toList b
  have lc := size_toList c
  have E1 := Aside0.mk (rap1 a.data.toList ha' (by omega))
  have E2 := Aside0.mk (rap2 a.data.toList c.data.toList [⟨5, 0, a.data.toList.length⟩] hc' (by omega))
  have E3 := Aside0.mk (rap3 a.data.toList b.data.toList c.data.toList ([⟨5, 0, a.data.toList.length⟩] ++ [⟨6, 0, c.data.toList.length⟩]) hb' (by omega))
  have E4 := Aside0.mk (rcr a.data.toList b.data.toList c.data.toList k0 k1 k2)
  rw [la, lb, lc] at E4
  have X0 := Aside0.mk (clampN_int k0 a.size)
  have X1 := Aside0.mk (clampN_int k1 c.size)
  have X2 := Aside0.mk (clampN_int k2 b.size)
  have hx := clampN_le k0 a.size
  have hz := clampN_le k1 c.size
  have hy := clampN_le k2 b.size
  clear ha' hb' hc'
  have hsum1 : a.size ≤ 60000 := by omega
  have hsum2 : b.size ≤ 60000 := by omega
  have hsum3 : c.size ≤ 60000 := by omega
  have E5 : Aside0 (s5 a.data.toList b.data.toList (clampN k0 a.size) (clampN k2 b.size) = (a.extract 0 (clampN k0 a.size)).data.toList) := ⟨by rw [hy0, s5, if_pos rfl, extract_list, List.drop_zero, Nat.sub_zero]⟩
  have E6 : Aside0 (c.data.toList.take (clampN k1 c.size) = (c.extract 0 (clampN k1 c.size)).data.toList) := ⟨by rw [extract_list, List.drop_zero, Nat.sub_zero]⟩
  generalize clampN k0 a.size = x at *
  generalize clampN k1 c.size = z at *
  generalize clampN k2 b.size = y at *
  subst hy0
  go_enter Try.func4, Try.ntmps4
  go_wp2_with fail
  go_at_call 13
  refine (small6F w).mono ?_
  rintro e w1 ⟨rfl, hb⟩
  have HB1 := Aside0.mk hb
  clear hb
  go_wp2_with fail
  go_at_call 14
  refine (newP HB1.out).mono ?_
  rintro e w2 ⟨rfl, hd, _⟩
  have HD2 := Aside0.mk hd
  clear hd
  go_wp2_with fail
  go_at_call 15
  refine (appendP HD2.out (by decide) 5 a (by omega) 0 E1.out).mono ?_
  rintro e w3 ⟨rfl, hd, _⟩
  have HD3 := Aside0.mk hd
  clear hd
  go_wp2_with fail
  go_at_call 15
  refine (appendP HD3.out (by decide) 6 c (by omega) 0 E2.out).mono ?_
  rintro e w4 ⟨rfl, hd, _⟩
  have HD4 := Aside0.mk hd
  clear hd
  go_wp2_with fail
  go_at_call 15
  refine (appendP HD4.out (by decide) 5 b (by omega) 0 E3.out).mono ?_
  rintro e w5 ⟨rfl, hd, _⟩
  have HD5 := Aside0.mk hd
  clear hd
  go_wp2_with fail
  go_at_call 18
  refine (crashP HD5.out (some ad) 3 c4 _ rfl (KArg.ofC HK.out HD5.out) E4.out).mono ?_
  rintro e w6 ⟨rfl, hd, _⟩
  have HD6 := Aside0.mk hd
  clear hd
  go_wp2_with fail
  go_at_call 18
  refine (crashP (HD6.out.alloc _) _ _ _ [100000, 100000, 100000] rfl (KArg.lit (cs := _) rfl (MapKept.heap_alloc w6 _).1 (by decide) (Nat.ne_of_gt HD6.out.lt)) (rcr2 _ _ _ _ _)).mono ?_
  rintro e w7 ⟨rfl, hd, _⟩
  have HD7 := Aside0.mk hd
  clear hd
  go_wp2_with fail
  go_at_call 19
  refine (startP HD7.out (rst _ _ _ _ _)).mono ?_
  rintro e w8 ⟨rfl, hd, _⟩
  have HD8 := Aside0.mk hd
  clear hd
  go_wp2_with fail
  go_at_call 18
  refine (crashP HD8.out none 0 0 [] rfl (KArg.nil _ _) (rcr3 _ _ _)).mono ?_
  rintro e w9 ⟨rfl, hd, _⟩
  have HD9 := Aside0.mk hd
  clear hd
  go_wp2_with fail
  go_at_call 19
  refine (startP HD9.out (rst _ _ _ _ _)).mono ?_
  rintro e w10 ⟨rfl, hd, _⟩
  have HD10 := Aside0.mk hd
  clear hd
  go_wp2_with fail
  go_at_call 20
  refine (readP HD10.out 5 (a.extract 0 x) 0 (by rw [← E5.out]; exact rrd5 _ _ _ _ _)).mono ?_
  rintro e w11 ⟨rfl, hd, _⟩
  have HD11 := Aside0.mk hd
  clear hd
  go_wp2_with fail
  go_at_call 20
  refine (readP HD11.out 6 (c.extract 0 z) 0 (by rw [← E6.out]; exact rrd6 _ _ _ _ _)).mono ?_
  rintro e w12 ⟨rfl, hd, _⟩
  have HD12 := Aside0.mk hd
  clear hd
  obtain ⟨ad', e, c0⟩ := Kd.at_int (Kd.C_below HK.out HD12.out.far) (0 : Int) (by decide) (by simp)
  obtain rfl : ad = ad' := by injection e
  obtain ⟨ad', e1, c1⟩ := Kd.at_int (Kd.C_below HK.out HD12.out.far) (1 : Int) (by decide) (by simp)
  obtain rfl : ad = ad' := by injection e1
  obtain ⟨ad', e2, c2⟩ := Kd.at_int (Kd.C_below HK.out HD12.out.far) (2 : Int) (by decide) (by simp)
  obtain rfl : ad = ad' := by injection e2
  clear e e1 e2
  have r0 : rd [k0, k1, k2] 0 = k0 := rfl
  have r1 : rd [k0, k1, k2] 1 = k1 := rfl
  have r2 : rd [k0, k1, k2] 2 = k2 := rfl
  rw [r0] at c0
  rw [r1] at c1
  rw [r2] at c2
  have x0 := X0.out
  have x1 := X1.out
  have x2 := X2.out
  clear r0 r1 r2
  simp at c0 c1 c2
  have a0 : ad.add 0 = ad := by cases ad; simp [Addr.add]
  rw [a0] at c0
  rw [show ad.add 1 = ⟨ad.block, ad.off + 1, none⟩ by simp [Addr.add]] at c1
  rw [show ad.add 2 = ⟨ad.block, ad.off + 2, none⟩ by simp [Addr.add]] at c2
  clear a0
  go_wp2_with fail
  go_ret
  exact ⟨rfl, HD12.out.far⟩

set_option maxRecDepth 100000 in
set_option maxHeartbeats 4000000 in
theorem reord_main (a b c : ByteArray) (A : Option Addr) (c4 : Nat) (keep : List Int) (w : World) (ha : a.size ≤ 140737488355328) (hb : b.size ≤ 140737488355328) (hc : c.size ≤ 140737488355328) (hk : Kd.C (Kd.int .i64) w A keep.length keep) (ha' : a.data.toList ≠ []) (hb' : b.data.toList ≠ []) (hc' : c.data.toList ≠ []) (hl : a.size + b.size + c.size ≤ 60000) (k0 k1 k2 : Int) (ad : Addr) (hkeep : keep = [k0, k1, k2]) (hA : A = some ad) (hy0 : clampN k2 b.size ≠ 0) : Calls Try.prog 4 #[.string a, .string b, .string c, .slice A keep.length c4] w fun e w' => e = .returned (.bool true) ∧ Below w.heap.size w w' := by
  have HK := Aside0.mk hk
  clear hk
  have hw1 : wrap64 ((a.size : Int) + b.size) = (a.size : Int) + b.size := by simp only [wrap64]; omega
  have hw2 : wrap64 ((a.size : Int) + b.size + c.size) = (a.size : Int) + b.size + c.size := by simp only [wrap64]; omega
  subst hkeep
  subst hA
  have ha0 : (a.toList.isEmpty) = false := by rw [toList_data]; simpa using ha'
  have hb0 : (b.toList.isEmpty) = false := by rw [toList_data]; simpa using hb'
  have hc0 : (c.toList.isEmpty) = false := by rw [toList_data]; simpa using hc'
  have hlb : decide ((60000 : Int) < a.size + b.size + c.size) = false := decide_eq_false (by omega)
  have la := size_toList a
  have lb := size_toList b
  have lc := size_toList c
  have E1 := Aside0.mk (rap1 a.data.toList ha' (by omega))
  have E2 := Aside0.mk (rap2 a.data.toList c.data.toList [⟨5, 0, a.data.toList.length⟩] hc' (by omega))
  have E3 := Aside0.mk (rap3 a.data.toList b.data.toList c.data.toList ([⟨5, 0, a.data.toList.length⟩] ++ [⟨6, 0, c.data.toList.length⟩]) hb' (by omega))
  have E4 := Aside0.mk (rcr a.data.toList b.data.toList c.data.toList k0 k1 k2)
  rw [la, lb, lc] at E4
  have X0 := Aside0.mk (clampN_int k0 a.size)
  have X1 := Aside0.mk (clampN_int k1 c.size)
  have X2 := Aside0.mk (clampN_int k2 b.size)
  have hx := clampN_le k0 a.size
  have hz := clampN_le k1 c.size
  have hy := clampN_le k2 b.size
  clear ha' hb' hc'
  have hsum1 : a.size ≤ 60000 := by omega
  have hsum2 : b.size ≤ 60000 := by omega
  have hsum3 : c.size ≤ 60000 := by omega
  obtain ⟨S, hS⟩ : ∃ S, S = bs (s5 a.data.toList b.data.toList (clampN k0 a.size) (clampN k2 b.size)) := ⟨_, rfl⟩
  obtain ⟨f1, f2, f3, f4⟩ := s5_facts hx hy hy0 S hS
  have E5 : Aside0 (s5 a.data.toList b.data.toList (clampN k0 a.size) (clampN k2 b.size) = S.data.toList) := ⟨by rw [hS, bs_toList]⟩
  have E6 : Aside0 (c.data.toList.take (clampN k1 c.size) = (c.extract 0 (clampN k1 c.size)).data.toList) := ⟨by rw [extract_list, List.drop_zero, Nat.sub_zero]⟩
  have hy0b : ((clampN k2 b.size : Int) == 0) = false := beq_eq_false_iff_ne.2 (by omega)
  have F4 := Aside0.mk f4
  clear f4 hS hy0
  generalize clampN k0 a.size = x at *
  generalize clampN k1 c.size = z at *
  generalize clampN k2 b.size = y at *
  have hw3 := wrap_two a.size y hsum1 (Nat.le_trans hy hsum2)
  have hg7 : ((S.size : Int) != IntKind.i64.wrap ((a.size : Int) + y)) = false := by rw [show IntKind.i64.wrap ((a.size : Int) + y) = wrap64 ((a.size : Int) + y) by unfold wrap64; exact IntKind.wrap_i64 _, hw3, f1, Int.natCast_add, bne_self_eq_false]
  have haS : a.size ≤ S.size := f1 ▸ Nat.le_add_right _ _
  have hxS : x ≤ S.size := Nat.le_trans hx haS
  rw [← f1] at f3
  have hg16 : ((S.extract 0 x).toList == (a.extract 0 x).toList) = true := by rw [f2]; exact beq_self_eq_true _
  have hg25 : ((S.extract a.size S.size).toList == (b.extract 0 y).toList) = true := by rw [f3]; exact beq_self_eq_true _
  have HAS := Aside0.mk haS
  have HSUM := Aside0.mk hsum1
  clear hw3 la lb lc hsum1 hsum2 hsum3 f1 f2 f3
  go_enter Try.func4, Try.ntmps4
  go_wp2_with fail
  go_at_call 13
  refine (small6F w).mono ?_
  rintro e w1 ⟨rfl, hb⟩
  have HB1 := Aside0.mk hb
  clear hb
  go_wp2_with fail
  go_at_call 14
  refine (newP HB1.out).mono ?_
  rintro e w2 ⟨rfl, hd, _⟩
  have HD2 := Aside0.mk hd
  clear hd
  go_wp2_with fail
  go_at_call 15
  refine (appendP HD2.out (by decide) 5 a (by omega) 0 E1.out).mono ?_
  rintro e w3 ⟨rfl, hd, _⟩
  have HD3 := Aside0.mk hd
  clear hd
  go_wp2_with fail
  go_at_call 15
  refine (appendP HD3.out (by decide) 6 c (by omega) 0 E2.out).mono ?_
  rintro e w4 ⟨rfl, hd, _⟩
  have HD4 := Aside0.mk hd
  clear hd
  go_wp2_with fail
  go_at_call 15
  refine (appendP HD4.out (by decide) 5 b (by omega) 0 E3.out).mono ?_
  rintro e w5 ⟨rfl, hd, _⟩
  have HD5 := Aside0.mk hd
  clear hd
  go_wp2_with fail
  go_at_call 18
  refine (crashP HD5.out (some ad) 3 c4 _ rfl (KArg.ofC HK.out HD5.out) E4.out).mono ?_
  rintro e w6 ⟨rfl, hd, _⟩
  have HD6 := Aside0.mk hd
  clear hd
  go_wp2_with fail
  go_at_call 18
  refine (crashP (HD6.out.alloc _) _ _ _ [100000, 100000, 100000] rfl (KArg.lit (cs := _) rfl (MapKept.heap_alloc w6 _).1 (by decide) (Nat.ne_of_gt HD6.out.lt)) (rcr2 _ _ _ _ _)).mono ?_
  rintro e w7 ⟨rfl, hd, _⟩
  have HD7 := Aside0.mk hd
  clear hd
  go_wp2_with fail
  go_at_call 19
  refine (startP HD7.out (rst _ _ _ _ _)).mono ?_
  rintro e w8 ⟨rfl, hd, _⟩
  have HD8 := Aside0.mk hd
  clear hd
  go_wp2_with fail
  go_at_call 18
  refine (crashP HD8.out none 0 0 [] rfl (KArg.nil _ _) (rcr3 _ _ _)).mono ?_
  rintro e w9 ⟨rfl, hd, _⟩
  have HD9 := Aside0.mk hd
  clear hd
  go_wp2_with fail
  go_at_call 19
  refine (startP HD9.out (rst _ _ _ _ _)).mono ?_
  rintro e w10 ⟨rfl, hd, _⟩
  have HD10 := Aside0.mk hd
  clear hd
  go_wp2_with fail
  go_at_call 20
  refine (readP HD10.out 5 S 0 (by rw [← E5.out]; exact rrd5 _ _ _ _ _)).mono ?_
  rintro e w11 ⟨rfl, hd, _⟩
  have HD11 := Aside0.mk hd
  clear hd
  go_wp2_with fail
  go_at_call 20
  refine (readP HD11.out 6 (c.extract 0 z) 0 (by rw [← E6.out]; exact rrd6 _ _ _ _ _)).mono ?_
  rintro e w12 ⟨rfl, hd, _⟩
  have HD12 := Aside0.mk hd
  clear hd
  obtain ⟨ad', e, c0⟩ := Kd.at_int (Kd.C_below HK.out HD12.out.far) (0 : Int) (by decide) (by simp)
  obtain rfl : ad = ad' := by injection e
  obtain ⟨ad', e1, c1⟩ := Kd.at_int (Kd.C_below HK.out HD12.out.far) (1 : Int) (by decide) (by simp)
  obtain rfl : ad = ad' := by injection e1
  obtain ⟨ad', e2, c2⟩ := Kd.at_int (Kd.C_below HK.out HD12.out.far) (2 : Int) (by decide) (by simp)
  obtain rfl : ad = ad' := by injection e2
  clear e e1 e2
  have r0 : rd [k0, k1, k2] 0 = k0 := rfl
  have r1 : rd [k0, k1, k2] 1 = k1 := rfl
  have r2 : rd [k0, k1, k2] 2 = k2 := rfl
  rw [r0] at c0
  rw [r1] at c1
  rw [r2] at c2
  have x0 := X0.out
  have x1 := X1.out
  have x2 := X2.out
  clear r0 r1 r2
  simp at c0 c1 c2
  have a0 : ad.add 0 = ad := by cases ad; simp [Addr.add]
  rw [a0] at c0
  rw [show ad.add 1 = ⟨ad.block, ad.off + 1, none⟩ by simp [Addr.add]] at c1
  rw [show ad.add 2 = ⟨ad.block, ad.off + 2, none⟩ by simp [Addr.add]] at c2
  clear a0
  go_wp2_with fail
  go_quiet (fail)
  go_wp2_with fail
  have HBw : Aside0 (Below w.heap.size w (w12.drewN nq)) := ⟨HD12.out.far.trans ⟨rfl, rfl, rfl, Nat.le_refl _, fun _ _ => rfl⟩⟩
  go_loopg [17] (a.size - x) (fun kq v17 wr => ∃ i : Nat, v17 = .int .i64 i ∧ Aside0 (i + kq = a.size) ∧ Aside0 (x ≤ i) ∧ Aside0 (Below w.heap.size w wr))
  case atStart => exact ⟨x, rfl, ⟨by rw [Nat.add_comm]; exact Nat.sub_add_cancel hx⟩, ⟨Nat.le_refl _⟩, ⟨HBw.out⟩⟩
  case round =>
    obtain ⟨i, rfl, HKk, HXi, HW⟩ := hrel
    by_cases c2 : i < a.size
    · have hb0 := F4.out i HXi.out c2
      have hiS : i < S.size := Nat.lt_of_lt_of_le c2 HAS.out
      have hi6 : i ≤ 60000 := Nat.le_trans (Nat.le_of_lt c2) HSUM.out
      have hz0 : (((S[i]'hiS).toNat : Int) != 0) = false := by rw [byte_at hiS hb0]; rfl
      go_wp2_with fail
      go_roundg (gk - 1)
      case measure => have h1 := HKk.out; clear hg7 hg16 hg25 hw1 hw2; omega
      case rel => exact ⟨i + 1, by go_num, ⟨by have h1 := HKk.out; clear hg7 hg16 hg25 hw1 hw2; omega⟩, ⟨Nat.le_trans HXi.out (Nat.le_succ _)⟩, ⟨HW.out⟩⟩
    · go_wp2_with fail
      go_ret
      exact ⟨rfl, HW.out⟩

theorem diskReorders_row (a b c : ByteArray) (A : Option Addr) (c4 : Nat) (keep : List Int) (w : World) (ha : a.size ≤ 140737488355328) (hb : b.size ≤ 140737488355328) (hc : c.size ≤ 140737488355328) (hk : Kd.C (Kd.int .i64) w A keep.length keep) (_ : keep.all i64B = true) : Calls Try.prog 4 #[.string a, .string b, .string c, .slice A keep.length c4] w fun e w' => e = .returned (.bool true) ∧ Below w.heap.size w w' := by
  by_cases h1 : a.data.toList = []
  · exact reord_a a b c A c4 keep w ha hb hc hk h1
  by_cases h2 : b.data.toList = []
  · exact reord_b a b c A c4 keep w ha hb hc hk h1 h2
  by_cases h3 : c.data.toList = []
  · exact reord_c a b c A c4 keep w ha hb hc hk h1 h2 h3
  by_cases h4 : a.size + b.size + c.size ≤ 60000
  · by_cases h5 : keep.length = 3
    · obtain ⟨ad, hA, _⟩ := hk.2.2 (by omega)
      match keep, h5, hk with
      | [k0, k1, k2], _, hk =>
        by_cases h6 : clampN k2 b.size = 0
        · exact reord_zero a b c A c4 _ w ha hb hc hk h1 h2 h3 h4 k0 k1 k2 ad rfl hA h6
        · exact reord_main a b c A c4 _ w ha hb hc hk h1 h2 h3 h4 k0 k1 k2 ad rfl hA h6
    · exact reord_keep a b c A c4 keep w ha hb hc hk h1 h2 h3 h4 h5
  · exact reord_long a b c A c4 keep w ha hb hc hk h1 h2 h3 h4

end Go.Proofs.Ytbhlpnkccdcdiaa.Dk
