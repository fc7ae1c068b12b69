/- bournelaw06.DiskArms: the walk. -/
import Derived.Test.YtbhlpnkccdcdiaaKArmsP
import Derived.Test.YtbhlpnkccdcdiaaKArm
import Derived.Test.YtbhlpnkccdcdiaaKSmall
namespace Go.Proofs.Ytbhlpnkccdcdiaa.Dk
open Go.RowKit Go.Proofs.YtbhlpnkccdcdiaaW.PrintWords
set_option linter.unusedVariables false
set_option linter.unusedSimpArgs false

/-- The law's sum of lengths. -/
def sumS (l : List ByteArray) : Nat → Int
  | 0 => 0
  | k + 1 => wrap64 (sumS l k + ((l.getD k ByteArray.empty).size : Nat))
def totA (l : List ByteArray) : Nat → Nat
  | 0 => 0
  | k + 1 => totA l k + (l.getD k ByteArray.empty).size
theorem totA_mono (l : List ByteArray) : ∀ (d k : Nat), totA l k ≤ totA l (k + d)
  | 0, k => Nat.le_refl _
  | d + 1, k => Nat.le_trans (totA_mono l d k) (by rw [Nat.add_succ]; exact Nat.le_add_right _ _)
theorem totA_le (l : List ByteArray) (h : ∀ s ∈ l, s.size ≤ 140737488355328) : ∀ k, totA l k ≤ k * 140737488355328
  | 0 => Nat.le_refl _
  | k + 1 => by
    have h1 := totA_le l h k
    have h2 : (l.getD k ByteArray.empty).size ≤ 140737488355328 := by
      by_cases hk : k < l.length
      · rw [List.getD_eq_getElem?_getD, List.getElem?_eq_getElem hk]
        exact h _ (List.getElem_mem hk)
      · rw [List.getD_eq_getElem?_getD, List.getElem?_eq_none (by omega)]
        exact Nat.zero_le _
    rw [totA]
    omega
theorem sumS_totA (l : List ByteArray) (h : ∀ s ∈ l, s.size ≤ 140737488355328) : ∀ k, k ≤ 50 → sumS l k = (totA l k : Int)
  | 0, _ => rfl
  | k + 1, hk => by
    rw [sumS, sumS_totA l h k (by omega), totA]
    have h1 := totA_le l h (k + 1)
    rw [totA] at h1
    simp only [wrap64]
    omega
theorem getD_at (l : List ByteArray) {k : Nat} (hk : k < l.length) : l.getD k ByteArray.empty = l[k] := by rw [List.getD_eq_getElem?_getD, List.getElem?_eq_getElem hk]; rfl
theorem strs_at {w : World} {A : Option Addr} {l : List ByteArray} (h : Kd.C Kd.string w A l.length l) {k : Nat} (hk : k < l.length) : ∃ ad, A = some ad ∧ w.cell? (ad.add k) = some (.string l[k]) := by
  obtain ⟨ad, e, hc⟩ := Kd.at_string h (k : Int) (by omega) (by omega)
  refine ⟨ad, e, ?_⟩
  rw [Int.toNat_natCast] at hc
  rw [hc]
  simp only [rdOf, Int.toNat_natCast]
  rw [getD_at l hk]
theorem ba_append (s t : ByteArray) : (s ++ t).data.toList = s.data.toList ++ t.data.toList := by
  rw [ByteArray.data_append, Array.toList_append]
theorem ba_empty {s : ByteArray} (h : s.data.toList = []) : s = ⟨#[]⟩ := by
  have := bs_of s
  rw [h] at this
  exact this.symm
/-- The machine is up: i strings are appended, c calls made. -/
structure ArmUp (w : World) (b N : Nat) (keep : Int) (l : List ByteArray) (i c : Nat) (S R F : ByteArray) (wr : World) : Prop where
  cnt : c = i + i / 2
  lim : c + 1 ≤ N
  sums : totA l i = S.size + R.size
  dsk : ∃ q, AQ S.data.toList R.data.toList F.data.toList q ∧ Dsk w wr b (aD (N - c) keep S.data.toList R.data.toList q false) i
structure ArmDown (w : World) (b : Nat) (keep : Int) (S F : ByteArray) (wr : World) : Prop where
  dsk : Dsk w wr b (aD 0 keep (S.data.toList ++ F.data.toList.take (clampN keep F.size)) [] [] true) 51
  size : S.size + F.size ≤ 20000
theorem AQ.size {s r f : List UInt8} {q : List Pd} (h : AQ s r f q) : f.length ≤ r.length := by
  by_cases e : f = []
  · rw [e]
    exact Nat.zero_le _
  · obtain ⟨⟨t, h1⟩, _⟩ := h.cons e
    rw [h1, List.length_append]
    omega
theorem totA_at {l : List ByteArray} {i : Nat} (hi : i < l.length) : totA l i + l[i].size ≤ totA l l.length := by
  have h1 := totA_mono l (l.length - (i + 1)) (i + 1)
  rw [show i + 1 + (l.length - (i + 1)) = l.length by omega, totA, getD_at l hi] at h1
  exact h1
def nxF (F x : ByteArray) : ByteArray := if F.data.toList = [] then x else F
theorem nxF_list (F x : ByteArray) : (nxF F x).data.toList = if F.data.toList = [] then x.data.toList else F.data.toList := by
  unfold nxF
  split <;> rfl
section
variable {w wr w1 : World} {b N i c : Nat} {keep : Int} {l : List ByteArray} {S R F : ByteArray}
/-- What an append does. -/
theorem ArmUp.append (h : ArmUp w b N keep l i c S R F wr) (hi : i < l.length) (hT : totA l l.length ≤ 20000) :
    (c + 2 ≤ N → ∃ D q, appendD D 0 l[i].data.toList = (aD (N - (c + 1)) keep S.data.toList (R ++ l[i]).data.toList q false, 0) ∧ AQ S.data.toList (R ++ l[i]).data.toList (nxF F l[i]).data.toList q ∧ Dsk w wr b D i) ∧
    (c + 1 = N → ∃ D, appendD D 0 l[i].data.toList = (aD 0 keep (S.data.toList ++ (nxF F l[i]).data.toList.take (clampN keep (nxF F l[i]).size)) [] [] true, 9) ∧ Dsk w wr b D i ∧ S.size + (nxF F l[i]).size ≤ 20000) := by
  obtain ⟨q, hq, hd⟩ := h.dsk
  have h1 := totA_mono l (l.length - (i + 1)) (i + 1)
  rw [show i + 1 + (l.length - (i + 1)) = l.length by omega, totA, getD_at l hi, h.sums] at h1
  have hl : S.data.toList.length + R.data.toList.length + l[i].data.toList.length ≤ 20000 := by
    rw [size_toList, size_toList, size_toList]
    omega
  have hp := hq.put l[i].data.toList
  rw [← nxF_list, ← ba_append] at hp
  constructor
  · intro hc
    obtain ⟨a, ha⟩ : ∃ a, N - c = a + 2 := ⟨N - c - 2, by omega⟩
    rw [ha] at hd
    refine ⟨_, _, ?_, hp, hd⟩
    rw [a_app a keep _ _ q _ hl, show N - (c + 1) = a + 1 by omega, ba_append]
  · intro hc
    rw [show N - c = 1 by omega] at hd
    refine ⟨_, ?_, hd, ?_⟩
    rotate_left
    · have := hp.size
      rw [size_toList, size_toList, ByteArray.size_append] at this
      have := totA_at hi
      have := h.sums
      omega
    rw [a_app1 keep _ _ q _ hl, ← ba_append, a_crash hp, size_toList]
/-- What a flush does. -/
theorem arm_flush {q : List Pd} {a : Nat} (hq : AQ S.data.toList R.data.toList F.data.toList q) :
    flushD (aD (a + 2) keep S.data.toList R.data.toList q false) 0 = (aD (a + 1) keep (S ++ R).data.toList [] [] false, 0) ∧
    flushD (aD 1 keep S.data.toList R.data.toList q false) 0 = (aD 0 keep (S.data.toList ++ F.data.toList.take (clampN keep F.size)) [] [] true, 9) := by
  constructor
  · rw [a_fl a keep _ _ q hq.own, ba_append]
  · rw [a_fl1, a_crash hq, size_toList]
theorem ArmUp.even (h : ArmUp w b N keep l i c S R F wr) (hi : i < l.length) (he : i % 2 = 0) (hc : c + 2 ≤ N) {q : List Pd} (hq : AQ S.data.toList (R ++ l[i]).data.toList (nxF F l[i]).data.toList q) (hd : Dsk w w1 b (aD (N - (c + 1)) keep S.data.toList (R ++ l[i]).data.toList q false) (i + 1)) :
    ArmUp w b N keep l (i + 1) (c + 1) S (R ++ l[i]) (nxF F l[i]) w1 := by
  have h1 := h.cnt
  refine ⟨by omega, by omega, ?_, q, hq, hd⟩
  rw [totA, h.sums, getD_at l hi, ByteArray.size_append]
  omega
theorem ArmUp.odd (h : ArmUp w b N keep l i c S R F wr) (hi : i < l.length) (he : i % 2 = 1) (hc : c + 3 ≤ N) (hd : Dsk w w1 b (aD (N - (c + 2)) keep (S ++ (R ++ l[i])).data.toList [] [] false) (i + 1)) :
    ArmUp w b N keep l (i + 1) (c + 2) (S ++ (R ++ l[i])) ⟨#[]⟩ ⟨#[]⟩ w1 := by
  have h1 := h.cnt
  refine ⟨by omega, by omega, ?_, [], AQ.start _, hd⟩
  rw [totA, h.sums, getD_at l hi, ByteArray.size_append, ByteArray.size_append]
  show _ = _ + 0
  omega
theorem ArmUp.start (hd : Dsk w wr b (aD N keep [] [] [] false) 0) (hN : 1 ≤ N) : ArmUp w b N keep l 0 0 ⟨#[]⟩ ⟨#[]⟩ ⟨#[]⟩ wr := ⟨rfl, hN, rfl, [], AQ.start _, hd⟩
end
theorem a_read0 (a : Nat) (k : Int) (s : List UInt8) (q : List Pd) : readD (aD a k s [] q false) 0 = (s, 0) := by rw [a_read, List.append_nil]
theorem arms_ext (s : ByteArray) (k : Nat) : (s.extract 0 k).data.toList = s.data.toList.take k := by rw [extract_list, List.drop_zero, Nat.sub_zero]
def ArmsGoal (l : List ByteArray) (A : Option Addr) (c : Nat) (n keep : Int) (w : World) : Prop := Calls Try.prog 6 #[.slice A l.length c, .int .i64 n, .int .i64 keep] w fun e w' => e = .returned (.bool true) ∧ Below w.heap.size w w'

set_option maxRecDepth 100000 in
set_option maxHeartbeats 4000000 in
theorem arms_long (l : List ByteArray) (A : Option Addr) (c : Nat) (n keep : Int) (w : World) (hC : Kd.C Kd.string w A l.length l) (hm : l.length ≤ 9223372036854775807) (h50 : ¬ l.length ≤ 50) : ArmsGoal l A c n keep w := by
  have HC := Aside0.mk hC
  clear hC
  have g1 : decide (50 < l.length) = true := decide_eq_true (by omega)
  unfold ArmsGoal
  go_enter Try.func6, Try.ntmps6
  go_wp2_with fail
  go_at_call 13
  refine (small6F w).mono ?_
  rintro e w1 ⟨rfl, hb⟩
  have HB1 := Aside0.mk hb
  clear hb
  go_wp2_with fail
  go_at_call 14
  refine (newP HB1.out).mono ?_
  rintro e w2 ⟨rfl, hd, _⟩
  have HD2 := Aside0.mk hd
  clear hd
  go_wp2_with fail
  go_loop [9, 10] (fun v9 v10 => ∃ k : Nat, k ≤ l.length ∧ v10 = .int .i64 k ∧ v9 = .int .i64 (sumS l k)) (fun _ i => l.length - (intOf i).toNat)
  case atStart => exact ⟨0, Nat.zero_le _, rfl, rfl⟩
  case round =>
    obtain ⟨k, hk, rfl, rfl⟩ := hrel
    by_cases hlt : k < l.length
    · obtain ⟨ad, rfl, hc⟩ := strs_at (Kd.C_below HC.out HD2.out.far) hlt
      have HS := Aside0.mk (show wrap64 (sumS l k + (l[k].size : Nat)) = sumS l (k + 1) by rw [sumS, getD_at l hlt])
      go_wp2_with fail
      go_round
      case rel => exact ⟨k + 1, by omega, by go_num, by rw [← HS.out]⟩
      case measure => simp [intOf]; omega
    · obtain rfl : k = l.length := by omega
      go_wp2_with fail
      go_ret
      exact ⟨rfl, HD2.out.far⟩

set_option maxRecDepth 100000 in
set_option maxHeartbeats 4000000 in
theorem arms_big (l : List ByteArray) (A : Option Addr) (c : Nat) (n keep : Int) (w : World) (hC : Kd.C Kd.string w A l.length l) (hm : l.length ≤ 9223372036854775807) (h50 : l.length ≤ 50) (hs : ∀ s ∈ l, s.size ≤ 140737488355328) (hT : ¬ totA l l.length ≤ 20000) : ArmsGoal l A c n keep w := by
  have HC := Aside0.mk hC
  clear hC
  have g1 : decide (50 < l.length) = false := decide_eq_false (by omega)
  have HT := Aside0.mk (sumS_totA l hs l.length h50)
  clear hs
  unfold ArmsGoal
  go_enter Try.func6, Try.ntmps6
  go_wp2_with fail
  go_at_call 13
  refine (small6F w).mono ?_
  rintro e w1 ⟨rfl, hb⟩
  have HB1 := Aside0.mk hb
  clear hb
  go_wp2_with fail
  go_at_call 14
  refine (newP HB1.out).mono ?_
  rintro e w2 ⟨rfl, hd, _⟩
  have HD2 := Aside0.mk hd
  clear hd
  go_wp2_with fail
  go_loop [9, 10] (fun v9 v10 => ∃ k : Nat, k ≤ l.length ∧ v10 = .int .i64 k ∧ v9 = .int .i64 (sumS l k)) (fun _ i => l.length - (intOf i).toNat)
  case atStart => exact ⟨0, Nat.zero_le _, rfl, rfl⟩
  case round =>
    obtain ⟨k, hk, rfl, rfl⟩ := hrel
    by_cases hlt : k < l.length
    · obtain ⟨ad, rfl, hc⟩ := strs_at (Kd.C_below HC.out HD2.out.far) hlt
      have HS := Aside0.mk (show wrap64 (sumS l k + (l[k].size : Nat)) = sumS l (k + 1) by rw [sumS, getD_at l hlt])
      go_wp2_with fail
      go_round
      case rel => exact ⟨k + 1, by omega, by go_num, by rw [← HS.out]⟩
      case measure => simp [intOf]; omega
    · obtain rfl : k = l.length := by omega
      have g2 := HT.out
      have g3 : decide (20000 < totA l l.length) = true := decide_eq_true (by omega)
      have g4 : (20000 : Int) < (totA l l.length : Int) := by omega
      go_wp2_with fail
      go_ret
      exact ⟨rfl, HD2.out.far⟩

set_option maxRecDepth 100000 in
set_option maxHeartbeats 4000000 in
theorem arms_n0 (l : List ByteArray) (A : Option Addr) (c : Nat) (n keep : Int) (w : World) (hC : Kd.C Kd.string w A l.length l) (hm : l.length ≤ 9223372036854775807) (h50 : l.length ≤ 50) (hs : ∀ s ∈ l, s.size ≤ 140737488355328) (hT : totA l l.length ≤ 20000) (hn : n < 1) : ArmsGoal l A c n keep w := by
  have HC := Aside0.mk hC
  clear hC
  have g1 : decide (50 < l.length) = false := decide_eq_false (by omega)
  have HT := Aside0.mk (sumS_totA l hs l.length h50)
  clear hs
  unfold ArmsGoal
  go_enter Try.func6, Try.ntmps6
  go_wp2_with fail
  go_at_call 13
  refine (small6F w).mono ?_
  rintro e w1 ⟨rfl, hb⟩
  have HB1 := Aside0.mk hb
  clear hb
  go_wp2_with fail
  go_at_call 14
  refine (newP HB1.out).mono ?_
  rintro e w2 ⟨rfl, hd, _⟩
  have HD2 := Aside0.mk hd
  clear hd
  go_wp2_with fail
  go_loop [9, 10] (fun v9 v10 => ∃ k : Nat, k ≤ l.length ∧ v10 = .int .i64 k ∧ v9 = .int .i64 (sumS l k)) (fun _ i => l.length - (intOf i).toNat)
  case atStart => exact ⟨0, Nat.zero_le _, rfl, rfl⟩
  case round =>
    obtain ⟨k, hk, rfl, rfl⟩ := hrel
    by_cases hlt : k < l.length
    · obtain ⟨ad, rfl, hc⟩ := strs_at (Kd.C_below HC.out HD2.out.far) hlt
      have HS := Aside0.mk (show wrap64 (sumS l k + (l[k].size : Nat)) = sumS l (k + 1) by rw [sumS, getD_at l hlt])
      go_wp2_with fail
      go_round
      case rel => exact ⟨k + 1, by omega, by go_num, by rw [← HS.out]⟩
      case measure => simp [intOf]; omega
    · obtain rfl : k = l.length := by omega
      have g2 := HT.out
      have g4 : (totA l l.length : Int) ≤ (20000 : Int) := by omega
      go_wp2_with fail
      go_ret
      exact ⟨rfl, HD2.out.far⟩

set_option maxRecDepth 100000 in
set_option maxHeartbeats 4000000 in
theorem arms_n1 (l : List ByteArray) (A : Option Addr) (c : Nat) (n keep : Int) (w : World) (hC : Kd.C Kd.string w A l.length l) (hm : l.length ≤ 9223372036854775807) (h50 : l.length ≤ 50) (hs : ∀ s ∈ l, s.size ≤ 140737488355328) (hT : totA l l.length ≤ 20000) (hn : 100 < n) : ArmsGoal l A c n keep w := by
  have HC := Aside0.mk hC
  clear hC
  have g1 : decide (50 < l.length) = false := decide_eq_false (by omega)
  have HT := Aside0.mk (sumS_totA l hs l.length h50)
  clear hs
  have hn1 : 1 ≤ n := by omega
  unfold ArmsGoal
  go_enter Try.func6, Try.ntmps6
  go_wp2_with fail
  go_at_call 13
  refine (small6F w).mono ?_
  rintro e w1 ⟨rfl, hb⟩
  have HB1 := Aside0.mk hb
  clear hb
  go_wp2_with fail
  go_at_call 14
  refine (newP HB1.out).mono ?_
  rintro e w2 ⟨rfl, hd, _⟩
  have HD2 := Aside0.mk hd
  clear hd
  go_wp2_with fail
  go_loop [9, 10] (fun v9 v10 => ∃ k : Nat, k ≤ l.length ∧ v10 = .int .i64 k ∧ v9 = .int .i64 (sumS l k)) (fun _ i => l.length - (intOf i).toNat)
  case atStart => exact ⟨0, Nat.zero_le _, rfl, rfl⟩
  case round =>
    obtain ⟨k, hk, rfl, rfl⟩ := hrel
    by_cases hlt : k < l.length
    · obtain ⟨ad, rfl, hc⟩ := strs_at (Kd.C_below HC.out HD2.out.far) hlt
      have HS := Aside0.mk (show wrap64 (sumS l k + (l[k].size : Nat)) = sumS l (k + 1) by rw [sumS, getD_at l hlt])
      go_wp2_with fail
      go_round
      case rel => exact ⟨k + 1, by omega, by go_num, by rw [← HS.out]⟩
      case measure => simp [intOf]; omega
    · obtain rfl : k = l.length := by omega
      have g2 := HT.out
      have g4 : (totA l l.length : Int) ≤ (20000 : Int) := by omega
      go_wp2_with fail
      go_ret
      exact ⟨rfl, HD2.out.far⟩

set_option maxRecDepth 100000 in
set_option maxHeartbeats 4000000 in
theorem arms_main (l : List ByteArray) (A : Option Addr) (c : Nat) (n keep : Int) (w : World) (hC : Kd.C Kd.string w A l.length l) (hm : l.length ≤ 9223372036854775807) (h50 : l.length ≤ 50) (hs : ∀ s ∈ l, s.size ≤ 140737488355328) (hT : totA l l.length ≤ 20000) (N : Nat) (hN : n = (N : Int)) (hn1 : 1 ≤ N) (hn2 : N ≤ 100) : ArmsGoal l A c n keep w := by
  have HC := Aside0.mk hC
  clear hC
  subst hN
  have HT2 := Aside0.mk hT
  have HSZ := Aside0.mk hs
  have g1 : decide (50 < l.length) = false := decide_eq_false (by omega)
  have HT := Aside0.mk (sumS_totA l hs l.length h50)
  clear hs
  have gn1 : (1 : Int) ≤ (N : Int) := by omega
  have gn2 : (N : Int) ≤ 100 := by omega
  unfold ArmsGoal
  go_enter Try.func6, Try.ntmps6
  go_wp2_with fail
  go_at_call 13
  refine (small6F w).mono ?_
  rintro e w1 ⟨rfl, hb⟩
  have HB1 := Aside0.mk hb
  clear hb
  go_wp2_with fail
  go_at_call 14
  refine (newP HB1.out).mono ?_
  rintro e w2 ⟨rfl, hd, _⟩
  have HD2 := Aside0.mk hd
  clear hd
  go_wp2_with fail
  go_loop [9, 10] (fun v9 v10 => ∃ k : Nat, k ≤ l.length ∧ v10 = .int .i64 k ∧ v9 = .int .i64 (sumS l k)) (fun _ i => l.length - (intOf i).toNat)
  case atStart => exact ⟨0, Nat.zero_le _, rfl, rfl⟩
  case round =>
    obtain ⟨k, hk, rfl, rfl⟩ := hrel
    by_cases hlt : k < l.length
    · obtain ⟨ad, rfl, hc⟩ := strs_at (Kd.C_below HC.out HD2.out.far) hlt
      have HS := Aside0.mk (show wrap64 (sumS l k + (l[k].size : Nat)) = sumS l (k + 1) by rw [sumS, getD_at l hlt])
      go_wp2_with fail
      go_round
      case rel => exact ⟨k + 1, by omega, by go_num, by rw [← HS.out]⟩
      case measure => simp [intOf]; omega
    · obtain rfl : k = l.length := by omega
      have g2 := HT.out
      have g4 : (totA l l.length : Int) ≤ (20000 : Int) := by omega
      go_wp2_with fail
      go_at_call 27
      refine (armP (HD2.out.alloc _) (N : Int) (by omega) (KArg.lit (b := w1.heap.size) (l := [keep]) (cs := #[.int .i64 keep]) rfl (MapKept.heap_alloc w2 _).1 (by simp) (Nat.ne_of_gt HD2.out.lt)).2 (by simp) 1 1 rfl (a_arm N keep)).mono ?_
      rintro e w3 ⟨rfl, hd, _⟩
      have HU0 := Aside0.mk (ArmUp.start (l := l) hd hn1)
      clear hd g2 g4
      go_wp2_with fail
      go_loopg [11, 12, 13, 14, 15] l.length (fun kq v11 v12 v13 v14 v15 wr => ∃ (i cc : Nat) (S R F : ByteArray), v15 = .int .i64 i ∧ v14 = .int .i64 cc ∧ v11 = .string S ∧ v12 = .string R ∧ v13 = .string F ∧ Aside0 (i + kq = l.length ∧ cc ≤ 100) ∧ (Aside0 (ArmUp w w1.heap.size N keep l i cc S R F wr) ∨ Aside0 (ArmDown w w1.heap.size keep S F wr)))
      case atStart => exact ⟨0, 0, ⟨#[]⟩, ⟨#[]⟩, ⟨#[]⟩, rfl, rfl, rfl, rfl, rfl, ⟨⟨Nat.zero_add _, by decide⟩⟩, .inl HU0⟩
      case round =>
        obtain ⟨i, cc, S, R, F, rfl, rfl, rfl, rfl, rfl, HI, HU | HW⟩ := hrel
        · have hi0 : i ≤ l.length := by have := HI.out.1; omega
          have hcc := HI.out.2
          by_cases hlt : i < l.length
          · have HX := Aside0.mk (HU.out.append hlt HT2.out)
            obtain ⟨ad, rfl, hx⟩ := strs_at (Kd.C_below HC.out (by obtain ⟨q, _, h⟩ := HU.out.dsk; exact h.far)) hlt
            have HC2 := HC
            have hxs : l[i].size ≤ 140737488355328 := HSZ.out _ (List.getElem_mem hlt)
            have HXS := Aside0.mk hxs
            have HDN : Aside0 (∃ D, D.down = false ∧ Dsk w wr w1.heap.size D i) := ⟨by obtain ⟨q, _, h⟩ := HU.out.dsk; exact ⟨_, rfl, h⟩⟩
            have hcN := HU.out.lim
            have hadd := fun w => run_string_add_sum (P := Try.prog) w R l[i] (by have := totA_at hlt; have := HU.out.sums; have := HT2.out; omega)
            have HADD := Aside0.mk (fun w => run_string_add_sum (P := Try.prog) w S (R ++ l[i]) (by rw [ByteArray.size_append]; have := totA_at hlt; have := HU.out.sums; have := HT2.out; omega))
            have HSB : Aside0 (S.size + (R.size + l[i].size) ≤ 20000) := ⟨by have := totA_at hlt; have := HU.out.sums; have := HT2.out; omega⟩
            clear hxs
            obtain ⟨D0, hD0, HDD⟩ := HDN.out
            have HDD := Aside0.mk HDD
            have HD0 := Aside0.mk hD0
            clear hD0
            go_wp2_with fail
            go_at_call 23
            refine (downP HDD.out false HD0.out).mono ?_
            rintro e w4 ⟨rfl, rfl⟩
            by_cases hlast : cc + 1 = N
            · obtain ⟨D, he, hd, hsz⟩ := HX.out.2 hlast
              have HA := Aside0.mk (appendP hd (by omega) 0 l[i] HXS.out 9 he)
              clear he hd
              go_wp2_with fail
              go_at_call 15
              refine HA.out.mono ?_
              rintro e w5 ⟨rfl, hd, hf⟩
              have HW : Aside0 (ArmDown w w1.heap.size keep S (nxF F l[i]) w5) := ⟨⟨hd.mono (by omega), hsz⟩⟩
              obtain ⟨ad', e1, hx5⟩ := strs_at (Kd.C_below HC.out hd.far) hlt
              obtain rfl : ad = ad' := by injection e1
              clear hd hf hx e1 HA HX HU HDD hsz
              have hN : ((cc : Int) + 1 == (N : Int)) = true := beq_iff_eq.2 (by omega)
              have hN2 : decide ((cc : Int) + 1 < (N : Int)) = false := decide_eq_false (by omega)
              have hl50 : l.length ≤ 50 := h50
              by_cases hF : F.data.toList = []
              · have hFe : F.toList.isEmpty = true := by rw [Lib.toList_data, hF]; rfl
                have HNF : Aside0 (nxF F l[i] = l[i]) := ⟨by unfold nxF; rw [if_pos hF]⟩
                rw [HNF.out] at HW
                clear hF
                by_cases hp : i % 2 = 1
                · have hpe : ((i : Int) % 2 == 1) = true := beq_iff_eq.2 (by omega)
                  go_wp2_with fail
                  go_at_call 23
                  refine (downP HW.out.dsk true rfl).mono ?_
                  rintro e w6 ⟨rfl, rfl⟩
                  go_wp2_with fail
                  go_roundg (gk - 1)
                  case measure => have := HI.out.1; omega
                  case rel => exact ⟨i + 1, cc + 1, S, R ++ l[i], l[i], by go_num, by go_num, rfl, rfl, rfl, ⟨by have := HI.out.1; omega, by omega⟩, .inr HW⟩
                · have hpe : ((i : Int) % 2 == 1) = false := beq_eq_false_iff_ne.2 (by omega)
                  go_wp2_with fail
                  go_roundg (gk - 1)
                  case measure => have := HI.out.1; omega
                  case rel => exact ⟨i + 1, cc + 1, S, R ++ l[i], l[i], by go_num, by go_num, rfl, rfl, rfl, ⟨by have := HI.out.1; omega, by omega⟩, .inr HW⟩
              · have hFe : F.toList.isEmpty = false := by rw [Lib.toList_data]; simpa using hF
                have HNF : Aside0 (nxF F l[i] = F) := ⟨by unfold nxF; rw [if_neg hF]⟩
                rw [HNF.out] at HW
                clear hF
                by_cases hp : i % 2 = 1
                · have hpe : ((i : Int) % 2 == 1) = true := beq_iff_eq.2 (by omega)
                  go_wp2_with fail
                  go_at_call 23
                  refine (downP HW.out.dsk true rfl).mono ?_
                  rintro e w6 ⟨rfl, rfl⟩
                  go_wp2_with fail
                  go_roundg (gk - 1)
                  case measure => have := HI.out.1; omega
                  case rel => exact ⟨i + 1, cc + 1, S, R ++ l[i], F, by go_num, by go_num, rfl, rfl, rfl, ⟨by have := HI.out.1; omega, by omega⟩, .inr HW⟩
                · have hpe : ((i : Int) % 2 == 1) = false := beq_eq_false_iff_ne.2 (by omega)
                  go_wp2_with fail
                  go_roundg (gk - 1)
                  case measure => have := HI.out.1; omega
                  case rel => exact ⟨i + 1, cc + 1, S, R ++ l[i], F, by go_num, by go_num, rfl, rfl, rfl, ⟨by have := HI.out.1; omega, by omega⟩, .inr HW⟩
            · have hc2 : cc + 2 ≤ N := by omega
              obtain ⟨D, q, he, hq, hd⟩ := HX.out.1 hc2
              have HA := Aside0.mk (appendP hd (by omega) 0 l[i] HXS.out 0 he)
              have HQ := Aside0.mk hq
              clear he hd hq
              go_wp2_with fail
              go_at_call 15
              refine HA.out.mono ?_
              rintro e w5 ⟨rfl, hd, hf⟩
              have HD5 := Aside0.mk hd
              obtain ⟨ad', e1, hx5⟩ := strs_at (Kd.C_below HC.out hd.far) hlt
              obtain rfl : ad = ad' := by injection e1
              clear hd hf hx e1 HA HX HDD
              have hN : ((cc : Int) + 1 == (N : Int)) = false := beq_eq_false_iff_ne.2 (by omega)
              have hN2 : decide ((cc : Int) + 1 < (N : Int)) = true := decide_eq_true (by omega)
              have hl50 : l.length ≤ 50 := h50
              by_cases hF : F.data.toList = []
              · have hFe : F.toList.isEmpty = true := by rw [Lib.toList_data, hF]; rfl
                have HNF : Aside0 (nxF F l[i] = l[i]) := ⟨by unfold nxF; rw [if_pos hF]⟩
                rw [HNF.out] at HQ
                clear hF
                by_cases hp : i % 2 = 1
                · have hpe : ((i : Int) % 2 == 1) = true := beq_iff_eq.2 (by omega)
                  by_cases hl2 : cc + 2 = N
                  · have hN3 : ((cc : Int) + 1 + 1 == (N : Int)) = true := beq_iff_eq.2 (by omega)
                    have hN4 : decide ((cc : Int) + 1 + 1 < (N : Int)) = false := decide_eq_false (by omega)
                    have HFL := Aside0.mk (show flushD (aD (N - (cc + 1)) keep S.data.toList (R ++ l[i]).data.toList q false) 0 = (aD 0 keep (S.data.toList ++ (l[i]).data.toList.take (clampN keep (l[i]).size)) [] [] true, 9) by rw [show N - (cc + 1) = 1 by omega]; exact (arm_flush (a := 0) HQ.out).2)
                    go_wp2_with fail
                    go_at_call 23
                    refine (downP HD5.out false rfl).mono ?_
                    rintro e w6 ⟨rfl, rfl⟩
                    go_wp2_with fail
                    go_at_call 16
                    refine (flushP HD5.out 0 9 HFL.out).mono ?_
                    rintro e w7 ⟨rfl, hd, _⟩
                    have HW : Aside0 (ArmDown w w1.heap.size keep S l[i] w7) := ⟨⟨hd.mono (by omega), by have h1 := HQ.out.size; rw [size_toList, size_toList, ByteArray.size_append] at h1; have := HSB.out; omega⟩⟩
                    clear hd
                    go_wp2_with fail
                    go_roundg (gk - 1)
                    case measure => have := HI.out.1; omega
                    case rel => exact ⟨i + 1, cc + 2, S, R ++ l[i], l[i], by go_num, by go_num, rfl, rfl, rfl, ⟨by have := HI.out.1; omega, by omega⟩, .inr HW⟩
                  · have hN3 : ((cc : Int) + 1 + 1 == (N : Int)) = false := beq_eq_false_iff_ne.2 (by omega)
                    have hN4 : decide ((cc : Int) + 1 + 1 < (N : Int)) = true := decide_eq_true (by omega)
                    have HFL := Aside0.mk (show flushD (aD (N - (cc + 1)) keep S.data.toList (R ++ l[i]).data.toList q false) 0 = (aD (N - (cc + 2)) keep (S ++ (R ++ l[i])).data.toList [] [] false, 0) by rw [show N - (cc + 1) = (N - (cc + 3)) + 2 by omega, show N - (cc + 2) = (N - (cc + 3)) + 1 by omega]; exact (arm_flush HQ.out).1)
                    have hadd2 := HADD.out
                    go_wp2_with fail
                    go_at_call 23
                    refine (downP HD5.out false rfl).mono ?_
                    rintro e w6 ⟨rfl, rfl⟩
                    go_wp2_with fail
                    go_at_call 16
                    refine (flushP HD5.out 0 0 HFL.out).mono ?_
                    rintro e w7 ⟨rfl, hd, _⟩
                    have HU7 := Aside0.mk (HU.out.odd hlt hp (by omega) hd)
                    clear hd
                    go_wp2_with fail
                    go_roundg (gk - 1)
                    case measure => have := HI.out.1; omega
                    case rel => exact ⟨i + 1, cc + 2, S ++ (R ++ l[i]), ⟨#[]⟩, ⟨#[]⟩, by go_num, by go_num, rfl, rfl, rfl, ⟨by have := HI.out.1; omega, by omega⟩, .inl HU7⟩
                · have hpe : ((i : Int) % 2 == 1) = false := beq_eq_false_iff_ne.2 (by omega)
                  have HU7 := Aside0.mk (HU.out.even hlt (by omega) hc2 (by rw [HNF.out]; exact HQ.out) HD5.out)
                  rw [HNF.out] at HU7
                  go_wp2_with fail
                  go_roundg (gk - 1)
                  case measure => have := HI.out.1; omega
                  case rel => exact ⟨i + 1, cc + 1, S, R ++ l[i], l[i], by go_num, by go_num, rfl, rfl, rfl, ⟨by have := HI.out.1; omega, by omega⟩, .inl HU7⟩
              · have hFe : F.toList.isEmpty = false := by rw [Lib.toList_data]; simpa using hF
                have HNF : Aside0 (nxF F l[i] = F) := ⟨by unfold nxF; rw [if_neg hF]⟩
                rw [HNF.out] at HQ
                clear hF
                by_cases hp : i % 2 = 1
                · have hpe : ((i : Int) % 2 == 1) = true := beq_iff_eq.2 (by omega)
                  by_cases hl2 : cc + 2 = N
                  · have hN3 : ((cc : Int) + 1 + 1 == (N : Int)) = true := beq_iff_eq.2 (by omega)
                    have hN4 : decide ((cc : Int) + 1 + 1 < (N : Int)) = false := decide_eq_false (by omega)
                    have HFL := Aside0.mk (show flushD (aD (N - (cc + 1)) keep S.data.toList (R ++ l[i]).data.toList q false) 0 = (aD 0 keep (S.data.toList ++ (F).data.toList.take (clampN keep (F).size)) [] [] true, 9) by rw [show N - (cc + 1) = 1 by omega]; exact (arm_flush (a := 0) HQ.out).2)
                    go_wp2_with fail
                    go_at_call 23
                    refine (downP HD5.out false rfl).mono ?_
                    rintro e w6 ⟨rfl, rfl⟩
                    go_wp2_with fail
                    go_at_call 16
                    refine (flushP HD5.out 0 9 HFL.out).mono ?_
                    rintro e w7 ⟨rfl, hd, _⟩
                    have HW : Aside0 (ArmDown w w1.heap.size keep S F w7) := ⟨⟨hd.mono (by omega), by have h1 := HQ.out.size; rw [size_toList, size_toList, ByteArray.size_append] at h1; have := HSB.out; omega⟩⟩
                    clear hd
                    go_wp2_with fail
                    go_roundg (gk - 1)
                    case measure => have := HI.out.1; omega
                    case rel => exact ⟨i + 1, cc + 2, S, R ++ l[i], F, by go_num, by go_num, rfl, rfl, rfl, ⟨by have := HI.out.1; omega, by omega⟩, .inr HW⟩
                  · have hN3 : ((cc : Int) + 1 + 1 == (N : Int)) = false := beq_eq_false_iff_ne.2 (by omega)
                    have hN4 : decide ((cc : Int) + 1 + 1 < (N : Int)) = true := decide_eq_true (by omega)
                    have HFL := Aside0.mk (show flushD (aD (N - (cc + 1)) keep S.data.toList (R ++ l[i]).data.toList q false) 0 = (aD (N - (cc + 2)) keep (S ++ (R ++ l[i])).data.toList [] [] false, 0) by rw [show N - (cc + 1) = (N - (cc + 3)) + 2 by omega, show N - (cc + 2) = (N - (cc + 3)) + 1 by omega]; exact (arm_flush HQ.out).1)
                    have hadd2 := HADD.out
                    go_wp2_with fail
                    go_at_call 23
                    refine (downP HD5.out false rfl).mono ?_
                    rintro e w6 ⟨rfl, rfl⟩
                    go_wp2_with fail
                    go_at_call 16
                    refine (flushP HD5.out 0 0 HFL.out).mono ?_
                    rintro e w7 ⟨rfl, hd, _⟩
                    have HU7 := Aside0.mk (HU.out.odd hlt hp (by omega) hd)
                    clear hd
                    go_wp2_with fail
                    go_roundg (gk - 1)
                    case measure => have := HI.out.1; omega
                    case rel => exact ⟨i + 1, cc + 2, S ++ (R ++ l[i]), ⟨#[]⟩, ⟨#[]⟩, by go_num, by go_num, rfl, rfl, rfl, ⟨by have := HI.out.1; omega, by omega⟩, .inl HU7⟩
                · have hpe : ((i : Int) % 2 == 1) = false := beq_eq_false_iff_ne.2 (by omega)
                  have HU7 := Aside0.mk (HU.out.even hlt (by omega) hc2 (by rw [HNF.out]; exact HQ.out) HD5.out)
                  rw [HNF.out] at HU7
                  go_wp2_with fail
                  go_roundg (gk - 1)
                  case measure => have := HI.out.1; omega
                  case rel => exact ⟨i + 1, cc + 1, S, R ++ l[i], F, by go_num, by go_num, rfl, rfl, rfl, ⟨by have := HI.out.1; omega, by omega⟩, .inl HU7⟩
          · go_wp2_with fail
            obtain rfl : i = l.length := by omega
            obtain ⟨q, HQ0, HD0⟩ := HU.out.dsk
            have HD := Aside0.mk HD0
            have hadd := fun w => run_string_add_sum (P := Try.prog) w S R (by have := HU.out.sums; have := HT2.out; omega)
            have hcN : (cc : Int) < (N : Int) := by have := HU.out.lim; omega
            clear HQ0 HD0
            go_wp2_with fail
            go_at_call 23
            refine (downP HD.out false rfl).mono ?_
            rintro e w3 ⟨rfl, rfl⟩
            go_wp2_with fail
            go_at_call 20
            refine (readP HD.out 0 (S ++ R) 0 (by rw [ba_append]; exact a_read _ _ _ _ _)).mono ?_
            rintro e w4 ⟨rfl, hd, _⟩
            have HD4 := Aside0.mk hd
            clear hd
            go_wp2_with fail
            go_ret
            exact ⟨rfl, HD4.out.far⟩
        · have hi0 : i ≤ l.length := by have := HI.out.1; omega
          by_cases hlt : i < l.length
          · go_wp2_with fail
            go_at_call 23
            refine (downP HW.out.dsk true rfl).mono ?_
            rintro e w3 ⟨rfl, rfl⟩
            go_wp2_with fail
            go_at_call 23
            refine (downP HW.out.dsk true rfl).mono ?_
            rintro e w3 ⟨rfl, rfl⟩
            go_wp2_with fail
            go_at_call 19
            refine (startP HW.out.dsk (a_start _ _ _ _ _)).mono ?_
            rintro e w4 ⟨rfl, hd, _⟩
            have HD4 := Aside0.mk hd
            clear hd
            go_wp2_with fail
            go_at_call 20
            refine (readP HD4.out 0 (S ++ F.extract 0 (clampN keep F.size)) 0 (by rw [ba_append, arms_ext]; exact a_read0 _ _ _ _)).mono ?_
            rintro e w5 ⟨rfl, hd, _⟩
            have HD5 := Aside0.mk hd
            clear hd
            have x0 := clampN_int keep F.size
            have x1 := clampN_le keep F.size
            have hadd := fun w => run_string_add_sum (P := Try.prog) w S (F.extract 0 (clampN keep F.size)) (by have h1 := HW.out.size; rw [extract_size, arms_ext, List.length_take]; omega)
            go_wp2_with fail
            go_ret
            exact ⟨rfl, HD5.out.far⟩
          · go_wp2_with fail
            go_at_call 23
            refine (downP HW.out.dsk true rfl).mono ?_
            rintro e w3 ⟨rfl, rfl⟩
            go_wp2_with fail
            go_at_call 19
            refine (startP HW.out.dsk (a_start _ _ _ _ _)).mono ?_
            rintro e w4 ⟨rfl, hd, _⟩
            have HD4 := Aside0.mk hd
            clear hd
            go_wp2_with fail
            go_at_call 20
            refine (readP HD4.out 0 (S ++ F.extract 0 (clampN keep F.size)) 0 (by rw [ba_append, arms_ext]; exact a_read0 _ _ _ _)).mono ?_
            rintro e w5 ⟨rfl, hd, _⟩
            have HD5 := Aside0.mk hd
            clear hd
            have x0 := clampN_int keep F.size
            have x1 := clampN_le keep F.size
            have hadd := fun w => run_string_add_sum (P := Try.prog) w S (F.extract 0 (clampN keep F.size)) (by have h1 := HW.out.size; rw [extract_size, arms_ext, List.length_take]; omega)
            go_wp2_with fail
            go_ret
            exact ⟨rfl, HD5.out.far⟩

theorem diskArms_row (A : Option Addr) (c : Nat) (l : List ByteArray) (n keep : Int) (w : World) (hC : Kd.C Kd.string w A l.length l) (hs : ∀ s ∈ l, s.size ≤ 140737488355328) (_ : (Lit.int .i64 n).wf = true) (_ : (Lit.int .i64 keep).wf = true) : ArmsGoal l A c n keep w := by
  have hm : l.length ≤ 9223372036854775807 := hC.2.1
  by_cases h50 : l.length ≤ 50
  · by_cases hT : totA l l.length ≤ 20000
    · by_cases h1 : n < 1
      · exact arms_n0 l A c n keep w hC hm h50 hs hT h1
      · by_cases h2 : 100 < n
        · exact arms_n1 l A c n keep w hC hm h50 hs hT h2
        · exact arms_main l A c n keep w hC hm h50 hs hT n.toNat (by omega) (by omega) (by omega)
    · exact arms_big l A c n keep w hC hm h50 hs hT
  · exact arms_long l A c n keep w hC hm h50
end Go.Proofs.Ytbhlpnkccdcdiaa.Dk
