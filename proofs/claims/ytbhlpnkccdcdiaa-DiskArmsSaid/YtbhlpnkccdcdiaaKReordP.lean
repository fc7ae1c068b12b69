/- DiskReorders, the plain part: the states that the law's disk goes through. -/
import Derived.Test.YtbhlpnkccdcdiaaKTurnsP
namespace Go.Proofs.Ytbhlpnkccdcdiaa.Dk
open Go.RowKit Go.Proofs.YtbhlpnkccdcdiaaW.PrintWords Go.Lib
set_option linter.unusedVariables false
set_option linter.unusedSimpArgs false

def rS (b5 : List UInt8) (n5 : Nat) (b6 : List UInt8) (n6 : Nat) (q : List Pd) (dn : Bool) : DS := ⟨[⟨[], 0⟩, ⟨[], 0⟩, ⟨[], 0⟩, ⟨[], 0⟩, ⟨[], 0⟩, ⟨b5, n5⟩, ⟨b6, n6⟩, ⟨[], 0⟩], q, 0, dn, 0, []⟩
theorem ap_put {D : DS} {f : Nat} {s : List UInt8} (h1 : endsB D = false) (h2 : mayOf (tick D) [(f : Int)] = 0) (h3 : ((tick D).fl f).b.length + s.length ≤ 16777216) (h4 : s ≠ []) : appendD D f s = (putD (tick D) f s, 0) := by
  unfold appendD
  rw [if_neg (by rw [h1]; simp)]
  unfold coreD
  rw [if_neg (by rw [h2]; simp), if_neg (by rw [Int.toNat_natCast]; omega), if_neg h4]
  rfl
theorem rap1 (a : List UInt8) (h : a ≠ []) (hl : a.length ≤ 60000) : appendD newD 5 a = (rS a 0 [] 0 [⟨5, 0, a.length⟩] false, 0) := by
  have := ap_put (D := newD) (f := 5) (s := a) rfl rfl (by show ([] : List UInt8).length + a.length ≤ _; simp only [List.length_nil]; omega) h
  exact this
theorem rap2 (a c : List UInt8) (q : List Pd) (h : c ≠ []) (hl : c.length ≤ 60000) : appendD (rS a 0 [] 0 q false) 6 c = (rS a 0 c 0 (q ++ [⟨6, 0, c.length⟩]) false, 0) := by
  have := ap_put (D := rS a 0 [] 0 q false) (f := 6) (s := c) rfl rfl (by show ([] : List UInt8).length + c.length ≤ _; simp only [List.length_nil]; omega) h
  exact this
theorem rap3 (a b c : List UInt8) (q : List Pd) (h : b ≠ []) (hl : a.length + b.length ≤ 60000) : appendD (rS a 0 c 0 q false) 5 b = (rS (a ++ b) 0 c 0 (q ++ [⟨5, a.length, b.length⟩]) false, 0) := by
  have := ap_put (D := rS a 0 c 0 q false) (f := 5) (s := b) rfl rfl (by show a.length + b.length ≤ _; omega) h
  exact this
/-- How much of a piece is kept. -/
def clampN (k : Int) (n : Nat) : Nat := (min (max k 0) (n : Int)).toNat
theorem clampN_le (k : Int) (n : Nat) : clampN k n ≤ n := by unfold clampN; omega
theorem clampN_int (k : Int) (n : Nat) : min (max k 0) (n : Int) = (clampN k n : Int) := by unfold clampN; omega
def s5 (a b : List UInt8) (x y : Nat) : List UInt8 := if y = 0 then a.take x else a.take x ++ List.replicate (a.length - x) 0 ++ b.take y
def rQ (a b c : List UInt8) : List Pd := [⟨5, 0, a.length⟩] ++ [⟨6, 0, c.length⟩] ++ [⟨5, a.length, b.length⟩]
theorem rcr (a b c : List UInt8) (k0 k1 k2 : Int) : crashD (rS (a ++ b) 0 c 0 (rQ a b c) false) [k0, k1, k2] = rS (s5 a b (clampN k0 a.length) (clampN k2 b.length)) (s5 a b (clampN k0 a.length) (clampN k2 b.length)).length (c.take (clampN k1 c.length)) (c.take (clampN k1 c.length)).length [] true := by
  have e0 : ∀ n, keptN [k0, k1, k2] 0 (n : Nat) = (clampN k0 n : Int) := fun n => clampN_int k0 n
  have e1 : ∀ n, keptN [k0, k1, k2] 1 (n : Nat) = (clampN k1 n : Int) := fun n => clampN_int k1 n
  have e2 : ∀ n, keptN [k0, k1, k2] 2 (n : Nat) = (clampN k2 n : Int) := fun n => clampN_int k2 n
  have l0 := clampN_le k0 a.length
  have l1 := clampN_le k1 c.length
  have l2 := clampN_le k2 b.length
  let fs : List Fl := (rS (a ++ b) 0 c 0 (rQ a b c) false).fs
  have t0 : crashStep fs [k0, k1, k2] 0 ⟨5, (0 : Nat), a.length⟩ [[], [], [], [], [], [], [], []] = [[], [], [], [], [], a.take (clampN k0 a.length), [], []] := by
    unfold crashStep
    rw [e0]
    by_cases h : (clampN k0 a.length : Int) = 0
    · rw [if_pos h, show clampN k0 a.length = 0 by omega]
      rfl
    · rw [if_neg h, Int.toNat_natCast]
      show [[], [], [], [], [], [] ++ List.replicate (0 - 0) 0 ++ ((a ++ b).drop 0).take (clampN k0 a.length), [], []] = _
      rw [List.drop_zero, List.take_append_of_le_length l0]
      rfl
  have t1 : ∀ L5, crashStep fs [k0, k1, k2] 1 ⟨6, (0 : Nat), c.length⟩ [[], [], [], [], [], L5, [], []] = [[], [], [], [], [], L5, c.take (clampN k1 c.length), []] := by
    intro L5
    unfold crashStep
    rw [e1]
    by_cases h : (clampN k1 c.length : Int) = 0
    · rw [if_pos h, show clampN k1 c.length = 0 by omega]
      rfl
    · rw [if_neg h, Int.toNat_natCast]
      rfl
  have t2 : ∀ L6, crashStep fs [k0, k1, k2] 2 ⟨5, a.length, b.length⟩ [[], [], [], [], [], a.take (clampN k0 a.length), L6, []] = [[], [], [], [], [], s5 a b (clampN k0 a.length) (clampN k2 b.length), L6, []] := by
    intro L6
    unfold crashStep s5
    rw [e2]
    by_cases h : (clampN k2 b.length : Int) = 0
    · rw [if_pos h, if_pos (by omega)]
    · rw [if_neg h, if_neg (by omega), Int.toNat_natCast]
      show [[], [], [], [], [], a.take (clampN k0 a.length) ++ List.replicate ((a.length : Int).toNat - (a.take (clampN k0 a.length)).length) 0 ++ ((a ++ b).drop (a.length : Int).toNat).take (clampN k2 b.length), L6, []] = _
      rw [Int.toNat_natCast, List.drop_left, List.length_take, Nat.min_eq_left l0]
  show ({ fs := (crashStep fs [k0, k1, k2] 2 ⟨5, a.length, b.length⟩ (crashStep fs [k0, k1, k2] 1 ⟨6, (0 : Nat), c.length⟩ (crashStep fs [k0, k1, k2] 0 ⟨5, (0 : Nat), a.length⟩ [[], [], [], [], [], (a ++ b).take 0, c.take 0, []]))).map _, .. } : DS) = _
  rw [List.take_zero, List.take_zero, t0, t1, t2]
  rfl
theorem rcr2 (a : List UInt8) (n : Nat) (c : List UInt8) (m : Nat) (keep : List Int) : crashD (rS a n c m [] true) keep = rS a n c m [] true := rfl
theorem rcr3 (a c : List UInt8) (keep : List Int) : crashD (rS a a.length c c.length [] false) keep = rS a a.length c c.length [] true := by
  show ({ fs := ([[], [], [], [], [], a.take a.length, c.take c.length, []] : List (List UInt8)).map _, .. } : DS) = _
  rw [List.take_length, List.take_length]
  rfl
theorem rst (a : List UInt8) (n : Nat) (c : List UInt8) (m : Nat) (q : List Pd) : ({ rS a n c m q true with down := false } : DS) = rS a n c m q false := rfl
theorem rrd5 (a : List UInt8) (n : Nat) (c : List UInt8) (m : Nat) (q : List Pd) : readD (rS a n c m q false) 5 = (a, 0) := rfl
theorem rrd6 (a : List UInt8) (n : Nat) (c : List UInt8) (m : Nat) (q : List Pd) : readD (rS a n c m q false) 6 = (c, 0) := rfl
theorem extract_list (s : ByteArray) (i j : Nat) : (s.extract i j).data.toList = (s.data.toList.drop i).take (j - i) := by
  rw [ByteArray.data_extract, Array.toList_extract, List.extract_eq_take_drop]
/-- What is read where the later append survives. -/
theorem s5_facts {a b : ByteArray} {x y : Nat} (hx : x ≤ a.size) (hy : y ≤ b.size) (hy0 : y ≠ 0) (S : ByteArray) (hS : S = bs (s5 a.data.toList b.data.toList x y)) :
    S.size = a.size + y ∧ S.extract 0 x = a.extract 0 x ∧ S.extract a.size (a.size + y) = b.extract 0 y ∧ ∀ i, x ≤ i → i < a.size → S.data.toList[i]? = some 0 := by
  have la : a.data.toList.length = a.size := size_toList a
  have lb : b.data.toList.length = b.size := size_toList b
  have e : S.data.toList = a.data.toList.take x ++ List.replicate (a.size - x) 0 ++ b.data.toList.take y := by
    rw [hS, bs_toList, s5, if_neg hy0, la]
  have h1 : (a.data.toList.take x ++ List.replicate (a.size - x) (0 : UInt8)).length = a.size := by
    simp only [List.length_append, List.length_take, List.length_replicate]
    omega
  have hx2 : (a.data.toList.take x).length = x := by rw [List.length_take]; omega
  refine ⟨?_, ?_, ?_, fun i h2 h3 => ?_⟩
  · rw [← size_toList, e, List.length_append, h1, List.length_take]
    omega
  · rw [← bs_of (S.extract 0 x), ← bs_of (a.extract 0 x), extract_list, extract_list, e]
    rw [List.append_assoc, List.drop_zero, List.drop_zero, Nat.sub_zero, List.take_append_of_le_length (by omega), List.take_take, Nat.min_self]
  · rw [← bs_of (S.extract _ _), ← bs_of (b.extract 0 y), extract_list, extract_list, e]
    rw [List.drop_append_of_le_length (by omega), List.drop_eq_nil_of_le (by omega), List.nil_append, List.drop_zero, Nat.sub_zero, List.take_take]
    congr 2
    omega
  · rw [e, List.getElem?_append_left (by omega), List.getElem?_append_right (by omega), hx2, List.getElem?_replicate, if_pos (by omega)]
end Go.Proofs.Ytbhlpnkccdcdiaa.Dk
