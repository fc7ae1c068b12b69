/- DiskTurns, the plain part: the states that the law's disk goes through. -/
import Derived.Test.YtbhlpnkccdcdiaaKDsk
namespace Go.Proofs.Ytbhlpnkccdcdiaa.Dk
open Go.RowKit Go.Proofs.YtbhlpnkccdcdiaaW.PrintWords Go.Lib
set_option linter.unusedVariables false
set_option linter.unusedSimpArgs false

def tS (b3 : List UInt8) (n3 : Nat) (b4 : List UInt8) (n4 : Nat) (q : List Pd) (dn : Bool) : DS := ⟨[⟨[], 0⟩, ⟨[], 0⟩, ⟨[], 0⟩, ⟨b3, n3⟩, ⟨b4, n4⟩, ⟨[], 0⟩, ⟨[], 0⟩, ⟨[], 0⟩], q, 0, dn, 0, []⟩
def pend (f : Int) (a : Nat) (s : List UInt8) : List Pd := if s = [] then [] else [⟨f, a, s.length⟩]
theorem settle_nil (f n : Int) : settle [] f n = [] := rfl
theorem settle_pend {f : Int} {a : Nat} (s : List UInt8) : settle (pend f a s) f 0 = [] := by
  unfold pend
  split
  · rfl
  · simp [settle, goneP]
theorem ap3 (e : List UInt8) (he : e.length ≤ 50000) : appendD newD 3 e = (tS e 0 [] 0 (pend 3 0 e) false, 0) := by
  have h1 : endsB newD = false := rfl
  have h2 : mayOf (tick newD) [3] = 0 := rfl
  have h3 : (tick newD).fl (3 : Int).toNat = ⟨[], 0⟩ := rfl
  unfold appendD
  rw [if_neg (by rw [h1]; simp)]
  unfold coreD
  rw [if_neg (by rw [h2]; simp), if_neg (by rw [h3]; simp only [List.length_nil]; omega)]
  unfold pend
  by_cases e0 : e = []
  · rw [if_pos e0, if_pos e0, e0]
    rfl
  · rw [if_neg e0, if_neg e0]
    rfl
theorem fl3 (e : List UInt8) : flushD (tS e 0 [] 0 (pend 3 0 e) false) 3 = (tS e e.length [] 0 [] false, 0) := by
  have hp : preD (tS e 0 [] 0 (pend 3 0 e) false) = tS e 0 [] 0 (pend 3 0 e) false := rfl
  unfold flushD
  rw [hp, if_neg (fun h => h rfl), if_neg (show ¬ 0 < (tS e 0 [] 0 (pend 3 0 e) false).lost from Nat.lt_irrefl 0)]
  show ((⟨_, settle (pend 3 0 e) 3 0, _, _, _, _⟩ : DS), (0 : Int)) = _
  rw [settle_pend]
  rfl
theorem ap4 (b : List UInt8) (n : Nat) (s : List UInt8) (hs : s.length ≤ 50000) : appendD (tS b n [] 0 [] false) 4 s = (tS b n s 0 (pend 4 0 s) false, 0) := by
  have h1 : endsB (tS b n [] 0 [] false) = false := rfl
  have h2 : mayOf (tick (tS b n [] 0 [] false)) [4] = 0 := rfl
  have h3 : (tick (tS b n [] 0 [] false)).fl (4 : Int).toNat = ⟨[], 0⟩ := rfl
  unfold appendD
  rw [if_neg (by rw [h1]; simp)]
  unfold coreD
  rw [if_neg (by rw [h2]; simp), if_neg (by rw [h3]; simp only [List.length_nil]; omega)]
  unfold pend
  by_cases e0 : s = []
  · rw [if_pos e0, if_pos e0, e0]
    rfl
  · rw [if_neg e0, if_neg e0]
    rfl
theorem fl4 (b : List UInt8) (n : Nat) (s : List UInt8) : flushD (tS b n s 0 (pend 4 0 s) false) 4 = (tS b n s s.length [] false, 0) := by
  have hp : preD (tS b n s 0 (pend 4 0 s) false) = tS b n s 0 (pend 4 0 s) false := rfl
  unfold flushD
  rw [hp, if_neg (fun h => h rfl), if_neg (show ¬ 0 < (tS b n s 0 (pend 4 0 s) false).lost from Nat.lt_irrefl 0)]
  show ((⟨_, settle (pend 4 0 s) 4 0, _, _, _, _⟩ : DS), (0 : Int)) = _
  rw [settle_pend]
  rfl
theorem tu (b : List UInt8) (n : Nat) (s : List UInt8) (m : Nat) (hm : s.length ≤ m) : turnD (tS b n s m [] false) 3 4 = (tS s m [] 0 [] false, 0) := by
  have hp : preD (tS b n s m [] false) = tS b n s m [] false := rfl
  unfold turnD
  rw [hp, if_neg (fun h => h rfl), if_neg (by decide), if_neg (by show ¬ m < s.length; omega)]
  rfl
theorem tuE (b : List UInt8) (n : Nat) (s : List UInt8) (hs : s ≠ []) : turnD (tS b n s 0 (pend 4 0 s) false) 3 4 = (tS b n s 0 (pend 4 0 s) false, 10) := by
  have hp : preD (tS b n s 0 (pend 4 0 s) false) = tS b n s 0 (pend 4 0 s) false := rfl
  unfold turnD
  rw [hp, if_neg (fun h => h rfl), if_neg (by decide), if_pos (by show 0 < s.length; exact List.length_pos_iff.2 hs)]
theorem cr (b s : List UInt8) (keep : List Int) : crashD (tS b b.length s s.length [] false) keep = tS b b.length s s.length [] true := by
  show ({ fs := ([[], [], [], b.take b.length, s.take s.length, [], [], []] : List (List UInt8)).map _, .. } : DS) = _
  rw [List.take_length, List.take_length]
  rfl
theorem crE (b s : List UInt8) (hs : s ≠ []) (keep : List Int) : ∃ k, crashD (tS b b.length s 0 (pend 4 0 s) false) keep = tS b b.length (s.take k) (s.take k).length [] true := by
  refine ⟨(keptN keep 0 s.length).toNat, ?_⟩
  have e : pend 4 0 s = [⟨4, (0 : Nat), s.length⟩] := by unfold pend; rw [if_neg hs]
  rw [e]
  show ({ fs := (crashStep _ keep 0 ⟨4, (0 : Nat), s.length⟩ [[], [], [], b.take b.length, s.take 0, [], [], []]).map _, .. } : DS) = _
  unfold crashStep
  by_cases h0 : keptN keep 0 (s.length : Int) = 0
  · rw [if_pos h0, h0, List.take_length]
    rfl
  · rw [if_neg h0, List.take_length]
    rfl
theorem rd3 (b : List UInt8) (n : Nat) (s : List UInt8) (m : Nat) (q : List Pd) : readD (tS b n s m q false) 3 = (b, 0) := rfl
theorem sz4 (b : List UInt8) (n : Nat) (s : List UInt8) (m : Nat) (q : List Pd) (dn : Bool) : sizeOf (tS b n s m q dn) 4 = s.length := rfl
theorem st (b : List UInt8) (n : Nat) (s : List UInt8) (m : Nat) (q : List Pd) : ({ tS b n s m q true with down := false } : DS) = tS b n s m q false := rfl
end Go.Proofs.Ytbhlpnkccdcdiaa.Dk
