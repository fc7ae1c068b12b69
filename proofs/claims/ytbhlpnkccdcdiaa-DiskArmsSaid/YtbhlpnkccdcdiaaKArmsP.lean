/- DiskArms, the plain part: the states that the law's disk goes through. -/
import Derived.Test.YtbhlpnkccdcdiaaKReordP
namespace Go.Proofs.Ytbhlpnkccdcdiaa.Dk
open Go.RowKit Go.Proofs.YtbhlpnkccdcdiaaW.PrintWords Go.Lib
set_option linter.unusedVariables false
set_option linter.unusedSimpArgs false

/-- One file is used: s is durable, r is not; the crash is due in a calls, and keeps k bytes of the first append. -/
def aD (a : Nat) (k : Int) (s r : List UInt8) (q : List Pd) (dn : Bool) : DS := ⟨⟨s ++ r, s.length⟩ :: List.replicate 7 ⟨[], 0⟩, q, 0, dn, a, [k]⟩
structure AQ (s r f : List UInt8) (q : List Pd) : Prop where
  own : ∀ p ∈ q, p.f = 0 ∧ 0 ≤ p.a
  nil : f = [] → r = [] ∧ q = []
  cons : f ≠ [] → (∃ t, r = f ++ t) ∧ ∃ qs, q = (⟨0, s.length, f.length⟩ : Pd) :: qs
def putQ (s r x : List UInt8) (q : List Pd) : List Pd := if x = [] then q else q ++ [⟨0, (s ++ r).length, x.length⟩]
theorem AQ.start (s : List UInt8) : AQ s [] [] [] := ⟨fun p hp => (by cases hp), fun _ => ⟨rfl, rfl⟩, fun h => absurd rfl h⟩
theorem AQ.put {s r f : List UInt8} {q : List Pd} (h : AQ s r f q) (x : List UInt8) : AQ s (r ++ x) (if f = [] then x else f) (putQ s r x q) := by
  refine ⟨fun p hp => ?_, fun hf => ?_, fun hf => ?_⟩
  · unfold putQ at hp
    split at hp
    · exact h.own p hp
    · rcases List.mem_append.1 hp with hp | hp
      · exact h.own p hp
      · rw [List.mem_singleton] at hp
        subst hp
        exact ⟨rfl, by show (0 : Int) ≤ ((s ++ r).length : Int); omega⟩
  · by_cases e : f = []
    · rw [if_pos e] at hf
      obtain ⟨h1, h2⟩ := h.nil e
      unfold putQ
      rw [if_pos hf, hf, h1, h2]
      exact ⟨rfl, rfl⟩
    · rw [if_neg e] at hf
      exact absurd hf e
  · by_cases e : f = []
    · rw [if_pos e] at hf ⊢
      obtain ⟨h1, h2⟩ := h.nil e
      unfold putQ
      rw [if_neg hf, h1, h2]
      exact ⟨⟨[], by simp⟩, [], by simp⟩
    · rw [if_neg e]
      obtain ⟨⟨t, h1⟩, qs, h2⟩ := h.cons e
      refine ⟨⟨t ++ x, by rw [h1, List.append_assoc]⟩, ?_⟩
      unfold putQ
      split
      · exact ⟨qs, h2⟩
      · exact ⟨qs ++ [⟨0, (s ++ r).length, x.length⟩], by rw [h2]; rfl⟩
theorem a_may (a : Nat) (k : Int) (s r : List UInt8) (q : List Pd) : mayOf (aD a k s r q false) [0] = 0 := rfl
theorem a_core (a : Nat) (k : Int) (s r : List UInt8) (q : List Pd) (x : List UInt8) (hl : s.length + r.length + x.length ≤ 20000) : coreD (aD a k s r q false) 0 x = (aD a k s (r ++ x) (putQ s r x q) false, 0) := by
  have hb : ((aD a k s r q false).fl (0 : Int).toNat).b.length = s.length + r.length := by show (s ++ r).length = _; rw [List.length_append]
  unfold coreD
  rw [if_neg (by rw [a_may]; simp), if_neg (by rw [hb]; omega)]
  unfold putQ
  by_cases e : x = []
  · rw [if_pos e, if_pos e, e, List.append_nil]
  · rw [if_neg e, if_neg e]
    show ((⟨⟨s ++ r ++ x, s.length⟩ :: List.replicate 7 ⟨[], 0⟩, q ++ [⟨0, (s ++ r).length, x.length⟩], 0, false, a, [k]⟩ : DS), (0 : Int)) = _
    rw [List.append_assoc]
    rfl
theorem a_app (a : Nat) (k : Int) (s r : List UInt8) (q : List Pd) (x : List UInt8) (hl : s.length + r.length + x.length ≤ 20000) : appendD (aD (a + 2) k s r q false) 0 x = (aD (a + 1) k s (r ++ x) (putQ s r x q) false, 0) := by
  unfold appendD
  rw [if_neg (by simp [endsB, aD])]
  exact a_core (a + 1) k s r q x hl
theorem a_app1 (k : Int) (s r : List UInt8) (q : List Pd) (x : List UInt8) (hl : s.length + r.length + x.length ≤ 20000) : appendD (aD 1 k s r q false) 0 x = (crashD (aD 0 k s (r ++ x) (putQ s r x q) false) [k], 9) := by
  unfold appendD
  rw [if_pos (by simp [endsB, aD])]
  have := a_core 0 k s r q x hl
  rw [show tick (aD 1 k s r q false) = aD 0 k s r q false from rfl, this]
  rfl
theorem settle_own {q : List Pd} (h : ∀ p ∈ q, p.f = 0 ∧ 0 ≤ p.a) : settle q 0 0 = [] := by
  unfold settle
  have : (q.filter fun x => !goneP 0 0 x) = [] := by
    rw [List.filter_eq_nil_iff]
    intro p hp
    obtain ⟨h1, h2⟩ := h p hp
    simp [goneP, h1, h2]
  rw [this]
  rfl
theorem a_fl (a : Nat) (k : Int) (s r : List UInt8) (q : List Pd) (h : ∀ p ∈ q, p.f = 0 ∧ 0 ≤ p.a) : flushD (aD (a + 2) k s r q false) 0 = (aD (a + 1) k (s ++ r) [] [] false, 0) := by
  have hp : preD (aD (a + 2) k s r q false) = aD (a + 1) k s r q false := by
    rw [pre_tick (by simp [endsB, aD])]
    rfl
  unfold flushD
  rw [hp, if_neg (by rw [a_may]; simp), if_neg (show ¬ 0 < (aD (a + 1) k s r q false).lost from Nat.lt_irrefl 0)]
  show ((⟨⟨s ++ r, (s ++ r).length⟩ :: List.replicate 7 ⟨[], 0⟩, settle q 0 0, 0, false, a + 1, [k]⟩ : DS), (0 : Int)) = _
  rw [settle_own h]
  unfold aD
  rw [List.append_nil]
theorem a_fl1 (k : Int) (s r : List UInt8) (q : List Pd) : flushD (aD 1 k s r q false) 0 = (crashD (aD 0 k s r q false) [k], 9) := by
  have hp : preD (aD 1 k s r q false) = crashD (aD 0 k s r q false) [k] := by
    unfold preD
    rw [if_pos (by simp [endsB, aD])]
    rfl
  unfold flushD
  rw [hp, if_pos (by rw [may_down (crashD_down _ _)]; decide), may_down (crashD_down _ _)]
theorem loop_none (fs : List Fl) (k : Int) : ∀ (q : List Pd) (i : Nat) (L : List (List UInt8)), crashLoop fs [k] (i + 1) q L = L
  | [], i, L => rfl
  | p :: q, i, L => by
    rw [crashLoop, loop_none fs k q (i + 1)]
    unfold crashStep
    rw [if_pos (by simp [keptN])]
/-- What a crash leaves: the durable bytes, and of the first append a beginning. -/
theorem a_crash {s r f : List UInt8} {q : List Pd} (h : AQ s r f q) (a : Nat) (k : Int) : crashD (aD a k s r q false) [k] = aD 0 k (s ++ f.take (clampN k f.length)) [] [] true := by
  have h0 : crash0 (aD a k s r q false).fs = s :: List.replicate 7 [] := by
    show (s ++ r).take s.length :: _ = _
    rw [List.take_left]
    rfl
  have key : crashLoop (aD a k s r q false).fs [k] 0 q (s :: List.replicate 7 []) = (s ++ f.take (clampN k f.length)) :: List.replicate 7 [] := by
    by_cases e : f = []
    · obtain ⟨h1, h2⟩ := h.nil e
      rw [h2, e, List.take_nil, List.append_nil]
      rfl
    · obtain ⟨⟨t, h1⟩, qs, h2⟩ := h.cons e
      rw [h2, crashLoop, loop_none]
      have hc := clampN_le k f.length
      have e1 : keptN [k] 0 ((f.length : Nat) : Int) = (clampN k f.length : Int) := clampN_int k _
      unfold crashStep
      simp only [e1]
      by_cases h3 : (clampN k f.length : Int) = 0
      · rw [if_pos h3, show clampN k f.length = 0 by omega]
        simp
      · rw [if_neg h3, Int.toNat_natCast]
        show (s ++ List.replicate ((s.length : Int).toNat - s.length) 0 ++ ((s ++ r).drop (s.length : Int).toNat).take (clampN k f.length)) :: _ = _
        rw [Int.toNat_natCast, Nat.sub_self, List.replicate_zero, List.append_nil, List.drop_left, h1, List.take_append_of_le_length hc]
  unfold crashD
  rw [if_neg (by simp [aD])]
  show ({ aD a k s r q false with fs := (crashLoop (aD a k s r q false).fs [k] 0 q (crash0 (aD a k s r q false).fs)).map fun l => ⟨l, l.length⟩, q := [], down := true, armed := 0 } : DS) = _
  rw [h0, key]
  unfold aD
  rw [List.append_nil]
  rfl
theorem a_read (a : Nat) (k : Int) (s r : List UInt8) (q : List Pd) : readD (aD a k s r q false) 0 = (s ++ r, 0) := rfl
theorem a_start (a : Nat) (k : Int) (s r : List UInt8) (q : List Pd) : ({ aD a k s r q true with down := false } : DS) = aD a k s r q false := rfl
theorem a_arm (n : Nat) (k : Int) : ({ newD with armed := n, keep := [k] } : DS) = aD n k [] [] [] false := rfl
theorem a_down (a : Nat) (k : Int) (s r : List UInt8) (q : List Pd) (dn : Bool) : (aD a k s r q dn).down = dn := rfl
end Go.Proofs.Ytbhlpnkccdcdiaa.Dk
