/- DiskLasts, the plain part: what every operation leaves durable, and what a crash leaves. -/
import Derived.Test.YtbhlpnkccdcdiaaKArm
namespace Go.Proofs.Ytbhlpnkccdcdiaa.Dk
open Go.RowKit Go.Proofs.YtbhlpnkccdcdiaaW.PrintWords
set_option linter.unusedVariables false
set_option linter.unusedSimpArgs false

/-- An operation of the law. -/
structure Act6 where
  k : Int
  f : Int
  g : Int
  n : Int
  s : ByteArray
  keep : List Int
def doD (D : DS) (x : Act6) : DS × List UInt8 × Int :=
  if x.k % 11 = 0 ∨ x.k % 11 = 1 then ((appendD D x.f x.s.data.toList).1, [], (appendD D x.f x.s.data.toList).2)
  else if x.k % 11 = 2 then ((flushD D x.f).1, [], (flushD D x.f).2)
  else if x.k % 11 = 3 then ((cutD D x.f x.n).1, [], (cutD D x.f x.n).2)
  else if x.k % 11 = 4 then ((turnD D x.f x.g).1, [], (turnD D x.f x.g).2)
  else if x.k % 11 = 5 then (crashD D x.keep, [], 0)
  else if x.k % 11 = 6 then ({ D with lost := x.n.toNat }, [], 0)
  else if x.k % 11 = 7 then ({ D with down := false }, [], 0)
  else if x.k % 11 = 8 then (D, (readD D x.f).1, (readD D x.f).2)
  else if x.k % 11 = 10 then (armD D x.n x.keep, [], 0)
  else (D, [], 0)
/-- The durable part of a file. -/
def durB (D : DS) (f : Nat) : List UInt8 := (D.fl f).b.take (D.fl f).n
def SameD (D D' : DS) : Prop := ∀ f, f < 8 → durB D' f = durB D f
def FellD (D D' : DS) : Prop := D'.down = true ∧ D'.q = [] ∧ ∀ f, f < 8 → ∃ t, D'.fl f = ⟨durB D f ++ t, (durB D f ++ t).length⟩
theorem SameD.refl (D : DS) : SameD D D := fun _ _ => rfl
theorem SameD.of {D D' : DS} (h : D'.fs = D.fs) : SameD D D' := fun f _ => by unfold durB DS.fl; rw [h]
theorem SameD.trans {D D1 D2 : DS} (h : SameD D D1) (h1 : SameD D1 D2) : SameD D D2 := fun f hf => (h1 f hf).trans (h f hf)
theorem SameD.fell {D D1 D2 : DS} (h : SameD D D1) (h1 : FellD D1 D2) : FellD D D2 := ⟨h1.1, h1.2.1, fun f hf => by rw [← h f hf]; exact h1.2.2 f hf⟩
theorem same_tick (D : DS) : SameD D (tick D) := SameD.of (tick_fs D).1

/-! ### A crash -/
/-- s is no longer than t, and each of its bytes is the one there, or 0. -/
def TornL (s t : List UInt8) : Prop := ∀ i u, s[i]? = some u → t[i]? = some u ∨ (i < t.length ∧ u = 0)
theorem crL_torn {D : DS} (h : DOk D) (keep : List Int) : ∀ i f, f < 8 → TornL ((crL D.fs keep D.q i).getD f []) (D.fl f).b ∧ ∃ t, (crL D.fs keep D.q i).getD f [] = durB D f ++ t
  | 0, f, hf => by
    have hl : f < D.fs.length := by rw [h.len]; exact hf
    have e : D.fl f = D.fs[f] := by simp [DS.fl, List.getD_eq_getElem?_getD, List.getElem?_eq_getElem hl]
    have e2 : (crL D.fs keep D.q 0).getD f [] = durB D f := by
      unfold durB
      rw [e]
      simp [crL, crash0, List.getD_eq_getElem?_getD, List.getElem?_eq_getElem hl]
    rw [e2]
    refine ⟨fun i u hi => .inl ?_, [], by simp⟩
    unfold durB at hi
    rw [List.getElem?_take] at hi
    split at hi
    · exact hi
    · cases hi
  | i + 1, f, hf => by
    obtain ⟨ih1, ih2⟩ := crL_torn h keep i f hf
    have hfit := (crL_fits h keep i).2
    rw [crL]
    cases hq : D.q[i]? with
    | none => exact ⟨ih1, ih2⟩
    | some p =>
      simp only
      obtain ⟨h1, h2, h3, h4, h5⟩ := h.qin p (List.mem_of_getElem? hq)
      have hfp := hfit i p (Nat.le_refl _) hq
      have hk := keptN_bound (keep := keep) (i := i) h3
      have hlen : p.f.toNat < (crL D.fs keep D.q i).length := by rw [crL_len, h.len]; omega
      unfold crashStep
      by_cases h0 : keptN keep i p.n = 0
      · rw [if_pos h0]
        exact ⟨ih1, ih2⟩
      · rw [if_neg h0]
        by_cases e : p.f.toNat = f
        · subst e
          rw [List.getD_eq_getElem?_getD, List.getElem?_set_self hlen, Option.getD_some]
          obtain ⟨t, ht⟩ := ih2
          generalize hL : (crL D.fs keep D.q i).getD p.f.toNat [] = L at *
          refine ⟨fun j u hj => ?_, t ++ (List.replicate (p.a.toNat - L.length) 0 ++ ((D.fs.getD p.f.toNat ⟨[], 0⟩).b.drop p.a.toNat).take (keptN keep i p.n).toNat), by rw [List.append_assoc, ht, List.append_assoc]⟩
          have hb : (D.fs.getD p.f.toNat ⟨[], 0⟩).b = (D.fl p.f.toNat).b := rfl
          rw [hb] at hj
          generalize (D.fl p.f.toNat).b = B at *
          have hla : L.length ≤ p.a.toNat := by omega
          have hl1 : (L ++ List.replicate (p.a.toNat - L.length) (0 : UInt8)).length = p.a.toNat := by rw [List.length_append, List.length_replicate]; omega
          by_cases c1 : j < p.a.toNat
          · rw [List.getElem?_append_left (by rw [hl1]; exact c1)] at hj
            by_cases c2 : j < L.length
            · rw [List.getElem?_append_left c2] at hj
              exact ih1 j u hj
            · rw [List.getElem?_append_right (by omega), List.getElem?_replicate] at hj
              split at hj
              · exact .inr ⟨by omega, by injection hj with hj; exact hj.symm⟩
              · cases hj
          · rw [List.getElem?_append_right (by omega), hl1, List.getElem?_take] at hj
            split at hj
            · rw [List.getElem?_drop, show p.a.toNat + (j - p.a.toNat) = j by omega] at hj
              exact .inl hj
            · cases hj
        · rw [List.getD_eq_getElem?_getD, List.getElem?_set_ne e, ← List.getD_eq_getElem?_getD]
          exact ⟨ih1, ih2⟩
theorem crash_fl {D : DS} (h : DOk D) (hd : D.down = false) (keep : List Int) {f : Nat} (hf : f < 8) : (crashD D keep).fl f = ⟨(crL D.fs keep D.q D.q.length).getD f [], ((crL D.fs keep D.q D.q.length).getD f []).length⟩ := by
  rw [crashD_eq hd]
  have hl := crL_len D.fs keep D.q D.q.length
  rw [h.len] at hl
  unfold DS.fl
  simp only [List.getD_eq_getElem?_getD, List.getElem?_map]
  rw [List.getElem?_eq_getElem (by omega)]
  rfl
theorem fell_crash {D : DS} (h : DOk D) (hd : D.down = false) (keep : List Int) : FellD D (crashD D keep) := by
  refine ⟨crashD_down _ _, by rw [crashD_eq hd], fun f hf => ?_⟩
  obtain ⟨_, t, ht⟩ := crL_torn h keep D.q.length f hf
  rw [crash_fl h hd keep hf, ht]
  exact ⟨t, rfl⟩
theorem torn_crash {D : DS} (h : DOk D) (hd : D.down = false) (keep : List Int) {f : Nat} (hf : f < 8) : TornL ((crashD D keep).fl f).b (D.fl f).b := by
  rw [crash_fl h hd keep hf]
  exact (crL_torn h keep D.q.length f hf).1

/-! ### The operations -/
/-- Nothing durable is turned; or the machine fell. -/
def MovedD (D D' : DS) : Prop := (SameD D D' ∧ (D'.down = true → D.down = true)) ∨ (D.down = false ∧ FellD D D')
theorem tick_down (D : DS) : (tick D).down = D.down := (tick_fs D).2.2.2.1
theorem ends_up {D : DS} (h : endsB D = true) : D.down = false := by
  unfold endsB at h
  cases hd : D.down with
  | true => rw [hd] at h; cases h
  | false => rfl
theorem pre_moved {D : DS} (h : DOk D) : (preD D = tick D) ∨ (D.down = false ∧ FellD D (preD D) ∧ ∀ l, mayOf (preD D) l = 9) := by
  cases he : endsB D with
  | false => exact .inl (pre_tick he)
  | true =>
    right
    have hu := ends_up he
    refine ⟨hu, ?_, fun l => pre_down he l⟩
    unfold preD
    rw [if_pos he]
    exact (same_tick D).fell (fell_crash (tick_ok h) (by rw [tick_down]; exact hu) _)
theorem pre_moved' {D : DS} (h : DOk D) : MovedD D (preD D) := by
  rcases pre_moved h with e | ⟨h1, h2, _⟩
  · rw [e]
    exact .inl ⟨same_tick D, fun hd => by rw [tick_down] at hd; exact hd⟩
  · exact .inr ⟨h1, h2⟩
theorem core_same {D : DS} (h : DOk D) (f : Int) (s : List UInt8) : SameD D (coreD D f s).1 ∧ (coreD D f s).1.down = D.down := by
  unfold coreD
  split
  · exact ⟨SameD.refl D, rfl⟩
  · rename_i h0
    split
    · exact ⟨SameD.refl D, rfl⟩
    · split
      · exact ⟨SameD.refl D, rfl⟩
      · refine ⟨fun g hg => ?_, rfl⟩
        obtain ⟨_, hb⟩ := may_is (D := D) (f := f) (by omega)
        obtain ⟨n, hn, rfl⟩ := isB_of hb
        have hl : n < D.fs.length := by rw [h.len]; exact hn
        have hfl := h.flAt hn
        have e : (putD D (n : Int).toNat s).fl g = if n = g then ⟨(D.fl n).b ++ s, (D.fl n).n⟩ else D.fl g := by
          rw [Int.toNat_natCast]
          exact getD_set _ _ _ _ _ hl
        unfold durB
        simp only
        rw [e]
        split
        · rename_i eg
          subst eg
          simp only
          rw [List.take_append_of_le_length hfl.1]
        · rfl
theorem append_moved {D : DS} (h : DOk D) (f : Int) (s : List UInt8) : MovedD D (appendD D f s).1 := by
  have hc := core_same (tick_ok h) f s
  unfold appendD
  split
  · rename_i he
    have hu := ends_up he
    refine .inr ⟨hu, ((same_tick D).trans hc.1).fell (fell_crash (coreD_ok (tick_ok h) f s) ?_ _)⟩
    rw [hc.2, tick_down]
    exact hu
  · exact .inl ⟨(same_tick D).trans hc.1, fun hd => by rw [hc.2, tick_down] at hd; exact hd⟩
theorem crash_moved {D : DS} (h : DOk D) (keep : List Int) : MovedD D (crashD D keep) := by
  cases hd : D.down with
  | true =>
    left
    unfold crashD
    rw [if_pos hd]
    exact ⟨SameD.refl D, fun _ => hd⟩
  | false => exact .inr ⟨hd, fell_crash h hd keep⟩
theorem flush_moved {D : DS} (h : DOk D) (f : Int) : ((flushD D f).2 ≠ 0 ∧ MovedD D (flushD D f).1) ∨ ((flushD D f).2 = 0 ∧ (flushD D f).1.down = false ∧ ∃ n : Nat, n < 8 ∧ f = n ∧ ∀ g, g < 8 → (flushD D f).1.fl g = if n = g then ⟨(D.fl g).b, (D.fl g).b.length⟩ else D.fl g) := by
  have hp := pre_moved' h
  unfold flushD
  split
  · rename_i h0
    exact .inl ⟨h0, hp⟩
  · rename_i h0
    obtain ⟨hdn, hb⟩ := may_is (D := preD D) (f := f) (by omega)
    have et : preD D = tick D := by
      rcases pre_moved h with e | ⟨_, _, h9⟩
      · exact e
      · exact absurd (h9 [f]) (by omega)
    split
    · refine .inl ⟨by simp only; omega, ?_⟩
      rw [et]
      exact .inl ⟨(same_tick D).trans (SameD.of rfl), fun hd => by rw [et] at hdn; rw [hdn] at hd; cases hd⟩
    · right
      refine ⟨rfl, hdn, ?_⟩
      obtain ⟨n, hn, rfl⟩ := isB_of hb
      refine ⟨n, hn, rfl, fun g hg => ?_⟩
      have ef : (preD D).fs = D.fs := by rw [et]; exact (tick_fs D).1
      have efl : ∀ j, (preD D).fl j = D.fl j := fun j => by unfold DS.fl; rw [ef]
      have hl : n < (preD D).fs.length := by rw [ef, h.len]; exact hn
      rw [Int.toNat_natCast, fl_set hl, efl, efl]
      split
      · rename_i e
        rw [e]
      · rfl
theorem cut_moved {D : DS} (h : DOk D) (f k : Int) : ((cutD D f k).2 ≠ 0 ∧ MovedD D (cutD D f k).1) ∨ ((cutD D f k).2 = 0 ∧ (cutD D f k).1.down = false ∧ ∃ n j : Nat, n < 8 ∧ f = n ∧ k = j ∧ j ≤ (D.fl n).b.length ∧ ∀ g, g < 8 → (cutD D f k).1.fl g = if n = g then ⟨(D.fl g).b.take j, min (D.fl g).n j⟩ else D.fl g) := by
  have hp := pre_moved' h
  unfold cutD
  split
  · rename_i h0
    exact .inl ⟨h0, hp⟩
  · rename_i h0
    obtain ⟨hdn, hb⟩ := may_is (D := preD D) (f := f) (by omega)
    have et : preD D = tick D := by
      rcases pre_moved h with e | ⟨_, _, h9⟩
      · exact e
      · exact absurd (h9 [f]) (by omega)
    obtain ⟨n, hn, rfl⟩ := isB_of hb
    have ef : (preD D).fs = D.fs := by rw [et]; exact (tick_fs D).1
    have efl : ∀ j, (preD D).fl j = D.fl j := fun j => by unfold DS.fl; rw [ef]
    have hl : n < (preD D).fs.length := by rw [ef, h.len]; exact hn
    split
    · exact .inl ⟨by simp only; omega, hp⟩
    · rename_i h1
      right
      rw [Int.toNat_natCast, efl] at h1
      refine ⟨rfl, hdn, n, k.toNat, hn, rfl, by omega, by omega, fun g hg => ?_⟩
      rw [Int.toNat_natCast, fl_set hl, efl, efl]
      split
      · rename_i e
        rw [e]
      · rfl
theorem turn_moved {D : DS} (h : DOk D) (f k : Int) : ((turnD D f k).2 ≠ 0 ∧ MovedD D (turnD D f k).1) ∨ ((turnD D f k).2 = 0 ∧ (turnD D f k).1.down = false ∧ ∃ n j : Nat, n < 8 ∧ j < 8 ∧ f = n ∧ k = j ∧ n ≠ j ∧ (D.fl j).n = (D.fl j).b.length ∧ ∀ g, g < 8 → (turnD D f k).1.fl g = if j = g then ⟨[], 0⟩ else if n = g then D.fl j else D.fl g) := by
  have hp := pre_moved' h
  unfold turnD
  split
  · rename_i h0
    exact .inl ⟨h0, hp⟩
  · rename_i h0
    obtain ⟨hb, hb2⟩ := may_is2 (D := preD D) (f := f) (g := k) (by omega)
    have hdn : (preD D).down = false := by
      cases hd : (preD D).down with
      | false => rfl
      | true => exact absurd (may_down hd [f, k]) (by omega)
    have et : preD D = tick D := by
      rcases pre_moved h with e | ⟨_, _, h9⟩
      · exact e
      · exact absurd (h9 [f, k]) (by omega)
    obtain ⟨n, hn, rfl⟩ := isB_of hb
    obtain ⟨j, hj, rfl⟩ := isB_of hb2
    have ef : (preD D).fs = D.fs := by rw [et]; exact (tick_fs D).1
    have efl : ∀ j, (preD D).fl j = D.fl j := fun j => by unfold DS.fl; rw [ef]
    have hl : n < (preD D).fs.length := by rw [ef, h.len]; exact hn
    split
    · exact .inl ⟨by simp only; omega, hp⟩
    · rename_i h1
      split
      · exact .inl ⟨by simp only; omega, hp⟩
      · rename_i h2
        right
        rw [Int.toNat_natCast, efl] at h2
        have hfl := h.flAt hj
        refine ⟨rfl, hdn, n, j, hn, hj, rfl, rfl, by omega, by omega, fun g hg => ?_⟩
        have hlj : j < ((preD D).fs.set n ((preD D).fl j)).length := by rw [List.length_set, ef, h.len]; exact hj
        rw [Int.toNat_natCast, Int.toNat_natCast]
        show (((preD D).fs.set n ((preD D).fl j)).set j ⟨[], 0⟩).getD g ⟨[], 0⟩ = _
        have : (preD D).fs.getD g ⟨[], 0⟩ = D.fl g := efl g
        rw [getD_set _ _ _ _ _ hlj, getD_set _ _ _ _ _ hl, efl, this]

/-! ### The law's table of durable contents -/
def sfAt (ss : List ByteArray) (f : Nat) : ByteArray := ss.getD f ⟨#[]⟩
structure SafeOk (D : DS) (ss : List ByteArray) : Prop where
  len : ss.length = 8
  at_ : ∀ f, f < 8 → (sfAt ss f).data.toList = durB D f
theorem sf_set {ss : List ByteArray} {n : Nat} (hn : n < ss.length) (x : ByteArray) (g : Nat) : sfAt (ss.set n x) g = if n = g then x else sfAt ss g := getD_set _ _ _ _ _ hn
theorem safe_new : SafeOk newD (List.replicate 8 ⟨#[]⟩) := by
  refine ⟨rfl, fun f hf => ?_⟩
  have : f = 0 ∨ f = 1 ∨ f = 2 ∨ f = 3 ∨ f = 4 ∨ f = 5 ∨ f = 6 ∨ f = 7 := by omega
  rcases this with rfl | rfl | rfl | rfl | rfl | rfl | rfl | rfl <;> rfl
section
variable {D D' : DS} {ss : List ByteArray}
theorem SafeOk.same (h : SafeOk D ss) (hs : SameD D D') : SafeOk D' ss := ⟨h.len, fun f hf => (h.at_ f hf).trans (hs f hf).symm⟩
theorem SafeOk.flushed (h : SafeOk D ss) {n : Nat} (hn : n < 8) (hD : ∀ g, g < 8 → D'.fl g = if n = g then ⟨(D.fl g).b, (D.fl g).b.length⟩ else D.fl g) : SafeOk D' (ss.set n (bs (D'.fl n).b)) := by
  refine ⟨by rw [List.length_set]; exact h.len, fun g hg => ?_⟩
  rw [sf_set (by rw [h.len]; exact hn)]
  unfold durB
  split
  · rename_i e
    subst e
    rw [bs_toList, hD _ hn, if_pos rfl, List.take_length]
  · rename_i e
    rw [hD _ hg, if_neg e]
    exact h.at_ g hg
theorem SafeOk.cut (h : SafeOk D ss) (hok : DOk D) {n j : Nat} (hn : n < 8) (hj : j ≤ (D.fl n).b.length) (hD : ∀ g, g < 8 → D'.fl g = if n = g then ⟨(D.fl g).b.take j, min (D.fl g).n j⟩ else D.fl g) :
    (j < (sfAt ss n).size → SafeOk D' (ss.set n ((sfAt ss n).extract 0 j))) ∧ (¬ j < (sfAt ss n).size → SafeOk D' ss) := by
  have hfl := hok.flAt hn
  have hs : (sfAt ss n).size = (D.fl n).n := by
    rw [← size_toList, h.at_ n hn]
    unfold durB
    rw [List.length_take]
    omega
  constructor
  · intro hlt
    refine ⟨by rw [List.length_set]; exact h.len, fun g hg => ?_⟩
    rw [sf_set (by rw [h.len]; exact hn)]
    split
    · rename_i e
      subst e
      rw [ByteArray.data_extract, Array.toList_extract, List.extract_eq_take_drop, List.drop_zero, Nat.sub_zero, h.at_ _ hn]
      unfold durB
      rw [hD _ hn, if_pos rfl]
      simp only [List.take_take]
      congr 1
      omega
    · rename_i e
      unfold durB
      rw [hD _ hg, if_neg e]
      exact h.at_ g hg
  · intro hge
    refine ⟨h.len, fun g hg => ?_⟩
    rw [h.at_ g hg]
    unfold durB
    rw [hD _ hg]
    split
    · rename_i e
      subst e
      simp only [List.take_take]
      congr 1
      omega
    · rfl
theorem SafeOk.turned (h : SafeOk D ss) {n j : Nat} (hn : n < 8) (hj : j < 8) (hne : n ≠ j) (hD : ∀ g, g < 8 → D'.fl g = if j = g then ⟨[], 0⟩ else if n = g then D.fl j else D.fl g) : SafeOk D' ((ss.set n (sfAt ss j)).set j ⟨#[]⟩) := by
  refine ⟨by rw [List.length_set, List.length_set]; exact h.len, fun g hg => ?_⟩
  rw [sf_set (by rw [List.length_set, h.len]; exact hj), sf_set (by rw [h.len]; exact hn)]
  unfold durB
  rw [hD g hg]
  split
  · rfl
  · split
    · exact h.at_ j hj
    · exact h.at_ g hg
/-- Every other case. -/
theorem SafeOk.moved (h : SafeOk D ss) (hm : MovedD D D') : ((D.down = true ∨ D'.down = false) ∧ SafeOk D' ss) ∨ (D.down = false ∧ D'.down = true ∧ D'.q = [] ∧ ∀ f, f < 8 → ∃ t, D'.fl f = ⟨(sfAt ss f).data.toList ++ t, ((sfAt ss f).data.toList ++ t).length⟩) := by
  rcases hm with ⟨h1, h2⟩ | ⟨h1, h2, h3, h4⟩
  · left
    refine ⟨?_, h.same h1⟩
    cases hd : D'.down with
    | true => exact .inl (h2 hd)
    | false => exact .inr rfl
  · right
    refine ⟨h1, h2, h3, fun f hf => ?_⟩
    rw [h.at_ f hf]
    exact h4 f hf
end
/-- What one operation does, as the law asks. -/
inductive StepD (D : DS) (ss : List ByteArray) (x : Act6) (D' : DS) (r : Int) : Prop where
  | flushed (hk : x.k % 11 = 2) (hr : r = 0) (hu : D.down = false) (hd : D'.down = false) (n : Nat) (hn : n < 8) (hf : x.f = n) (hs : SafeOk D' (ss.set n (bs (D'.fl n).b)))
  | cut (hk : x.k % 11 = 3) (hr : r = 0) (hu : D.down = false) (hd : D'.down = false) (n j : Nat) (hn : n < 8) (hf : x.f = n) (hj : x.n = j) (h1 : j < (sfAt ss n).size → SafeOk D' (ss.set n ((sfAt ss n).extract 0 j))) (h2 : ¬ j < (sfAt ss n).size → SafeOk D' ss)
  | turned (hk : x.k % 11 = 4) (hr : r = 0) (hu : D.down = false) (hd : D'.down = false) (n j : Nat) (hn : n < 8) (hj8 : j < 8) (hf : x.f = n) (hj : x.g = j) (hs : SafeOk D' ((ss.set n (sfAt ss j)).set j ⟨#[]⟩))
  | other (hk : ¬ ((x.k % 11 = 2 ∨ x.k % 11 = 3 ∨ x.k % 11 = 4) ∧ r = 0)) (hm : ((D.down = true ∨ D'.down = false) ∧ SafeOk D' ss) ∨ (D.down = false ∧ D'.down = true ∧ D'.q = [] ∧ ∀ f, f < 8 → ∃ t, D'.fl f = ⟨(sfAt ss f).data.toList ++ t, ((sfAt ss f).data.toList ++ t).length⟩))
theorem pre_dn {D : DS} (hd : D.down = true) (l : List Int) : mayOf (preD D) l = 9 := by
  have he : endsB D = false := by unfold endsB; rw [hd]; rfl
  rw [pre_tick he]
  exact may_down (by rw [tick_down]; exact hd) l
theorem up_of {D : DS} (ok : DOk D) {f : Int} (h : (flushD D f).2 = 0) : D.down = false := by
  cases hd : D.down with
  | false => rfl
  | true =>
    unfold flushD at h
    rw [if_pos (by rw [pre_dn hd]; decide), pre_dn hd] at h
    cases h
theorem up_of2 {D : DS} (ok : DOk D) {f n : Int} (h : (cutD D f n).2 = 0) : D.down = false := by
  cases hd : D.down with
  | false => rfl
  | true =>
    unfold cutD at h
    rw [if_pos (by rw [pre_dn hd]; decide), pre_dn hd] at h
    cases h
theorem up_of3 {D : DS} (ok : DOk D) {f g : Int} (h : (turnD D f g).2 = 0) : D.down = false := by
  cases hd : D.down with
  | false => rfl
  | true =>
    unfold turnD at h
    rw [if_pos (by rw [pre_dn hd]; decide), pre_dn hd] at h
    cases h
theorem do_step {D : DS} {ss : List ByteArray} (ok : DOk D) (h : SafeOk D ss) (x : Act6) : StepD D ss x (doD D x).1 (doD D x).2.2 := by
  have same : ∀ {D' : DS}, D'.fs = D.fs → (D'.down = true → D.down = true) → MovedD D D' := fun h1 h2 => .inl ⟨SameD.of h1, h2⟩
  unfold doD
  split
  · rename_i hk
    exact .other (fun e => by omega) (h.moved (append_moved ok _ _))
  rename_i hk0
  split
  · rename_i hk
    rcases flush_moved ok x.f with ⟨h1, h2⟩ | ⟨h1, h2, n, hn, hf, hD⟩
    · exact .other (fun e => h1 e.2) (h.moved h2)
    · exact .flushed hk h1 (up_of ok h1) h2 n hn hf (h.flushed hn hD)
  rename_i hk2
  split
  · rename_i hk
    rcases cut_moved ok x.f x.n with ⟨h1, h2⟩ | ⟨h1, h2, n, j, hn, hf, hj, hb, hD⟩
    · exact .other (fun e => h1 e.2) (h.moved h2)
    · exact .cut hk h1 (up_of2 ok h1) h2 n j hn hf hj (h.cut ok hn hb hD).1 (h.cut ok hn hb hD).2
  rename_i hk3
  split
  · rename_i hk
    rcases turn_moved ok x.f x.g with ⟨h1, h2⟩ | ⟨h1, h2, n, j, hn, hj8, hf, hj, hne, _, hD⟩
    · exact .other (fun e => h1 e.2) (h.moved h2)
    · exact .turned hk h1 (up_of3 ok h1) h2 n j hn hj8 hf hj (h.turned hn hj8 hne hD)
  rename_i hk4
  have ho : ∀ {D' : DS} {r : Int}, MovedD D D' → StepD D ss x D' r := fun hm => .other (fun e => by omega) (h.moved hm)
  split
  · exact ho (crash_moved ok _)
  split
  · exact ho (same rfl fun h => h)
  split
  · exact ho (same rfl fun h => by cases h)
  split
  · exact ho (same rfl fun h => h)
  split
  · exact ho (same rfl fun h => h)
  · exact ho (same rfl fun h => h)
theorem do_good {D : DS} {m : Nat} (h : Good D m) (x : Act6) (hx : x.n ≤ 9223372036854775807) : Good (doD D x).1 (m + 1) := by
  unfold doD
  repeat' split
  · exact good_append h _ _
  · exact (good_flush h _).mono (by omega)
  · exact (good_cut h _ _).mono (by omega)
  · exact (good_turn h _ _).mono (by omega)
  · exact (good_crash h _).mono (by omega)
  · exact (good_lose h (by omega)).mono (by omega)
  · exact (good_start h).mono (by omega)
  · exact h.mono (by omega)
  · exact (good_arm h (by omega) _).mono (by omega)
  · exact h.mono (by omega)
/-- After a crash that was looked at: all is durable, and stays so. -/
theorem again_same {D : DS} (h : DOk D) (hq : D.q = []) (hl : ∀ f, f < 8 → (D.fl f).n = (D.fl f).b.length) : ∀ f, f < 8 → durB (crashD { D with down := false } []) f = (D.fl f).b := by
  intro f hf
  have h' : DOk { D with down := false } := ⟨h.len, h.fl, h.qin, h.ord, h.lost, h.armed⟩
  have hc := crash_fl h' rfl [] hf
  obtain ⟨t, ht⟩ := (crL_torn h' [] D.q.length f hf).2
  unfold durB at ht ⊢
  rw [hc]
  simp only
  rw [List.take_length]
  have : (crL D.fs [] D.q D.q.length).getD f [] = (crL D.fs [] D.q 0).getD f [] := by rw [hq]; rfl
  show (crL D.fs [] D.q D.q.length).getD f [] = _
  rw [this]
  have hl' : f < D.fs.length := by rw [h.len]; exact hf
  have e : D.fl f = D.fs[f] := by simp [DS.fl, List.getD_eq_getElem?_getD, List.getElem?_eq_getElem hl']
  have := hl f hf
  rw [e] at this ⊢
  simp [crL, crash0, List.getD_eq_getElem?_getD, List.getElem?_eq_getElem hl', this]
end Go.Proofs.Ytbhlpnkccdcdiaa.Dk
