/- The disk's numbers keep to their bounds under every operation. -/
import Derived.Test.YtbhlpnkccdcdiaaKFlu
namespace Go.Proofs.Ytbhlpnkccdcdiaa.Dk
open Go.RowKit Go.Proofs.YtbhlpnkccdcdiaaW.PrintWords Go.Lib
set_option linter.unusedVariables false
set_option linter.unusedSimpArgs false

structure Good (D : DS) (m : Nat) : Prop where
  ok : DOk D
  pos : ∀ p ∈ D.q, 0 < p.n
  short : D.q.length ≤ m
theorem Good.mono {D : DS} {m n : Nat} (h : Good D m) (hm : m ≤ n) : Good D n := ⟨h.ok, h.pos, Nat.le_trans h.short hm⟩
theorem good_new : Good newD 0 := by
  refine ⟨⟨rfl, fun x hx => ?_, fun p hp => ?_, List.Pairwise.nil, by decide, by decide⟩, fun p hp => ?_, Nat.le_refl _⟩
  · have := List.eq_of_mem_replicate hx
    subst this
    exact ⟨Nat.le_refl _, by decide⟩
  · cases hp
  · cases hp
theorem good_tick {D : DS} {m : Nat} (h : Good D m) : Good (tick D) m := by
  obtain ⟨t1, t2, t3, t4, t5⟩ := tick_fs D
  exact ⟨tick_ok h.ok, by rw [t2]; exact h.pos, by rw [t2]; exact h.short⟩
theorem good_start {D : DS} {m : Nat} (h : Good D m) : Good { D with down := false } m := ⟨⟨h.ok.len, h.ok.fl, h.ok.qin, h.ok.ord, h.ok.lost, h.ok.armed⟩, h.pos, h.short⟩
theorem good_lose {D : DS} {m n : Nat} (h : Good D m) (hn : n ≤ 9223372036854775807) : Good { D with lost := n } m := ⟨⟨h.ok.len, h.ok.fl, h.ok.qin, h.ok.ord, hn, h.ok.armed⟩, h.pos, h.short⟩
theorem good_arm {D : DS} {m n : Nat} (h : Good D m) (hn : n ≤ 9223372036854775807) (l : List Int) : Good { D with armed := n, keep := l } m := ⟨⟨h.ok.len, h.ok.fl, h.ok.qin, h.ok.ord, h.ok.lost, hn⟩, h.pos, h.short⟩
theorem crashD_eq {D : DS} (hd : D.down = false) (keep : List Int) : crashD D keep = { D with fs := (crL D.fs keep D.q D.q.length).map fun l => ⟨l, l.length⟩, q := [], down := true, armed := 0 } := by
  unfold crashD
  rw [if_neg (by rw [hd]; simp), crL_end]
theorem good_crash {D : DS} {m : Nat} (h : Good D m) (keep : List Int) : Good (crashD D keep) m := by
  cases hd : D.down with
  | true =>
    unfold crashD
    rw [if_pos hd]
    exact h
  | false =>
    rw [crashD_eq hd]
    obtain ⟨hf, _⟩ := crL_fits h.ok keep D.q.length
    have hl := crL_len D.fs keep D.q D.q.length
    refine ⟨⟨?_, fun x hx => ?_, fun p hp => (by cases hp), List.Pairwise.nil, h.ok.lost, Nat.zero_le _⟩, fun p hp => (by cases hp), Nat.zero_le _⟩
    · show (List.map _ _).length = 8
      rw [List.length_map, hl, h.ok.len]
    · obtain ⟨l, hm, rfl⟩ := List.mem_map.1 hx
      obtain ⟨i, hi, e⟩ := List.mem_iff_getElem.1 hm
      have := hf i (by rw [← h.ok.len, ← hl]; exact hi)
      rw [List.getD_eq_getElem?_getD, List.getElem?_eq_getElem hi, e] at this
      exact ⟨Nat.le_refl _, this⟩
theorem good_put {D : DS} {m : Nat} (h : Good D m) {f : Nat} (hf : f < 8) {s : List UInt8} (hs : (D.fl f).b.length + s.length ≤ 16777216) (h0 : s ≠ []) : Good (putD D f s) (m + 1) := by
  refine ⟨putD_ok h.ok hf hs, fun p hp => ?_, ?_⟩
  · rcases List.mem_append.1 (show p ∈ D.q ++ [⟨f, (D.fl f).b.length, s.length⟩] from hp) with hp | hp
    · exact h.pos p hp
    · rw [List.mem_singleton] at hp
      subst hp
      have := List.length_pos_iff.2 h0
      show (0 : Int) < (s.length : Int)
      omega
  · show (D.q ++ [(⟨f, (D.fl f).b.length, s.length⟩ : Pd)]).length ≤ _
    rw [List.length_append]
    have := h.short
    simp only [List.length_singleton]
    omega
theorem good_core {D : DS} {m : Nat} (h : Good D m) (f : Int) (s : List UInt8) : Good (coreD D f s).1 (m + 1) := by
  unfold coreD
  split
  · exact h.mono (by omega)
  · rename_i h0
    obtain ⟨_, hb⟩ := may_is (D := D) (f := f) (by omega)
    obtain ⟨n, hn, rfl⟩ := isB_of hb
    split
    · exact h.mono (by omega)
    · split
      · exact h.mono (by omega)
      · rename_i h1 h2
        exact good_put h hn (by simp only [Int.toNat_natCast] at h1 ⊢; omega) h2
theorem good_append {D : DS} {m : Nat} (h : Good D m) (f : Int) (s : List UInt8) : Good (appendD D f s).1 (m + 1) := by
  unfold appendD
  split
  · exact good_crash (good_core (good_tick h) f s) _
  · exact good_core (good_tick h) f s
theorem good_pre {D : DS} {m : Nat} (h : Good D m) : Good (preD D) m := by
  unfold preD
  split
  · exact good_crash (good_tick h) _
  · exact good_tick h
theorem settle_len (q : List Pd) (f n : Int) : (settle q f n).length ≤ q.length := by
  unfold settle
  rw [List.length_map]
  exact List.length_filter_le _ _
/-- What is left of the queue of a file. -/
theorem settle_mem {q : List Pd} {f n : Int} {p : Pd} (hp : p ∈ settle q f n) : ∃ x ∈ q, (x.f ≠ f ∧ p = x) ∨ (x.f = f ∧ x.a < n ∧ p = ⟨x.f, x.a, min x.n (n - x.a)⟩) := by
  obtain ⟨x, hx, rfl⟩ := List.mem_map.1 hp
  obtain ⟨hx, hg⟩ := List.mem_filter.1 hx
  refine ⟨x, hx, ?_⟩
  unfold cutP
  by_cases e : x.f = f
  · rw [if_pos e]
    refine .inr ⟨e, ?_, rfl⟩
    simp only [goneP, e, beq_self_eq_true, Bool.true_and, Bool.not_eq_true', decide_eq_false_iff_not] at hg
    omega
  · rw [if_neg e]
    exact .inl ⟨e, rfl⟩
theorem settle_ord {q : List Pd} {f n : Int} (h : q.Pairwise fun p p' => p.f = p'.f → p.a + p.n ≤ p'.a) : (settle q f n).Pairwise fun p p' => p.f = p'.f → p.a + p.n ≤ p'.a := by
  unfold settle
  rw [List.pairwise_map]
  refine (h.filter _).imp fun {p p'} hp e => ?_
  unfold cutP at *
  split at e <;> split at e <;> simp only [*, if_true, if_false] at * <;> first | exact hp (by assumption) | (have := hp (by omega); omega) | omega
theorem settle_pos {q : List Pd} {f n : Int} (h : ∀ p ∈ q, 0 < p.n) : ∀ p ∈ settle q f n, 0 < p.n := by
  intro p hp
  obtain ⟨x, hx, ⟨_, rfl⟩ | ⟨_, h2, rfl⟩⟩ := settle_mem hp
  · exact h _ hx
  · have := h _ hx
    show 0 < min x.n (n - x.a)
    omega
theorem fl_set {D : DS} {k : Nat} {x : Fl} {q : List Pd} (hk : k < D.fs.length) (j : Nat) : ({ D with fs := D.fs.set k x, q := q } : DS).fl j = if k = j then x else D.fl j := getD_set _ _ _ _ _ hk
theorem good_flush {D : DS} {m : Nat} (h : Good D m) (f : Int) : Good (flushD D f).1 m := by
  have hp := good_pre h
  unfold flushD
  split
  · exact hp
  · rename_i h0
    obtain ⟨_, hb⟩ := may_is (D := preD D) (f := f) (by omega)
    obtain ⟨k, hk, rfl⟩ := isB_of hb
    have hl : k < (preD D).fs.length := by rw [hp.ok.len]; exact hk
    have hf := hp.ok.flAt hk
    split
    · exact good_lose hp (by have := hp.ok.lost; omega)
    · simp only [Int.toNat_natCast]
      refine ⟨⟨by simpa using hp.ok.len, fun x hx => ?_, fun p hq => ?_, settle_ord hp.ok.ord, hp.ok.lost, hp.ok.armed⟩, settle_pos hp.pos, Nat.le_trans (settle_len _ _ _) hp.short⟩
      · rcases List.mem_or_eq_of_mem_set hx with hx | rfl
        · exact hp.ok.fl x hx
        · exact ⟨Nat.le_refl _, hf.2⟩
      · rw [fl_set hl]
        obtain ⟨x, hx, ⟨h1, rfl⟩ | ⟨_, h2, rfl⟩⟩ := settle_mem hq
        · obtain ⟨g1, g2, g3, g4⟩ := hp.ok.qin p hx
          rw [if_neg (by omega)]
          exact ⟨g1, g2, g3, g4⟩
        · have := (hp.ok.qin x hx).2.1
          omega
theorem good_cut {D : DS} {m : Nat} (h : Good D m) (f n : Int) : Good (cutD D f n).1 m := by
  have hp := good_pre h
  unfold cutD
  split
  · exact hp
  · rename_i h0
    obtain ⟨_, hb⟩ := may_is (D := preD D) (f := f) (by omega)
    obtain ⟨k, hk, rfl⟩ := isB_of hb
    have hl : k < (preD D).fs.length := by rw [hp.ok.len]; exact hk
    have hf := hp.ok.flAt hk
    split
    · exact hp
    · rename_i h1
      simp only [Int.toNat_natCast] at h1 ⊢
      refine ⟨⟨by simpa using hp.ok.len, fun x hx => ?_, fun p hq => ?_, settle_ord hp.ok.ord, hp.ok.lost, hp.ok.armed⟩, settle_pos hp.pos, Nat.le_trans (settle_len _ _ _) hp.short⟩
      · rcases List.mem_or_eq_of_mem_set hx with hx | rfl
        · exact hp.ok.fl x hx
        · simp only [List.length_take]
          omega
      · rw [fl_set hl]
        obtain ⟨x, hx, ⟨h1, rfl⟩ | ⟨h1, h2, rfl⟩⟩ := settle_mem hq
        · obtain ⟨g1, g2, g3, g4⟩ := hp.ok.qin p hx
          rw [if_neg (by omega)]
          exact ⟨g1, g2, g3, g4⟩
        · obtain ⟨g1, g2, g3, g4, g5⟩ := hp.ok.qin x hx
          rw [h1, Int.toNat_natCast] at g4 g5
          simp only [h1, Int.toNat_natCast, if_true, List.length_take]
          omega
theorem good_turn {D : DS} {m : Nat} (h : Good D m) (f g : Int) : Good (turnD D f g).1 m := by
  have hp := good_pre h
  unfold turnD
  split
  · exact hp
  · rename_i h0
    obtain ⟨hb, hb2⟩ := may_is2 (D := preD D) (f := f) (g := g) (by omega)
    obtain ⟨k, hk, rfl⟩ := isB_of hb
    obtain ⟨j, hj, rfl⟩ := isB_of hb2
    have hl : k < (preD D).fs.length := by rw [hp.ok.len]; exact hk
    have hlj : j < ((preD D).fs.set k ((preD D).fl j)).length := by rw [List.length_set, hp.ok.len]; exact hj
    have hf := hp.ok.flAt hj
    split
    · exact hp
    · rename_i h1
      split
      · exact hp
      · rename_i h2
        simp only [Int.toNat_natCast] at h2 ⊢
        refine ⟨⟨by simpa using hp.ok.len, fun x hx => ?_, fun p hq => ?_, settle_ord hp.ok.ord, hp.ok.lost, hp.ok.armed⟩, settle_pos hp.pos, Nat.le_trans (settle_len _ _ _) hp.short⟩
        · rcases List.mem_or_eq_of_mem_set hx with hx | rfl
          · rcases List.mem_or_eq_of_mem_set hx with hx | rfl
            · exact hp.ok.fl x hx
            · exact hf
          · exact ⟨Nat.le_refl _, by decide⟩
        · obtain ⟨x, hx, ⟨h3, rfl⟩ | ⟨_, h3, rfl⟩⟩ := settle_mem hq
          · obtain ⟨g1, g2, g3, g4, g5⟩ := hp.ok.qin p hx
            have g6 := hp.pos p hx
            have hne : j ≠ p.f.toNat := by
              intro e
              rw [← e] at g4 g5
              omega
            have e2 : ({ preD D with fs := ((preD D).fs.set k ((preD D).fl j)).set j ⟨[], 0⟩, q := settle (preD D).q (k : Int) 0 } : DS).fl p.f.toNat = (preD D).fl p.f.toNat := by
              show (((preD D).fs.set k ((preD D).fl j)).set j ⟨[], 0⟩).getD p.f.toNat ⟨[], 0⟩ = _
              rw [getD_set _ _ _ _ _ hlj, if_neg hne, getD_set _ _ _ _ _ hl, if_neg (by omega)]
              rfl
            rw [e2]
            exact ⟨g1, g2, g3, g4, g5⟩
          · have := (hp.ok.qin x hx).2.1
            omega
end Go.Proofs.Ytbhlpnkccdcdiaa.Dk
