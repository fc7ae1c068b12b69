/- LedgerKeeps, with no program in sight. -/
import Derived.Test.YtlmjopodghikgaaHPure
import Derived.Test.YtlmjopodghikgaaPrintFbournelaw39LedgerKeeps
namespace Go.Proofs.Ytlmjopodghikgaa.Print
open Go.RowKit Go.Proofs.YtlmjopodghikgaaW.PrintWords
open Go.Proofs.Ytlmjopodghikgaa.Stable
set_option linter.unusedVariables false
set_option linter.unusedSimpArgs false

theorem balanced_f {n : Nat} {l : List S36} (h : Bk n l) (hn : n ≤ 112) (k : Int) : ledger_Balanced.f l k = some true := by
  unfold ledger_Balanced.f
  have hl := h.len
  rw [if_pos (by omega), if_pos (okL_i64E h.ok), if_pos (okL_i64T h.ok)]
  congr 1
  unfold balOf
  rw [List.all_eq_true]
  intro e he
  have h0 := h.zero (P := fun x => decide (x.f1 ≤ k) && (decide (x.f0 = e.f0) && decide (x.f1 = e.f1))) (fun x y hx hy => by rw [hx, hy])
  have h1 : S (fun x => decide (x.f0 = e.f0) && decide (x.f1 = e.f1)) (upto l k) = 0 := by
    unfold upto
    rw [S_filter]
    exact h0
  unfold zeroE
  rw [decide_eq_true_eq]
  exact h1
theorem everybody {n : Nat} {l : List S36} (h : Bk n l) (d k : Int) : S (accP (-1) (-1) d k) l = 0 := h.zero (fun x y hx hy => by
  simp only [accP, hx, hy]
  simp)
theorem same_loop (l : List S36) (hl : l.length ≤ 1000) : ∀ (m k i : Nat), i + m = l.length → m < k → bournelaw39_same.l0 k l l i = some true
  | 0, k + 1, i, h, _ => by rw [bournelaw39_same.l0, if_neg (by omega)]
  | m + 1, k + 1, i, h, hk => by
    rw [bournelaw39_same.l0, if_pos (by omega), if_pos (by omega), if_pos (by omega)]
    simp only [beq_self_eq_true, Bool.not_true, Bool.or_false, Bool.false_eq_true, if_false]
    rw [w64 (by omega), show ((i : Int) + 1) = ((i + 1 : Nat) : Int) by omega]
    exact same_loop l hl m k (i + 1) (by omega) (by omega)
theorem same_f (l : List S36) (hl : l.length ≤ 1000) (k : Nat) (hk : l.length < k) : bournelaw39_same.f k l l = some true := by
  rw [bournelaw39_same.f, if_pos rfl]
  exact same_loop l hl l.length k 0 (by omega) hk

theorem keeps_l0 {l e : List S36} (hb : Bk 96 l) (he : e.length ≤ 8) (hok : okL e = true) (hp : postingB e = true) (o p d k : Int) :
    ∀ (m kk i : Nat) (pre : List S36), i + m = e.length → m + 2 < kk → pre = e.take i →
    bournelaw39_LedgerKeeps.l0 kk e o p d k true l (l ++ e) (S (accP o p d k) pre) i = some true
  | 0, kk + 1, i, pre, h, hk, hpre => by
    have hpre' : pre = e := by rw [hpre, List.take_of_length_le (by omega)]
    subst hpre'
    obtain ⟨hz, hne, hr⟩ := posting_right hp
    have hpos : 0 < pre.length := List.length_pos_iff.2 hne
    have hm := hb.app he hok hp
    have e0 : rd_T36 pre 0 = pre.getD 0 z36 := rfl
    rw [bournelaw39_LedgerKeeps.l0, if_neg (by omega), if_pos (by omega), e0]
    have hrest : ∀ b, (b = true → S (accP o p d k) pre ≠ 0) → (b = false ∨ b = (S (accP o p d k) pre != 0)) → (S (accP o p d k) pre = 0 ∨ b = false) → bournelaw39_LedgerKeeps.j4 kk o p d k true l (l ++ pre) (S (accP o p d k) pre) b = some true := by
      intro b h1 h2 h3
      have hbf : b = false := by
        rcases h3 with h3 | h3
        · cases b with
          | false => rfl
          | true => exact absurd h3 (h1 rfl)
        · exact h3
      subst hbf
      obtain ⟨kk', rfl⟩ : ∃ kk', kk = kk' + 1 := ⟨kk - 1, by omega⟩
      have s1 := hb.small (by omega) (accP o p d k)
      have s2 := hm.small (by omega) (accP o p d k)
      rw [bournelaw39_LedgerKeeps.j4, if_neg (by simp), if_pos rfl, account_f hm (by omega), Option.bind_some, account_f hb (by omega), Option.bind_some]
      rw [S_app] at s2 ⊢
      rw [w64 (by omega), if_pos rfl, account_f hm (by omega), Option.bind_some, everybody hm, if_pos rfl, balanced_f hm (by omega), Option.bind_some]
    have hnone : (k < (pre.getD 0 z36).f1 ∨ d < (pre.getD 0 z36).f0) → S (accP o p d k) pre = 0 := fun hh => S_none (fun x hx => by
      obtain ⟨_, h1, h2⟩ := hr x hx
      rw [Bool.eq_false_iff]
      simp only [accP, ne_eq, Bool.and_eq_true, decide_eq_true_eq]
      omega)
    by_cases c1 : k < (pre.getD 0 z36).f1
    · rw [if_pos c1]
      refine hrest _ (fun h => by simpa using h) (.inr rfl) (.inl (hnone (.inl c1)))
    · rw [if_neg c1]
      by_cases c2 : d < (pre.getD 0 z36).f0
      · rw [if_pos c2]
        exact hrest _ (fun h => by simpa using h) (.inr rfl) (.inl (hnone (.inr c2)))
      · rw [if_neg c2]
        exact hrest _ (fun h => by simp at h) (.inl rfl) (.inr rfl)
  | m + 1, kk + 1, i, pre, h, hk, hpre => by
    have hi : i < e.length := by omega
    have er : rd_T36 e (i : Int) = e[i] := by simp [rd_T36, List.getD_eq_getElem?_getD, List.getElem?_eq_getElem hi]
    have hnext : pre ++ [e[i]] = e.take (i + 1) := by rw [hpre, List.take_succ_eq_append_getElem hi]
    obtain ⟨hz, hne, hr⟩ := posting_right hp
    have hS := S_app (accP o p d k) pre [e[i]]
    rw [S_cons, S_nil] at hS
    have hbd := S_bound (accP o p d k) (l := pre) (fun z hz => (right_of (hr z (by rw [hpre] at hz; exact List.mem_of_mem_take hz)).1).2.2.2.2)
    have hpl : pre.length ≤ 8 := by rw [hpre, List.length_take]; omega
    have hx := (right_of (hr _ (List.getElem_mem hi)).1).2.2.2.2
    have ih := keeps_l0 hb he hok hp o p d k m kk (i + 1) _ (by omega) (by omega) hnext
    rw [bournelaw39_LedgerKeeps.l0, if_pos (by omega), if_pos (by omega), er]
    have hyes : accP o p d k e[i] = true → bournelaw39_LedgerKeeps.l0 kk e o p d k true l (l ++ e) (wrap64 (S (accP o p d k) pre + e[i].f4)) (wrap64 ((i : Int) + 1)) = some true := by
      intro ha
      rw [if_pos ha] at hS
      rw [hS, Int.add_zero] at ih
      rw [w64 (by omega), w64 (by omega), show ((i : Int) + 1) = ((i + 1 : Nat) : Int) by omega]
      exact ih
    have hno : accP o p d k e[i] = false → bournelaw39_LedgerKeeps.l0 kk e o p d k true l (l ++ e) (S (accP o p d k) pre) (wrap64 ((i : Int) + 1)) = some true := by
      intro ha
      rw [if_neg (by rw [ha]; simp)] at hS
      rw [hS, Int.add_zero, Int.add_zero] at ih
      rw [w64 (by omega), show ((i : Int) + 1) = ((i + 1 : Nat) : Int) by omega]
      exact ih
    have key : ∀ (b : Bool), accP o p d k e[i] = b → (if b = true then bournelaw39_LedgerKeeps.l0 kk e o p d k true l (l ++ e) (wrap64 (S (accP o p d k) pre + e[i].f4)) (wrap64 ((i : Int) + 1)) else bournelaw39_LedgerKeeps.l0 kk e o p d k true l (l ++ e) (S (accP o p d k) pre) (wrap64 ((i : Int) + 1))) = some true := by
      intro b hb'
      cases b with
      | true => rw [if_pos rfl]; exact hyes hb'
      | false => rw [if_neg (by simp)]; exact hno hb'
    by_cases c0 : e[i].f0 ≤ d
    · rw [if_pos c0]
      by_cases c1 : e[i].f1 ≤ k
      · rw [if_pos c1]
        have c01 : accP o p d k e[i] = ((o == -1 || e[i].f2 == o) && (p == -1 || e[i].f3 == p)) := by simp only [accP, decide_eq_true c0, decide_eq_true c1, Bool.true_and]
        have b2 : ∀ (b : Bool), (p == -1 || e[i].f3 == p) = b → (o == -1 || e[i].f2 == o) = true → accP o p d k e[i] = b := fun b hb' ho => by rw [c01, ho, hb', Bool.true_and]
        by_cases c2 : o = -1
        · rw [if_pos c2]
          have ho : (o == -1 || e[i].f2 == o) = true := by simp [c2]
          by_cases c3 : p = -1
          · rw [if_pos c3]; exact hyes (b2 _ (by simp [c3]) ho)
          · rw [if_neg c3]
            by_cases c4 : p = e[i].f3
            · rw [if_pos c4]; exact hyes (b2 _ (by simp [c4]) ho)
            · rw [if_neg c4]; exact hno (b2 _ (by simp [c3]; omega) ho)
        · rw [if_neg c2]
          by_cases c5 : o = e[i].f2
          · rw [if_pos c5]
            have ho : (o == -1 || e[i].f2 == o) = true := by simp [c5]
            by_cases c3 : p = -1
            · rw [if_pos c3]; exact hyes (b2 _ (by simp [c3]) ho)
            · rw [if_neg c3]
              by_cases c4 : p = e[i].f3
              · rw [if_pos c4]; exact hyes (b2 _ (by simp [c4]) ho)
              · rw [if_neg c4]; exact hno (b2 _ (by simp [c3]; omega) ho)
          · rw [if_neg c5]
            refine hno ?_
            have : (o == -1 || e[i].f2 == o) = false := by simp [c2]; omega
            rw [c01, this, Bool.false_and]
      · rw [if_neg c1]
        refine hno ?_
        simp [accP, c1]
    · rw [if_neg c0]
      refine hno ?_
      simp [accP, c0]

theorem pureLedgerKeeps (ls : List (List S36)) (e : List S36) (o p d k : Int) (hok : ls.all okL = true) (hl : ls.length ≤ 9223372036854775807) (hoke : okL e = true) (_ : e.length * 56 ≤ 140737488351232) (_ : (Lit.int .i64 o).wf = true) (_ : (Lit.int .i64 p).wf = true) (_ : (Lit.int .i64 d).wf = true) (_ : (Lit.int .i64 k).wf = true) :
    ∃ kk, bournelaw39_LedgerKeeps.f kk ls e o p d k = some true := by
  refine ⟨ls.length + 2000, ?_⟩
  have hj : bournelaw39_LedgerKeeps.j0 (ls.length + 2000) ls e o p d k true true = some true := by
    rw [bournelaw39_LedgerKeeps.j0, if_pos rfl]
  rw [bournelaw39_LedgerKeeps.f, bournelaw39_small.f, Option.bind_some, few_f ls hl _ (by omega), Option.bind_some]
  by_cases hf : fewB ls = true
  · rw [if_pos hf]
    by_cases h8 : (e.length : Int) > 8
    · rw [decide_eq_true h8]
      exact hj
    · obtain ⟨h1, hb⟩ := booked_f hf hok (ls.length + 1999) (by omega)
      have hlb := hb.len
      rw [decide_eq_false h8, bournelaw39_LedgerKeeps.j0, if_neg (by simp), h1, Option.bind_some, account_f hb (by omega), Option.bind_some, everybody hb, if_pos rfl, balanced_f hb (by omega), Option.bind_some]
      rw [show (!true) = false from rfl, bournelaw39_LedgerKeeps.j1, if_neg (by simp), post_f (by omega) (by omega) hb.ok hoke, Option.bind_some]
      by_cases h0 : (postOf (bookedOf ls) e).2 = 0
      · obtain ⟨q1, q2, _, _⟩ := post_ok h0
        rw [if_pos h0, Option.bind_some, if_pos (by simp; omega), Option.bind_some, if_pos (by simp; omega), q1]
        simp only [List.nil_append]
        rw [same_f _ (by rw [List.length_append]; omega) _ (by rw [List.length_append]; omega), Option.bind_some, if_pos rfl]
        have hne := (posting_right q2).2.1
        have hpos : 0 < e.length := List.length_pos_iff.2 hne
        have hb0 : ((e.length : Int) == 0) = false := by rw [beq_eq_false_iff_ne]; omega
        rw [hb0, bournelaw39_LedgerKeeps.j2, if_neg (by simp)]
        have := keeps_l0 hb (by omega) hoke q2 o p d k e.length (ls.length + 1997) 0 [] (by omega) (by omega) (by simp)
        rw [S_nil] at this
        exact this
      · rw [if_neg h0, if_pos rfl, post_bad h0]
        rfl
  · rw [if_neg hf]
    exact hj
end Go.Proofs.Ytlmjopodghikgaa.Print
