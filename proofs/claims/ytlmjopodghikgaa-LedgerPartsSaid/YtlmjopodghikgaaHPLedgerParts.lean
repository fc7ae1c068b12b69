/- LedgerParts, with no program in sight. -/
import Derived.Test.YtlmjopodghikgaaHPure
import Derived.Test.YtlmjopodghikgaaPrintFbournelaw39LedgerParts
namespace Go.Proofs.Ytlmjopodghikgaa.Print
open Go.RowKit Go.Proofs.YtlmjopodghikgaaW.PrintWords
open Go.Proofs.Ytlmjopodghikgaa.Stable
set_option linter.unusedVariables false
set_option linter.unusedSimpArgs false

/-- The entries of an owner at the places below n, as known. -/
def pB (o d k : Int) (n : Int) (e : S36) : Bool := accP o (-1) d k e && decide (e.f3 < n)
/-- The entries at a place of the owners from 0 to below n, as known. -/
def oB (p d k : Int) (n : Int) (e : S36) : Bool := accP (-1) p d k e && decide (0 ≤ e.f2) && decide (e.f2 < n)
def rB (p d k : Int) (e : S36) : Bool := linP (-1) 0 d k e && (e.f3 == p)

theorem parts_l2 {l : List S36} (hb : Bk 96 l) (o p d k : Int) (b : Bool) (s : Int) (hs : s = S (accP o (-1) d k) l) (x0 : Int) (hx0 : -126100789566373888 ≤ x0 ∧ x0 ≤ 126100789566373888) (hall : x0 + S (rB p d k) l = S (accP (-1) p d k) l) :
    ∀ (m kk i : Nat) (pre : List S36), i + m = (linesOf l (-1) 0 d k).length → m < kk → pre = (linesOf l (-1) 0 d k).take i →
    bournelaw39_LedgerParts.l2 kk o p d k true l s (x0 + S (fun e => e.f3 == p) pre) (linesOf l (-1) 0 d k) i = some true
  | 0, kk + 1, i, pre, h, _, hp => by
    rw [bournelaw39_LedgerParts.l2, if_neg (by omega), if_pos rfl, account_f hb (by omega), Option.bind_some, if_pos hs, account_f hb (by omega), Option.bind_some, hp, List.take_of_length_le (by omega), S_lines]
    have : S (fun e => linP (-1) 0 d k e && (e.f3 == p)) l = S (rB p d k) l := rfl
    rw [this, hall]
    simp
  | m + 1, kk + 1, i, pre, h, hk, hp => by
    have hi : i < (linesOf l (-1) 0 d k).length := by omega
    have e : rd_T36 (linesOf l (-1) 0 d k) (i : Int) = (linesOf l (-1) 0 d k)[i] := by simp [rd_T36, List.getD_eq_getElem?_getD, List.getElem?_eq_getElem hi]
    have hnext : pre ++ [(linesOf l (-1) 0 d k)[i]] = (linesOf l (-1) 0 d k).take (i + 1) := by rw [hp, List.take_succ_eq_append_getElem hi]
    have hperm : (linesOf l (-1) 0 d k).Perm (l.filter (linP (-1) 0 d k)) := ssort_perm _
    have hmem : ∀ z ∈ linesOf l (-1) 0 d k, rightB z = true := fun z hz => hb.right z (List.mem_filter.1 (hperm.mem_iff.1 hz)).1
    have hlen : (linesOf l (-1) 0 d k).length ≤ 96 := by
      rw [hperm.length_eq]
      exact Nat.le_trans (List.length_filter_le _ _) hb.len
    have hbd := S_bound (fun e => e.f3 == p) (l := pre) (fun z hz => (right_of (hmem z (by rw [hp] at hz; exact List.mem_of_mem_take hz))).2.2.2.2)
    have hpl : pre.length ≤ 96 := by rw [hp, List.length_take]; omega
    have hx := (right_of (hmem _ (List.getElem_mem hi))).2.2.2.2
    have hS := S_app (fun e => e.f3 == p) pre [(linesOf l (-1) 0 d k)[i]]
    rw [S_cons, S_nil] at hS
    have ih := parts_l2 hb o p d k b s hs x0 hx0 hall m kk (i + 1) _ (by omega) (by omega) hnext
    rw [bournelaw39_LedgerParts.l2, if_pos (by omega), if_pos (by omega), e]
    by_cases h3 : (linesOf l (-1) 0 d k)[i].f3 = p
    · rw [if_pos h3, w64 (by omega), w64 (by omega)]
      rw [if_pos (by simpa using h3)] at hS
      rw [hS] at ih
      rw [show x0 + S (fun e => e.f3 == p) pre + (linesOf l (-1) 0 d k)[i].f4 = x0 + (S (fun e => e.f3 == p) pre + ((linesOf l (-1) 0 d k)[i].f4 + 0)) by omega, show ((i : Int) + 1) = ((i + 1 : Nat) : Int) by omega]
      exact ih
    · rw [if_neg h3, w64 (by omega)]
      rw [if_neg (by simpa using h3)] at hS
      rw [hS] at ih
      rw [show ((i : Int) + 1) = ((i + 1 : Nat) : Int) by omega]
      simpa using ih
theorem parts_l1 {l : List S36} (hb : Bk 96 l) (o p d k : Int) (hp : 0 ≤ p) (s : Int) (hs : s = S (accP o (-1) d k) l) :
    ∀ (m kk n : Nat), n + m = 16 → m + 200 < kk → bournelaw39_LedgerParts.l1 kk o p d k true l s (S (oB p d k n) l) n = some true
  | 0, kk + 1, n, h, hk => by
    have hn : n = 16 := by omega
    subst hn
    rw [bournelaw39_LedgerParts.l1, if_neg (by omega), lines_f hb (by omega), Option.bind_some]
    have hlen : (linesOf l (-1) 0 d k).length ≤ 96 := by
      have hperm : (linesOf l (-1) 0 d k).Perm (l.filter (linP (-1) 0 d k)) := ssort_perm _
      rw [hperm.length_eq]
      exact Nat.le_trans (List.length_filter_le _ _) hb.len
    have := parts_l2 hb o p d k true s hs (S (oB p d k 16) l) (hb.small (by omega) _) (by
      refine (S_split (fun e he => ?_)).symm
      obtain ⟨h0, h1, h2, h3, h4⟩ := right_of (hb.right e he)
      simp only [oB, rB, accP, linP]
      rw [Bool.eq_iff_iff, ← Bool.not_eq_true]
      simp only [Bool.or_eq_true, Bool.and_eq_true, decide_eq_true_eq, beq_iff_eq, Bool.true_or, true_or, true_and, and_true]
      constructor
      · constructor
        · rintro ⟨⟨a1, a2⟩, a3⟩
          by_cases hh : 0 ≤ e.f2
          · exact .inl ⟨⟨⟨⟨a1, a2⟩, a3⟩, hh⟩, by omega⟩
          · exact .inr ⟨⟨⟨by omega, by omega⟩, a2⟩, by omega⟩
        · rintro (⟨⟨⟨a1, a2⟩, _⟩, _⟩ | ⟨⟨⟨_, a1⟩, a2⟩, a3⟩)
          · exact ⟨a1, a2⟩
          · exact ⟨⟨by omega, a2⟩, .inr a3⟩
      · omega) (linesOf l (-1) 0 d k).length kk 0 [] (by omega) (by omega) (by simp)
    simpa [S_nil] using this
  | m + 1, kk + 1, n, h, hk => by
    rw [bournelaw39_LedgerParts.l1, if_pos (by omega), account_f hb (by omega), Option.bind_some]
    have h1 := hb.small (by omega) (oB p d k n)
    have h2 := hb.small (by omega) (accP n p d k)
    have hS : S (oB p d k ((n + 1 : Nat) : Int)) l = S (oB p d k n) l + S (accP n p d k) l := S_split (fun e he => by
      obtain ⟨h0, h1, h2, h3, h4⟩ := right_of (hb.right e he)
      simp only [oB, accP]
      rw [Bool.eq_iff_iff, ← Bool.not_eq_true]
      simp only [Bool.or_eq_true, Bool.and_eq_true, decide_eq_true_eq, beq_iff_eq, Bool.true_or, true_or, true_and, and_true]
      constructor
      · omega
      · omega)
    rw [w64 (by omega), w64 (by omega), show ((n : Int) + 1) = ((n + 1 : Nat) : Int) by omega, ← hS]
    exact parts_l1 hb o p d k hp s hs m kk (n + 1) (by omega) (by omega)
theorem parts_l0 {l : List S36} (hb : Bk 96 l) (o p d k : Int) (ho : 0 ≤ o) (hp : 0 ≤ p) :
    ∀ (m kk n : Nat), n + m = 64 → m + 300 < kk → bournelaw39_LedgerParts.l0 kk o p d k true l (S (pB o d k n) l) n = some true
  | 0, kk + 1, n, h, hk => by
    have hn : n = 64 := by omega
    subst hn
    rw [bournelaw39_LedgerParts.l0, if_neg (by omega)]
    have h0 : S (oB p d k ((0 : Nat) : Int)) l = 0 := S_none (fun e he => by
      rw [Bool.eq_false_iff]
      simp only [oB, ne_eq, Bool.and_eq_true, decide_eq_true_eq]
      omega)
    have := parts_l1 hb o p d k hp (S (pB o d k 64) l) (S_congr (fun e he => by
      obtain ⟨h0, h1, h2, h3, h4⟩ := right_of (hb.right e he)
      simp only [pB]
      rw [decide_eq_true (by omega), Bool.and_true])) 16 kk 0 (by omega) (by omega)
    rw [h0] at this
    exact this
  | m + 1, kk + 1, n, h, hk => by
    rw [bournelaw39_LedgerParts.l0, if_pos (by omega), account_f hb (by omega), Option.bind_some]
    have h1 := hb.small (by omega) (pB o d k n)
    have h2 := hb.small (by omega) (accP o n d k)
    have hS : S (pB o d k ((n + 1 : Nat) : Int)) l = S (pB o d k n) l + S (accP o n d k) l := S_split (fun e he => by
      obtain ⟨h0, h1, h2, h3, h4⟩ := right_of (hb.right e he)
      simp only [pB, accP]
      rw [Bool.eq_iff_iff, ← Bool.not_eq_true]
      simp only [Bool.or_eq_true, Bool.and_eq_true, decide_eq_true_eq, beq_iff_eq, Bool.true_or, true_or, true_and, and_true]
      constructor
      · omega
      · omega)
    rw [w64 (by omega), w64 (by omega), show ((n : Int) + 1) = ((n + 1 : Nat) : Int) by omega, ← hS]
    exact parts_l0 hb o p d k ho hp m kk (n + 1) (by omega) (by omega)

theorem pureLedgerParts (ls : List (List S36)) (o p d k : Int) (hok : ls.all okL = true) (hl : ls.length ≤ 9223372036854775807) (_ : (Lit.int .i64 o).wf = true) (_ : (Lit.int .i64 p).wf = true) (_ : (Lit.int .i64 d).wf = true) (_ : (Lit.int .i64 k).wf = true) :
    ∃ kk, bournelaw39_LedgerParts.f kk ls o p d k = some true := by
  refine ⟨ls.length + 1000, ?_⟩
  have hj : bournelaw39_LedgerParts.j0 (ls.length + 1000) ls o p d k true true = some true := by
    rw [bournelaw39_LedgerParts.j0, if_pos rfl]
  rw [bournelaw39_LedgerParts.f, bournelaw39_small.f, Option.bind_some, few_f ls hl _ (by omega), Option.bind_some]
  by_cases hf : fewB ls = true
  · rw [if_pos hf]
    by_cases ho : o < 0
    · rw [if_pos ho]
      exact hj
    · rw [if_neg ho]
      by_cases hp : p < 0
      · rw [decide_eq_true hp]
        exact hj
      · rw [decide_eq_false hp, bournelaw39_LedgerParts.j0, if_neg (by simp)]
        obtain ⟨h1, hb⟩ := booked_f hf hok (ls.length + 999) (by omega)
        rw [h1, Option.bind_some]
        have h0 : S (pB o d k ((0 : Nat) : Int)) (bookedOf ls) = 0 := S_none (fun e he => by
          obtain ⟨_, _, _, h3, _⟩ := right_of (hb.right e he)
          rw [Bool.eq_false_iff]
          simp only [pB, ne_eq, Bool.and_eq_true, decide_eq_true_eq]
          omega)
        have := parts_l0 hb o p d k (by omega) (by omega) 64 (ls.length + 999) 0 (by omega) (by omega)
        rw [h0] at this
        exact this
  · rw [if_neg hf]
    exact hj
end Go.Proofs.Ytlmjopodghikgaa.Print
