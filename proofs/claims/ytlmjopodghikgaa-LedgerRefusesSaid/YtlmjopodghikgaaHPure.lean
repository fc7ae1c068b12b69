/- What the laws of the ledger rest on, with no program in sight: sums over chosen entries; ledgers of accepted postings. -/
import Derived.Test.YtlmjopodghikgaaHRow
import Derived.Test.YtlmjopodghikgaaHSmall
import Derived.Test.YtlmjopodghikgaaPrintFbournelaw39few
import Derived.Test.YtlmjopodghikgaaPrintFbournelaw39booked
namespace Go.Proofs.Ytlmjopodghikgaa.Print
open Go.RowKit Go.Proofs.YtlmjopodghikgaaW.PrintWords
open Go.Proofs.Ytlmjopodghikgaa.Stable
set_option linter.unusedVariables false
set_option linter.unusedSimpArgs false

/-! ### Sums over chosen entries -/
def S (P : S36 → Bool) (l : List S36) : Int := ((l.filter P).map (·.f4)).sum
theorem S_nil (P : S36 → Bool) : S P [] = 0 := rfl
theorem S_cons (P : S36 → Bool) (x : S36) (l : List S36) : S P (x :: l) = (if P x = true then x.f4 else 0) + S P l := by
  unfold S
  cases h : P x <;> simp [h]
theorem S_app (P : S36 → Bool) (l m : List S36) : S P (l ++ m) = S P l + S P m := by
  unfold S
  rw [List.filter_append, List.map_append, List.sum_append]
theorem S_congr {P Q : S36 → Bool} : ∀ {l : List S36}, (∀ e ∈ l, P e = Q e) → S P l = S Q l
  | [], _ => rfl
  | x :: l, h => by
    rw [S_cons, S_cons, h x (by simp), S_congr (fun e he => h e (by simp [he]))]
theorem S_none {P : S36 → Bool} : ∀ {l : List S36}, (∀ e ∈ l, P e = false) → S P l = 0
  | [], _ => rfl
  | x :: l, h => by
    rw [S_cons, h x (by simp), S_none (fun e he => h e (by simp [he]))]
    simp
theorem S_split {P Q R : S36 → Bool} : ∀ {l : List S36}, (∀ e ∈ l, R e = (P e || Q e) ∧ (P e && Q e) = false) → S R l = S P l + S Q l
  | [], _ => rfl
  | x :: l, h => by
    rw [S_cons, S_cons, S_cons, S_split (fun e he => h e (by simp [he]))]
    have := h x (by simp)
    cases hp : P x <;> cases hq : Q x <;> rw [hp, hq] at this <;> simp at this <;> rw [this] <;> simp <;> omega
theorem S_bound (P : S36 → Bool) : ∀ {l : List S36}, (∀ e ∈ l, -1125899906842624 ≤ e.f4 ∧ e.f4 ≤ 1125899906842624) → -(l.length * 1125899906842624 : Int) ≤ S P l ∧ S P l ≤ (l.length * 1125899906842624 : Int)
  | [], _ => by simp [S_nil]
  | x :: l, h => by
    have ih := S_bound P (l := l) (fun e he => h e (by simp [he]))
    have hx := h x (by simp)
    rw [S_cons, List.length_cons]
    push_cast
    split <;> omega
theorem S_filter (P Q : S36 → Bool) (l : List S36) : S P (l.filter Q) = S (fun e => Q e && P e) l := by
  unfold S
  rw [List.filter_filter]
  congr 2
  exact List.filter_congr (fun x _ => Bool.and_comm _ _)
theorem sum_perm {l m : List Int} (h : l.Perm m) : l.sum = m.sum := by
  induction h with
  | nil => rfl
  | cons x _ ih => rw [List.sum_cons, List.sum_cons, ih]
  | swap x y l => simp only [List.sum_cons]; omega
  | trans _ _ h1 h2 => exact h1.trans h2
theorem w64 {n : Int} (h : -9223372036854775808 ≤ n ∧ n ≤ 9223372036854775807) : wrap64 n = n := by unfold wrap64; omega
theorem S_perm {P : S36 → Bool} {l m : List S36} (h : l.Perm m) : S P l = S P m := by
  unfold S
  exact sum_perm ((h.filter P).map _)
theorem S_all (l : List S36) : S (fun _ => true) l = (l.map (·.f4)).sum := by
  unfold S
  rw [List.filter_eq_self.2 (fun _ _ => rfl)]

/-! ### The sorted list is a permutation -/
theorem ins_perm (x : S36) : ∀ (l : List S36), (ins (key := (·.f0)) x l).Perm (x :: l)
  | [] => List.Perm.refl _
  | y :: l => by
    unfold ins
    split
    · exact ((ins_perm x l).cons y).trans (List.Perm.swap x y l)
    · exact List.Perm.refl _
theorem foldl_perm : ∀ (l out : List S36), (l.foldl (fun out x => ins (key := (·.f0)) x out) out).Perm (out ++ l)
  | [], out => by simp
  | x :: l, out => by
    rw [List.foldl_cons]
    refine (foldl_perm l _).trans ?_
    refine ((ins_perm x out).append_right l).trans ?_
    simp only [List.cons_append]
    exact List.perm_middle.symm
theorem ssort_perm (l : List S36) : (ssort (·.f0) l).Perm l := by
  have := foldl_perm l []
  simpa [ssort] using this

/-! ### Ledgers of accepted postings -/
def step (l e : List S36) : List S36 := if (postOf l e).2 = 0 then (postOf l e).1 else l
def bookedOf (ls : List (List S36)) : List S36 := ls.foldl step []

theorem post_ok {l e : List S36} (h : (postOf l e).2 = 0) : (postOf l e).1 = l ++ e ∧ postingB e = true ∧ ¬ (l ≠ [] ∧ (e.getD 0 z36).f1 < (l.getD (l.length - 1) z36).f1) ∧ fullL [l, e] = false := by
  unfold postOf at h ⊢
  by_cases hp : postingB e = true
  · rw [if_pos hp] at h ⊢
    by_cases hl : l ≠ [] ∧ (e.getD 0 z36).f1 < (l.getD (l.length - 1) z36).f1
    · rw [if_pos hl] at h
      cases h
    · rw [if_neg hl] at h ⊢
      by_cases hf : fullL [l, e] = true
      · rw [if_pos hf] at h
        cases h
      · rw [if_neg hf]
        exact ⟨rfl, hp, hl, by simpa using hf⟩
  · rw [if_neg hp] at h
    cases h
theorem post_bad {l e : List S36} (h : (postOf l e).2 ≠ 0) : (postOf l e).1 = [] := by
  unfold postOf at h ⊢
  split
  · rename_i hp
    rw [if_pos hp] at h
    split
    · rfl
    · rename_i hl
      rw [if_neg hl] at h
      split
      · rfl
      · rename_i hf
        rw [if_neg hf] at h
        exact absurd rfl h
  · rfl

/-- A ledger: at most n entries, in postings that are right; every field a whole number. -/
structure Bk (n : Nat) (l : List S36) : Prop where
  len : l.length ≤ n
  ok : okL l = true
  ps : ∃ ps : List (List S36), l = ps.flatten ∧ ∀ p ∈ ps, postingB p = true
theorem Bk.nil (n : Nat) : Bk n [] := ⟨by simp, rfl, [], rfl, by simp⟩
theorem okL_app {l m : List S36} (h : okL l = true) (k : okL m = true) : okL (l ++ m) = true := by
  unfold okL at *
  rw [List.all_append, h, k]
  rfl
theorem Bk.app {n m : Nat} {l e : List S36} (h : Bk n l) (he : e.length ≤ m) (hok : okL e = true) (hp : postingB e = true) : Bk (n + m) (l ++ e) := by
  obtain ⟨ps, h1, h2⟩ := h.ps
  refine ⟨by rw [List.length_append]; have := h.len; omega, okL_app h.ok hok, ps ++ [e], by rw [List.flatten_append, ← h1]; simp, fun p hp' => ?_⟩
  rcases List.mem_append.1 hp' with hp' | hp'
  · exact h2 p hp'
  · rw [List.mem_singleton.1 hp']
    exact hp
theorem Bk.mono {n m : Nat} {l : List S36} (h : Bk n l) (hm : n ≤ m) : Bk m l := ⟨Nat.le_trans h.len hm, h.ok, h.ps⟩
theorem Bk.step {n : Nat} {l e : List S36} (h : Bk n l) (he : e.length ≤ 8) (hok : okL e = true) : Bk (n + 8) (step l e) := by
  unfold Print.step
  split
  · rename_i h0
    obtain ⟨h1, h2, _⟩ := post_ok h0
    rw [h1]
    exact h.app he hok h2
  · exact h.mono (by omega)
theorem posting_right {p : List S36} (h : postingB p = true) : zeroE p = true ∧ p ≠ [] ∧ ∀ e ∈ p, rightB e = true ∧ e.f0 = (p.getD 0 z36).f0 ∧ e.f1 = (p.getD 0 z36).f1 := by
  cases p with
  | nil => cases h
  | cons x p =>
    simp only [postingB, Bool.and_eq_true, List.all_eq_true, beq_iff_eq] at h
    exact ⟨h.1, by simp, fun e he => ⟨(h.2 e he).1.1, (h.2 e he).1.2, (h.2 e he).2⟩⟩
theorem Bk.right {n : Nat} {l : List S36} (h : Bk n l) : ∀ e ∈ l, rightB e = true := by
  obtain ⟨ps, h1, h2⟩ := h.ps
  intro e he
  rw [h1] at he
  obtain ⟨p, hp, hep⟩ := List.mem_flatten.1 he
  exact ((posting_right (h2 p hp)).2.2 e hep).1
theorem right_of {e : S36} (h : rightB e = true) : (0 ≤ e.f0 ∧ e.f0 ≤ 699050) ∧ (0 ≤ e.f1 ∧ e.f1 ≤ 16777216) ∧ (-1 ≤ e.f2 ∧ e.f2 ≤ 15) ∧ (0 ≤ e.f3 ∧ e.f3 ≤ 63) ∧ (-1125899906842624 ≤ e.f4 ∧ e.f4 ≤ 1125899906842624) := by
  simp only [rightB, Bool.and_eq_true, decide_eq_true_eq] at h
  exact ⟨h.1.1.1.1.1.1, h.1.1.1.1.1.2, h.1.1.1.1.2, h.1.1.1.2, h.1.1.2⟩
theorem Bk.small {n : Nat} {l : List S36} (h : Bk n l) (hn : n ≤ 112) (P : S36 → Bool) : -126100789566373888 ≤ S P l ∧ S P l ≤ 126100789566373888 := by
  have := S_bound P (l := l) (fun e he => (right_of (h.right e he)).2.2.2.2)
  have := h.len
  omega
/-- What a choice that sees of an entry its day and hour alone adds up to. -/
theorem flat_zero {P : S36 → Bool} (hP : ∀ x y : S36, x.f0 = y.f0 → x.f1 = y.f1 → P x = P y) : ∀ (ps : List (List S36)), (∀ p ∈ ps, postingB p = true) → S P ps.flatten = 0
  | [], _ => rfl
  | p :: ps, h => by
    rw [List.flatten_cons, S_app, flat_zero hP ps (fun q hq => h q (by simp [hq]))]
    obtain ⟨h1, h2, h3⟩ := posting_right (h p (by simp))
    have : S P p = 0 := by
      cases hx : P (p.getD 0 z36) with
      | false => exact S_none (fun e he => by rw [hP e _ (h3 e he).2.1 (h3 e he).2.2, hx])
      | true =>
        rw [S_congr (Q := fun _ => true) (fun e he => by rw [hP e _ (h3 e he).2.1 (h3 e he).2.2, hx]), S_all]
        simpa [zeroE] using h1
    omega
theorem Bk.zero {n : Nat} {l : List S36} (h : Bk n l) {P : S36 → Bool} (hP : ∀ x y : S36, x.f0 = y.f0 → x.f1 = y.f1 → P x = P y) : S P l = 0 := by
  obtain ⟨ps, h1, h2⟩ := h.ps
  rw [h1]
  exact flat_zero hP ps h2

/-! ### The law's own helpers -/
def fewB (ls : List (List S36)) : Bool := ls.all (fun l => decide (l.length ≤ 8)) && decide (ls.length ≤ 12)
theorem few_loop (ls : List (List S36)) (hl : ls.length ≤ 9223372036854775807) : ∀ (m k i : Nat), i + m = ls.length → m < k → bournelaw39_few.l0 k ls i = some ((ls.drop i).all (fun l => decide (l.length ≤ 8)) && decide (ls.length ≤ 12))
  | 0, k + 1, i, h, _ => by
    rw [bournelaw39_few.l0, if_neg (by omega), List.drop_of_length_le (by omega)]
    simp only [List.all_nil, Bool.true_and]
    congr 1
    rw [decide_eq_decide]
    omega
  | m + 1, k + 1, i, h, hk => by
    have hi : i < ls.length := by omega
    rw [bournelaw39_few.l0, if_pos (by omega), if_pos (by omega), List.drop_eq_getElem_cons hi]
    have e : rd_L3 ls (i : Int) = ls[i] := by simp [rd_L3, List.getD_eq_getElem?_getD, List.getElem?_eq_getElem hi]
    rw [e]
    by_cases h8 : ((ls[i].length : Nat) : Int) > 8
    · have h8' : decide (ls[i].length ≤ 8) = false := decide_eq_false (by omega)
      rw [if_pos h8, List.all_cons, h8']
      simp
    · rw [if_neg h8, w64 (by omega), show ((i : Int) + 1) = ((i + 1 : Nat) : Int) by omega, few_loop ls hl m k (i + 1) (by omega) (by omega), List.all_cons]
      have h8' : decide (ls[i].length ≤ 8) = true := decide_eq_true (by omega)
      rw [h8', Bool.true_and]
theorem few_f (ls : List (List S36)) (hl : ls.length ≤ 9223372036854775807) (k : Nat) (hk : ls.length < k) : bournelaw39_few.f k ls = some (fewB ls) := by
  have := few_loop ls hl ls.length k 0 (by omega) hk
  simpa [bournelaw39_few.f, fewB] using this
theorem post_f {l e : List S36} (hl : l.length ≤ 1000) (he : e.length ≤ 1000) (h1 : okL l = true) (h2 : okL e = true) : ledger_Post.f l e = some (postOf l e) := by
  unfold ledger_Post.f
  rw [if_pos (by omega), if_pos (okL_i64E h1), if_pos (okL_i64E h2)]
theorem booked_loop (ls : List (List S36)) (hl : ls.length ≤ 12) (h8 : ∀ l ∈ ls, l.length ≤ 8) (hok : ls.all okL = true) : ∀ (m k i : Nat) (l : List S36), i + m = ls.length → m < k → Bk (8 * i) l →
    bournelaw39_booked.l0 k ls l i = some ((ls.drop i).foldl step l) ∧ Bk (8 * ls.length) ((ls.drop i).foldl step l)
  | 0, k + 1, i, l, h, _, hb => by
    rw [bournelaw39_booked.l0, if_neg (by omega), List.drop_of_length_le (by omega)]
    exact ⟨rfl, hb.mono (by omega)⟩
  | m + 1, k + 1, i, l, h, hk, hb => by
    have hi : i < ls.length := by omega
    rw [bournelaw39_booked.l0, if_pos (by omega), if_pos (by omega), List.drop_eq_getElem_cons hi]
    have e : rd_L3 ls (i : Int) = ls[i] := by simp [rd_L3, List.getD_eq_getElem?_getD, List.getElem?_eq_getElem hi]
    have hoki : okL ls[i] = true := List.all_eq_true.1 hok _ (List.getElem_mem hi)
    have h8i := h8 _ (List.getElem_mem hi)
    rw [e, post_f (by have := hb.len; omega) (by omega) hb.ok hoki, Option.bind_some, w64 (by omega), show ((i : Int) + 1) = ((i + 1 : Nat) : Int) by omega]
    have ih := fun l' hb' => booked_loop ls hl h8 hok m k (i + 1) l' (by omega) (by omega) hb'
    have hs := (hb.step h8i hoki).mono (show 8 * i + 8 ≤ 8 * (i + 1) by omega)
    have hst := ih _ hs
    rw [List.foldl_cons]
    by_cases h0 : (postOf l ls[i]).2 = 0
    · rw [if_pos h0]
      have : step l ls[i] = (postOf l ls[i]).1 := by unfold step; rw [if_pos h0]
      rw [← this]
      exact hst
    · rw [if_neg h0]
      have : step l ls[i] = l := by unfold step; rw [if_neg h0]
      rw [this] at hst ⊢
      exact hst
theorem few_spec {ls : List (List S36)} (h : fewB ls = true) : ls.length ≤ 12 ∧ ∀ l ∈ ls, l.length ≤ 8 := by
  simp only [fewB, Bool.and_eq_true, List.all_eq_true, decide_eq_true_eq] at h
  exact ⟨h.2, h.1⟩
theorem booked_f {ls : List (List S36)} (h : fewB ls = true) (hok : ls.all okL = true) (k : Nat) (hk : ls.length < k) : bournelaw39_booked.f k ls = some (bookedOf ls) ∧ Bk 96 (bookedOf ls) := by
  obtain ⟨h1, h2⟩ := few_spec h
  have := booked_loop ls h1 h2 hok ls.length k 0 [] (by omega) hk (Bk.nil _)
  simp only [List.drop_zero] at this
  exact ⟨this.1, this.2.mono (by omega)⟩

/-! ### Accounts of such ledgers -/
theorem account_f {n : Nat} {l : List S36} (h : Bk n l) (hn : n ≤ 112) (o p d k : Int) : ledger_Account.f l o p d k = some (S (accP o p d k) l) := by
  unfold ledger_Account.f
  have hl := h.len
  rw [if_pos (by omega), if_pos (okL_i64E h.ok)]
  have hs := h.small hn (accP o p d k)
  unfold S at hs
  unfold accountOf exactSum S
  rw [if_pos (by simp only [i64B, Bool.and_eq_true, decide_eq_true_eq]; omega)]
theorem lines_f {n : Nat} {l : List S36} (h : Bk n l) (hn : n ≤ 112) (o f u k : Int) : ledger_Lines.f l o f u k = some (linesOf l o f u k) := by
  unfold ledger_Lines.f
  have hl := h.len
  rw [if_pos (by omega)]
theorem S_lines (P : S36 → Bool) (l : List S36) (o f u k : Int) : S P (linesOf l o f u k) = S (fun e => linP o f u k e && P e) l := by
  unfold linesOf
  rw [S_perm (ssort_perm _), S_filter]
end Go.Proofs.Ytlmjopodghikgaa.Print
