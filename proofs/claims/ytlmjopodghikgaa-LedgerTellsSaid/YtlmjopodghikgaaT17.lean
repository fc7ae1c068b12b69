/- Contracts and plain lemmas that the claim rests on: part 17 of 17 (joined, without what the theorem does not rest on). -/
import Derived.Test.YtlmjopodghikgaaT14
import Derived.Test.YtlmjopodghikgaaT15
import Derived.Test.YtlmjopodghikgaaT16
import Derived.Test.YtlmjopodghikgaaT4
import Derived.Test.YtlmjopodghikgaaT8
import Derived.Test.YtlmjopodghikgaaT10
import Derived.Test.YtlmjopodghikgaaT13
import Derived.Test.YtlmjopodghikgaaT9
section
/- The reference's Post, Account, Balanced, Lines and Same say what the program's do. -/
namespace Go.Proofs.Ytlmjopodghikgaa.Print
open Go.RowKit Go.Proofs.YtlmjopodghikgaaW.PrintWords
open Go.Proofs.Ytlmjopodghikgaa.Stable
set_option linter.unusedVariables false
set_option linter.unusedSimpArgs false

theorem rd_at (l : List S36) {i : Nat} (h : i < l.length) : rd_T36 l (i : Int) = l[i] := by simp [rd_T36, List.getD_eq_getElem?_getD, List.getElem?_eq_getElem h]
theorem w64_next {i : Nat} (h : i ≤ 1000) : wrap64 ((i : Int) + 1) = ((i + 1 : Nat) : Int) := by rw [w64 (by omega)]; omega
theorem refRoom_f (l : List S36) (hl : l.length ≤ 1000) (h : okL l = true) (k : Nat) (hk : 2001 < k) (c : Int) (h0 : 0 ≤ c) (h1 : c ≤ 4611686018427387904) : bourneref39_room.f k c l = some (roomOf c l) := by
  have := refRoom_loop l hl h l.length k 0 c (by omega) (by omega) h0 h1
  simpa [bourneref39_room.f] using this
theorem fullL_two (l e : List S36) : fullL [l, e] = decide (absSum l + absSum e > 4611686018427387904) := by
  simp [fullL]
theorem refPost_f {l e : List S36} (hl : l.length ≤ 1000) (he : e.length ≤ 1000) (okl : okL l = true) (oke : okL e = true) (k : Nat) (hk : 3000 < k) : bourneref39_Post.f k l e = some (postOf l e) := by
  have hj : postingB e = true → ¬ (l ≠ [] ∧ (e.getD 0 z36).f1 < (l.getD (l.length - 1) z36).f1) → bourneref39_Post.j0 k l e = some (postOf l e) := by
    intro hp hn
    obtain ⟨k, rfl⟩ : ∃ k', k = k' + 1 := ⟨k - 1, by omega⟩
    have a1 := absSum_nonneg l
    have a2 := absSum_nonneg e
    rw [bourneref39_Post.j0, refRoom_f l hl okl k (by omega) _ (by omega) (by omega), Option.bind_some]
    unfold postOf
    rw [if_pos hp, if_neg hn, fullL_two]
    by_cases c1 : absSum l ≤ 4611686018427387904
    · rw [show roomOf 4611686018427387904 l = 4611686018427387904 - absSum l by unfold roomOf; rw [if_pos c1], if_neg (by omega), refRoom_f e he oke k (by omega) _ (by omega) (by omega), Option.bind_some]
      by_cases c2 : absSum e ≤ 4611686018427387904 - absSum l
      · rw [show roomOf (4611686018427387904 - absSum l) e = 4611686018427387904 - absSum l - absSum e by unfold roomOf; rw [if_pos c2], if_neg (by omega), if_neg (by rw [decide_eq_true_eq]; omega), Option.bind_some, if_pos (by simp; omega), Option.bind_some, if_pos (by simp; omega)]
        simp
      · rw [show roomOf (4611686018427387904 - absSum l) e = -1 by unfold roomOf; rw [if_neg c2], if_pos (by omega), if_pos (by rw [decide_eq_true_eq]; omega)]
    · rw [show roomOf 4611686018427387904 l = -1 by unfold roomOf; rw [if_neg c1], if_pos (by omega), if_pos (by rw [decide_eq_true_eq]; omega)]
  rw [bourneref39_Post.f, refPosting_f e he oke k (by omega), Option.bind_some]
  by_cases hp : postingB e = true
  · have hne := (posting_right hp).2.1
    have hpos : 0 < e.length := List.length_pos_iff.2 hne
    rw [if_pos hp]
    by_cases h0 : (l.length : Int) > 0
    · have hln : l ≠ [] := List.length_pos_iff.1 (by omega)
      have hw : wrap64 ((l.length : Int) - 1) = ((l.length - 1 : Nat) : Int) := by rw [w64 (by omega)]; omega
      have e1 : rd_T36 l ((l.length - 1 : Nat) : Int) = l.getD (l.length - 1) z36 := rfl
      have e2 : rd_T36 e 0 = e.getD 0 z36 := rfl
      rw [if_pos h0, hw, if_pos (by omega), if_pos (by omega), if_pos (by omega), e1, e2]
      by_cases c : (l.getD (l.length - 1) z36).f1 > (e.getD 0 z36).f1
      · rw [if_pos c]
        unfold postOf
        rw [if_pos hp, if_pos ⟨hln, c⟩]
      · rw [if_neg c]
        exact hj hp (fun h => c h.2)
    · rw [if_neg h0]
      exact hj hp (fun h => h.1 (List.length_eq_zero_iff.1 (by omega)))
  · rw [if_neg hp]
    unfold postOf
    rw [if_neg hp]

theorem refSame_loop (l : List S36) (hl : l.length ≤ 1000) : ∀ (m k i : Nat), i + m = l.length → m < k → bourneref39_Same.l0 k l l i = some true
  | 0, k + 1, i, h, _ => by rw [bourneref39_Same.l0, if_neg (by omega)]
  | m + 1, k + 1, i, h, hk => by
    rw [bourneref39_Same.l0, if_pos (by omega), if_pos (by omega), if_pos (by omega)]
    simp only [beq_self_eq_true, Bool.not_true, Bool.or_false, Bool.false_eq_true, if_false]
    rw [w64_next (by omega)]
    exact refSame_loop l hl m k (i + 1) (by omega) (by omega)
theorem refSame_f (l : List S36) (hl : l.length ≤ 1000) (k : Nat) (hk : l.length < k) : bourneref39_Same.f k l l = some true := by
  rw [bourneref39_Same.f, if_pos rfl]
  exact refSame_loop l hl l.length k 0 (by omega) hk

theorem ok_sub {l m : List S36} (h : okL l = true) (hs : ∀ x ∈ m, x ∈ l) : okL m = true := by
  unfold okL at *
  rw [List.all_eq_true] at *
  exact fun x hx => h x (hs x hx)
theorem filter_next {α : Type} (p : α → Bool) (l : List α) {i : Nat} (h : i < l.length) : (l.take (i + 1)).filter p = (l.take i).filter p ++ (if p l[i] = true then [l[i]] else []) := by
  rw [List.take_succ_eq_append_getElem h, List.filter_append]
  congr 1
  cases hp : p l[i] <;> simp [hp]
theorem refAccount_loop (l : List S36) (hl : l.length ≤ 1000) (h : okL l = true) (o p d kn : Int) : ∀ (m k i : Nat), i + m = l.length → m + 1001 < k →
    bourneref39_Account.l0 k l o p d kn (((l.take i).filter (accP o p d kn)).map (·.f4)) i = some (accountOf l o p d kn)
  | 0, k + 1, i, hi, hk => by
    have hfl := List.length_filter_le (accP o p d kn) l
    rw [bourneref39_Account.l0, if_neg (by omega), List.take_of_length_le (by omega), refSum_f _ (by rw [List.length_map]; omega) (ok_litres (ok_sub h fun x hx => (List.mem_filter.1 hx).1)) k (by rw [List.length_map]; omega), Option.bind_some]
    rfl
  | m + 1, k + 1, i, hi, hk => by
    have hil : i < l.length := by omega
    have ih := refAccount_loop l hl h o p d kn m k (i + 1) (by omega) (by omega)
    rw [filter_next _ l hil] at ih
    have hlen : (((l.take i).filter (accP o p d kn)).map (·.f4)).length < 17592186044416 := by
      have h1 := List.length_filter_le (accP o p d kn) (l.take i)
      rw [List.length_take] at h1
      rw [List.length_map]
      omega
    rw [bourneref39_Account.l0, if_pos (by omega), if_pos (by omega), rd_at l hil, w64_next (by omega)]
    generalize l[i] = x at *
    have yes : accP o p d kn x = true → bourneref39_Account.l0 k l o p d kn (((l.take i).filter (accP o p d kn)).map (·.f4) ++ [x.f4]) ((i + 1 : Nat) : Int) = some (accountOf l o p d kn) := by
      intro ha
      rw [if_pos ha, List.map_append] at ih
      exact ih
    have no : accP o p d kn x = false → bourneref39_Account.l0 k l o p d kn (((l.take i).filter (accP o p d kn)).map (·.f4)) ((i + 1 : Nat) : Int) = some (accountOf l o p d kn) := by
      intro ha
      rw [if_neg (by rw [ha]; simp), List.append_nil] at ih
      exact ih
    by_cases c0 : x.f0 ≤ d
    case neg => rw [if_neg c0]; exact no (by simp [accP, c0])
    rw [if_pos c0]
    by_cases c1 : x.f1 ≤ kn
    case neg => rw [if_neg c1]; exact no (by simp [accP, c1])
    rw [if_pos c1]
    have c01 : accP o p d kn x = ((o == -1 || x.f2 == o) && (p == -1 || x.f3 == p)) := by simp only [accP, decide_eq_true c0, decide_eq_true c1, Bool.true_and]
    have tail : (o == -1 || x.f2 == o) = true → (if p = -1 then (if (((l.take i).filter (accP o p d kn)).map (·.f4)).length < 17592186044416 then bourneref39_Account.l0 k l o p d kn (((l.take i).filter (accP o p d kn)).map (·.f4) ++ [x.f4]) ((i + 1 : Nat) : Int) else none) else (if x.f3 = p then (if (((l.take i).filter (accP o p d kn)).map (·.f4)).length < 17592186044416 then bourneref39_Account.l0 k l o p d kn (((l.take i).filter (accP o p d kn)).map (·.f4) ++ [x.f4]) ((i + 1 : Nat) : Int) else none) else bourneref39_Account.l0 k l o p d kn (((l.take i).filter (accP o p d kn)).map (·.f4)) ((i + 1 : Nat) : Int))) = some (accountOf l o p d kn) := by
      intro ho
      by_cases c3 : p = -1
      · rw [if_pos c3, if_pos hlen]; exact yes (by rw [c01, ho]; simp [c3])
      · rw [if_neg c3]
        by_cases c4 : x.f3 = p
        · rw [if_pos c4, if_pos hlen]; exact yes (by rw [c01, ho]; simp [c4])
        · rw [if_neg c4]; exact no (by rw [c01, ho]; simp [c3, c4])
    by_cases c2 : o = -1
    · rw [if_pos c2]; exact tail (by simp [c2])
    · rw [if_neg c2]
      by_cases c5 : x.f2 = o
      · rw [if_pos c5]; exact tail (by simp [c5])
      · rw [if_neg c5]; exact no (by rw [c01]; simp [c2, c5])
theorem refAccount_f (l : List S36) (hl : l.length ≤ 1000) (h : okL l = true) (o p d kn : Int) (k : Nat) (hk : 2100 < k) : bourneref39_Account.f k l o p d kn = some (accountOf l o p d kn) :=
  refAccount_loop l hl h o p d kn l.length k 0 (by omega) (by omega)

theorem grp_next (l : List S36) (a c : Int) {i : Nat} (h : i < l.length) : grp (l.take (i + 1)) a c = grp (l.take i) a c ++ (if l[i].f0 = a ∧ l[i].f1 = c then [l[i]] else []) := by
  unfold grp
  rw [filter_next _ l h]
  congr 1
  by_cases h0 : l[i].f0 = a <;> by_cases h1 : l[i].f1 = c <;> simp [h0, h1]
/-- What the reference's Balanced says from entry i on. -/
def balFrom (l : List S36) (kn : Int) (i : Nat) : Bool := (l.drop i).all fun e => !decide (e.f1 ≤ kn) || zeroE (grp l e.f0 e.f1)
theorem refBal_inner (l : List S36) (hl : l.length ≤ 1000) (h : okL l = true) (kn : Int) (j : Nat) (hj : j < l.length) (hrest : ∀ k, 4000 * l.length < k + 4000 * (j + 1) → bourneref39_Balanced.l0 k l kn ((j + 1 : Nat) : Int) = some (balFrom l kn (j + 1))) : ∀ (m k i : Nat), i + m = l.length → 4000 * l.length + 2300 + m < k + 4000 * (j + 1) →
    bourneref39_Balanced.l1 k l kn (j : Int) (grp (l.take i) l[j].f0 l[j].f1) (i : Int) = some (zeroE (grp l l[j].f0 l[j].f1) && balFrom l kn (j + 1)) := by
  intro m
  induction m with
  | zero =>
    intro k i hi hk
    obtain ⟨k, rfl⟩ : ∃ k', k = k' + 1 := ⟨k - 1, by omega⟩
    have hfl : (grp l l[j].f0 l[j].f1).length ≤ l.length := List.length_filter_le _ l
    rw [bourneref39_Balanced.l1, if_neg (by omega), List.take_of_length_le (by omega), refZero_f (grp l l[j].f0 l[j].f1) (by omega) (ok_sub h fun x hx => (List.mem_filter.1 hx).1) k (by omega), Option.bind_some, w64_next (by omega)]
    cases zeroE (grp l l[j].f0 l[j].f1) with
    | false => rfl
    | true => rw [if_pos rfl, hrest k (by omega), Bool.true_and]
  | succ m ih =>
    intro k i hi hk
    obtain ⟨k, rfl⟩ : ∃ k', k = k' + 1 := ⟨k - 1, by omega⟩
    have hil : i < l.length := by omega
    have ih := ih k (i + 1) (by omega) (by omega)
    rw [grp_next l _ _ hil] at ih
    have hlen : (grp (l.take i) l[j].f0 l[j].f1).length < 2513169434916 := by
      have h1 := List.length_filter_le (fun e : S36 => decide (e.f0 = l[j].f0) && decide (e.f1 = l[j].f1)) (l.take i)
      rw [List.length_take] at h1
      unfold grp
      omega
    rw [bourneref39_Balanced.l1, if_pos (by omega), if_pos (by omega), if_pos (by omega), if_pos (by omega), rd_at l hil, rd_at l hj, w64_next (by omega)]
    by_cases c0 : l[i].f0 = l[j].f0
    · rw [if_pos c0]
      by_cases c1 : l[i].f1 = l[j].f1
      · rw [if_pos ⟨c0, c1⟩] at ih
        rw [if_pos c1, if_pos hlen]
        exact ih
      · rw [if_neg (fun h => c1 h.2), List.append_nil] at ih
        rw [if_neg c1]
        exact ih
    · rw [if_neg (fun h => c0 h.1), List.append_nil] at ih
      rw [if_neg c0]
      exact ih
theorem refBal_loop (l : List S36) (hl : l.length ≤ 1000) (h : okL l = true) (kn : Int) : ∀ (m j : Nat), j + m = l.length → ∀ k, 4000 * l.length < k + 4000 * j → bourneref39_Balanced.l0 k l kn (j : Int) = some (balFrom l kn j) := by
  intro m
  induction m with
  | zero =>
    intro j hj k hk
    obtain ⟨k, rfl⟩ : ∃ k', k = k' + 1 := ⟨k - 1, by omega⟩
    rw [bourneref39_Balanced.l0, if_neg (by omega), balFrom, List.drop_of_length_le (by omega)]
    rfl
  | succ m ih =>
    intro j hj k hk
    obtain ⟨k, rfl⟩ : ∃ k', k = k' + 1 := ⟨k - 1, by omega⟩
    have hjl : j < l.length := by omega
    have ih := ih (j + 1) (by omega)
    have e : balFrom l kn j = ((!decide (l[j].f1 ≤ kn) || zeroE (grp l l[j].f0 l[j].f1)) && balFrom l kn (j + 1)) := by
      unfold balFrom
      rw [List.drop_eq_getElem_cons hjl, List.all_cons]
    rw [bourneref39_Balanced.l0, if_pos (by omega), if_pos (by omega), rd_at l hjl, w64_next (by omega), e]
    by_cases c : l[j].f1 > kn
    · rw [if_pos c, ih k (by omega), decide_eq_false (by omega : ¬ l[j].f1 ≤ kn)]
      rfl
    · rw [if_neg c, decide_eq_true (by omega : l[j].f1 ≤ kn)]
      have := refBal_inner l hl h kn j hjl (fun k hk => ih k (by omega)) l.length k 0 (by omega) (by omega)
      rw [List.take_zero] at this
      exact this
theorem balFrom_eq (l : List S36) (kn : Int) : balFrom l kn 0 = balOf l kn := by
  unfold balFrom balOf upto
  rw [List.drop_zero, List.all_filter]
  rw [Bool.eq_iff_iff, List.all_eq_true, List.all_eq_true]
  have key : ∀ e ∈ l, ((!decide (e.f1 ≤ kn) || zeroE (grp l e.f0 e.f1)) = true ↔ (!decide (e.f1 ≤ kn) || zeroE (grp (l.filter fun e => decide (e.f1 ≤ kn)) e.f0 e.f1)) = true) := by
    intro e _
    by_cases c : e.f1 ≤ kn
    · have : grp (l.filter fun e => decide (e.f1 ≤ kn)) e.f0 e.f1 = grp l e.f0 e.f1 := by
        unfold grp
        rw [List.filter_filter]
        refine List.filter_congr fun x _ => ?_
        by_cases h1 : x.f1 = e.f1
        · simp [h1, c]
        · simp [h1]
      rw [this]
    · simp [c]
  constructor
  · intro h e he
    exact (key e he).1 (h e he)
  · intro h e he
    exact (key e he).2 (h e he)
theorem refBalanced_f (l : List S36) (hl : l.length ≤ 1000) (h : okL l = true) (kn : Int) (k : Nat) (hk : 4000 * l.length < k) : bourneref39_Balanced.f k l kn = some (balOf l kn) := by
  have := refBal_loop l hl h kn l.length 0 (by omega) k (by omega)
  rw [balFrom_eq] at this
  exact this

theorem ins_at (x : S36) : ∀ (out : List S36) (n : Nat), (∀ y ∈ out.take n, y.f0 ≤ x.f0) → (∀ y, (out.drop n).head? = some y → x.f0 < y.f0) → n ≤ out.length → ins (key := (·.f0)) x out = out.take n ++ x :: out.drop n
  | [], n, _, _, hn => by
    obtain rfl : n = 0 := by simpa using hn
    rfl
  | y :: out, 0, _, h2, _ => by
    have := h2 y rfl
    unfold ins
    rw [if_neg (by omega)]
    rfl
  | y :: out, n + 1, h1, h2, hn => by
    unfold ins
    have hy := h1 y (by simp)
    rw [if_pos hy, ins_at x out n (fun z hz => h1 z (by simp [hz])) (fun z hz => h2 z (by simpa using hz)) (by simpa using hn)]
    rfl
theorem ssort_next (p : S36 → Bool) (l : List S36) {i : Nat} (h : i < l.length) : ssort (·.f0) ((l.take (i + 1)).filter p) = (if p l[i] = true then ins (key := (·.f0)) l[i] (ssort (·.f0) ((l.take i).filter p)) else ssort (·.f0) ((l.take i).filter p)) := by
  rw [filter_next _ l h]
  split
  · unfold ssort
    rw [List.foldl_append]
    rfl
  · rw [List.append_nil]
theorem ssort_len (l : List S36) : (ssort (·.f0) l).length = l.length := (ssort_perm l).length_eq
theorem refLines_inner (l : List S36) (hl : l.length ≤ 1000) (o f u kn : Int) (i : Nat) (hi : i < l.length) (x : S36) (out : List S36) (hs : Srt (·.f0) out) (hol : out.length ≤ 1000) (r : List S36) (b : Nat)
    (hrest : ∀ k, b < k → bourneref39_Lines.l0 k l o f u kn (ins (key := (·.f0)) x out) ((i + 1 : Nat) : Int) = some r) : ∀ (n k : Nat), b + n + 1 < k → n ≤ out.length → (∀ y, (out.drop n).head? = some y → x.f0 < y.f0) →
    bourneref39_Lines.l1 k l o f u kn out (i : Int) (n : Int) x.f0 x.f1 x.f2 x.f3 x.f4 x.f5 x.f6 = some r := by
  have place : ∀ (n k : Nat), b < k → n ≤ out.length → (∀ y ∈ out.take n, y.f0 ≤ x.f0) → (∀ y, (out.drop n).head? = some y → x.f0 < y.f0) → bourneref39_Lines.l0 k l o f u kn (out.take n ++ [x] ++ out.drop n) ((i + 1 : Nat) : Int) = some r := by
    intro n k hk hn h1 h2
    have := hrest k hk
    rw [ins_at x out n h1 h2 hn] at this
    simpa using this
  have hlen : ∀ n, n ≤ out.length → (out.take n).length = n ∧ (out.drop n).length ≤ 1000 := by
    intro n hn
    rw [List.length_take, List.length_drop]
    omega
  intro n
  induction n with
  | zero =>
    intro k hk hn h2
    obtain ⟨k, rfl⟩ : ∃ k', k = k' + 1 := ⟨k - 1, by omega⟩
    have := place 0 k (by omega) (by omega) (by simp) h2
    obtain ⟨q1, q2⟩ := hlen 0 (by omega)
    rw [bourneref39_Lines.l1, if_neg (by omega), Option.bind_some, if_pos (by omega), if_pos (by omega), Option.bind_some, if_pos (by simp; omega), Option.bind_some, Option.bind_some, Option.bind_some, if_pos (by simp), Option.bind_some, Option.bind_some, if_pos (by simp), Option.bind_some, if_pos (by simp; omega), w64_next (by omega)]
    simpa using this
  | succ n ih =>
    intro k hk hn h2
    obtain ⟨k, rfl⟩ : ∃ k', k = k' + 1 := ⟨k - 1, by omega⟩
    have hw : wrap64 (((n + 1 : Nat) : Int) - 1) = (n : Int) := by rw [w64 (by omega)]; omega
    obtain ⟨q1, q2⟩ := hlen (n + 1) hn
    rw [bourneref39_Lines.l1, if_pos (by omega), hw, if_pos (by omega), if_pos (by omega), rd_at out (by omega)]
    by_cases c : out[n].f0 > x.f0
    · rw [if_pos c]
      refine ih k (by omega) (by omega) (fun y hy => ?_)
      rw [List.drop_eq_getElem_cons (by omega)] at hy
      have : out[n] = y := by rw [List.head?_cons] at hy; injection hy
      subst this
      exact c
    · have h1 : ∀ y ∈ out.take (n + 1), y.f0 ≤ x.f0 := by
        intro y hy
        obtain ⟨j, hj, rfl⟩ := List.getElem_of_mem hy
        rw [List.getElem_take]
        rw [q1] at hj
        by_cases e : j = n
        · subst e
          omega
        · have h5 : out[j].f0 ≤ out[n].f0 := List.pairwise_iff_getElem.1 hs j n (by omega) (by omega) (by omega)
          omega
      have := place (n + 1) k (by omega) hn h1 h2
      rw [if_neg c, Option.bind_some, if_pos (by omega), if_pos (by omega), Option.bind_some, if_pos (by simp; omega), Option.bind_some, Option.bind_some, Option.bind_some, if_pos (by simp; omega), Option.bind_some, Option.bind_some, if_pos (by simp; omega), Option.bind_some, if_pos (by simp; omega), w64_next (by omega)]
      simpa using this
theorem refLines_loop (l : List S36) (hl : l.length ≤ 1000) (o f u kn : Int) : ∀ (m i : Nat), i + m = l.length → ∀ k, 1010 * m < k → bourneref39_Lines.l0 k l o f u kn (ssort (·.f0) ((l.take i).filter (linP o f u kn))) (i : Int) = some (linesOf l o f u kn) := by
  intro m
  induction m with
  | zero =>
    intro i hi k hk
    obtain ⟨k, rfl⟩ : ∃ k', k = k' + 1 := ⟨k - 1, by omega⟩
    rw [bourneref39_Lines.l0, if_neg (by omega), List.take_of_length_le (by omega)]
    rfl
  | succ m ih =>
    intro i hi k hk
    obtain ⟨k, rfl⟩ : ∃ k', k = k' + 1 := ⟨k - 1, by omega⟩
    have hil : i < l.length := by omega
    have ih := ih (i + 1) (by omega)
    rw [ssort_next _ l hil] at ih
    have hs : Srt (·.f0) (ssort (·.f0) ((l.take i).filter (linP o f u kn))) := (ssort_stable _).srt
    have hol : (ssort (·.f0) ((l.take i).filter (linP o f u kn))).length ≤ i := by
      rw [ssort_len]
      have h1 := List.length_filter_le (linP o f u kn) (l.take i)
      rw [List.length_take] at h1
      omega
    rw [bourneref39_Lines.l0, if_pos (by omega), if_pos (by omega), rd_at l hil]
    generalize l[i] = x at *
    generalize ssort (·.f0) ((l.take i).filter (linP o f u kn)) = out at *
    obtain ⟨k, rfl⟩ : ∃ k', k = k' + 1 := ⟨k - 1, by omega⟩
    have no : linP o f u kn x = false → bourneref39_Lines.j1 (k + 1) l o f u kn out (i : Int) true x.f0 x.f1 x.f2 x.f3 x.f4 x.f5 x.f6 = some (linesOf l o f u kn) := by
      intro hp
      rw [bourneref39_Lines.j1, if_pos rfl, w64_next (by omega)]
      have := ih k (by omega)
      rw [if_neg (by rw [hp]; simp)] at this
      exact this
    by_cases c2 : x.f2 = o
    case neg => rw [if_neg c2]; exact no (by simp [linP, c2])
    rw [if_pos c2]
    by_cases c0 : x.f0 < f
    · rw [if_pos c0]; exact no (by simp [linP]; omega)
    rw [if_neg c0]
    by_cases c1 : x.f0 > u
    · rw [if_pos c1]; exact no (by simp [linP]; omega)
    rw [if_neg c1]
    by_cases c3 : x.f1 > kn
    · rw [decide_eq_true c3]; exact no (by simp [linP]; omega)
    · have hp : linP o f u kn x = true := by simp [linP, c2]; omega
      rw [decide_eq_false c3, bourneref39_Lines.j1, if_neg (by simp)]
      rw [if_pos hp] at ih
      refine refLines_inner l hl o f u kn i hil x out hs (by omega) _ (1010 * m) ih out.length k (by omega) (by omega) (fun y hy => ?_)
      rw [List.drop_of_length_le (by omega)] at hy
      cases hy
theorem refLines_f (l : List S36) (hl : l.length ≤ 1000) (o f u kn : Int) (k : Nat) (hk : 1010 * l.length < k) : bourneref39_Lines.f k l o f u kn = some (linesOf l o f u kn) :=
  refLines_loop l hl o f u kn l.length 0 (by omega) k hk
end Go.Proofs.Ytlmjopodghikgaa.Print
end
section
namespace Go.Proofs.Ytlmjopodghikgaa.Print
open Go.RowKit Go.Proofs.YtlmjopodghikgaaW.PrintWords Go.Proofs.YtlmjopodghikgaaW.PrintLast Go.Proofs.YtlmjopodghikgaaW.PrintMore
attribute [local go_sem] max2_int min2_int max_two min_two max_three min_three max_four min_four   -- for this text's walks alone
set_option linter.unusedVariables false
set_option linter.unusedSimpArgs false

/-! ### bournelaw39_LedgerTells: function 3 -/
mutual
def bournelaw39_LedgerTells.j0 : Nat → List (S36) → List (S36) → Int → Int → Int → Int → Int → Bool → Bool → Option (Bool)
  | 0, _, _, _, _, _, _, _, _, _ => none
  | k + 1, x0, x1, x2, x3, x4, x5, x6, x15, x28 => if x28 = true then (some x15) else ((ledger_Post.f x0 x1).bind fun bt222 => ((bourneref39_Post.f k x0 x1).bind fun bt226 => ((bourneref39_Same.f k bt222.1 bt226.1).bind fun t230 => (if t230 = true then (bournelaw39_LedgerTells.j1 k x0 x2 x3 x4 x5 x6 x15 (bt222.2 != bt226.2)) else (bournelaw39_LedgerTells.j1 k x0 x2 x3 x4 x5 x6 x15 true)))))
def bournelaw39_LedgerTells.j1 : Nat → List (S36) → Int → Int → Int → Int → Int → Bool → Bool → Option (Bool)
  | 0, _, _, _, _, _, _, _, _ => none
  | k + 1, x0, x2, x3, x4, x5, x6, x15, x50 => if x50 = true then (some false) else (if x15 = true then ((ledger_Account.f x0 x2 x3 x4 x5).bind fun t231 => ((bourneref39_Account.f k x0 x2 x3 x4 x5).bind fun t232 => (if t231 = t232 then ((ledger_Balanced.f x0 x5).bind fun t233 => ((bourneref39_Balanced.f k x0 x5).bind fun t234 => (if (t233 == t234) = true then ((ledger_Lines.f x0 x2 x6 x4 x5).bind fun t235 => ((bourneref39_Lines.f k x0 x2 x6 x4 x5).bind fun t238 => ((bourneref39_Same.f k t235 t238).bind fun t241 => (some t241)))) else (some false)))) else (some false)))) else (some false))
end
def bournelaw39_LedgerTells.f (k : Nat) (l0 : List (S36)) (l1 : List (S36)) (a2 : Int) (a3 : Int) (a4 : Int) (a5 : Int) (a6 : Int) : Option (Bool) := (bournelaw39_small.f).bind fun t221 => (if (l0.length : Int) > 40 then (bournelaw39_LedgerTells.j0 k l0 l1 a2 a3 a4 a5 a6 t221 true) else (bournelaw39_LedgerTells.j0 k l0 l1 a2 a3 a4 a5 a6 t221 (decide ((l1.length : Int) > 40))))
set_option maxHeartbeats 8000000 in
set_option maxRecDepth 100000 in
theorem bournelaw39_LedgerTells.calls (k : Nat) (A0 : Option Addr) (c0 : Nat) (l0 : List (S36)) (A1 : Option Addr) (c1 : Nat) (l1 : List (S36)) (a2 : Int) (a3 : Int) (a4 : Int) (a5 : Int) (a6 : Int) (r : Bool) (w : World) (hr0 : Kd.C k36 w A0 l0.length l0) (hc0 : l0.length ≤ c0) (hr1 : Kd.C k36 w A1 l1.length l1) (hc1 : l1.length ≤ c1) (h : bournelaw39_LedgerTells.f k l0 l1 a2 a3 a4 a5 a6 = some r) :
    Calls Try.prog 3 #[.slice A0 l0.length c0, .slice A1 l1.length c1, .int .i64 a2, .int .i64 a3, .int .i64 a4, .int .i64 a5, .int .i64 a6] w fun e w' => e = .returned (.bool r) ∧ Below w.heap.size w w' := by
  have HR0 := Aside0.mk hr0
  have HC0 := Aside0.mk hc0
  clear hr0 hc0
  have HR1 := Aside0.mk hr1
  have HC1 := Aside0.mk hc1
  clear hr1 hc1
  have HB := Aside0.mk (Below.refl w.heap.size w)
  have H : ((bournelaw39_small.f).bind fun t221 => (if (l0.length : Int) > 40 then (bournelaw39_LedgerTells.j0 k l0 l1 a2 a3 a4 a5 a6 t221 true) else (bournelaw39_LedgerTells.j0 k l0 l1 a2 a3 a4 a5 a6 t221 (decide ((l1.length : Int) > 40))))) = some r := h
  clear h
  replace H := Option.bind_eq_some_iff.mp H
  obtain ⟨t221, A80, H⟩ := H
  replace H : (if (l0.length : Int) > 40 then (bournelaw39_LedgerTells.j0 k l0 l1 a2 a3 a4 a5 a6 t221 true) else (bournelaw39_LedgerTells.j0 k l0 l1 a2 a3 a4 a5 a6 t221 (decide ((l1.length : Int) > 40)))) = some r := H
  have A8 := Aside0.mk A80
  clear A80
  have HC9 := Aside0.mk H
  clear H
  go_enter Try.func3, Try.ntmps3
  go_upto_region 2 with (first | ((with_reducible refine gate_callee (f := 8) rfl ?_); refine goesL_ (some 20) rfl rfl Try.func8 (by kernel_rfl) rfl #[] rfl (by (try simp only [List.map_toArray, List.map_cons, List.map_nil]); first | done | rfl | (simp only [List.length_drop, List.length_take]; rfl)) ?_; (with_reducible refine (bournelaw39_small.calls  t221 _ A8.out).mono ?_); rintro e w10 ⟨rfl, hb⟩; refine ⟨_, rfl, ?_⟩; have n0_ := Aside0.mk (below_step (by repeat (first | (with_reducible first | exact HB.out | apply below_alloc | apply pw_below_drewN | apply below_drew1) | exact HB.out)) hb); clear HB; have HB := n0_; clear n0_; (try clear hb); (try clear hb2); (try clear hk); (try clear hi)))
  (try simp only [Act.put, List.setIfInBounds_toArray, List.set_cons_zero, List.set_cons_succ])
  go_cut [28] (fun v28 wc => ∃ (kq : Nat) (x28_8 : Bool), v28 = .bool x28_8 ∧ Aside0 (bournelaw39_LedgerTells.j0 kq l0 l1 a2 a3 a4 a5 a6 t221 x28_8 = some r) ∧ Aside0 (kq ≤ k) ∧ Aside0 (Below w.heap.size w wc))
  case first =>
    have H := HC9.out
    clear HC9
    by_cases c11 : (l0.length : Int) > 40
    · rw [if_pos c11] at H
      have c11b0 : decide (40 < (l0.length : Int)) = true := decide_eq_true c11
      have c11b1 : decide (40 < l0.length) = true := decide_eq_true (by omega)
      clear c11
      (first | rw [c11b0] | (simp only [i64_w, i32_w]; rw [c11b0]) | skip)
      have H' := Aside0.mk H
      clear H
      go_wp2
      go_meet
      case rel => exact ⟨_, (true), (by first | rfl | (simp; done) | (simp [*]; done)), H', ⟨by first | omega | exact Nat.le_refl _⟩, ⟨by repeat (first | (with_reducible first | exact HB.out | apply below_alloc | apply pw_below_drewN | apply below_drew1) | exact HB.out)⟩⟩
    · rw [if_neg c11] at H
      have c11b0 : decide (40 < (l0.length : Int)) = false := decide_eq_false c11
      have c11b1 : decide (40 < l0.length) = false := decide_eq_false (by omega)
      clear c11
      (first | rw [c11b0] | (simp only [i64_w, i32_w]; rw [c11b0]) | skip)
      have H' := Aside0.mk H
      clear H
      go_wp2
      go_meet
      case rel => exact ⟨_, (decide ((l1.length : Int) > 40)), (by first | rfl | (simp; done) | (simp [*]; done)), H', ⟨by first | omega | exact Nat.le_refl _⟩, ⟨by repeat (first | (with_reducible first | exact HB.out | apply below_alloc | apply pw_below_drewN | apply below_drew1) | exact HB.out)⟩⟩
  case rest =>
    clear HC9
    try clear c1
    try clear p2
    try clear c3
    try clear c8
    try clear c11
    try clear c11b0
    try clear c11b1
    obtain ⟨kq, x28_8, rfl, HA, HJ8, HB⟩ := hcut
    cases kq with
    | zero => exact absurd HA.out (by simp [bournelaw39_LedgerTells.j0])
    | succ kj8 =>
      have H := HA.out
      clear HA
      simp only [bournelaw39_LedgerTells.j0] at H
      by_cases c12 : x28_8 = true
      · subst c12
        have H1 : (some t221) = some r := by rw [if_pos rfl] at H; exact H
        clear H
        have H := H1
        clear H1
        obtain rfl := Option.some.inj H
        go_wp2
        go_ret
        exact ⟨by first | rfl | (simp [errW_none, errW_some] <;> rfl) | (simp [*, errW_none, errW_some] <;> rfl), by repeat (first | (with_reducible first | exact HB.out | apply below_alloc | apply pw_below_drewN | apply below_drew1) | exact HB.out)⟩
      · replace c12 := Bool.eq_false_iff.mpr c12
        subst c12
        have H1 : ((ledger_Post.f l0 l1).bind fun bt222 => ((bourneref39_Post.f kj8 l0 l1).bind fun bt226 => ((bourneref39_Same.f kj8 bt222.1 bt226.1).bind fun t230 => (if t230 = true then (bournelaw39_LedgerTells.j1 kj8 l0 a2 a3 a4 a5 a6 t221 (bt222.2 != bt226.2)) else (bournelaw39_LedgerTells.j1 kj8 l0 a2 a3 a4 a5 a6 t221 true))))) = some r := by rw [if_neg (show ¬ (false = true) by decide)] at H; exact H
        clear H
        have H := H1
        clear H1
        replace H := Option.bind_eq_some_iff.mp H
        obtain ⟨⟨t222, t223⟩, A130, H⟩ := H
        replace H : ((bourneref39_Post.f kj8 l0 l1).bind fun bt226 => ((bourneref39_Same.f kj8 t222 bt226.1).bind fun t230 => (if t230 = true then (bournelaw39_LedgerTells.j1 kj8 l0 a2 a3 a4 a5 a6 t221 (t223 != bt226.2)) else (bournelaw39_LedgerTells.j1 kj8 l0 a2 a3 a4 a5 a6 t221 true)))) = some r := H
        have A13 := Aside0.mk A130
        clear A130
        replace H := Option.bind_eq_some_iff.mp H
        obtain ⟨⟨t226, t227⟩, A140, H⟩ := H
        replace H : ((bourneref39_Same.f kj8 t222 t226).bind fun t230 => (if t230 = true then (bournelaw39_LedgerTells.j1 kj8 l0 a2 a3 a4 a5 a6 t221 (t223 != t227)) else (bournelaw39_LedgerTells.j1 kj8 l0 a2 a3 a4 a5 a6 t221 true))) = some r := H
        have A14 := Aside0.mk A140
        clear A140
        have HC15 := Aside0.mk H
        clear H
        go_upto_region 6 with (first | ((with_reducible refine gate_callee (f := 9) rfl ?_); refine goesL_ (some 33) rfl rfl Try.func9 (by kernel_rfl) rfl #[.slice A0 l0.length c0, .slice A1 l1.length c1] rfl (by (try simp only [List.map_toArray, List.map_cons, List.map_nil]); first | done | rfl | (simp only [List.length_drop, List.length_take]; rfl)) ?_; (with_reducible refine (ledger_Post.calls _ _ l0 _ _ l1 t222 t223 _ ?side1 ?side2 ?side3 ?side4 A13.out).mono ?_); (case side1 => repeat (first | exact (Kd.C_below HR0.out HB.out) | (with_reducible refine Kd.C_alloc ?_ _) | (with_reducible refine Kd.C_drewN ?_ _) | (with_reducible refine Kd.C_drew ?_))); (case side2 => exact HC0.out); (case side3 => repeat (first | exact (Kd.C_below HR1.out HB.out) | (with_reducible refine Kd.C_alloc ?_ _) | (with_reducible refine Kd.C_drewN ?_ _) | (with_reducible refine Kd.C_drew ?_))); (case side4 => exact HC1.out); rintro e w16 ⟨v224, rfl, ho0, hb⟩; refine ⟨_, rfl, ?_⟩; have n0_ := Aside0.mk (Kd.R_lower ho0 (below_size (by repeat (first | (with_reducible first | exact HB.out | apply below_alloc | apply pw_below_drewN | apply below_drew1) | exact HB.out)))); have n1_ := Aside0.mk (below_step (by repeat (first | (with_reducible first | exact HB.out | apply below_alloc | apply pw_below_drewN | apply below_drew1) | exact HB.out)) hb); clear HB; have HO225 := n0_; have HB := n1_; clear n0_ n1_; (try clear hb); (try clear hb2); (try clear hk); (try clear hi); (try clear ho0)) | ((with_reducible refine gate_callee (f := 10) rfl ?_); refine goesL_ (some 39) rfl rfl Try.func10 (by kernel_rfl) rfl #[.slice A0 l0.length c0, .slice A1 l1.length c1] rfl (by (try simp only [List.map_toArray, List.map_cons, List.map_nil]); first | done | rfl | (simp only [List.length_drop, List.length_take]; rfl)) ?_; (with_reducible refine (bourneref39_Post.calls kj8 _ _ l0 _ _ l1 t226 t227 _ ?side1 ?side2 ?side3 ?side4 A14.out).mono ?_); (case side1 => repeat (first | exact (Kd.C_below HR0.out HB.out) | (with_reducible refine Kd.C_alloc ?_ _) | (with_reducible refine Kd.C_drewN ?_ _) | (with_reducible refine Kd.C_drew ?_))); (case side2 => exact HC0.out); (case side3 => repeat (first | exact (Kd.C_below HR1.out HB.out) | (with_reducible refine Kd.C_alloc ?_ _) | (with_reducible refine Kd.C_drewN ?_ _) | (with_reducible refine Kd.C_drew ?_))); (case side4 => exact HC1.out); rintro e w17 ⟨v228, rfl, ho0, hb⟩; refine ⟨_, rfl, ?_⟩; have n0_ := Aside0.mk (Kd.R_elder' (by (with_reducible repeat (first | apply Kd.R_alloc | apply Kd.R_drewN | apply Kd.R_drew)); exact HO225.out) (Kd.R_base ho0) hb); have n1_ := Aside0.mk (Kd.R_lower (Kd.R_new' ho0 (Kd.R_lt (by (with_reducible repeat (first | apply Kd.R_alloc | apply Kd.R_drewN | apply Kd.R_drew)); exact HO225.out))) (below_size (by repeat (first | (with_reducible first | exact HB.out | apply below_alloc | apply pw_below_drewN | apply below_drew1) | exact HB.out)))); have n2_ := Aside0.mk (below_step (by repeat (first | (with_reducible first | exact HB.out | apply below_alloc | apply pw_below_drewN | apply below_drew1) | exact HB.out)) hb); clear HO225; clear HB; have HO225 := n0_; have HO229 := n1_; have HB := n2_; clear n0_ n1_ n2_; (try clear hb); (try clear hb2); (try clear hk); (try clear hi); (try clear ho0)))
        (try simp only [Act.put, List.setIfInBounds_toArray, List.set_cons_zero, List.set_cons_succ])
        go_cut [50] (fun v50 wc => ∃ (kq : Nat) (x50_14 : Bool), v50 = .bool x50_14 ∧ Aside0 (bournelaw39_LedgerTells.j1 kq l0 a2 a3 a4 a5 a6 t221 x50_14 = some r) ∧ Aside0 (kq ≤ kj8) ∧ Aside0 (Below w.heap.size w wc))
        case first =>
          have H := HC15.out
          clear HC15
          replace H := Option.bind_eq_some_iff.mp H
          obtain ⟨t230, A180, H⟩ := H
          replace H : (if t230 = true then (bournelaw39_LedgerTells.j1 kj8 l0 a2 a3 a4 a5 a6 t221 (t223 != t227)) else (bournelaw39_LedgerTells.j1 kj8 l0 a2 a3 a4 a5 a6 t221 true)) = some r := H
          have A18 := Aside0.mk A180
          clear A180
          by_cases c19 : t230 = true
          · subst c19
            have H1 : (bournelaw39_LedgerTells.j1 kj8 l0 a2 a3 a4 a5 a6 t221 (t223 != t227)) = some r := by rw [if_pos rfl] at H; exact H
            clear H
            have H := H1
            clear H1
            have H' := Aside0.mk H
            clear H
            obtain ⟨Ao20, co20, eo20⟩ := Kd.R_slice HO225.out
            subst eo20
            obtain ⟨Ao21, co21, eo21⟩ := Kd.R_slice HO229.out
            subst eo21
            go_wp2_with (first | ((with_reducible refine gate_callee (f := 11) rfl ?_); refine goesL_ (some 44) rfl rfl Try.func11 (by kernel_rfl) rfl #[.slice Ao20 t222.length co20, .slice Ao21 t226.length co21] rfl (by (try simp only [List.map_toArray, List.map_cons, List.map_nil]); first | done | rfl | (simp only [List.length_drop, List.length_take]; rfl)) ?_; (with_reducible refine (bourneref39_Same.calls kj8 _ _ t222 _ _ t226 true _ ?side1 ?side2 ?side3 ?side4 A18.out).mono ?_); (case side1 => repeat (first | exact (Kd.R_reads' HO225.out).2.2 | (with_reducible refine Kd.C_alloc ?_ _) | (with_reducible refine Kd.C_drewN ?_ _) | (with_reducible refine Kd.C_drew ?_))); (case side2 => exact (Kd.R_reads' HO225.out).2.1); (case side3 => repeat (first | exact (Kd.R_reads' HO229.out).2.2 | (with_reducible refine Kd.C_alloc ?_ _) | (with_reducible refine Kd.C_drewN ?_ _) | (with_reducible refine Kd.C_drew ?_))); (case side4 => exact (Kd.R_reads' HO229.out).2.1); rintro e w' ⟨rfl, ⟨nd, rfl⟩⟩; refine ⟨_, rfl, ?_⟩))
            go_meet
            case rel => exact ⟨_, ((t223 != t227)), (by first | rfl | (simp; done) | (simp [*]; done)), H', ⟨by have := HJ8.out; first | omega | exact Nat.le_refl _⟩, ⟨by repeat (first | (with_reducible first | exact HB.out | apply below_alloc | apply pw_below_drewN | apply below_drew1) | exact HB.out)⟩⟩
          · replace c19 := Bool.eq_false_iff.mpr c19
            subst c19
            have H1 : (bournelaw39_LedgerTells.j1 kj8 l0 a2 a3 a4 a5 a6 t221 true) = some r := by rw [if_neg (show ¬ (false = true) by decide)] at H; exact H
            clear H
            have H := H1
            clear H1
            have H' := Aside0.mk H
            clear H
            obtain ⟨Ao22, co22, eo22⟩ := Kd.R_slice HO225.out
            subst eo22
            obtain ⟨Ao23, co23, eo23⟩ := Kd.R_slice HO229.out
            subst eo23
            go_wp2_with (first | ((with_reducible refine gate_callee (f := 11) rfl ?_); refine goesL_ (some 44) rfl rfl Try.func11 (by kernel_rfl) rfl #[.slice Ao22 t222.length co22, .slice Ao23 t226.length co23] rfl (by (try simp only [List.map_toArray, List.map_cons, List.map_nil]); first | done | rfl | (simp only [List.length_drop, List.length_take]; rfl)) ?_; (with_reducible refine (bourneref39_Same.calls kj8 _ _ t222 _ _ t226 false _ ?side1 ?side2 ?side3 ?side4 A18.out).mono ?_); (case side1 => repeat (first | exact (Kd.R_reads' HO225.out).2.2 | (with_reducible refine Kd.C_alloc ?_ _) | (with_reducible refine Kd.C_drewN ?_ _) | (with_reducible refine Kd.C_drew ?_))); (case side2 => exact (Kd.R_reads' HO225.out).2.1); (case side3 => repeat (first | exact (Kd.R_reads' HO229.out).2.2 | (with_reducible refine Kd.C_alloc ?_ _) | (with_reducible refine Kd.C_drewN ?_ _) | (with_reducible refine Kd.C_drew ?_))); (case side4 => exact (Kd.R_reads' HO229.out).2.1); rintro e w' ⟨rfl, ⟨nd, rfl⟩⟩; refine ⟨_, rfl, ?_⟩))
            go_meet
            case rel => exact ⟨_, (true), (by first | rfl | (simp; done) | (simp [*]; done)), H', ⟨by have := HJ8.out; first | omega | exact Nat.le_refl _⟩, ⟨by repeat (first | (with_reducible first | exact HB.out | apply below_alloc | apply pw_below_drewN | apply below_drew1) | exact HB.out)⟩⟩
        case rest =>
          clear HC15
          try clear c1
          try clear p2
          try clear c3
          try clear c8
          try clear c9
          try clear c10
          try clear c11
          try clear c11b0
          try clear c11b1
          try clear c12
          try clear c19
          try clear p2
          obtain ⟨kq, x50_14, rfl, HA, HJ14, HB⟩ := hcut
          cases kq with
          | zero => exact absurd HA.out (by simp [bournelaw39_LedgerTells.j1])
          | succ kj14 =>
            have H := HA.out
            clear HA
            simp only [bournelaw39_LedgerTells.j1] at H
            by_cases c24 : x50_14 = true
            · subst c24
              have H1 : (some false) = some r := by rw [if_pos rfl] at H; exact H
              clear H
              have H := H1
              clear H1
              obtain rfl := Option.some.inj H
              go_wp2
              go_ret
              exact ⟨by first | rfl | (simp [errW_none, errW_some] <;> rfl) | (simp [*, errW_none, errW_some] <;> rfl), by repeat (first | (with_reducible first | exact HB.out | apply below_alloc | apply pw_below_drewN | apply below_drew1) | exact HB.out)⟩
            · replace c24 := Bool.eq_false_iff.mpr c24
              subst c24
              have H1 : (if t221 = true then ((ledger_Account.f l0 a2 a3 a4 a5).bind fun t231 => ((bourneref39_Account.f kj14 l0 a2 a3 a4 a5).bind fun t232 => (if t231 = t232 then ((ledger_Balanced.f l0 a5).bind fun t233 => ((bourneref39_Balanced.f kj14 l0 a5).bind fun t234 => (if (t233 == t234) = true then ((ledger_Lines.f l0 a2 a6 a4 a5).bind fun t235 => ((bourneref39_Lines.f kj14 l0 a2 a6 a4 a5).bind fun t238 => ((bourneref39_Same.f kj14 t235 t238).bind fun t241 => (some t241)))) else (some false)))) else (some false)))) else (some false)) = some r := by rw [if_neg (show ¬ (false = true) by decide)] at H; exact H
              clear H
              have H := H1
              clear H1
              by_cases c25 : t221 = true
              · subst c25
                have H1 : ((ledger_Account.f l0 a2 a3 a4 a5).bind fun t231 => ((bourneref39_Account.f kj14 l0 a2 a3 a4 a5).bind fun t232 => (if t231 = t232 then ((ledger_Balanced.f l0 a5).bind fun t233 => ((bourneref39_Balanced.f kj14 l0 a5).bind fun t234 => (if (t233 == t234) = true then ((ledger_Lines.f l0 a2 a6 a4 a5).bind fun t235 => ((bourneref39_Lines.f kj14 l0 a2 a6 a4 a5).bind fun t238 => ((bourneref39_Same.f kj14 t235 t238).bind fun t241 => (some t241)))) else (some false)))) else (some false)))) = some r := by rw [if_pos rfl] at H; exact H
                clear H
                have H := H1
                clear H1
                replace H := Option.bind_eq_some_iff.mp H
                obtain ⟨t231, A260, H⟩ := H
                replace H : ((bourneref39_Account.f kj14 l0 a2 a3 a4 a5).bind fun t232 => (if t231 = t232 then ((ledger_Balanced.f l0 a5).bind fun t233 => ((bourneref39_Balanced.f kj14 l0 a5).bind fun t234 => (if (t233 == t234) = true then ((ledger_Lines.f l0 a2 a6 a4 a5).bind fun t235 => ((bourneref39_Lines.f kj14 l0 a2 a6 a4 a5).bind fun t238 => ((bourneref39_Same.f kj14 t235 t238).bind fun t241 => (some t241)))) else (some false)))) else (some false))) = some r := H
                have A26 := Aside0.mk A260
                clear A260
                replace H := Option.bind_eq_some_iff.mp H
                obtain ⟨t232, A270, H⟩ := H
                replace H : (if t231 = t232 then ((ledger_Balanced.f l0 a5).bind fun t233 => ((bourneref39_Balanced.f kj14 l0 a5).bind fun t234 => (if (t233 == t234) = true then ((ledger_Lines.f l0 a2 a6 a4 a5).bind fun t235 => ((bourneref39_Lines.f kj14 l0 a2 a6 a4 a5).bind fun t238 => ((bourneref39_Same.f kj14 t235 t238).bind fun t241 => (some t241)))) else (some false)))) else (some false)) = some r := H
                have A27 := Aside0.mk A270
                clear A270
                by_cases c28 : t231 = t232
                · rw [if_pos c28] at H
                  have c28b0 : (t231 == t232) = true := beq_iff_eq.mpr c28
                  have c28b1 : (t231 != t232) = false := bne_eq_false_iff_eq.mpr c28
                  clear c28
                  replace H := Option.bind_eq_some_iff.mp H
                  obtain ⟨t233, A290, H⟩ := H
                  replace H : ((bourneref39_Balanced.f kj14 l0 a5).bind fun t234 => (if (t233 == t234) = true then ((ledger_Lines.f l0 a2 a6 a4 a5).bind fun t235 => ((bourneref39_Lines.f kj14 l0 a2 a6 a4 a5).bind fun t238 => ((bourneref39_Same.f kj14 t235 t238).bind fun t241 => (some t241)))) else (some false))) = some r := H
                  have A29 := Aside0.mk A290
                  clear A290
                  replace H := Option.bind_eq_some_iff.mp H
                  obtain ⟨t234, A300, H⟩ := H
                  replace H : (if (t233 == t234) = true then ((ledger_Lines.f l0 a2 a6 a4 a5).bind fun t235 => ((bourneref39_Lines.f kj14 l0 a2 a6 a4 a5).bind fun t238 => ((bourneref39_Same.f kj14 t235 t238).bind fun t241 => (some t241)))) else (some false)) = some r := H
                  have A30 := Aside0.mk A300
                  clear A300
                  by_cases c31 : (t233 == t234) = true
                  · rw [if_pos c31] at H
                    have c31b0 : (t233 == t234) = true := c31
                    (try (have c31b1 : decide (t233 = t234) = true := by simpa using c31))
                    (try (have c31b2 : (t233 == t234) = true := by simpa using c31))
                    clear c31
                    replace H := Option.bind_eq_some_iff.mp H
                    obtain ⟨t235, A320, H⟩ := H
                    replace H : ((bourneref39_Lines.f kj14 l0 a2 a6 a4 a5).bind fun t238 => ((bourneref39_Same.f kj14 t235 t238).bind fun t241 => (some t241))) = some r := H
                    have A32 := Aside0.mk A320
                    clear A320
                    replace H := Option.bind_eq_some_iff.mp H
                    obtain ⟨t238, A330, H⟩ := H
                    replace H : ((bourneref39_Same.f kj14 t235 t238).bind fun t241 => (some t241)) = some r := H
                    have A33 := Aside0.mk A330
                    clear A330
                    replace H := Option.bind_eq_some_iff.mp H
                    obtain ⟨t241, A340, H⟩ := H
                    replace H : (some t241) = some r := H
                    have A34 := Aside0.mk A340
                    clear A340
                    obtain rfl := Option.some.inj H
                    go_wp2_with (first | (go_at_call 12; (with_reducible refine (ledger_Account.calls _ _ l0 a2 a3 a4 a5 t231 _ ?side1 ?side2 A26.out).mono ?_); (case side1 => repeat (first | exact (Kd.C_below HR0.out HB.out) | (with_reducible refine Kd.C_alloc ?_ _) | (with_reducible refine Kd.C_drewN ?_ _) | (with_reducible refine Kd.C_drew ?_))); (case side2 => exact HC0.out); rintro e w35 ⟨rfl, hb⟩; have n0_ := Aside0.mk (below_step (by repeat (first | (with_reducible first | exact HB.out | apply below_alloc | apply pw_below_drewN | apply below_drew1) | exact HB.out)) hb); clear HB; have HB := n0_; clear n0_; (try clear hb); (try clear hb2); (try clear hk); (try clear hi)) | (go_at_call 13; (with_reducible refine (bourneref39_Account.calls kj14 _ _ l0 a2 a3 a4 a5 t232 _ ?side1 ?side2 A27.out).mono ?_); (case side1 => repeat (first | exact (Kd.C_below HR0.out HB.out) | (with_reducible refine Kd.C_alloc ?_ _) | (with_reducible refine Kd.C_drewN ?_ _) | (with_reducible refine Kd.C_drew ?_))); (case side2 => exact HC0.out); rintro e w36 ⟨rfl, hb⟩; have n0_ := Aside0.mk (below_step (by repeat (first | (with_reducible first | exact HB.out | apply below_alloc | apply pw_below_drewN | apply below_drew1) | exact HB.out)) hb); clear HB; have HB := n0_; clear n0_; (try clear hb); (try clear hb2); (try clear hk); (try clear hi)) | (go_at_call 14; (with_reducible refine (ledger_Balanced.calls _ _ l0 a5 t233 _ ?side1 ?side2 A29.out).mono ?_); (case side1 => repeat (first | exact (Kd.C_below HR0.out HB.out) | (with_reducible refine Kd.C_alloc ?_ _) | (with_reducible refine Kd.C_drewN ?_ _) | (with_reducible refine Kd.C_drew ?_))); (case side2 => exact HC0.out); rintro e w37 ⟨rfl, hb⟩; have n0_ := Aside0.mk (below_step (by repeat (first | (with_reducible first | exact HB.out | apply below_alloc | apply pw_below_drewN | apply below_drew1) | exact HB.out)) hb); clear HB; have HB := n0_; clear n0_; (try clear hb); (try clear hb2); (try clear hk); (try clear hi)) | (go_at_call 15; (with_reducible refine (bourneref39_Balanced.calls kj14 _ _ l0 a5 t234 _ ?side1 ?side2 A30.out).mono ?_); (case side1 => repeat (first | exact (Kd.C_below HR0.out HB.out) | (with_reducible refine Kd.C_alloc ?_ _) | (with_reducible refine Kd.C_drewN ?_ _) | (with_reducible refine Kd.C_drew ?_))); (case side2 => exact HC0.out); rintro e w38 ⟨rfl, hb⟩; have n0_ := Aside0.mk (below_step (by repeat (first | (with_reducible first | exact HB.out | apply below_alloc | apply pw_below_drewN | apply below_drew1) | exact HB.out)) hb); clear HB; have HB := n0_; clear n0_; (try clear hb); (try clear hb2); (try clear hk); (try clear hi)) | (go_at_call 16; (with_reducible refine (ledger_Lines.calls _ _ l0 a2 a6 a4 a5 t235 _ ?side1 ?side2 A32.out).mono ?_); (case side1 => repeat (first | exact (Kd.C_below HR0.out HB.out) | (with_reducible refine Kd.C_alloc ?_ _) | (with_reducible refine Kd.C_drewN ?_ _) | (with_reducible refine Kd.C_drew ?_))); (case side2 => exact HC0.out); rintro e w39 ⟨v236, rfl, ho0, hb⟩; have n0_ := Aside0.mk (Kd.R_lower ho0 (below_size (by repeat (first | (with_reducible first | exact HB.out | apply below_alloc | apply pw_below_drewN | apply below_drew1) | exact HB.out)))); have n1_ := Aside0.mk (below_step (by repeat (first | (with_reducible first | exact HB.out | apply below_alloc | apply pw_below_drewN | apply below_drew1) | exact HB.out)) hb); clear HB; have HO237 := n0_; have HB := n1_; clear n0_ n1_; (try clear hb); (try clear hb2); (try clear hk); (try clear hi); (try clear ho0)) | (go_at_call 17; (with_reducible refine (bourneref39_Lines.calls kj14 _ _ l0 a2 a6 a4 a5 t238 _ ?side1 ?side2 A33.out).mono ?_); (case side1 => repeat (first | exact (Kd.C_below HR0.out HB.out) | (with_reducible refine Kd.C_alloc ?_ _) | (with_reducible refine Kd.C_drewN ?_ _) | (with_reducible refine Kd.C_drew ?_))); (case side2 => exact HC0.out); rintro e w40 ⟨v239, rfl, ho0, hb⟩; have n0_ := Aside0.mk (Kd.R_elder' (by (with_reducible repeat (first | apply Kd.R_alloc | apply Kd.R_drewN | apply Kd.R_drew)); exact HO237.out) (Kd.R_base ho0) hb); have n1_ := Aside0.mk (Kd.R_lower (Kd.R_new' ho0 (Kd.R_lt (by (with_reducible repeat (first | apply Kd.R_alloc | apply Kd.R_drewN | apply Kd.R_drew)); exact HO237.out))) (below_size (by repeat (first | (with_reducible first | exact HB.out | apply below_alloc | apply pw_below_drewN | apply below_drew1) | exact HB.out)))); have n2_ := Aside0.mk (below_step (by repeat (first | (with_reducible first | exact HB.out | apply below_alloc | apply pw_below_drewN | apply below_drew1) | exact HB.out)) hb); clear HO237; clear HB; have HO237 := n0_; have HO240 := n1_; have HB := n2_; clear n0_ n1_ n2_; (try clear hb); (try clear hb2); (try clear hk); (try clear hi); (try clear ho0); obtain ⟨Ao41, co41, eo41⟩ := Kd.R_slice HO237.out; subst eo41; obtain ⟨Ao42, co42, eo42⟩ := Kd.R_slice HO240.out; subst eo42) | (go_at_call 11; (with_reducible refine (bourneref39_Same.calls kj14 _ _ t235 _ _ t238 t241 _ ?side1 ?side2 ?side3 ?side4 A34.out).mono ?_); (case side1 => repeat (first | exact (Kd.R_reads' HO237.out).2.2 | (with_reducible refine Kd.C_alloc ?_ _) | (with_reducible refine Kd.C_drewN ?_ _) | (with_reducible refine Kd.C_drew ?_))); (case side2 => exact (Kd.R_reads' HO237.out).2.1); (case side3 => repeat (first | exact (Kd.R_reads' HO240.out).2.2 | (with_reducible refine Kd.C_alloc ?_ _) | (with_reducible refine Kd.C_drewN ?_ _) | (with_reducible refine Kd.C_drew ?_))); (case side4 => exact (Kd.R_reads' HO240.out).2.1); rintro e w' ⟨rfl, ⟨nd, rfl⟩⟩))
                    go_ret
                    exact ⟨by first | rfl | (simp [errW_none, errW_some] <;> rfl) | (simp [*, errW_none, errW_some] <;> rfl), by repeat (first | (with_reducible first | exact HB.out | apply below_alloc | apply pw_below_drewN | apply below_drew1) | exact HB.out)⟩
                  · rw [if_neg c31] at H
                    have c31b0 : (t233 == t234) = false := by simpa using c31
                    (try (have c31b1 : decide (t233 = t234) = false := by simpa using c31))
                    (try (have c31b2 : (t233 == t234) = false := by simpa using c31))
                    (try (have c31b3 : ¬ (t233 = t234) := by simpa using c31))
                    clear c31
                    obtain rfl := Option.some.inj H
                    go_wp2_with (first | (go_at_call 12; (with_reducible refine (ledger_Account.calls _ _ l0 a2 a3 a4 a5 t231 _ ?side1 ?side2 A26.out).mono ?_); (case side1 => repeat (first | exact (Kd.C_below HR0.out HB.out) | (with_reducible refine Kd.C_alloc ?_ _) | (with_reducible refine Kd.C_drewN ?_ _) | (with_reducible refine Kd.C_drew ?_))); (case side2 => exact HC0.out); rintro e w43 ⟨rfl, hb⟩; have n0_ := Aside0.mk (below_step (by repeat (first | (with_reducible first | exact HB.out | apply below_alloc | apply pw_below_drewN | apply below_drew1) | exact HB.out)) hb); clear HB; have HB := n0_; clear n0_; (try clear hb); (try clear hb2); (try clear hk); (try clear hi)) | (go_at_call 13; (with_reducible refine (bourneref39_Account.calls kj14 _ _ l0 a2 a3 a4 a5 t232 _ ?side1 ?side2 A27.out).mono ?_); (case side1 => repeat (first | exact (Kd.C_below HR0.out HB.out) | (with_reducible refine Kd.C_alloc ?_ _) | (with_reducible refine Kd.C_drewN ?_ _) | (with_reducible refine Kd.C_drew ?_))); (case side2 => exact HC0.out); rintro e w44 ⟨rfl, hb⟩; have n0_ := Aside0.mk (below_step (by repeat (first | (with_reducible first | exact HB.out | apply below_alloc | apply pw_below_drewN | apply below_drew1) | exact HB.out)) hb); clear HB; have HB := n0_; clear n0_; (try clear hb); (try clear hb2); (try clear hk); (try clear hi)) | (go_at_call 14; (with_reducible refine (ledger_Balanced.calls _ _ l0 a5 t233 _ ?side1 ?side2 A29.out).mono ?_); (case side1 => repeat (first | exact (Kd.C_below HR0.out HB.out) | (with_reducible refine Kd.C_alloc ?_ _) | (with_reducible refine Kd.C_drewN ?_ _) | (with_reducible refine Kd.C_drew ?_))); (case side2 => exact HC0.out); rintro e w45 ⟨rfl, hb⟩; have n0_ := Aside0.mk (below_step (by repeat (first | (with_reducible first | exact HB.out | apply below_alloc | apply pw_below_drewN | apply below_drew1) | exact HB.out)) hb); clear HB; have HB := n0_; clear n0_; (try clear hb); (try clear hb2); (try clear hk); (try clear hi)) | (go_at_call 15; (with_reducible refine (bourneref39_Balanced.calls kj14 _ _ l0 a5 t234 _ ?side1 ?side2 A30.out).mono ?_); (case side1 => repeat (first | exact (Kd.C_below HR0.out HB.out) | (with_reducible refine Kd.C_alloc ?_ _) | (with_reducible refine Kd.C_drewN ?_ _) | (with_reducible refine Kd.C_drew ?_))); (case side2 => exact HC0.out); rintro e w46 ⟨rfl, hb⟩; have n0_ := Aside0.mk (below_step (by repeat (first | (with_reducible first | exact HB.out | apply below_alloc | apply pw_below_drewN | apply below_drew1) | exact HB.out)) hb); clear HB; have HB := n0_; clear n0_; (try clear hb); (try clear hb2); (try clear hk); (try clear hi)))
                    go_ret
                    exact ⟨by first | rfl | (simp [errW_none, errW_some] <;> rfl) | (simp [*, errW_none, errW_some] <;> rfl), by repeat (first | (with_reducible first | exact HB.out | apply below_alloc | apply pw_below_drewN | apply below_drew1) | exact HB.out)⟩
                · rw [if_neg c28] at H
                  have c28b0 : (t231 == t232) = false := beq_eq_false_iff_ne.mpr c28
                  have c28b1 : (t231 != t232) = true := bne_iff_ne.mpr c28
                  obtain rfl := Option.some.inj H
                  go_wp2_with (first | (go_at_call 12; (with_reducible refine (ledger_Account.calls _ _ l0 a2 a3 a4 a5 t231 _ ?side1 ?side2 A26.out).mono ?_); (case side1 => repeat (first | exact (Kd.C_below HR0.out HB.out) | (with_reducible refine Kd.C_alloc ?_ _) | (with_reducible refine Kd.C_drewN ?_ _) | (with_reducible refine Kd.C_drew ?_))); (case side2 => exact HC0.out); rintro e w47 ⟨rfl, hb⟩; have n0_ := Aside0.mk (below_step (by repeat (first | (with_reducible first | exact HB.out | apply below_alloc | apply pw_below_drewN | apply below_drew1) | exact HB.out)) hb); clear HB; have HB := n0_; clear n0_; (try clear hb); (try clear hb2); (try clear hk); (try clear hi)) | (go_at_call 13; (with_reducible refine (bourneref39_Account.calls kj14 _ _ l0 a2 a3 a4 a5 t232 _ ?side1 ?side2 A27.out).mono ?_); (case side1 => repeat (first | exact (Kd.C_below HR0.out HB.out) | (with_reducible refine Kd.C_alloc ?_ _) | (with_reducible refine Kd.C_drewN ?_ _) | (with_reducible refine Kd.C_drew ?_))); (case side2 => exact HC0.out); rintro e w48 ⟨rfl, hb⟩; have n0_ := Aside0.mk (below_step (by repeat (first | (with_reducible first | exact HB.out | apply below_alloc | apply pw_below_drewN | apply below_drew1) | exact HB.out)) hb); clear HB; have HB := n0_; clear n0_; (try clear hb); (try clear hb2); (try clear hk); (try clear hi)))
                  go_ret
                  exact ⟨by first | rfl | (simp [errW_none, errW_some] <;> rfl) | (simp [*, errW_none, errW_some] <;> rfl), by repeat (first | (with_reducible first | exact HB.out | apply below_alloc | apply pw_below_drewN | apply below_drew1) | exact HB.out)⟩
              · replace c25 := Bool.eq_false_iff.mpr c25
                subst c25
                have H1 : (some false) = some r := by rw [if_neg (show ¬ (false = true) by decide)] at H; exact H
                clear H
                have H := H1
                clear H1
                obtain rfl := Option.some.inj H
                go_wp2
                go_ret
                exact ⟨by first | rfl | (simp [errW_none, errW_some] <;> rfl) | (simp [*, errW_none, errW_some] <;> rfl), by repeat (first | (with_reducible first | exact HB.out | apply below_alloc | apply pw_below_drewN | apply below_drew1) | exact HB.out)⟩

end Go.Proofs.Ytlmjopodghikgaa.Print
end
section
/- LedgerTells, with no program in sight. -/
namespace Go.Proofs.Ytlmjopodghikgaa.Print
open Go.RowKit Go.Proofs.YtlmjopodghikgaaW.PrintWords
open Go.Proofs.Ytlmjopodghikgaa.Stable
set_option linter.unusedVariables false
set_option linter.unusedSimpArgs false

theorem post_len {l e : List S36} (hl : l.length ≤ 40) (he : e.length ≤ 40) : (postOf l e).1.length ≤ 80 := by
  unfold postOf
  split
  · split
    · simp
    · split
      · simp
      · simp; omega
  · simp
theorem linesOf_len (l : List S36) (o f u kn : Int) : (linesOf l o f u kn).length ≤ l.length := by
  unfold linesOf
  rw [ssort_len]
  exact List.length_filter_le _ _
theorem pureLedgerTells (l e : List S36) (o p d kn fr : Int) (hl : okL l = true) (_ : l.length * 56 ≤ 140737488351232) (he : okL e = true) (_ : e.length * 56 ≤ 140737488351232) (_ : (Lit.int .i64 o).wf = true) (_ : (Lit.int .i64 p).wf = true) (_ : (Lit.int .i64 d).wf = true) (_ : (Lit.int .i64 kn).wf = true) (_ : (Lit.int .i64 fr).wf = true) :
    ∃ k, bournelaw39_LedgerTells.f k l e o p d kn fr = some true := by
  obtain ⟨K, hK⟩ : ∃ K, K = 4000 * 41 := ⟨_, rfl⟩
  refine ⟨K + 2, ?_⟩
  have hj : bournelaw39_LedgerTells.j0 (K + 2) l e o p d kn fr true true = some true := by
    rw [bournelaw39_LedgerTells.j0, if_pos rfl]
  rw [bournelaw39_LedgerTells.f, bournelaw39_small.f, Option.bind_some]
  by_cases c1 : (l.length : Int) > 40
  · rw [if_pos c1]
    exact hj
  rw [if_neg c1]
  by_cases c2 : (e.length : Int) > 40
  · rw [decide_eq_true c2]
    exact hj
  have hpl := post_len (l := l) (e := e) (by omega) (by omega)
  have hll := linesOf_len l o fr d kn
  rw [decide_eq_false c2, bournelaw39_LedgerTells.j0, if_neg (by simp), post_f (by omega) (by omega) hl he, Option.bind_some, refPost_f (by omega) (by omega) hl he _ (by omega), Option.bind_some,
    refSame_f _ (by omega) _ (by omega), Option.bind_some, if_pos rfl]
  have hb : ((postOf l e).2 != (postOf l e).2) = false := by simp
  rw [hb, bournelaw39_LedgerTells.j1, if_neg (by simp), if_pos rfl]
  have h1 : ledger_Account.f l o p d kn = some (accountOf l o p d kn) := by
    unfold ledger_Account.f
    rw [if_pos (by omega), if_pos (okL_i64E hl)]
  have h2 : ledger_Balanced.f l kn = some (balOf l kn) := by
    unfold ledger_Balanced.f
    rw [if_pos (by omega), if_pos (okL_i64E hl), if_pos (okL_i64T hl)]
  have h3 : ledger_Lines.f l o fr d kn = some (linesOf l o fr d kn) := by
    unfold ledger_Lines.f
    rw [if_pos (by omega)]
  rw [h1, Option.bind_some, refAccount_f l (by omega) hl o p d kn _ (by omega), Option.bind_some, if_pos rfl, h2, Option.bind_some, refBalanced_f l (by omega) hl kn _ (by omega), Option.bind_some, if_pos (by simp), h3, Option.bind_some, refLines_f l (by omega) o fr d kn _ (by omega), Option.bind_some,
    refSame_f _ (by omega) _ (by omega), Option.bind_some]
end Go.Proofs.Ytlmjopodghikgaa.Print
end
