/- What a posting that is changed, shortened, of another day or of an earlier hour is answered by, with no program in sight. -/
import Derived.Test.YtlmjopodghikgaaHPure
namespace Go.Proofs.Ytlmjopodghikgaa.Print
open Go.RowKit Go.Proofs.YtlmjopodghikgaaW.PrintWords
set_option linter.unusedVariables false
set_option linter.unusedSimpArgs false

def withLit (x : S36) (n : Int) : S36 := ⟨x.f0, x.f1, x.f2, x.f3, n, x.f5, x.f6⟩
def withDay (x : S36) (n : Int) : S36 := ⟨n, x.f1, x.f2, x.f3, x.f4, x.f5, x.f6⟩
def withKn (x : S36) (n : Int) : S36 := ⟨x.f0, n, x.f2, x.f3, x.f4, x.f5, x.f6⟩

theorem litSum_set : ∀ (l : List S36) (i : Nat) (hi : i < l.length) (y : S36), ((l.set i y).map (·.f4)).sum = (l.map (·.f4)).sum - l[i].f4 + y.f4
  | x :: l, 0, _, y => by
    simp only [List.set_cons_zero, List.map_cons, List.sum_cons, List.getElem_cons_zero]
    omega
  | x :: l, i + 1, hi, y => by
    have ih := litSum_set l i (by simpa using hi) y
    simp only [List.set_cons_succ, List.map_cons, List.sum_cons, List.getElem_cons_succ, ih]
    omega
theorem litSum_cut (l : List S36) (i : Nat) (hi : i < l.length) : ((l.take i ++ l.drop (i + 1)).map (·.f4)).sum = (l.map (·.f4)).sum - l[i].f4 := by
  have h : l = l.take i ++ l[i] :: l.drop (i + 1) := by rw [← List.drop_eq_getElem_cons hi, List.take_append_drop]
  have h2 : (l.map (·.f4)).sum = ((l.take i ++ l[i] :: l.drop (i + 1)).map (·.f4)).sum := by rw [← h]
  rw [h2]
  simp only [List.map_append, List.sum_append, List.map_cons, List.sum_cons]
  omega
theorem posting_zero {p : List S36} (h : zeroE p = false) : postingB p = false := by
  cases p with
  | nil => rfl
  | cons x p => simp [postingB, h]
theorem posting_mk {p : List S36} (hz : zeroE p = true) (hne : p ≠ []) (h : ∀ e ∈ p, rightB e = true ∧ e.f0 = (p.getD 0 z36).f0 ∧ e.f1 = (p.getD 0 z36).f1) : postingB p = true := by
  cases p with
  | nil => exact absurd rfl hne
  | cons x p =>
    simp only [postingB, hz, Bool.true_and, List.all_eq_true, Bool.and_eq_true, beq_iff_eq]
    exact fun e he => ⟨⟨(h e he).1, (h e he).2.1⟩, (h e he).2.2⟩
theorem post_arg {l e : List S36} (h : postingB e = false) : postOf l e = ([], 1) := by
  unfold postOf
  rw [if_neg (by rw [h]; simp)]
theorem post_not_arg {l e : List S36} (h : postingB e = true) : (postOf l e).2 ≠ 1 := by
  unfold postOf
  rw [if_pos h]
  split
  · simp
  · split <;> simp
theorem post_late {l e : List S36} (h : postingB e = true) (hl : l ≠ []) (hk : (e.getD 0 z36).f1 < (l.getD (l.length - 1) z36).f1) : (postOf l e).2 = 15 := by
  unfold postOf
  rw [if_pos h, if_pos ⟨hl, hk⟩]

section
variable {l e : List S36} {i : Nat}
theorem refuse_lit (hp : postingB e = true) (hi : i < e.length) {n : Int} (hn : n ≠ 0) : postOf l (e.set i (withLit e[i] (e[i].f4 + n))) = ([], 1) := by
  refine post_arg (posting_zero ?_)
  have hz := (posting_right hp).1
  unfold zeroE at hz ⊢
  rw [decide_eq_true_eq] at hz
  rw [decide_eq_false_iff_not, litSum_set _ _ hi, hz]
  simp only [withLit]
  omega
theorem refuse_cut (hp : postingB e = true) (hi : i < e.length) : decide ((postOf l (e.take i ++ e.drop (i + 1))).2 = 1) = (decide (e[i].f4 ≠ 0) || decide (e.length = 1)) := by
  obtain ⟨hz, hne, hr⟩ := posting_right hp
  have hs := litSum_cut e i hi
  unfold zeroE at hz
  rw [decide_eq_true_eq] at hz
  rw [hz] at hs
  by_cases h1 : e.length = 1
  · have h0 : e.take i ++ e.drop (i + 1) = [] := by
      obtain rfl : i = 0 := by omega
      rw [List.take_zero, List.nil_append, List.drop_of_length_le (by omega)]
    rw [h0, post_arg rfl, decide_eq_true h1]
    simp
  · by_cases h4 : e[i].f4 = 0
    · have hpb : postingB (e.take i ++ e.drop (i + 1)) = true := by
        have hne' : e.take i ++ e.drop (i + 1) ≠ [] := by
          intro h
          have := congrArg List.length h
          simp only [List.length_append, List.length_take, List.length_drop, List.length_nil] at this
          omega
        have hsub : ∀ x ∈ e.take i ++ e.drop (i + 1), x ∈ e := by
          intro x hx
          rcases List.mem_append.1 hx with hx | hx
          · exact List.mem_of_mem_take hx
          · exact List.mem_of_mem_drop hx
        have h0 : (e.take i ++ e.drop (i + 1)).getD 0 z36 ∈ e := by
          refine hsub _ ?_
          rw [List.getD_eq_getElem?_getD, List.getElem?_eq_getElem (List.length_pos_iff.2 hne')]
          exact List.getElem_mem _
        refine posting_mk ?_ hne' fun x hx => ?_
        · unfold zeroE
          rw [decide_eq_true_eq, hs, h4]
          rfl
        · obtain ⟨a1, a2, a3⟩ := hr x (hsub x hx)
          obtain ⟨b1, b2, b3⟩ := hr _ h0
          exact ⟨a1, by rw [a2, b2], by rw [a3, b3]⟩
      have := post_not_arg (l := l) hpb
      rw [decide_eq_false this, decide_eq_false h1, decide_eq_false (by simpa using h4)]
      rfl
    · rw [post_arg (posting_zero (by unfold zeroE; rw [decide_eq_false_iff_not, hs]; omega)), decide_eq_true h4]
      simp
theorem refuse_day (hp : postingB e = true) (hi : i < e.length) (h1 : e.length ≠ 1) : postOf l (e.set i (withDay e[i] (e[i].f0 + 1))) = ([], 1) := by
  obtain ⟨hz, hne, hr⟩ := posting_right hp
  refine post_arg ?_
  rw [Bool.eq_false_iff]
  intro h
  obtain ⟨_, _, h'⟩ := posting_right h
  obtain ⟨j, hj, hij⟩ : ∃ j, j < e.length ∧ j ≠ i := by
    by_cases h0 : i = 0
    · exact ⟨1, by omega, by omega⟩
    · exact ⟨0, by omega, by omega⟩
  have m1 : withDay e[i] (e[i].f0 + 1) ∈ e.set i (withDay e[i] (e[i].f0 + 1)) := List.mem_set hi _
  have m2 : e[j] ∈ e.set i (withDay e[i] (e[i].f0 + 1)) := by
    have : (e.set i (withDay e[i] (e[i].f0 + 1)))[j]'(by simpa using hj) = e[j] := List.getElem_set_ne (by omega) _
    rw [← this]
    exact List.getElem_mem _
  have a1 := (h' _ m1).2.1
  have a2 := (h' _ m2).2.1
  have a3 := (hr _ (List.getElem_mem hi)).2.1
  have a4 := (hr _ (List.getElem_mem hj)).2.1
  simp only [withDay] at a1 a2
  rw [← a2, a3, a4] at a1
  omega
def earlier (e : List S36) : List S36 := e.map fun x => withKn x (x.f1 - 1)
theorem earlier_getD (hne : e ≠ []) : (earlier e).getD 0 z36 = withKn (e.getD 0 z36) ((e.getD 0 z36).f1 - 1) := by
  cases e with
  | nil => exact absurd rfl hne
  | cons x e => rfl
theorem refuse_late (hp : postingB e = true) (hl : l ≠ []) (h0 : 0 ≤ (e.getD 0 z36).f1 - 1) (hk : (e.getD 0 z36).f1 - 1 < (l.getD (l.length - 1) z36).f1) : (postOf l (earlier e)).2 = 15 := by
  obtain ⟨hz, hne, hr⟩ := posting_right hp
  have hne' : earlier e ≠ [] := by
    unfold earlier
    simpa using hne
  refine post_late (posting_mk ?_ hne' fun x hx => ?_) hl ?_
  · unfold zeroE at hz ⊢
    unfold earlier
    rw [List.map_map]
    exact hz
  · rw [earlier_getD hne]
    unfold earlier at hx
    obtain ⟨y, hy, rfl⟩ := List.mem_map.1 hx
    obtain ⟨a1, a2, a3⟩ := hr y hy
    refine ⟨?_, by simpa [withKn] using a2, by simp only [withKn]; rw [a3]⟩
    unfold rightB at a1 ⊢
    simp only [Bool.and_eq_true, decide_eq_true_eq] at a1
    obtain ⟨⟨⟨⟨⟨⟨b0, b1⟩, b2⟩, b3⟩, b4⟩, b5⟩, b6⟩ := a1
    have h3 : 0 ≤ y.f1 - 1 ∧ y.f1 - 1 ≤ 16777216 := by omega
    simp only [withKn, Bool.and_eq_true]
    exact ⟨⟨⟨⟨⟨⟨decide_eq_true b0, decide_eq_true h3⟩, decide_eq_true b2⟩, decide_eq_true b3⟩, decide_eq_true b4⟩, decide_eq_true b5⟩, decide_eq_true b6⟩
  · rw [earlier_getD hne]
    exact hk
end
end Go.Proofs.Ytlmjopodghikgaa.Print
