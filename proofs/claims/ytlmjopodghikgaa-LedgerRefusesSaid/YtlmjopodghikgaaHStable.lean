/- Stable sorting, in plain lists: sorted by a key, and for each key the elements in their old order; two such lists are one. -/
namespace Go.Proofs.Ytlmjopodghikgaa.Stable
variable {α : Type} (key : α → Int)

def Srt (l : List α) : Prop := l.Pairwise fun a b => key a ≤ key b
def Same (xs ys : List α) : Prop := ∀ c, ys.filter (fun x => key x == c) = xs.filter (fun x => key x == c)
structure StableOf (xs ys : List α) : Prop where
  srt : Srt key ys
  same : Same key xs ys

variable {key}
theorem Same.refl (xs : List α) : Same key xs xs := fun _ => rfl
theorem Same.trans {xs ys zs : List α} (h : Same key xs ys) (k : Same key ys zs) : Same key xs zs := fun c => (k c).trans (h c)
theorem Same.symm {xs ys : List α} (h : Same key xs ys) : Same key ys xs := fun c => (h c).symm
theorem Same.append {xs ys xs' ys' : List α} (h : Same key xs ys) (k : Same key xs' ys') : Same key (xs ++ xs') (ys ++ ys') := fun c => by rw [List.filter_append, List.filter_append, h c, k c]
theorem Same.mem {xs ys : List α} (h : Same key xs ys) (x : α) : x ∈ ys ↔ x ∈ xs := by
  have := h (key x)
  have e : ∀ l : List α, x ∈ l ↔ x ∈ l.filter (fun y => key y == key x) := fun l => by simp
  rw [e ys, e xs, this]
theorem Same.length {xs ys : List α} (h : Same key xs ys) : ys.length = xs.length := by
  induction xs generalizing ys with
  | nil =>
    cases ys with
    | nil => rfl
    | cons y ys => exact absurd ((h.mem y).1 (List.mem_cons_self)) (by simp)
  | cons x xs ih =>
    have hx : x ∈ ys := (h.mem x).2 (List.mem_cons_self)
    have hf := h (key x)
    obtain ⟨A, B, rfl, hA⟩ : ∃ A B, ys = A ++ x :: B ∧ ∀ y ∈ A, key y ≠ key x := by
      have hne : ys.filter (fun y => key y == key x) ≠ [] := by rw [hf]; simp
      clear hx
      revert hf
      generalize xs.filter (fun y => key y == key x) = z
      intro hf
      have hf' : ys.filter (fun y => key y == key x) = x :: (List.filter (fun y => key y == key x) xs) := by rw [h (key x)]; simp
      clear hf hne h ih
      induction ys with
      | nil => simp at hf'
      | cons y ys ihy =>
        by_cases e : key y = key x
        · have : y = x := by
            simp only [List.filter_cons, e, beq_self_eq_true, if_true, List.cons.injEq] at hf'
            exact hf'.1
          exact ⟨[], ys, by rw [this]; rfl, by simp⟩
        · simp only [List.filter_cons, show (key y == key x) = false by simpa using e, Bool.false_eq_true, if_false] at hf'
          obtain ⟨A, B, hy, hA⟩ := ihy hf'
          exact ⟨y :: A, B, by rw [hy]; rfl, fun z hz => by
            rcases List.mem_cons.1 hz with rfl | hz
            · exact e
            · exact hA z hz⟩
    have hs : Same key xs (A ++ B) := fun c => by
      have hc := h c
      rw [List.filter_append, List.filter_cons] at hc
      rw [List.filter_append]
      by_cases e : key x = c
      · subst e
        have hA0 : A.filter (fun y => key y == key x) = [] := List.filter_eq_nil_iff.2 (fun y hy => by simpa using hA y hy)
        rw [hA0] at hc ⊢
        simpa using hc
      · simp only [show (key x == c) = false by simpa using e, Bool.false_eq_true, if_false, List.filter_cons] at hc
        exact hc
    have := ih hs
    simp only [List.length_append, List.length_cons] at this ⊢
    omega

theorem stable_unique : ∀ (xs ys : List α), Srt key xs → Srt key ys → Same key xs ys → ys = xs
  | [], ys, _, _, h => by
    cases ys with
    | nil => rfl
    | cons y ys => exact absurd ((h.mem y).1 (List.mem_cons_self)) (by simp)
  | x :: xs, [], _, _, h => absurd ((h.mem x).2 (List.mem_cons_self)) (by simp)
  | x :: xs, y :: ys, hx, hy, h => by
    unfold Srt at hx hy
    rw [List.pairwise_cons] at hx hy
    have hyx : key x ≤ key y := by
      rcases List.mem_cons.1 ((h.mem y).1 (List.mem_cons_self)) with e | e
      · rw [e]; exact Int.le_refl _
      · exact hx.1 y e
    have hxy : key y ≤ key x := by
      rcases List.mem_cons.1 ((h.mem x).2 (List.mem_cons_self)) with e | e
      · rw [e]; exact Int.le_refl _
      · exact hy.1 x e
    have he : key y = key x := Int.le_antisymm hxy hyx
    have h1 := h (key x)
    simp only [List.filter_cons, he, beq_self_eq_true, if_true, List.cons.injEq] at h1
    obtain ⟨rfl, h1⟩ := h1
    have hs : Same key xs ys := fun c => by
      have hc := h c
      by_cases e : key y = c
      · subst e
        exact h1
      · simpa [List.filter_cons, e] using hc
    rw [stable_unique xs ys hx.2 hy.2 hs]

/-- Two runs that share no key may change places. -/
theorem same_swap {u v : List α} (h : ∀ x ∈ v, ∀ y ∈ u, key x < key y) : Same key (u ++ v) (v ++ u) := fun c => by
  rw [List.filter_append, List.filter_append]
  by_cases hu : u.filter (fun x => key x == c) = []
  · rw [hu]; simp
  · have hv : v.filter (fun x => key x == c) = [] := by
      rw [List.filter_eq_nil_iff]
      intro x hx e
      apply hu
      rw [List.filter_eq_nil_iff]
      intro y hy e2
      have := h x hx y hy
      simp only [beq_iff_eq] at e e2
      omega
    rw [hv]; simp
theorem srt_append {u v : List α} (hu : Srt key u) (hv : Srt key v) (h : ∀ x ∈ u, ∀ y ∈ v, key x ≤ key y) : Srt key (u ++ v) := by
  unfold Srt
  rw [List.pairwise_append]
  exact ⟨hu, hv, h⟩
theorem srt_left {u v : List α} (h : Srt key (u ++ v)) : Srt key u := (List.pairwise_append.1 h).1
theorem srt_right {u v : List α} (h : Srt key (u ++ v)) : Srt key v := (List.pairwise_append.1 h).2.1
theorem srt_cross {u v : List α} (h : Srt key (u ++ v)) : ∀ x ∈ u, ∀ y ∈ v, key x ≤ key y := (List.pairwise_append.1 h).2.2

/-- SymMerge's step: two halves, each merged. -/
theorem merge_glue {u1 u2 v1 v2 s1 s2 : List α} (hu : Srt key (u1 ++ u2)) (hv : Srt key (v1 ++ v2)) (hA : ∀ x ∈ v1, ∀ y ∈ u2, key x < key y) (hB : ∀ x ∈ u1, ∀ y ∈ v2, key x ≤ key y)
    (h1 : StableOf key (u1 ++ v1) s1) (h2 : StableOf key (u2 ++ v2) s2) : StableOf key (u1 ++ u2 ++ (v1 ++ v2)) (s1 ++ s2) := by
  refine ⟨srt_append h1.srt h2.srt fun x hx y hy => ?_, ?_⟩
  · rcases List.mem_append.1 ((h1.same.mem x).1 hx) with hx | hx <;> rcases List.mem_append.1 ((h2.same.mem y).1 hy) with hy | hy
    · exact srt_cross hu x hx y hy
    · exact hB x hx y hy
    · exact Int.le_of_lt (hA x hx y hy)
    · exact srt_cross hv x hx y hy
  · have e : Same key (u1 ++ u2 ++ (v1 ++ v2)) ((u1 ++ v1) ++ (u2 ++ v2)) := by
      have h := ((Same.refl (key := key) u1).append (same_swap hA)).append (Same.refl v2)
      simpa [List.append_assoc] using h
    exact e.trans (h1.same.append h2.same)
/-- The last of a sorted run bounds it; the first, too. -/
theorem le_last {u : List α} (h : Srt key u) {x y : α} (hy : u[u.length - 1]? = some y) (hx : x ∈ u) : key x ≤ key y := by
  have hne : u ≠ [] := fun e => by subst e; cases hx
  have hl : u.length - 1 < u.length := by have := List.length_pos_iff.2 hne; omega
  rw [List.getElem?_eq_getElem hl] at hy
  injection hy with hy
  have e : u = u.take (u.length - 1) ++ [y] := by
    conv => lhs; rw [← List.take_append_drop (u.length - 1) u]
    rw [List.drop_eq_getElem_cons hl, hy]
    congr 2
    rw [List.drop_eq_nil_iff]; omega
  rw [e] at h hx
  rcases List.mem_append.1 hx with hx | hx
  · exact srt_cross h x hx y (List.mem_singleton.2 rfl)
  · rw [List.mem_singleton.1 hx]; exact Int.le_refl _
theorem first_le {u : List α} (h : Srt key u) {x y : α} (hy : u[0]? = some y) (hx : x ∈ u) : key y ≤ key x := by
  cases u with
  | nil => cases hx
  | cons z u =>
    simp only [List.getElem?_cons_zero, Option.some.injEq] at hy
    subst hy
    rcases List.mem_cons.1 hx with rfl | hx
    · exact Int.le_refl _
    · exact (List.pairwise_cons.1 h).1 x hx

/-- Insertion behind what is not greater. -/
def ins (x : α) : List α → List α
  | [] => [x]
  | y :: l => if key y ≤ key x then y :: ins x l else x :: y :: l
variable (key) in
def ssort (l : List α) : List α := l.foldl (fun out x => ins (key := key) x out) []
theorem ins_mem (x y : α) : ∀ (l : List α), y ∈ ins (key := key) x l ↔ y = x ∨ y ∈ l
  | [] => by simp [ins]
  | z :: l => by
    unfold ins
    split
    · rw [List.mem_cons, ins_mem x y l, List.mem_cons]
      constructor <;> (intro h; rcases h with h | h | h <;> simp [h])
    · simp
theorem ins_srt (x : α) : ∀ (l : List α), Srt key l → Srt key (ins (key := key) x l)
  | [], _ => by simp [ins, Srt]
  | z :: l, h => by
    have hz := List.pairwise_cons.1 h
    unfold ins
    split
    · rename_i hle
      refine List.pairwise_cons.2 ⟨fun y hy => ?_, ins_srt x l hz.2⟩
      rcases (ins_mem x y l).1 hy with rfl | hy
      · exact hle
      · exact hz.1 y hy
    · rename_i hle
      refine List.pairwise_cons.2 ⟨fun y hy => ?_, h⟩
      rcases List.mem_cons.1 hy with rfl | hy
      · omega
      · have := hz.1 y hy
        omega
theorem ins_same (x : α) : ∀ (l : List α), Srt key l → Same key (l ++ [x]) (ins (key := key) x l)
  | [], _ => Same.refl _
  | z :: l, h => by
    have hz := List.pairwise_cons.1 h
    unfold ins
    split
    · exact fun c => by
        have := ins_same x l hz.2 c
        simp only [List.cons_append, List.filter_cons, this]
    · rename_i hle
      have : Same key ((z :: l) ++ [x]) ([x] ++ (z :: l)) := same_swap fun a ha b hb => by
        have hb' := first_le h (x := b) (y := z) rfl hb
        rw [List.mem_singleton.1 ha]
        omega
      exact this
theorem ins_stable {xs l : List α} (x : α) (h : StableOf key xs l) : StableOf key (xs ++ [x]) (ins (key := key) x l) :=
  ⟨ins_srt x l h.srt, (h.same.append (Same.refl [x])).trans (ins_same x l h.srt)⟩
theorem foldl_stable : ∀ (l xs out : List α), StableOf key xs out → StableOf key (xs ++ l) (l.foldl (fun out x => ins (key := key) x out) out)
  | [], xs, out, h => by simpa using h
  | x :: l, xs, out, h => by
    have := foldl_stable l (xs ++ [x]) _ (ins_stable x h)
    simpa [List.append_assoc] using this
theorem ssort_stable (l : List α) : StableOf key l (ssort key l) := by
  have := foldl_stable (key := key) l [] [] ⟨List.Pairwise.nil, Same.refl _⟩
  simpa [ssort] using this
theorem StableOf.eq {xs ys : List α} (h : StableOf key xs ys) : ys = ssort key xs :=
  stable_unique _ _ (ssort_stable xs).srt h.srt (((ssort_stable xs).same.symm).trans h.same)
end Go.Proofs.Ytlmjopodghikgaa.Stable
