/- Contracts and plain lemmas that the claim rests on: part 6 of 17 (joined, without what the theorem does not rest on). -/
import Derived.Test.YtlmjopodghikgaaT5
import Derived.Lib.SliceRun
section
/- slices.IndexFunc, DeleteFunc, Clone at entries; ledger.chosen: the entries that a function value chooses. -/
namespace Go.Proofs.Ytlmjopodghikgaa.Print
open Go.RowKit Go.Proofs.YtlmjopodghikgaaW.PrintWords
set_option linter.unusedVariables false
set_option linter.unusedSimpArgs false

theorem RowE.seven {w : World} {g cap : Nat} {l : List S36} (h : RowE w g cap l) {j : Nat} {x : S36} (hj : l[j]? = some x) :
    w.cell? ⟨g, j * 7, none⟩ = some (.int .i64 x.f0) ∧ w.cell? ⟨g, j * 7 + 1, none⟩ = some (.int .i64 x.f1) ∧ w.cell? ⟨g, j * 7 + 2, none⟩ = some (.int .i64 x.f2) ∧ w.cell? ⟨g, j * 7 + 3, none⟩ = some (.int .i64 x.f3) ∧ w.cell? ⟨g, j * 7 + 4, none⟩ = some (.int .i64 x.f4) ∧ w.cell? ⟨g, j * 7 + 5, none⟩ = some (.int .i64 x.f5) ∧ w.cell? ⟨g, j * 7 + 6, none⟩ = some (.int .i64 x.f6) :=
  ⟨h.cell hj (i := 0) rfl, h.cell hj (i := 1) rfl, h.cell hj (i := 2) rfl, h.cell hj (i := 3) rfl, h.cell hj (i := 4) rfl, h.cell hj (i := 5) rfl, h.cell hj (i := 6) rfl⟩

def idxOf (p : S36 → Bool) (l : List S36) : Int := match l.findIdx? p with | some i => (i : Int) | none => -1

theorem idxOf_hit {p : S36 → Bool} {l : List S36} {i : Nat} {x : S36} (hi : i < l.length) (hx : l[i]? = some x) (hp : p x = true) (hn : ∀ j y, j < i → l[j]? = some y → p y = false) : idxOf p l = i := by
  have : l.findIdx? p = some i := by
    rw [List.findIdx?_eq_some_iff_getElem]
    have e := List.getElem?_eq_getElem hi
    rw [hx] at e
    injection e with e
    refine ⟨hi, by rw [← e]; exact hp, fun j hj => ?_⟩
    rw [hn j l[j] hj (List.getElem?_eq_getElem (by omega))]
    simp
  simp [idxOf, this]
theorem idxOf_miss {p : S36 → Bool} {l : List S36} (hn : ∀ (j : Nat) y, l[j]? = some y → p y = false) : idxOf p l = -1 := by
  have : l.findIdx? p = none := by
    rw [List.findIdx?_eq_none_iff]
    intro x hx
    obtain ⟨j, hj, rfl⟩ := List.getElem_of_mem hx
    rw [hn j l[j] (List.getElem?_eq_getElem hj)]
  simp [idxOf, this]
theorem idxOf_cases (p : S36 → Bool) (l : List S36) : (idxOf p l = -1 ∧ ∀ x ∈ l, p x = false) ∨ ∃ i, i < l.length ∧ idxOf p l = (i : Nat) ∧ (∃ x, l[i]? = some x ∧ p x = true) ∧ ∀ j y, j < i → l[j]? = some y → p y = false := by
  cases h : l.findIdx? p with
  | none =>
    refine .inl ⟨by simp [idxOf, h], fun x hx => ?_⟩
    rw [List.findIdx?_eq_none_iff] at h
    simpa using h x hx
  | some i =>
    rw [List.findIdx?_eq_some_iff_getElem] at h
    obtain ⟨hi, hp, hn⟩ := h
    refine .inr ⟨i, hi, by
      have : l.findIdx? p = some i := by rw [List.findIdx?_eq_some_iff_getElem]; exact ⟨hi, hp, hn⟩
      simp [idxOf, this], ⟨_, List.getElem?_eq_getElem hi, hp⟩, fun j y hj hy => ?_⟩
    have hjl : j < l.length := by omega
    rw [List.getElem?_eq_getElem hjl] at hy
    injection hy with hy
    rw [← hy]
    simpa using hn j hj

/-- DeleteFunc after j entries of l were looked at: i of them are kept, at the front of cur. -/
structure DelInv (p : S36 → Bool) (l : List S36) (j i : Nat) (cur : List S36) : Prop where
  len : cur.length = l.length
  lt : i < j
  le : j ≤ l.length
  low : cur.take i = (l.take j).filter fun x => !p x
  high : cur.drop j = l.drop j
theorem DelInv.start {p : S36 → Bool} {l : List S36} {i : Nat} (hi : i < l.length) (ht : ∃ x, l[i]? = some x ∧ p x = true) (hlow : ∀ j y, j < i → l[j]? = some y → p y = false) : DelInv p l (i + 1) i l := by
  refine ⟨rfl, by omega, by omega, ?_, rfl⟩
  obtain ⟨x, hx, hp⟩ := ht
  have e : l[i] = x := by have := List.getElem?_eq_getElem hi; rw [hx] at this; injection this with this; exact this.symm
  rw [List.take_succ_eq_append_getElem hi, List.filter_append, e]
  have : (l.take i).filter (fun x => !p x) = l.take i := List.filter_eq_self.2 (fun y hy => by
    obtain ⟨j, hj, rfl⟩ := List.getElem_of_mem hy
    have hj' : j < i := by rw [List.length_take] at hj; omega
    rw [List.getElem_take]
    rw [hlow j _ hj' (List.getElem?_eq_getElem (by omega))]
    rfl)
  rw [this]
  simp [hp]
theorem DelInv.at_ {p : S36 → Bool} {l cur : List S36} {j i : Nat} (h : DelInv p l j i cur) (hj : j < l.length) : cur[j]? = l[j]? := by
  have := congrArg (fun z => z[0]?) h.high
  simpa using this
theorem DelInv.skip {p : S36 → Bool} {l cur : List S36} {j i : Nat} {x : S36} (h : DelInv p l j i cur) (hj : j < l.length) (hx : l[j]? = some x) (hp : p x = true) : DelInv p l (j + 1) i cur := by
  have e : l[j] = x := by have := List.getElem?_eq_getElem hj; rw [hx] at this; injection this with this; exact this.symm
  refine ⟨h.len, by have := h.lt; omega, by omega, ?_, ?_⟩
  · rw [List.take_succ_eq_append_getElem hj, List.filter_append, e, ← h.low]
    simp [hp]
  · have := congrArg (List.drop 1) h.high
    simpa [List.drop_drop] using this
theorem DelInv.keep {p : S36 → Bool} {l cur : List S36} {j i : Nat} {x : S36} (h : DelInv p l j i cur) (hj : j < l.length) (hx : l[j]? = some x) (hp : p x = false) : DelInv p l (j + 1) (i + 1) (cur.set i x) := by
  have e : l[j] = x := by have := List.getElem?_eq_getElem hj; rw [hx] at this; injection this with this; exact this.symm
  have hlt := h.lt
  have hln := h.len
  refine ⟨by rw [List.length_set]; exact h.len, by omega, by omega, ?_, ?_⟩
  · rw [List.take_succ_eq_append_getElem hj, List.filter_append, e, ← h.low]
    rw [List.take_succ_eq_append_getElem (by rw [List.length_set]; omega), List.take_set_of_le (Nat.le_refl _)]
    simp [hp]
  · rw [List.drop_set_of_lt (by omega)]
    have := congrArg (List.drop 1) h.high
    simpa [List.drop_drop] using this

set_option maxHeartbeats 800000 in
theorem idxF {B : Nat} {w : World} {g : Nat} {lb : Array Value} {p : S36 → Bool} (eg : ∀ args w, (callFunc g args).run Try.prog w = .ok (.enter g args) w) (hp : PredB B w g lb p) (W : World) (hB : Below B w W) (hBs : B ≤ W.heap.size) (gr cap : Nat) (l : List S36) (hr : RowE W gr cap l) :
    Calls Try.prog 45 #[.slice (some ⟨gr, 0, none⟩) l.length cap, .func (.func g) #[] lb] W fun e w' => e = .returned (.int .i64 (idxOf p l)) ∧ Below W.heap.size W w' := by
  have hm : l.length ≤ 9223372036854775807 := by
    obtain ⟨_, _, _, h1, h2, _⟩ := hr
    simp only [maxLen] at h2
    omega
  have HR := Aside0.mk hr
  have HP := Aside0.mk hp
  have HB := Aside0.mk hB
  clear hr hp hB
  go_enter Try.func45, Try.ntmps45
  go_wp2_with fail
  go_loopg [5, 8] l.length (fun kq v5 v8 w' => ∃ i : Nat, v8 = .int .i64 i ∧ Aside0 (i + kq = l.length) ∧ Aside0 (∀ j x, j < i → l[j]? = some x → p x = false) ∧ Aside0 (Below W.heap.size W w'))
  case atStart => exact ⟨0, rfl, ⟨by omega⟩, ⟨fun j x h => absurd h (by omega)⟩, ⟨Below.refl _ _⟩⟩
  case round =>
    obtain ⟨i, rfl, HK, HN, HW⟩ := hrel
    by_cases c2 : i < l.length
    · obtain ⟨x, hx⟩ : ∃ x, l[i]? = some x := ⟨_, List.getElem?_eq_getElem c2⟩
      obtain ⟨q0, q1, q2, q3, q4, q5, q6⟩ := (HR.out.below HW.out).seven hx
      have HX := Aside0.mk hx
      clear hx
      have HC := Aside0.mk (HP.out wr x (HB.out.trans (HW.out.mono hBs)))
      unfold cE at HC
      cases hq : p x with
      | true =>
        rw [hq] at HC
        go_wp2_with (go_at_fn g; refine HC.out.mono ?_; rintro e w' ⟨rfl, hb⟩)
        go_ret
        refine ⟨?_, HW.out.trans (hb.mono HW.out.size)⟩
        rw [idxOf_hit c2 HX.out hq HN.out]; rfl
      | false =>
        rw [hq] at HC
        go_wp2_with (go_at_fn g; refine HC.out.mono ?_; rintro e w' ⟨rfl, hb⟩)
        go_roundg (gk - 1)
        case measure => have := HK.out; omega
        case rel => exact ⟨i + 1, by go_num, ⟨by have := HK.out; omega⟩, ⟨fun j y hj hy => by
          by_cases e : j = i
          · subst e
            have := HX.out
            rw [hy] at this
            injection this with this
            rw [this]
            exact hq
          · exact HN.out j y (by omega) hy⟩, ⟨HW.out.trans (hb.mono HW.out.size)⟩⟩
    · go_wp2_with fail
      go_ret
      refine ⟨?_, HW.out⟩
      rw [idxOf_miss (fun j y hy => HN.out j y (by have := (List.getElem?_eq_some_iff.1 hy).1; omega) hy)]; rfl

def zE : Value := .agg #[.int .i64 0, .int .i64 0, .int .i64 0, .int .i64 0, .int .i64 0, .int .i64 0, .int .i64 0]
def zerosE (m : Nat) : List Value := (Builtin.zeroCells #[.int .i64 0, .int .i64 0, .int .i64 0, .int .i64 0, .int .i64 0, .int .i64 0, .int .i64 0] m).toList
theorem zerosE_len (m : Nat) : (zerosE m).length = m * 7 := by simp [zerosE, Builtin.zeroCells]
theorem zerosE_one (m : Nat) : ∀ v ∈ zerosE m, v.oneCell' = true := by
  intro v hv
  simp only [zerosE, Builtin.zeroCells, Array.toList_map, List.mem_map] at hv
  obtain ⟨a, _, rfl⟩ := hv
  have h7 : a % 7 < 7 := Nat.mod_lt _ (by omega)
  show Value.oneCell' (#[Value.int .i64 0, .int .i64 0, .int .i64 0, .int .i64 0, .int .i64 0, .int .i64 0, .int .i64 0][a % 7]!) = true
  generalize a % 7 = b at h7
  have : b = 0 ∨ b = 1 ∨ b = 2 ∨ b = 3 ∨ b = 4 ∨ b = 5 ∨ b = 6 := by omega
  rcases this with rfl | rfl | rfl | rfl | rfl | rfl | rfl <;> rfl
theorem zero_run (w : World) : (zeroValue 36).run Try.prog w = .ok zE w := by kernel_rfl
theorem clear_run {W : World} {gr cap : Nat} {l : List S36} (h : RowE W gr cap l) (i m c : Nat) (hm : 0 < m) (hi : i + m ≤ cap) (ty : TypeId) :
    (Builtin.clear_ #[22] ty #[.slice (some ⟨gr, i * 7, none⟩) m c]).run Try.prog W = .ok (.tuple #[]) (W.setCells gr (i * 7) (zerosE m)) := by
  have hst := h.stores (o := i * 7) (zerosE m) (by rw [zerosE_len]; omega) (zerosE_one m)
  obtain ⟨k, rfl⟩ : ∃ k, m = k + 1 := ⟨m - 1, by omega⟩
  have hz : (Builtin.zeroCells (Value.agg #[.int .i64 0, .int .i64 0, .int .i64 0, .int .i64 0, .int .i64 0, .int .i64 0, .int .i64 0]).cells (k + 1)).toList = zerosE (k + 1) := rfl
  simp [Builtin.clear_, run_underlying Try.underlying22, zero_run, hz, hst]

theorem RowE.cut {w : World} {g cap : Nat} {l : List S36} (h : RowE w g cap l) (i : Nat) (vs : List Value) : RowE (w.setCells g (i * 7) vs) g cap (l.take i) := by
  obtain ⟨cur, hb, hs, hl, hm, hc⟩ := h
  obtain ⟨cur', hb', hs', ho, _⟩ := setCells_heap g vs (i * 7) w cur _ _ hb
  refine ⟨cur', hb', hs'.trans hs, by rw [List.length_take]; omega, hm, fun k y hk j u hu => ?_⟩
  rw [List.getElem?_take] at hk
  split at hk
  · have hj7 : j < 7 := by have := (List.getElem?_eq_some_iff.1 hu).1; rwa [cE_len] at this
    rw [ho (k * 7 + j) (.inl (by omega))]
    exact hc k y hk j u hu
  · cases hk

set_option maxHeartbeats 800000 in
theorem delF {B : Nat} {w : World} {g : Nat} {lb : Array Value} {p : S36 → Bool} (eg : ∀ args w, (callFunc g args).run Try.prog w = .ok (.enter g args) w) (hp : PredB B w g lb p) (W : World) (hB : Below B w W) (hBs : B ≤ W.heap.size) (gr cap : Nat) (hgr : B ≤ gr) (l : List S36) (hr : RowE W gr cap l) :
    Calls Try.prog 40 #[.slice (some ⟨gr, 0, none⟩) l.length cap, .func (.func g) #[] lb] W fun e w' => e = .returned (.slice (some ⟨gr, 0, none⟩) (l.filter fun x => !p x).length cap) ∧ RowE w' gr cap (l.filter fun x => !p x) ∧ Below B W w' := by
  have hm : l.length ≤ 9223372036854775807 ∧ l.length ≤ cap := by
    obtain ⟨_, _, _, h1, h2, _⟩ := hr
    simp only [maxLen] at h2
    omega
  obtain ⟨hm, hcap⟩ := hm
  have HI := Aside0.mk (idxF eg hp W hB hBs gr cap l hr)
  rcases idxOf_cases p l with ⟨e1, hall⟩ | ⟨i0, hi0, e1, ht, hlow⟩
  · rw [e1] at HI
    have ef : (l.filter fun x => !p x) = l := List.filter_eq_self.2 (fun x hx => by simp [hall x hx])
    have HR := Aside0.mk hr
    clear hr hp hB
    rw [ef]
    go_enter Try.func40, Try.ntmps40
    go_wp2_with (go_at_call 45; refine HI.out.mono ?_; rintro e w' ⟨rfl, hb⟩)
    go_ret
    exact ⟨rfl, HR.out.below hb, hb.mono hBs⟩
  · rw [e1] at HI
    have HR := Aside0.mk hr
    have HP := Aside0.mk hp
    have HB := Aside0.mk hB
    have hne : (((i0 : Nat) : Int) == -1) = false := beq_eq_false_iff_ne.2 (by omega)
    have HS := Aside0.mk (DelInv.start (p := p) hi0 ht hlow)
    clear hr hp hB ht hlow e1
    go_enter Try.func40, Try.ntmps40
    go_wp2_with (go_at_call 45; refine HI.out.mono ?_; rintro e w' ⟨rfl, hb⟩)
    have HW0 := Aside0.mk hb
    clear hb
    go_loopg [5, 6, 7] (l.length - (i0 + 1)) (fun kq v5 v6 v7 wr => ∃ (i j : Nat) (cur : List S36), v5 = .int .i64 i ∧ v6 = .int .i64 j ∧ Aside0 (j + kq = l.length) ∧ Aside0 (DelInv p l j i cur) ∧ Aside0 (RowE wr gr cap cur) ∧ Aside0 (Below B W wr))
    case atStart => exact ⟨i0, i0 + 1, l, rfl, by go_num, ⟨by omega⟩, HS, ⟨HR.out.below HW0.out⟩, ⟨HW0.out.mono hBs⟩⟩
    case round =>
      obtain ⟨i, j, cur, rfl, rfl, HK, HD, HRc, HW⟩ := hrel
      have hij := HD.out.lt
      have hjl := HD.out.le
      by_cases c2 : j < l.length
      · obtain ⟨x, hx⟩ : ∃ x, l[j]? = some x := ⟨_, List.getElem?_eq_getElem c2⟩
        obtain ⟨q0, q1, q2, q3, q4, q5, q6⟩ := HRc.out.seven ((HD.out.at_ c2).trans hx)
        have HX := Aside0.mk hx
        clear hx
        have HC := Aside0.mk (fun o => HP.out (wr.alloc o) x (HB.out.trans (HW.out.trans ((Below.refl B wr).alloc (Nat.le_trans hBs HW.out.size) o))))
        unfold cE at HC
        obtain ⟨y, hy⟩ : ∃ y, cur[i]? = some y := ⟨_, List.getElem?_eq_getElem (by have := HD.out.len; omega)⟩
        have HY := Aside0.mk hy
        clear hy
        cases hq : p x with
        | true =>
          rw [hq] at HC
          go_wp2_with (go_at_fn g; refine (HC.out _).mono ?_; rintro e w' ⟨rfl, hb⟩)
          go_roundg (gk - 1)
          case measure => have := HK.out; omega
          case rel => exact ⟨i, j + 1, cur, rfl, by go_num, ⟨by have := HK.out; omega⟩, ⟨HD.out.skip c2 HX.out hq⟩, ⟨(HRc.out.below ((Below.refl _ wr).alloc (Nat.le_refl _) _)).below hb⟩, ⟨(HW.out.trans ((Below.refl B wr).alloc (Nat.le_trans hBs HW.out.size) _)).trans (hb.mono (by have := HW.out.size; simp; omega))⟩⟩
        | false =>
          rw [hq] at HC
          go_wp2_with fail
          go_at_fn g
          refine (HC.out _).mono ?_
          rintro e w1 ⟨rfl, hb⟩
          have HB1 := Aside0.mk hb
          have hr1 : Aside0 (RowE w1 gr cap cur) := ⟨(HRc.out.below ((Below.refl _ wr).alloc (Nat.le_refl _) _)).below hb⟩
          have z0 : w1.cell? ⟨wr.heap.size, 0, none⟩ = some (.int .i64 x.f0) := (hb.cell (p := ⟨wr.heap.size, 0, none⟩) (by simp)).trans (by simp)
          have z1 : w1.cell? ⟨wr.heap.size, 1, none⟩ = some (.int .i64 x.f1) := (hb.cell (p := ⟨wr.heap.size, 1, none⟩) (by simp)).trans (by simp)
          have z2 : w1.cell? ⟨wr.heap.size, 2, none⟩ = some (.int .i64 x.f2) := (hb.cell (p := ⟨wr.heap.size, 2, none⟩) (by simp)).trans (by simp)
          have z3 : w1.cell? ⟨wr.heap.size, 3, none⟩ = some (.int .i64 x.f3) := (hb.cell (p := ⟨wr.heap.size, 3, none⟩) (by simp)).trans (by simp)
          have z4 : w1.cell? ⟨wr.heap.size, 4, none⟩ = some (.int .i64 x.f4) := (hb.cell (p := ⟨wr.heap.size, 4, none⟩) (by simp)).trans (by simp)
          have z5 : w1.cell? ⟨wr.heap.size, 5, none⟩ = some (.int .i64 x.f5) := (hb.cell (p := ⟨wr.heap.size, 5, none⟩) (by simp)).trans (by simp)
          have z6 : w1.cell? ⟨wr.heap.size, 6, none⟩ = some (.int .i64 x.f6) := (hb.cell (p := ⟨wr.heap.size, 6, none⟩) (by simp)).trans (by simp)
          obtain ⟨p0, p1, p2, p3, p4, p5, p6⟩ := hr1.out.seven HY.out
          have f0 := hr1.out.frozen (i * 7)
          have f1 := hr1.out.frozen (i * 7 + 1)
          have f2 := hr1.out.frozen (i * 7 + 2)
          have f3 := hr1.out.frozen (i * 7 + 3)
          have f4 := hr1.out.frozen (i * 7 + 4)
          have f5 := hr1.out.frozen (i * 7 + 5)
          have f6 := hr1.out.frozen (i * 7 + 6)
          clear hb
          go_wp2_with fail
          go_roundg (gk - 1)
          case measure => have := HK.out; omega
          case rel =>
            refine ⟨i + 1, j + 1, cur.set i x, by go_num, by go_num, ⟨by have := HK.out; omega⟩, ⟨HD.out.keep c2 HX.out hq⟩, ⟨hr1.out.set (by have := HD.out.len; omega) x⟩, ⟨?_⟩⟩
            exact ((HW.out.trans ((Below.refl B wr).alloc (Nat.le_trans hBs HW.out.size) _)).trans (HB1.out.mono (by have := HW.out.size; simp; omega))).trans (setCells_below hgr (cE x) (i * 7) w1)
      · have ej : j = l.length := by omega
        subst ej
        have hcl := fun ty c => clear_run HRc.out i (cur.length - i) c (by have := HD.out.len; omega) (by have := HD.out.len; omega) ty
        rw [HD.out.len] at hcl
        go_wp2_with fail
        go_ret
        have e1 : cur.take i = l.filter fun x => !p x := by rw [HD.out.low, List.take_length]
        have e2 : (l.filter fun x => !p x).length = i := by rw [← e1, List.length_take]; have := HD.out.len; omega
        refine ⟨by rw [e2]; rfl, ?_, HW.out.trans (setCells_below hgr _ _ _)⟩
        rw [← e1]
        exact HRc.out.cut i _
end Go.Proofs.Ytlmjopodghikgaa.Print
end
