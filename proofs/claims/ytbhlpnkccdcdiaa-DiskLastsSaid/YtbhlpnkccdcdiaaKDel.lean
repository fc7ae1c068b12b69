/- slices.IndexFunc and DeleteFunc at pending appends. -/
import Derived.Test.YtbhlpnkccdcdiaaKRow
import Derived.Lib.SliceRun
namespace Go.Proofs.Ytbhlpnkccdcdiaa.Dk
open Go.RowKit Go.Proofs.YtbhlpnkccdcdiaaW.PrintWords
set_option linter.unusedVariables false
set_option linter.unusedSimpArgs false

/-- All old blocks but g are as they were. -/
structure Exc (g : Nat) (w W : World) : Prop where
  os : W.os = w.os
  tape : W.tape = w.tape
  output : W.output = w.output
  size : w.heap.size ≤ W.heap.size
  block : ∀ k, k < w.heap.size → k ≠ g → W.heap[k]? = w.heap[k]?
theorem Exc.refl (g : Nat) (w : World) : Exc g w w := ⟨rfl, rfl, rfl, Nat.le_refl _, fun _ _ _ => rfl⟩
theorem Exc.trans {g : Nat} {w w1 w2 : World} (h : Exc g w w1) (k : Exc g w1 w2) : Exc g w w2 :=
  ⟨k.os.trans h.os, k.tape.trans h.tape, k.output.trans h.output, Nat.le_trans h.size k.size, fun i h1 h2 => (k.block i (Nat.lt_of_lt_of_le h1 h.size) h2).trans (h.block i h1 h2)⟩
theorem Exc.ofBelow {g : Nat} {w W : World} (h : Below w.heap.size w W) : Exc g w W := ⟨h.os, h.tape, h.output, h.size, fun k hk _ => h.block k hk⟩
theorem Exc.alloc (g : Nat) (w : World) (o : Obj) : Exc g w (w.alloc o) := Exc.ofBelow ((Below.refl _ w).alloc (Nat.le_refl _) o)
theorem Exc.setCells (g o : Nat) (vs : List Value) (w : World) : Exc g w (w.setCells g o vs) := by
  have h := setCells_below (B := 0) (g := g) (Nat.zero_le _) vs o w
  exact ⟨h.os, h.tape, h.output, h.size, fun k _ hk => setCells_other g vs o w k hk⟩
/-- A function value that answers p of a pending append, in every world whose old blocks but gq are as in w; it turns nothing. -/
def PredB (gq : Nat) (w : World) (g : Nat) (lb : Array Value) (p : Pd → Bool) : Prop :=
  ∀ (W : World) (x : Pd), Exc gq w W → Calls Try.prog g (#[.agg (cE x).toArray] ++ lb) W fun e w' => e = .returned (.bool (p x)) ∧ Below W.heap.size W w'

theorem RowE.three {w : World} {g cap : Nat} {l : List Pd} (h : RowE w g cap l) {j : Nat} {x : Pd} (hj : l[j]? = some x) :
    w.cell? ⟨g, j * 3, none⟩ = some (.int .i64 x.f) ∧ w.cell? ⟨g, j * 3 + 1, none⟩ = some (.int .i64 x.a) ∧ w.cell? ⟨g, j * 3 + 2, none⟩ = some (.int .i64 x.n) :=
  ⟨h.cell hj (i := 0) rfl, h.cell hj (i := 1) rfl, h.cell hj (i := 2) rfl⟩

def idxOf (p : Pd → Bool) (l : List Pd) : Int := match l.findIdx? p with | some i => (i : Int) | none => -1

theorem idxOf_hit {p : Pd → Bool} {l : List Pd} {i : Nat} {x : Pd} (hi : i < l.length) (hx : l[i]? = some x) (hp : p x = true) (hn : ∀ j y, j < i → l[j]? = some y → p y = false) : idxOf p l = i := by
  have : l.findIdx? p = some i := by
    rw [List.findIdx?_eq_some_iff_getElem]
    have e := List.getElem?_eq_getElem hi
    rw [hx] at e
    injection e with e
    refine ⟨hi, by rw [← e]; exact hp, fun j hj => ?_⟩
    rw [hn j l[j] hj (List.getElem?_eq_getElem (by omega))]
    simp
  simp [idxOf, this]
theorem idxOf_miss {p : Pd → Bool} {l : List Pd} (hn : ∀ (j : Nat) y, l[j]? = some y → p y = false) : idxOf p l = -1 := by
  have : l.findIdx? p = none := by
    rw [List.findIdx?_eq_none_iff]
    intro x hx
    obtain ⟨j, hj, rfl⟩ := List.getElem_of_mem hx
    rw [hn j l[j] (List.getElem?_eq_getElem hj)]
  simp [idxOf, this]
theorem idxOf_cases (p : Pd → Bool) (l : List Pd) : (idxOf p l = -1 ∧ ∀ x ∈ l, p x = false) ∨ ∃ i, i < l.length ∧ idxOf p l = (i : Nat) ∧ (∃ x, l[i]? = some x ∧ p x = true) ∧ ∀ j y, j < i → l[j]? = some y → p y = false := by
  cases h : l.findIdx? p with
  | none =>
    refine .inl ⟨by simp [idxOf, h], fun x hx => ?_⟩
    rw [List.findIdx?_eq_none_iff] at h
    simpa using h x hx
  | some i =>
    rw [List.findIdx?_eq_some_iff_getElem] at h
    obtain ⟨hi, hp, hn⟩ := h
    refine .inr ⟨i, hi, by
      have : l.findIdx? p = some i := by rw [List.findIdx?_eq_some_iff_getElem]; exact ⟨hi, hp, hn⟩
      simp [idxOf, this], ⟨_, List.getElem?_eq_getElem hi, hp⟩, fun j y hj hy => ?_⟩
    have hjl : j < l.length := by omega
    rw [List.getElem?_eq_getElem hjl] at hy
    injection hy with hy
    rw [← hy]
    simpa using hn j hj

/-- DeleteFunc after j entries of l were looked at: i of them are kept, at the front of cur. -/
structure DelInv (p : Pd → Bool) (l : List Pd) (j i : Nat) (cur : List Pd) : Prop where
  len : cur.length = l.length
  lt : i < j
  le : j ≤ l.length
  low : cur.take i = (l.take j).filter fun x => !p x
  high : cur.drop j = l.drop j
theorem DelInv.start {p : Pd → Bool} {l : List Pd} {i : Nat} (hi : i < l.length) (ht : ∃ x, l[i]? = some x ∧ p x = true) (hlow : ∀ j y, j < i → l[j]? = some y → p y = false) : DelInv p l (i + 1) i l := by
  refine ⟨rfl, by omega, by omega, ?_, rfl⟩
  obtain ⟨x, hx, hp⟩ := ht
  have e : l[i] = x := by have := List.getElem?_eq_getElem hi; rw [hx] at this; injection this with this; exact this.symm
  rw [List.take_succ_eq_append_getElem hi, List.filter_append, e]
  have : (l.take i).filter (fun x => !p x) = l.take i := List.filter_eq_self.2 (fun y hy => by
    obtain ⟨j, hj, rfl⟩ := List.getElem_of_mem hy
    have hj' : j < i := by rw [List.length_take] at hj; omega
    rw [List.getElem_take]
    rw [hlow j _ hj' (List.getElem?_eq_getElem (by omega))]
    rfl)
  rw [this]
  simp [hp]
theorem DelInv.at_ {p : Pd → Bool} {l cur : List Pd} {j i : Nat} (h : DelInv p l j i cur) (hj : j < l.length) : cur[j]? = l[j]? := by
  have := congrArg (fun z => z[0]?) h.high
  simpa using this
theorem DelInv.skip {p : Pd → Bool} {l cur : List Pd} {j i : Nat} {x : Pd} (h : DelInv p l j i cur) (hj : j < l.length) (hx : l[j]? = some x) (hp : p x = true) : DelInv p l (j + 1) i cur := by
  have e : l[j] = x := by have := List.getElem?_eq_getElem hj; rw [hx] at this; injection this with this; exact this.symm
  refine ⟨h.len, by have := h.lt; omega, by omega, ?_, ?_⟩
  · rw [List.take_succ_eq_append_getElem hj, List.filter_append, e, ← h.low]
    simp [hp]
  · have := congrArg (List.drop 1) h.high
    simpa [List.drop_drop] using this
theorem DelInv.keep {p : Pd → Bool} {l cur : List Pd} {j i : Nat} {x : Pd} (h : DelInv p l j i cur) (hj : j < l.length) (hx : l[j]? = some x) (hp : p x = false) : DelInv p l (j + 1) (i + 1) (cur.set i x) := by
  have e : l[j] = x := by have := List.getElem?_eq_getElem hj; rw [hx] at this; injection this with this; exact this.symm
  have hlt := h.lt
  have hln := h.len
  refine ⟨by rw [List.length_set]; exact h.len, by omega, by omega, ?_, ?_⟩
  · rw [List.take_succ_eq_append_getElem hj, List.filter_append, e, ← h.low]
    rw [List.take_succ_eq_append_getElem (by rw [List.length_set]; omega), List.take_set_of_le (Nat.le_refl _)]
    simp [hp]
  · rw [List.drop_set_of_lt (by omega)]
    have := congrArg (List.drop 1) h.high
    simpa [List.drop_drop] using this

set_option maxHeartbeats 800000 in
theorem idxF {gq : Nat} {w : World} {g : Nat} {lb : Array Value} {p : Pd → Bool} (eg : ∀ args w, (callFunc g args).run Try.prog w = .ok (.enter g args) w) (hp : PredB gq w g lb p) (W : World) (hB : Exc gq w W) (gr cap : Nat) (l : List Pd) (hr : RowE W gr cap l) :
    Calls Try.prog 94 #[.slice (some ⟨gr, 0, none⟩) l.length cap, .func (.func g) #[] lb] W fun e w' => e = .returned (.int .i64 (idxOf p l)) ∧ Below W.heap.size W w' := by
  have hm : l.length ≤ 9223372036854775807 := by
    obtain ⟨_, _, _, h1, h2, _⟩ := hr
    simp only [maxLen] at h2
    omega
  have HR := Aside0.mk hr
  have HP := Aside0.mk hp
  have HB := Aside0.mk hB
  clear hr hp hB
  go_enter Try.func94, Try.ntmps94
  go_wp2_with fail
  go_loopg [5, 8] l.length (fun kq v5 v8 w' => ∃ i : Nat, v8 = .int .i64 i ∧ Aside0 (i + kq = l.length) ∧ Aside0 (∀ j x, j < i → l[j]? = some x → p x = false) ∧ Aside0 (Below W.heap.size W w'))
  case atStart => exact ⟨0, rfl, ⟨by omega⟩, ⟨fun j x h => absurd h (by omega)⟩, ⟨Below.refl _ _⟩⟩
  case round =>
    obtain ⟨i, rfl, HK, HN, HW⟩ := hrel
    by_cases c2 : i < l.length
    · obtain ⟨x, hx⟩ : ∃ x, l[i]? = some x := ⟨_, List.getElem?_eq_getElem c2⟩
      obtain ⟨q0, q1, q2⟩ := (HR.out.below HW.out).three hx
      have HX := Aside0.mk hx
      clear hx
      have HC := Aside0.mk (HP.out wr x (HB.out.trans (Exc.ofBelow HW.out)))
      unfold cE at HC
      cases hq : p x with
      | true =>
        rw [hq] at HC
        go_wp2_with (go_at_fn g; refine HC.out.mono ?_; rintro e w' ⟨rfl, hb⟩)
        go_ret
        refine ⟨?_, HW.out.trans (hb.mono HW.out.size)⟩
        rw [idxOf_hit c2 HX.out hq HN.out]; rfl
      | false =>
        rw [hq] at HC
        go_wp2_with (go_at_fn g; refine HC.out.mono ?_; rintro e w' ⟨rfl, hb⟩)
        go_roundg (gk - 1)
        case measure => have := HK.out; omega
        case rel => exact ⟨i + 1, by go_num, ⟨by have := HK.out; omega⟩, ⟨fun j y hj hy => by
          by_cases e : j = i
          · subst e
            have := HX.out
            rw [hy] at this
            injection this with this
            rw [this]
            exact hq
          · exact HN.out j y (by omega) hy⟩, ⟨HW.out.trans (hb.mono HW.out.size)⟩⟩
    · go_wp2_with fail
      go_ret
      refine ⟨?_, HW.out⟩
      rw [idxOf_miss (fun j y hy => HN.out j y (by have := (List.getElem?_eq_some_iff.1 hy).1; omega) hy)]; rfl

def zE : Value := .agg #[.int .i64 0, .int .i64 0, .int .i64 0]
def zerosE (m : Nat) : List Value := (Builtin.zeroCells #[.int .i64 0, .int .i64 0, .int .i64 0] m).toList
theorem zerosE_len (m : Nat) : (zerosE m).length = m * 3 := by simp [zerosE, Builtin.zeroCells]
theorem zerosE_one (m : Nat) : ∀ v ∈ zerosE m, v.oneCell' = true := by
  intro v hv
  simp only [zerosE, Builtin.zeroCells, Array.toList_map, List.mem_map] at hv
  obtain ⟨a, _, rfl⟩ := hv
  have h3 : a % 3 < 3 := Nat.mod_lt _ (by omega)
  show Value.oneCell' (#[Value.int .i64 0, .int .i64 0, .int .i64 0][a % 3]!) = true
  generalize a % 3 = b at h3
  have : b = 0 ∨ b = 1 ∨ b = 2 := by omega
  rcases this with rfl | rfl | rfl <;> rfl
theorem zero_run (w : World) : (zeroValue 91).run Try.prog w = .ok zE w := by kernel_rfl
theorem clear_run {W : World} {gr cap : Nat} {l : List Pd} (h : RowE W gr cap l) (i m c : Nat) (hm : 0 < m) (hi : i + m ≤ cap) (ty : TypeId) :
    (Builtin.clear_ #[86] ty #[.slice (some ⟨gr, i * 3, none⟩) m c]).run Try.prog W = .ok (.tuple #[]) (W.setCells gr (i * 3) (zerosE m)) := by
  have hst := h.stores (o := i * 3) (zerosE m) (by rw [zerosE_len]; omega) (zerosE_one m)
  obtain ⟨k, rfl⟩ : ∃ k, m = k + 1 := ⟨m - 1, by omega⟩
  have hz : (Builtin.zeroCells (Value.agg #[.int .i64 0, .int .i64 0, .int .i64 0]).cells (k + 1)).toList = zerosE (k + 1) := rfl
  simp [Builtin.clear_, run_underlying Try.underlying86, zero_run, hz, hst]

theorem RowE.cut {w : World} {g cap : Nat} {l : List Pd} (h : RowE w g cap l) (i : Nat) (vs : List Value) : RowE (w.setCells g (i * 3) vs) g cap (l.take i) := by
  obtain ⟨cur, hb, hs, hl, hm, hc⟩ := h
  obtain ⟨cur', hb', hs', ho, _⟩ := setCells_heap g vs (i * 3) w cur _ _ hb
  refine ⟨cur', hb', hs'.trans hs, by rw [List.length_take]; omega, hm, fun k y hk j u hu => ?_⟩
  rw [List.getElem?_take] at hk
  split at hk
  · have hj3 : j < 3 := by have := (List.getElem?_eq_some_iff.1 hu).1; rwa [cE_len] at this
    rw [ho (k * 3 + j) (.inl (by omega))]
    exact hc k y hk j u hu
  · cases hk

set_option maxHeartbeats 800000 in
theorem delF {gr : Nat} {w : World} {g : Nat} {lb : Array Value} {p : Pd → Bool} (eg : ∀ args w, (callFunc g args).run Try.prog w = .ok (.enter g args) w) (hp : PredB gr w g lb p) (W : World) (hB : Exc gr w W) (cap : Nat) (l : List Pd) (hr : RowE W gr cap l) :
    Calls Try.prog 78 #[.slice (some ⟨gr, 0, none⟩) l.length cap, .func (.func g) #[] lb] W fun e w' => e = .returned (.slice (some ⟨gr, 0, none⟩) (l.filter fun x => !p x).length cap) ∧ RowE w' gr cap (l.filter fun x => !p x) ∧ Exc gr W w' := by
  have hm : l.length ≤ 9223372036854775807 ∧ l.length ≤ cap := by
    obtain ⟨_, _, _, h1, h2, _⟩ := hr
    simp only [maxLen] at h2
    omega
  obtain ⟨hm, hcap⟩ := hm
  have HI := Aside0.mk (idxF eg hp W hB gr cap l hr)
  rcases idxOf_cases p l with ⟨e1, hall⟩ | ⟨i0, hi0, e1, ht, hlow⟩
  · rw [e1] at HI
    have ef : (l.filter fun x => !p x) = l := List.filter_eq_self.2 (fun x hx => by simp [hall x hx])
    have HR := Aside0.mk hr
    clear hr hp hB
    rw [ef]
    go_enter Try.func78, Try.ntmps78
    go_wp2_with (go_at_call 94; refine HI.out.mono ?_; rintro e w' ⟨rfl, hb⟩)
    go_ret
    exact ⟨rfl, HR.out.below hb, Exc.ofBelow hb⟩
  · rw [e1] at HI
    have HR := Aside0.mk hr
    have HP := Aside0.mk hp
    have HB := Aside0.mk hB
    have hne : (((i0 : Nat) : Int) == -1) = false := beq_eq_false_iff_ne.2 (by omega)
    have HS := Aside0.mk (DelInv.start (p := p) hi0 ht hlow)
    clear hr hp hB ht hlow e1
    go_enter Try.func78, Try.ntmps78
    go_wp2_with (go_at_call 94; refine HI.out.mono ?_; rintro e w' ⟨rfl, hb⟩)
    have HW0 := Aside0.mk hb
    clear hb
    go_loopg [5, 6, 7] (l.length - (i0 + 1)) (fun kq v5 v6 v7 wr => ∃ (i j : Nat) (cur : List Pd), v5 = .int .i64 i ∧ v6 = .int .i64 j ∧ Aside0 (j + kq = l.length) ∧ Aside0 (DelInv p l j i cur) ∧ Aside0 (RowE wr gr cap cur) ∧ Aside0 (Exc gr W wr))
    case atStart => exact ⟨i0, i0 + 1, l, rfl, by go_num, ⟨by omega⟩, HS, ⟨HR.out.below HW0.out⟩, ⟨Exc.ofBelow HW0.out⟩⟩
    case round =>
      obtain ⟨i, j, cur, rfl, rfl, HK, HD, HRc, HW⟩ := hrel
      have hij := HD.out.lt
      have hjl := HD.out.le
      by_cases c2 : j < l.length
      · obtain ⟨x, hx⟩ : ∃ x, l[j]? = some x := ⟨_, List.getElem?_eq_getElem c2⟩
        obtain ⟨q0, q1, q2⟩ := HRc.out.three ((HD.out.at_ c2).trans hx)
        have HX := Aside0.mk hx
        clear hx
        have HC := Aside0.mk (fun o => HP.out (wr.alloc o) x (HB.out.trans (HW.out.trans (Exc.alloc gr wr o))))
        unfold cE at HC
        obtain ⟨y, hy⟩ : ∃ y, cur[i]? = some y := ⟨_, List.getElem?_eq_getElem (by have := HD.out.len; omega)⟩
        have HY := Aside0.mk hy
        clear hy
        cases hq : p x with
        | true =>
          rw [hq] at HC
          go_wp2_with (go_at_fn g; refine (HC.out _).mono ?_; rintro e w' ⟨rfl, hb⟩)
          go_roundg (gk - 1)
          case measure => have := HK.out; omega
          case rel => exact ⟨i, j + 1, cur, rfl, by go_num, ⟨by have := HK.out; omega⟩, ⟨HD.out.skip c2 HX.out hq⟩, ⟨(HRc.out.below ((Below.refl _ wr).alloc (Nat.le_refl _) _)).below hb⟩, ⟨(HW.out.trans (Exc.alloc gr wr _)).trans (Exc.ofBelow hb)⟩⟩
        | false =>
          rw [hq] at HC
          go_wp2_with fail
          go_at_fn g
          refine (HC.out _).mono ?_
          rintro e w1 ⟨rfl, hb⟩
          have HB1 := Aside0.mk hb
          have hr1 : Aside0 (RowE w1 gr cap cur) := ⟨(HRc.out.below ((Below.refl _ wr).alloc (Nat.le_refl _) _)).below hb⟩
          have z0 : w1.cell? ⟨wr.heap.size, 0, none⟩ = some (.int .i64 x.f) := (hb.cell (p := ⟨wr.heap.size, 0, none⟩) (by simp)).trans (by simp)
          have z1 : w1.cell? ⟨wr.heap.size, 1, none⟩ = some (.int .i64 x.a) := (hb.cell (p := ⟨wr.heap.size, 1, none⟩) (by simp)).trans (by simp)
          have z2 : w1.cell? ⟨wr.heap.size, 2, none⟩ = some (.int .i64 x.n) := (hb.cell (p := ⟨wr.heap.size, 2, none⟩) (by simp)).trans (by simp)
          obtain ⟨p0, p1, p2⟩ := hr1.out.three HY.out
          have f0 := hr1.out.frozen (i * 3)
          have f1 := hr1.out.frozen (i * 3 + 1)
          have f2 := hr1.out.frozen (i * 3 + 2)
          clear hb
          go_wp2_with fail
          go_roundg (gk - 1)
          case measure => have := HK.out; omega
          case rel =>
            refine ⟨i + 1, j + 1, cur.set i x, by go_num, by go_num, ⟨by have := HK.out; omega⟩, ⟨HD.out.keep c2 HX.out hq⟩, ⟨hr1.out.set (by have := HD.out.len; omega) x⟩, ⟨?_⟩⟩
            exact ((HW.out.trans (Exc.alloc gr wr _)).trans (Exc.ofBelow HB1.out)).trans (Exc.setCells gr (i * 3) (cE x) w1)
      · have ej : j = l.length := by omega
        subst ej
        have hcl := fun ty c => clear_run HRc.out i (cur.length - i) c (by have := HD.out.len; omega) (by have := HD.out.len; omega) ty
        rw [HD.out.len] at hcl
        go_wp2_with fail
        go_ret
        have e1 : cur.take i = l.filter fun x => !p x := by rw [HD.out.low, List.take_length]
        have e2 : (l.filter fun x => !p x).length = i := by rw [← e1, List.length_take]; have := HD.out.len; omega
        refine ⟨by rw [e2]; rfl, ?_, HW.out.trans (Exc.setCells gr _ _ _)⟩
        rw [← e1]
        exact HRc.out.cut i _
theorem idxF_nil (f : Value) (W : World) : Calls Try.prog 94 #[.slice none 0 0, f] W fun e w' => e = .returned (.int .i64 (-1)) ∧ w' = W := by
  go_enter Try.func94, Try.ntmps94
  go_wp2_with fail
  refine wp_loop_rounds 1 ?_
  rw [rounds_succ]
  go_wp2_with fail
  go_ret
  exact ⟨rfl, rfl⟩
theorem delF_nil (f : Value) (W : World) : Calls Try.prog 78 #[.slice none 0 0, f] W fun e w' => e = .returned (.slice none 0 0) ∧ w' = W := by
  go_enter Try.func78, Try.ntmps78
  go_wp2_with (go_at_call 94; refine (idxF_nil _ _).mono ?_; rintro e w' ⟨rfl, rfl⟩)
  go_ret
  exact ⟨rfl, rfl⟩
end Go.Proofs.Ytbhlpnkccdcdiaa.Dk
