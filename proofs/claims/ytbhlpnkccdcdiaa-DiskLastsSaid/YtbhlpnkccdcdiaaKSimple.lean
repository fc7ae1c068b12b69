/- The disk's methods that read, or write one field. -/
import Derived.Test.YtbhlpnkccdcdiaaKDisk
namespace Go.Proofs.Ytbhlpnkccdcdiaa.Dk
open Go.RowKit Go.Proofs.YtbhlpnkccdcdiaaW.PrintWords
set_option linter.unusedVariables false
set_option linter.unusedSimpArgs false

section
variable {w w1 w2 : World} {b : Nat} {D D' : DS} {qv kv qv' kv' : Value}
theorem cells_app {xs ys : List Value} {i : Nat} {v : Value} (h : xs[i]? = some v) : (xs ++ ys)[i]? = some v := by
  have := (List.getElem?_eq_some_iff.1 h).1
  rw [List.getElem?_append_left this]
  exact h
theorem DAt.cellAt (h : DAt w b D qv kv) {o : Nat} {v : Value} (hv : (DCells D qv kv)[o]? = some v) : w.cell? ⟨b, o, none⟩ = some v := by
  simp [World.cell?, h.blk, hv]
theorem DAt.frozen (h : DAt w b D qv kv) (o : Nat) : w.frozen? ⟨b, o, none⟩ = false := by simp [World.frozen?, h.blk]
theorem DAt.bytes (h : DAt w b D qv kv) {f : Nat} (hf : f < 8) : w.cell? ⟨b, f * 2, none⟩ = some (.string (bs (D.fl f).b)) := h.cellAt (cells_app (fCells_at D.fs f (by rw [h.len]; exact hf)).1)
theorem DAt.lasts (h : DAt w b D qv kv) {f : Nat} (hf : f < 8) : w.cell? ⟨b, f * 2 + 1, none⟩ = some (.int .i64 (D.fl f).n) := h.cellAt (cells_app (fCells_at D.fs f (by rw [h.len]; exact hf)).2)
theorem tail_at (h : D.fs.length = 8) (i : Nat) (v : Value) (hv : [qv, .int .i64 D.lost, .bool D.down, .int .i64 D.armed, kv][i]? = some v) : (DCells D qv kv)[16 + i]? = some v := by
  have hl := fCells_len D.fs
  unfold DCells
  rw [List.getElem?_append_right (by omega), hl, h, show 16 + i - 8 * 2 = i by omega]
  exact hv
theorem DAt.cq (h : DAt w b D qv kv) : w.cell? ⟨b, 16, none⟩ = some qv := h.cellAt (tail_at h.len 0 _ rfl)
theorem DAt.clost (h : DAt w b D qv kv) : w.cell? ⟨b, 17, none⟩ = some (.int .i64 D.lost) := h.cellAt (tail_at h.len 1 _ rfl)
theorem DAt.cdown (h : DAt w b D qv kv) : w.cell? ⟨b, 18, none⟩ = some (.bool D.down) := h.cellAt (tail_at h.len 2 _ rfl)
theorem DAt.carmed (h : DAt w b D qv kv) : w.cell? ⟨b, 19, none⟩ = some (.int .i64 D.armed) := h.cellAt (tail_at h.len 3 _ rfl)
theorem DAt.ckeep (h : DAt w b D qv kv) : w.cell? ⟨b, 20, none⟩ = some kv := h.cellAt (tail_at h.len 4 _ rfl)
theorem DAt.qne (h : DAt w b D qv kv) : qv.ownBlock ≠ some b := by
  intro e
  obtain ⟨cur, hc⟩ := h.que.typed e
  rw [h.blk] at hc
  injection hc with hc
  injection hc with _ ht
  exact absurd ht (by decide)
theorem heap_far (w : World) (p : Addr) (v : Value) {k : Nat} (hk : k ≠ p.block) : (w.setCell p v).heap[k]? = w.heap[k]? := Below.heap_setCell w p v k hk
theorem QAt.setFar {q : List Pd} {v u : Value} {p : Addr} (h : QAt w v q) (hn : v.ownBlock ≠ some p.block) : QAt (w.setCell p u) v q :=
  h.move fun k hk => heap_far w p u (fun e => hn (by rw [hk, e]))
theorem KAt.setFar {l : List Int} {v u : Value} {p : Addr} (h : KAt w v l) {cs : Array Value} {t : Nat} (hb : w.heap[p.block]? = some (Obj.cells cs t (0, 0))) (ht : t ≠ 3) : KAt (w.setCell p u) v l :=
  h.move fun k cur hk => heap_far w p u (fun e => by
    subst e
    rw [hb] at hk
    injection hk with hk
    injection hk with _ h2
    exact ht h2)
theorem setCells_toArray (cs : List Value) (o : Nat) (v : Value) : cs.toArray.setIfInBounds o v = (cs.set o v).toArray := by simp
theorem DAt.set1 (h : DAt w b D qv kv) {o : Nat} {v : Value} (hl : D'.fs.length = 8) (hD : DCells D' qv kv = (DCells D qv kv).set o v) (hq : D'.q = D.q) (hk : D'.keep = D.keep) : DAt (w.setCell ⟨b, o, none⟩ v) b D' qv kv where
  len := hl
  blk := by
    rw [hD, ← setCells_toArray]
    simp [World.setCell, Array.getElem?_modify, h.blk]
  que := by
    rw [hq]
    exact h.que.setFar h.qne
  kep := by
    rw [hk]
    exact h.kep.setFar h.blk (by decide)
theorem tail_set (h : D.fs.length = 8) (i : Nat) (v : Value) : (DCells D qv kv).set (16 + i) v = fCells D.fs ++ [qv, .int .i64 D.lost, .bool D.down, .int .i64 D.armed, kv].set i v := by
  have hl := fCells_len D.fs
  unfold DCells
  rw [List.set_append_right _ _ (by omega), hl, h, show 16 + i - 8 * 2 = i by omega]
theorem DAt.setLost (h : DAt w b D qv kv) (n : Nat) : DAt (w.setCell ⟨b, 17, none⟩ (.int .i64 n)) b { D with lost := n } qv kv := h.set1 h.len (tail_set h.len 1 _).symm rfl rfl
theorem DAt.setDown (h : DAt w b D qv kv) (d : Bool) : DAt (w.setCell ⟨b, 18, none⟩ (.bool d)) b { D with down := d } qv kv := h.set1 h.len (tail_set h.len 2 _).symm rfl rfl
theorem DAt.setArmed (h : DAt w b D qv kv) (n : Nat) : DAt (w.setCell ⟨b, 19, none⟩ (.int .i64 n)) b { D with armed := n } qv kv := h.set1 h.len (tail_set h.len 3 _).symm rfl rfl
theorem DAt.setBytes (h : DAt w b D qv kv) {f : Nat} (hf : f < 8) (l : List UInt8) : DAt (w.setCell ⟨b, f * 2, none⟩ (.string (bs l))) b { D with fs := D.fs.set f ⟨l, (D.fl f).n⟩ } qv kv := by
  have hl := fCells_len D.fs
  refine h.set1 (by simpa using h.len) ?_ rfl rfl
  show fCells (D.fs.set f ⟨l, (D.fs.getD f ⟨[], 0⟩).n⟩) ++ _ = _
  rw [fCells_setB _ _ _ (by rw [h.len]; exact hf)]
  unfold DCells
  rw [List.set_append_left _ _ (by rw [hl, h.len]; omega)]
theorem DAt.setLasts (h : DAt w b D qv kv) {f : Nat} (hf : f < 8) (n : Nat) : DAt (w.setCell ⟨b, f * 2 + 1, none⟩ (.int .i64 n)) b { D with fs := D.fs.set f ⟨(D.fl f).b, n⟩ } qv kv := by
  have hl := fCells_len D.fs
  refine h.set1 (by simpa using h.len) ?_ rfl rfl
  show fCells (D.fs.set f ⟨(D.fs.getD f ⟨[], 0⟩).b, n⟩) ++ _ = _
  rw [fCells_setN _ _ _ (by rw [h.len]; exact hf)]
  unfold DCells
  rw [List.set_append_left _ _ (by rw [hl, h.len]; omega)]
theorem DAt.lt (h : DAt w b D qv kv) : b < w.heap.size := (Array.getElem?_eq_some_iff.1 h.blk).1
theorem DAt.move (h : DAt w b D qv kv) (hm : ∀ k, k < w.heap.size → w1.heap[k]? = w.heap[k]?) : DAt w1 b D qv kv where
  len := h.len
  blk := (hm b h.lt).trans h.blk
  que := h.que.move fun k hk => by
    obtain ⟨cur, hc⟩ := h.que.typed hk
    exact hm k (Array.getElem?_eq_some_iff.1 hc).1
  kep := h.kep.move fun k cur hc => hm k (Array.getElem?_eq_some_iff.1 hc).1
theorem DAt.below (h : DAt w b D qv kv) (hb : Below w.heap.size w w1) : DAt w1 b D qv kv := h.move hb.block

/-- What a call on the disk at block b may have turned: the disk's block, its queue's row. -/
def qOwn (w : World) (b k : Nat) : Prop := ∃ v, w.cell? ⟨b, 16, none⟩ = some v ∧ v.ownBlock = some k
structure Fr (w w1 : World) (b : Nat) : Prop where
  os : w1.os = w.os
  tape : w1.tape = w.tape
  output : w1.output = w.output
  size : w.heap.size ≤ w1.heap.size
  block : ∀ k, k < w.heap.size → k ≠ b → ¬ qOwn w b k → w1.heap[k]? = w.heap[k]?
  own : ∀ k, qOwn w1 b k → k < w.heap.size → qOwn w b k
theorem Fr.refl (w : World) (b : Nat) : Fr w w b := ⟨rfl, rfl, rfl, Nat.le_refl _, fun _ _ _ _ => rfl, fun _ h _ => h⟩
theorem Fr.trans (h : Fr w w1 b) (k : Fr w1 w2 b) : Fr w w2 b :=
  ⟨k.os.trans h.os, k.tape.trans h.tape, k.output.trans h.output, Nat.le_trans h.size k.size,
    fun i h1 h2 h3 => (k.block i (Nat.lt_of_lt_of_le h1 h.size) h2 (fun hq => h3 (h.own i hq h1))).trans (h.block i h1 h2 h3),
    fun i hq hi => h.own i (k.own i hq (Nat.lt_of_lt_of_le hi h.size)) hi⟩
theorem qOwn_at (h : DAt w b D qv kv) {k : Nat} : qOwn w b k ↔ qv.ownBlock = some k := by
  constructor
  · rintro ⟨v, hv, hk⟩
    rw [h.cq] at hv
    injection hv with hv
    rw [hv]
    exact hk
  · exact fun hk => ⟨qv, h.cq, hk⟩
/-- A step that leaves all old blocks but b as they were, and the queue's cell. -/
theorem Fr.of (h : DAt w b D qv kv) (h1 : DAt w1 b D' qv kv') (hb : ∀ k, k < w.heap.size → k ≠ b → w1.heap[k]? = w.heap[k]?) (os : w1.os = w.os) (tape : w1.tape = w.tape) (output : w1.output = w.output) (size : w.heap.size ≤ w1.heap.size) : Fr w w1 b :=
  ⟨os, tape, output, size, fun k h2 h3 _ => hb k h2 h3, fun k hq _ => (qOwn_at h).2 ((qOwn_at h1).1 hq)⟩
theorem Fr.ofBelow (h : DAt w b D qv kv) (hb : Below w.heap.size w w1) : Fr w w1 b := Fr.of h (h.below hb) (fun k hk _ => hb.block k hk) hb.os hb.tape hb.output hb.size
theorem Fr.ofSet (h : DAt w b D qv kv) {o : Nat} {v : Value} (h1 : DAt (w.setCell ⟨b, o, none⟩ v) b D' qv kv') : Fr w (w.setCell ⟨b, o, none⟩ v) b :=
  Fr.of h h1 (fun k _ hk => heap_far w _ v hk) rfl rfl rfl (by simp)
theorem Fr.below {B : Nat} (h : Fr w w1 b) (hb : B ≤ b) (hq : ∀ k, qOwn w b k → B ≤ k) (hB : B ≤ w.heap.size) : Below B w w1 ∧ ∀ k, qOwn w1 b k → B ≤ k := by
  refine ⟨⟨h.os, h.tape, h.output, h.size, fun k hk => h.block k (by omega) (by omega) (fun hk' => by have := hq k hk'; omega)⟩, fun k hk => ?_⟩
  by_cases e : k < w.heap.size
  · exact hq k (h.own k hk e)
  · omega
end

/-! ### The small methods -/
def isB (f : Int) : Bool := decide (0 ≤ f) && decide (f < 8)
theorem isF (f : Int) (w : World) : Calls Try.prog 61 #[.int .i64 f] w fun e w' => e = .returned (.bool (isB f)) ∧ w = w' := by
  by_cases h0 : 0 ≤ f
  · have h0b : decide (0 ≤ f) = true := decide_eq_true h0
    by_cases h1 : f < 8
    · have h1b : decide (f < 8) = true := decide_eq_true h1
      go_enter Try.func61, Try.ntmps61
      go_wp2_with fail
      go_ret
      exact ⟨by simp [isB, h0b, h1b], rfl⟩
    · have h1b : decide (f < 8) = false := decide_eq_false h1
      go_enter Try.func61, Try.ntmps61
      go_wp2_with fail
      go_ret
      exact ⟨by simp [isB, h0b, h1b], rfl⟩
  · have h0b : decide (0 ≤ f) = false := decide_eq_false h0
    go_enter Try.func61, Try.ntmps61
    go_wp2_with fail
    go_ret
    exact ⟨by simp [isB, h0b], rfl⟩
theorem isB_nat {f : Nat} (h : f < 8) : isB (f : Int) = true := by
  unfold isB
  rw [decide_eq_true (by omega), decide_eq_true (by omega)]
  rfl
theorem isB_of {f : Int} (h : isB f = true) : ∃ n : Nat, n < 8 ∧ f = n := by
  simp only [isB, Bool.and_eq_true, decide_eq_true_eq] at h
  exact ⟨f.toNat, by omega, by omega⟩
def sizeOf (D : DS) (f : Int) : Nat := if isB f = true then (D.fl f.toNat).b.length else 0
theorem sizeF {w : World} {b : Nat} {D : DS} {qv kv : Value} (h : DAt w b D qv kv) (f : Int) : Calls Try.prog 21 #[.pointer (some ⟨b, 0, none⟩), .int .i64 f] w fun e w' => e = .returned (.int .i64 (sizeOf D f)) ∧ w = w' := by
  cases hi : isB f with
  | false =>
    have HI := Aside0.mk (isF f w)
    rw [hi] at HI
    go_enter Try.func21, Try.ntmps21
    go_wp2_with (go_at_call 61; refine HI.out.mono ?_; rintro e w' ⟨rfl, rfl⟩)
    go_ret
    exact ⟨by simp [sizeOf, hi], rfl⟩
  | true =>
    have HI := Aside0.mk (isF f w)
    rw [hi] at HI
    have HH := Aside0.mk hi
    obtain ⟨n, hn, rfl⟩ := isB_of hi
    have hc := h.bytes hn
    have hs : ((bs (D.fl n).b).size : Int) = (sizeOf D (n : Int) : Nat) := by rw [bs_size]; unfold sizeOf; rw [if_pos hi]; rfl
    have HS := Aside0.mk hs
    clear hi hs h
    go_enter Try.func21, Try.ntmps21
    go_wp2_with (go_at_call 61; refine HI.out.mono ?_; rintro e w' ⟨rfl, rfl⟩)
    go_ret
    exact ⟨by rw [← HS.out]; rfl, rfl⟩
theorem downF {w : World} {b : Nat} {D : DS} {qv kv : Value} (h : DAt w b D qv kv) : Calls Try.prog 23 #[.pointer (some ⟨b, 0, none⟩)] w fun e w' => e = .returned (.bool D.down) ∧ w = w' := by
  have hc := h.cdown
  clear h
  go_enter Try.func23, Try.ntmps23
  go_wp2_with fail
  go_ret
  exact ⟨rfl, rfl⟩
theorem startF {w : World} {b : Nat} {D : DS} {qv kv : Value} (h : DAt w b D qv kv) : Calls Try.prog 19 #[.pointer (some ⟨b, 0, none⟩)] w fun e w' => e = .returned (.tuple #[]) ∧ DAt w' b { D with down := false } qv kv ∧ Fr w w' b := by
  have hc := h.cdown
  have hf := h.frozen 18
  have HH := Aside0.mk h
  clear h
  go_enter Try.func19, Try.ntmps19
  go_wp2_with fail
  go_end0
  exact ⟨rfl, HH.out.setDown false, Fr.ofSet HH.out (HH.out.setDown false)⟩
def mayOf (D : DS) (l : List Int) : Int := if D.down = true then 9 else if l.all isB = true then 0 else 1
theorem litI {w : World} {g : Nat} {cs : Array Value} (h : w.heap[g]? = some (Obj.cells cs 3 (0, 0))) {i : Nat} {v : Value} (hv : cs[i]? = some v) : w.cell? ⟨g, i, none⟩ = some v := by simp [World.cell?, h, hv]
theorem may1 {w : World} {b : Nat} {D : DS} {qv kv : Value} (h : DAt w b D qv kv) (g : Nat) (f : Int) (hg : w.cell? ⟨g, 0, none⟩ = some (.int .i64 f)) : Calls Try.prog 55 #[.pointer (some ⟨b, 0, none⟩), .slice (some ⟨g, 0, none⟩) 1 1] w fun e w' => e = .returned (.int .i64 (mayOf D [f])) ∧ w = w' := by
  have hc := h.cdown
  clear h
  cases hd : D.down with
  | true =>
    rw [hd] at hc
    have H := Aside0.mk (show mayOf D [f] = 9 by unfold mayOf; rw [if_pos hd])
    clear hd
    go_enter Try.func55, Try.ntmps55
    go_wp2_with fail
    go_ret
    exact ⟨by rw [H.out]; rfl, rfl⟩
  | false =>
    rw [hd] at hc
    have HI := Aside0.mk (isF f w)
    cases hi : isB f with
    | true =>
      rw [hi] at HI
      have H := Aside0.mk (show mayOf D [f] = 0 by unfold mayOf; rw [if_neg (by rw [hd]; simp), if_pos (by simp [hi])])
      clear hd hi
      go_enter Try.func55, Try.ntmps55
      go_wp2_with fail
      refine wp_loop_rounds 2 ?_
      rw [rounds_succ]
      go_wp2_with (go_at_call 61; refine HI.out.mono ?_; rintro e w' ⟨rfl, rfl⟩)
      rw [rounds_succ]
      go_wp2_with fail
      go_ret
      exact ⟨by rw [H.out]; rfl, rfl⟩
    | false =>
      rw [hi] at HI
      have H := Aside0.mk (show mayOf D [f] = 1 by unfold mayOf; rw [if_neg (by rw [hd]; simp), if_neg (by simp [hi])])
      clear hd hi
      go_enter Try.func55, Try.ntmps55
      go_wp2_with fail
      refine wp_loop_rounds 2 ?_
      rw [rounds_succ]
      go_wp2_with (go_at_call 61; refine HI.out.mono ?_; rintro e w' ⟨rfl, rfl⟩)
      go_ret
      exact ⟨by rw [H.out]; rfl, rfl⟩
theorem may2 {w : World} {b : Nat} {D : DS} {qv kv : Value} (h : DAt w b D qv kv) (g : Nat) (f f2 : Int) (hg : w.cell? ⟨g, 0, none⟩ = some (.int .i64 f)) (hg2 : w.cell? ⟨g, 1, none⟩ = some (.int .i64 f2)) : Calls Try.prog 55 #[.pointer (some ⟨b, 0, none⟩), .slice (some ⟨g, 0, none⟩) 2 2] w fun e w' => e = .returned (.int .i64 (mayOf D [f, f2])) ∧ w = w' := by
  have hc := h.cdown
  clear h
  cases hd : D.down with
  | true =>
    rw [hd] at hc
    have H := Aside0.mk (show mayOf D [f, f2] = 9 by unfold mayOf; rw [if_pos hd])
    clear hd
    go_enter Try.func55, Try.ntmps55
    go_wp2_with fail
    go_ret
    exact ⟨by rw [H.out]; rfl, rfl⟩
  | false =>
    rw [hd] at hc
    have HI := Aside0.mk (isF f w)
    have HI2 := Aside0.mk (isF f2 w)
    cases hi : isB f with
    | true =>
      rw [hi] at HI
      cases hi2 : isB f2 with
      | true =>
        rw [hi2] at HI2
        have H := Aside0.mk (show mayOf D [f, f2] = 0 by unfold mayOf; rw [if_neg (by rw [hd]; simp), if_pos (by simp [hi, hi2])])
        clear hd hi hi2
        go_enter Try.func55, Try.ntmps55
        go_wp2_with fail
        refine wp_loop_rounds 3 ?_
        rw [rounds_succ]
        go_wp2_with fail
        go_at_call 61
        refine HI.out.mono ?_
        rintro e w' ⟨rfl, rfl⟩
        go_wp2_with fail
        rw [rounds_succ]
        go_wp2_with fail
        go_at_call 61
        refine HI2.out.mono ?_
        rintro e w' ⟨rfl, rfl⟩
        go_wp2_with fail
        rw [rounds_succ]
        go_wp2_with fail
        go_ret
        exact ⟨by rw [H.out]; rfl, rfl⟩
      | false =>
        rw [hi2] at HI2
        have H := Aside0.mk (show mayOf D [f, f2] = 1 by unfold mayOf; rw [if_neg (by rw [hd]; simp), if_neg (by simp [hi2])])
        clear hd hi hi2
        go_enter Try.func55, Try.ntmps55
        go_wp2_with fail
        refine wp_loop_rounds 3 ?_
        rw [rounds_succ]
        go_wp2_with fail
        go_at_call 61
        refine HI.out.mono ?_
        rintro e w' ⟨rfl, rfl⟩
        go_wp2_with fail
        rw [rounds_succ]
        go_wp2_with fail
        go_at_call 61
        refine HI2.out.mono ?_
        rintro e w' ⟨rfl, rfl⟩
        go_wp2_with fail
        go_ret
        exact ⟨by rw [H.out]; rfl, rfl⟩
    | false =>
      rw [hi] at HI
      have H := Aside0.mk (show mayOf D [f, f2] = 1 by unfold mayOf; rw [if_neg (by rw [hd]; simp), if_neg (by simp [hi])])
      clear hd hi
      go_enter Try.func55, Try.ntmps55
      go_wp2_with fail
      refine wp_loop_rounds 3 ?_
      rw [rounds_succ]
      go_wp2_with (go_at_call 61; refine HI.out.mono ?_; rintro e w' ⟨rfl, rfl⟩)
      go_ret
      exact ⟨by rw [H.out]; rfl, rfl⟩
/-- A call is counted. -/
def tick (D : DS) : DS := if D.down = true then D else { D with armed := D.armed - 1 }
def endsB (D : DS) : Bool := !D.down && decide (D.armed = 1)
theorem endsF {w : World} {b : Nat} {D : DS} {qv kv : Value} (h : DAt w b D qv kv) (ha : D.armed ≤ 9223372036854775807) : Calls Try.prog 54 #[.pointer (some ⟨b, 0, none⟩)] w fun e w' => e = .returned (.bool (endsB D)) ∧ DAt w' b (tick D) qv kv ∧ Fr w w' b := by
  have hc := h.cdown
  have hA := h.carmed
  have hf := h.frozen 19
  have HH := Aside0.mk h
  clear h
  cases hd : D.down with
  | true =>
    rw [hd] at hc
    have H1 := Aside0.mk (show tick D = D by unfold tick; rw [if_pos hd])
    have H2 := Aside0.mk (show endsB D = false by unfold endsB; rw [hd]; rfl)
    clear hd
    go_enter Try.func54, Try.ntmps54
    go_wp2_with fail
    go_ret
    exact ⟨by rw [H2.out]; rfl, by rw [H1.out]; exact HH.out, Fr.refl _ _⟩
  | false =>
    rw [hd] at hc
    have H1 := Aside0.mk (show tick D = { D with armed := D.armed - 1 } by unfold tick; rw [if_neg (by rw [hd]; simp)])
    have H2 := Aside0.mk (show endsB D = decide (D.armed = 1) by unfold endsB; rw [hd]; rfl)
    clear hd
    generalize hn : D.armed = n at hA ha H1 H2
    by_cases h0 : n = 0
    · subst h0
      have H3 := Aside0.mk hn
      clear hn
      go_enter Try.func54, Try.ntmps54
      go_wp2_with fail
      go_ret
      refine ⟨by rw [H2.out]; rfl, ?_, Fr.refl _ _⟩
      rw [H1.out]
      have := HH.out
      rwa [show ({ D with armed := 0 - 1 } : DS) = D by cases D; simp at H3; simp [H3.out]]
    · have h0b : ((n : Int) == 0) = false := beq_eq_false_iff_ne.2 (by omega)
      have hp : 1 ≤ n := by omega
      obtain ⟨m, rfl⟩ : ∃ m, n = m + 1 := ⟨n - 1, by omega⟩
      have hw : ((m + 1 : Nat) : Int) - 1 = (m : Int) := by omega
      have hw2 : IntKind.i64.wrap (((m + 1 : Nat) : Int) - 1) = (m : Int) := by rw [hw]; exact i64wrap (by omega)
      have HS := Aside0.mk (HH.out.setArmed m)
      have H2b := Aside0.mk (show decide (m + 1 = 1) = ((m : Int) == 0) by rw [Bool.eq_iff_iff]; simp)
      have H1b := Aside0.mk (show ({ D with armed := m + 1 - 1 } : DS) = { D with armed := m } from rfl)
      have hmc : ((m + 1 : Nat) : Int) = (m : Int) + 1 := by omega
      rw [hmc] at hA h0b
      clear hn hw hw2 hmc h0
      go_enter Try.func54, Try.ntmps54
      go_wp2_with fail
      go_ret
      exact ⟨by rw [H2.out, H2b.out]; rfl, by rw [H1.out]; exact HS.out, Fr.ofSet HH.out HS.out⟩
end Go.Proofs.Ytbhlpnkccdcdiaa.Dk
