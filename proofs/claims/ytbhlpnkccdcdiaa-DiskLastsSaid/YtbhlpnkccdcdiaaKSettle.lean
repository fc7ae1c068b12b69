/- The disk's settle: pending appends of a file from an offset on are removed, one that reaches beyond it is shortened. -/
import Derived.Test.YtbhlpnkccdcdiaaKSimple
namespace Go.Proofs.Ytbhlpnkccdcdiaa.Dk
open Go.RowKit Go.Proofs.YtbhlpnkccdcdiaaW.PrintWords
set_option linter.unusedVariables false
set_option linter.unusedSimpArgs false

def goneP (f n : Int) (x : Pd) : Bool := (x.f == f) && decide (n ≤ x.a)
def cutP (f n : Int) (x : Pd) : Pd := if x.f = f then ⟨x.f, x.a, min x.n (n - x.a)⟩ else x
def settle (q : List Pd) (f n : Int) : List Pd := (q.filter fun x => !goneP f n x).map (cutP f n)
/-- The numbers of a queue are small. -/
def QOk (q : List Pd) : Prop := ∀ x ∈ q, (0 ≤ x.f ∧ x.f < 8) ∧ (0 ≤ x.a ∧ x.a ≤ 16777216) ∧ (0 ≤ x.n ∧ x.n ≤ 16777216)

theorem gone1 (x : Pd) (f n : Int) (a1 a2 : Addr) (W : World) (h1 : W.cell? a1 = some (.int .i64 f)) (h2 : W.cell? a2 = some (.int .i64 n)) :
    Calls Try.prog 79 #[.agg #[.int .i64 x.f, .int .i64 x.a, .int .i64 x.n], .pointer (some a1), .pointer (some a2)] W fun e w' => e = .returned (.bool (goneP f n x)) ∧ Below W.heap.size W w' := by
  have g1 := fun o => pw_cell_below ((Below.refl _ W).alloc (Nat.le_refl _) o) h1
  have g2 := fun o => pw_cell_below ((Below.refl _ W).alloc (Nat.le_refl _) o) h2
  clear h1 h2
  go_enter Try.func79, Try.ntmps79
  go_wp2_with fail
  all_goals
    go_ret
    exact ⟨by first | (simp [goneP, *]; done) | (simp [goneP, *]; intros; omega), (Below.refl _ W).alloc (Nat.le_refl _) _⟩

section
variable {w w1 : World} {b : Nat} {D D' : DS} {qv kv qv' kv' : Value}
/-- The queue is another one. -/
theorem DAt.setQ (h : DAt w b D qv kv) {v : Value} {q : List Pd} (hq : QAt (w.setCell ⟨b, 16, none⟩ v) v q) : DAt (w.setCell ⟨b, 16, none⟩ v) b { D with q := q } v kv where
  len := h.len
  blk := by
    have e : DCells { D with q := q } v kv = (DCells D qv kv).set 16 v := (tail_set h.len 0 v).symm
    rw [e, ← setCells_toArray]
    simp [World.setCell, Array.getElem?_modify, h.blk]
  que := hq
  kep := h.kep.setFar h.blk (by decide)
theorem DAt.exc (h : DAt w b D qv kv) {g : Nat} (hg : qv.ownBlock = some g) (hx : Exc g w w1) {q : List Pd} (hq : QAt w1 qv q) : DAt w1 b { D with q := q } qv kv where
  len := h.len
  blk := (hx.block b h.lt (fun e => h.qne (by rw [hg, e]))).trans h.blk
  que := hq
  kep := h.kep.move fun k cur hc => hx.block k (Array.getElem?_eq_some_iff.1 hc).1 (fun e => by
    subst e
    obtain ⟨cur', hc'⟩ := h.que.typed hg
    rw [hc] at hc'
    injection hc' with hc'
    injection hc' with _ ht
    exact absurd ht (by decide))
theorem Fr.ofExc (h : DAt w b D qv kv) {g : Nat} (hg : qv.ownBlock = some g) (hx : Exc g w w1) (h1 : DAt w1 b D' qv kv') : Fr w w1 b :=
  ⟨hx.os, hx.tape, hx.output, hx.size, fun k hk hb hn => hx.block k hk (fun e => hn ((qOwn_at h).2 (by rw [hg, e]))), fun k hk _ => (qOwn_at h).2 ((qOwn_at h1).1 hk)⟩
theorem DAt.excSet (h : DAt w b D qv kv) {g : Nat} (hg : qv.ownBlock = some g) (hx : Exc g w w1) {v : Value} {q : List Pd} (hv : v.ownBlock = some g) (hq : QAt w1 v q) : DAt (w1.setCell ⟨b, 16, none⟩ v) b { D with q := q } v kv ∧ Fr w (w1.setCell ⟨b, 16, none⟩ v) b := by
  have hgb : g ≠ b := fun e => h.qne (by rw [hg, e])
  have hb1 : w1.heap[b]? = some (.cells (DCells D qv kv).toArray 88 (0, 0)) := (hx.block b h.lt (Ne.symm hgb)).trans h.blk
  have hk1 : KAt w1 kv D.keep := h.kep.move fun k cur hc => hx.block k (Array.getElem?_eq_some_iff.1 hc).1 (fun e => by
    subst e
    obtain ⟨cur', hc'⟩ := h.que.typed hg
    rw [hc] at hc'
    injection hc' with hc'
    injection hc' with _ ht
    exact absurd ht (by decide))
  have hd : DAt (w1.setCell ⟨b, 16, none⟩ v) b { D with q := q } v kv := {
    len := h.len
    blk := by
      have e : DCells { D with q := q } v kv = (DCells D qv kv).set 16 v := (tail_set h.len 0 v).symm
      rw [e, ← setCells_toArray]
      simp [World.setCell, Array.getElem?_modify, hb1]
    que := hq.setFar (by rw [hv]; intro e; injection e with e; exact hgb e)
    kep := hk1.setFar hb1 (by decide) }
  refine ⟨hd, hx.os, hx.tape, hx.output, by have := hx.size; simpa using this, fun k hk h1 h2 => (heap_far w1 _ v h1).trans (hx.block k hk (fun e => h2 ((qOwn_at h).2 (by rw [hg, e])))), fun k hk _ => (qOwn_at h).2 ?_⟩
  rw [hg, ← hv]
  exact (qOwn_at hd).1 hk
/-- The queue's cell is written, by the same row, a new one or none. -/
theorem Fr.ofSetQ (h : DAt w b D qv kv) {v : Value} (hv : ∀ k, v.ownBlock = some k → qv.ownBlock = some k ∨ w.heap.size ≤ k) (h1 : DAt (w.setCell ⟨b, 16, none⟩ v) b D' v kv') : Fr w (w.setCell ⟨b, 16, none⟩ v) b :=
  ⟨rfl, rfl, rfl, by simp, fun k _ hk _ => heap_far w _ v hk, fun k hk hl => by
    rcases hv k ((qOwn_at h1).1 hk) with e | e
    · exact (qOwn_at h).2 e
    · omega⟩
end
theorem RowE.set1 {w : World} {g cap : Nat} {l : List Pd} (h : RowE w g cap l) {j : Nat} {x y : Pd} (hx : l[j]? = some x) {i : Nat} {u : Value} (hi : i < 3) (hy : cE y = (cE x).set i u) : RowE (w.setCell ⟨g, j * 3 + i, none⟩ u) g cap (l.set j y) := by
  obtain ⟨cur, hb, hs, hl, hm, hc⟩ := h
  have hj : j < l.length := (List.getElem?_eq_some_iff.1 hx).1
  refine ⟨cur.setIfInBounds (j * 3 + i) u, by simp [World.setCell, Array.getElem?_modify, hb], by simpa using hs, by rw [List.length_set]; exact hl, hm, fun k z hk p v hv => ?_⟩
  have hp3 : p < 3 := by have := (List.getElem?_eq_some_iff.1 hv).1; rwa [cE_len] at this
  by_cases e : j = k
  · subst e
    have hz : y = z := by simpa [hj] using hk
    subst hz
    rw [hy] at hv
    by_cases ep : i = p
    · subst ep
      have hv' : u = v := by
        rw [List.getElem?_set_self (by rw [cE_len]; exact hi)] at hv
        injection hv
      subst hv'
      have hlt : j * 3 + i < cur.size := by omega
      simp [hlt]
    · rw [List.getElem?_set_ne ep] at hv
      rw [Array.getElem?_setIfInBounds_ne (by omega)]
      exact hc j x hx p v hv
  · rw [List.getElem?_set_ne e] at hk
    rw [Array.getElem?_setIfInBounds_ne (by omega)]
    exact hc k z hk p v hv
theorem Exc.setCell (g o : Nat) (v : Value) (w : World) : Exc g w (w.setCell ⟨g, o, none⟩ v) := ⟨rfl, rfl, rfl, by simp, fun k _ hk => heap_far w _ v hk⟩

/-- The queue after i entries are looked at by settle's second loop. -/
def cutTo (f n : Int) (q : List Pd) (i : Nat) : List Pd := (q.take i).map (cutP f n) ++ q.drop i
theorem cutTo_at {f n : Int} {q : List Pd} {i : Nat} {x : Pd} (h : q[i]? = some x) : (cutTo f n q i)[i]? = some x := by
  have hi : i < q.length := (List.getElem?_eq_some_iff.1 h).1
  have hl : ((q.take i).map (cutP f n)).length = i := by rw [List.length_map, List.length_take]; omega
  unfold cutTo
  rw [List.getElem?_append_right (by omega), hl, List.getElem?_drop]
  simpa using h
theorem cutTo_set {f n : Int} {q : List Pd} {i : Nat} {x : Pd} (h : q[i]? = some x) : (cutTo f n q i).set i (cutP f n x) = cutTo f n q (i + 1) := by
  have hi : i < q.length := (List.getElem?_eq_some_iff.1 h).1
  have hl : ((q.take i).map (cutP f n)).length = i := by rw [List.length_map, List.length_take]; omega
  have e : q[i] = x := by rw [List.getElem?_eq_getElem hi] at h; injection h
  unfold cutTo
  rw [List.set_append_right i _ (by omega), hl, Nat.sub_self, List.drop_eq_getElem_cons hi, List.set_cons_zero, List.take_succ_eq_append_getElem hi, List.map_append, List.append_assoc, e]
  rfl
theorem cutTo_skip {f n : Int} {q : List Pd} {i : Nat} {x : Pd} (h : q[i]? = some x) (hx : x.f ≠ f) : cutTo f n q i = cutTo f n q (i + 1) := by
  have h1 := cutTo_set (f := f) (n := n) h
  have h2 : cutP f n x = x := by unfold cutP; rw [if_neg hx]
  rw [← h1, h2]
  exact (set_same _ _ _ (cutTo_at h)).symm
theorem cutTo_end (f n : Int) (q : List Pd) : cutTo f n q q.length = q.map (cutP f n) := by
  unfold cutTo
  rw [List.drop_length, List.append_nil, List.take_length]
theorem cutTo_len (f n : Int) (q : List Pd) (i : Nat) : (cutTo f n q i).length = q.length := by
  unfold cutTo
  rw [List.length_append, List.length_map, List.length_take, List.length_drop]
  omega

set_option maxRecDepth 100000 in
set_option maxHeartbeats 1000000 in
theorem settleF {w : World} {b : Nat} {D : DS} {qv kv : Value} (h : DAt w b D qv kv) (f n : Int) (hQ : QOk D.q) (hn : 0 ≤ n ∧ n ≤ 16777216) : Calls Try.prog 56 #[.pointer (some ⟨b, 0, none⟩), .int .i64 f, .int .i64 n] w fun e w' => e = .returned (.tuple #[]) ∧ ∃ qv', DAt w' b { D with q := settle D.q f n } qv' kv ∧ Fr w w' b := by
  have hb1 : Below w.heap.size w ((w.alloc (.cells #[.int .i64 f] 3)).alloc (.cells #[.int .i64 n] 3)) := ((Below.refl _ w).alloc (Nat.le_refl _) _).alloc (by simp) _
  have h1 := h.below hb1
  have HFr := Aside0.mk (Fr.ofBelow h hb1)
  have e79 : ∀ args w, (callFunc 79 args).run Try.prog w = .ok (.enter 79 args) w := enters_of Try.func79 (by kernel_rfl) rfl
  have E79 := Aside0.mk e79
  have hP : ∀ g, g < w.heap.size → PredB g ((w.alloc (.cells #[.int .i64 f] 3)).alloc (.cells #[.int .i64 n] 3)) 79 #[.pointer (some ⟨w.heap.size, 0, none⟩), .pointer (some ⟨w.heap.size + 1, 0, none⟩)] (goneP f n) := by
    intro g hg W x hW
    have c1 : W.cell? ⟨w.heap.size, 0, none⟩ = some (.int .i64 f) := (World.cell?_of_block (a := ⟨w.heap.size, 0, none⟩) (hW.block w.heap.size (by simp; omega) (by omega))).trans (by simp)
    have c2 : W.cell? ⟨w.heap.size + 1, 0, none⟩ = some (.int .i64 n) := (World.cell?_of_block (a := ⟨w.heap.size + 1, 0, none⟩) (hW.block (w.heap.size + 1) (by simp) (by omega))).trans (by simp)
    exact gone1 x f n _ _ W c1 c2
  have HP := Aside0.mk hP
  have HN := Aside0.mk hn
  have HB1 := Aside0.mk hb1
  clear e79 hP hb1
  have cq := h1.cq
  have fq := h1.frozen 16
  have HH := Aside0.mk h1
  have Hlt := Aside0.mk h.lt
  have HQ := Aside0.mk hQ
  rcases h.que with ⟨rfl, hq0⟩ | ⟨g, cap, rfl, hr⟩
  · have HS := Aside0.mk (h1.setQ (v := .slice none 0 0) (q := []) (.inl ⟨rfl, rfl⟩))
    have HF2 := Aside0.mk (Fr.ofSetQ h1 (v := .slice none 0 0) (fun k hk => by simp [Value.ownBlock] at hk) HS.out)
    have HE := Aside0.mk (show settle D.q f n = [] by rw [hq0]; rfl)
    have hcq := HS.out.cq
    clear h h1 hq0 hQ hn
    go_enter Try.func56, Try.ntmps56
    go_wp2_with (go_at_call 78; refine (delF_nil _ _).mono ?_; rintro e w' ⟨rfl, rfl⟩)
    refine wp_loop_rounds 1 ?_
    rw [rounds_succ]
    go_wp2_with fail
    go_end0
    exact ⟨rfl, _, by rw [HE.out]; exact HS.out, HFr.out.trans HF2.out⟩
  · have hg := hr.lt
    have hr1 := hr.below ((Below.refl w.heap.size w).trans HB1.out)
    have HD := Aside0.mk (delF E79.out (HP.out g hg) _ (Exc.refl g _) cap D.q hr1)
    have hgb : g ≠ b := fun e => h.qne (by rw [e]; rfl)
    have HGB := Aside0.mk hgb
    have HG := Aside0.mk hg
    have HEx := Aside0.mk (fun (w1 : World) (q : List Pd) (c : Nat) hx hq => DAt.excSet h1 (g := g) rfl (w1 := w1) (v := .slice (some ⟨g, 0, none⟩) q.length c) (q := q) hx rfl hq)
    have hcap := hr.below ((Below.refl w.heap.size w))
    clear h h1 hr hr1 hQ hn hg hgb hcap
    go_enter Try.func56, Try.ntmps56
    go_wp2_with fail
    go_at_call 78
    refine HD.out.mono ?_
    rintro e w2 ⟨rfl, hr2, hx2⟩
    have c2 : w2.cell? ⟨b, 16, none⟩ = some (.slice (some ⟨g, 0, none⟩) D.q.length cap) := (World.cell?_of_block (a := ⟨b, 16, none⟩) (hx2.block b (Nat.lt_of_lt_of_le Hlt.out HB1.out.size) (Ne.symm HGB.out))).trans cq
    have f2 : w2.frozen? ⟨b, 16, none⟩ = false := (World.frozen?_of_block (a := ⟨b, 16, none⟩) (hx2.block b (Nat.lt_of_lt_of_le Hlt.out HB1.out.size) (Ne.symm HGB.out))).trans fq
    have hle := hx2.size
    have b1 : w2.cell? ⟨w.heap.size, 0, none⟩ = some (.int .i64 f) := (World.cell?_of_block (a := ⟨w.heap.size, 0, none⟩) (hx2.block w.heap.size (by simp; omega) (by have := HG.out; omega))).trans (by simp)
    have b2 : w2.cell? ⟨w.heap.size + 1, 0, none⟩ = some (.int .i64 n) := (World.cell?_of_block (a := ⟨w.heap.size + 1, 0, none⟩) (hx2.block (w.heap.size + 1) (by simp) (by have := HG.out; omega))).trans (by simp)
    have HQ1 : Aside0 (∀ x ∈ D.q.filter (fun x => !goneP f n x), ((0 ≤ x.f ∧ x.f < 8) ∧ (0 ≤ x.a ∧ x.a ≤ 16777216) ∧ (0 ≤ x.n ∧ x.n ≤ 16777216)) ∧ (x.f = f → x.a < n)) := ⟨fun x hx => by
      have h1 := List.mem_filter.1 hx
      refine ⟨HQ.out x h1.1, fun e => ?_⟩
      have h2 := h1.2
      simp [goneP, e] at h2
      omega⟩
    have HSet : Aside0 (settle D.q f n = (D.q.filter fun x => !goneP f n x).map (cutP f n)) := ⟨rfl⟩
    generalize (D.q.filter fun x => !goneP f n x) = q at hr2 HQ1 HSet ⊢
    obtain ⟨hd2, hf2⟩ := HEx.out w2 q cap hx2 (.inr ⟨g, cap, rfl, hr2⟩)
    have HF2 := Aside0.mk (HFr.out.trans hf2)
    have hqb : ∃ cap', (w2.setCell ⟨b, 16, none⟩ (.slice (some ⟨g, 0, none⟩) q.length cap)).cell? ⟨b, 16, none⟩ = some (.slice (some ⟨g, 0, none⟩) q.length cap') := ⟨cap, hd2.cq⟩
    have hrq : RowE (w2.setCell ⟨b, 16, none⟩ (.slice (some ⟨g, 0, none⟩) q.length cap)) g cap q := hr2.move (heap_far w2 _ _ HGB.out)
    have hlq : q.length ≤ cap ∧ cap ≤ maxLen := by
      obtain ⟨_, _, _, h1, h2, _⟩ := hr2
      exact ⟨h1, h2⟩
    have hl2 : q.length ≤ 9223372036854775807 := by have := hlq.2; have := hlq.1; simp only [maxLen] at *; omega
    have HHd2 := Aside0.mk hd2
    have HRq := Aside0.mk hrq
    have Hsz : Aside0 (w2.heap.size = (w2.setCell ⟨b, 16, none⟩ (.slice (some ⟨g, 0, none⟩) q.length cap)).heap.size) := ⟨by simp⟩
    clear hr2 hx2 hf2 hqb hrq hlq HEx HP HD HFr HH cq fq hd2
    have d1 : (w2.setCell ⟨b, 16, none⟩ (.slice (some ⟨g, 0, none⟩) q.length cap)).cell? ⟨w.heap.size, 0, none⟩ = some (.int .i64 f) := (World.cell?_of_block (a := ⟨w.heap.size, 0, none⟩) (heap_far w2 _ _ (by have := Hlt.out; show w.heap.size ≠ b; omega))).trans b1
    have d2 : (w2.setCell ⟨b, 16, none⟩ (.slice (some ⟨g, 0, none⟩) q.length cap)).cell? ⟨w.heap.size + 1, 0, none⟩ = some (.int .i64 n) := (World.cell?_of_block (a := ⟨w.heap.size + 1, 0, none⟩) (heap_far w2 _ _ (by have := Hlt.out; show w.heap.size + 1 ≠ b; omega))).trans b2
    have d3 := HHd2.out.cq
    have hle0 : w.heap.size + 2 ≤ (w2.setCell ⟨b, 16, none⟩ (.slice (some ⟨g, 0, none⟩) q.length cap)).heap.size := by rw [← Hsz.out]; simpa using hle
    clear b1 b2 Hsz hle
    go_wp2_with fail
    clear c2 f2
    generalize (w2.setCell ⟨b, 16, none⟩ (.slice (some ⟨g, 0, none⟩) q.length cap)) = W0 at d1 d2 d3 hle0 HF2 HHd2 HRq ⊢
    have HD1 := Aside0.mk d1
    have HD2 := Aside0.mk d2
    have HD3 := Aside0.mk d3
    clear d1 d2 d3
    go_loopg [6, 7, 22] q.length (fun kq v6 v7 v22 wr => ∃ i : Nat, v22 = .int .i64 i ∧ Aside0 (i + kq = q.length) ∧ Aside0 (RowE wr g cap (cutTo f n q i)) ∧ Aside0 (Exc g W0 wr))
    case atStart => exact ⟨0, rfl, ⟨by omega⟩, HRq, ⟨Exc.refl _ _⟩⟩
    case round =>
      obtain ⟨i, rfl, HK, HRr, HX⟩ := hrel
      obtain ⟨ko, rfl⟩ : ∃ ko, ko = gk := ⟨_, rfl⟩
      by_cases ci : i < q.length
      · obtain ⟨x, hx⟩ : ∃ x, q[i]? = some x := ⟨_, List.getElem?_eq_getElem ci⟩
        obtain ⟨⟨⟨x1, x2⟩, ⟨x3, x4⟩, ⟨x5, x6⟩⟩, hxn⟩ := HQ1.out x (List.mem_of_getElem? hx)
        obtain ⟨q0, q1, q2⟩ := HRr.out.three (cutTo_at hx)
        have HXx := Aside0.mk hx
        clear hx
        have hsz := HX.out.size
        have hbx : Exc g W0 (wr.alloc (.cells #[.int .i64 x.f, .int .i64 x.a, .int .i64 x.n] 91)) := HX.out.trans (Exc.alloc g wr _)
        have far : ∀ (k o : Nat) (v : Value), k < W0.heap.size → k ≠ g → W0.cell? ⟨k, o, none⟩ = some v → (wr.alloc (.cells #[.int .i64 x.f, .int .i64 x.a, .int .i64 x.n] 91)).cell? ⟨k, o, none⟩ = some v := fun k o v h1 h2 h3 => (World.cell?_of_block (a := ⟨k, o, none⟩) (hbx.block k h1 h2)).trans h3
        have e1 := far w.heap.size 0 _ (by omega) (by have := HG.out; omega) HD1.out
        have e2 := far (w.heap.size + 1) 0 _ (by omega) (by have := HG.out; omega) HD2.out
        have e3 := far b 16 _ HHd2.out.lt (Ne.symm HGB.out) HD3.out
        have HRa := Aside0.mk (HRr.out.below ((Below.refl _ wr).alloc (Nat.le_refl _) (.cells #[.int .i64 x.f, .int .i64 x.a, .int .i64 x.n] 91)))
        have HBx := Aside0.mk hbx
        clear far hbx
        by_cases ef : x.f = f
        · have hnx := hxn ef
          have efb : (x.f == f) = true := by simp [ef]
          have HEF := Aside0.mk ef
          clear ef hxn
          have hwr : IntKind.i64.wrap (n - x.a) = n - x.a := i64wrap (by have := HN.out; omega)
          have z2 := HRa.out.frozen (i * 3 + 2)
          have hic : i ≤ cap := by
            obtain ⟨_, _, _, h1, _, _⟩ := HRa.out
            rw [cutTo_len] at h1
            omega
          go_wp2_with fail
          refine still_tail 14 (by kernel_rfl) (by kernel_rfl) ?_
          simp only [List.take_succ_cons, List.take_zero, List.drop_succ_cons, List.drop_zero]
          repeat still_step
          refine wpStill_nil ?_
          obtain ⟨_, _, p2⟩ := HRa.out.three (cutTo_at HXx.out)
          have HS := Aside0.mk (HRa.out.set1 (i := 2) (u := .int .i64 (min x.n (n - x.a))) (y := cutP f n x) (cutTo_at HXx.out) (by omega) (by unfold cutP; rw [if_pos HEF.out]; rfl))
          have HT := Aside0.mk (HBx.out.trans (Exc.setCell g (i * 3 + 2) (.int .i64 (min x.n (n - x.a))) _))
          go_wp2_with fail
          go_roundg (ko - 1)
          case measure => have := HK.out; omega
          case rel => exact ⟨i + 1, by go_num, ⟨by have := HK.out; omega⟩, ⟨by rw [← cutTo_set HXx.out]; exact HS.out.move rfl⟩, ⟨⟨HT.out.os, HT.out.tape, HT.out.output, HT.out.size, HT.out.block⟩⟩⟩
        · have efb : (x.f == f) = false := beq_eq_false_iff_ne.2 ef
          have HEF := Aside0.mk ef
          clear ef hxn
          go_wp2_with fail
          go_roundg (ko - 1)
          case measure => have := HK.out; omega
          case rel => exact ⟨i + 1, by go_num, ⟨by have := HK.out; omega⟩, ⟨by rw [← cutTo_skip HXx.out HEF.out]; exact HRa.out⟩, HBx⟩
      · have hend : i = q.length := by have := HK.out; omega
        subst hend
        go_wp2_with fail
        go_end0
        have hr := HRr.out
        rw [cutTo_end] at hr
        have hd := HHd2.out.exc (g := g) rfl HX.out (q := settle D.q f n) (.inr ⟨g, cap, by rw [HSet.out, List.length_map], by rw [HSet.out]; exact hr⟩)
        exact ⟨rfl, _, hd, HF2.out.trans (Fr.ofExc HHd2.out rfl HX.out hd)⟩
end Go.Proofs.Ytbhlpnkccdcdiaa.Dk
