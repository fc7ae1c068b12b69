/- The disk's Crash, walked. -/
import Derived.Test.YtbhlpnkccdcdiaaKCrash
namespace Go.Proofs.Ytbhlpnkccdcdiaa.Dk
open Go.RowKit Go.Proofs.YtbhlpnkccdcdiaaW.PrintWords Go.Lib
set_option linter.unusedVariables false
set_option linter.unusedSimpArgs false

theorem still_all {P : Program} {id : Nat} {Q : Exit → Act → World → Prop} {l : List Oper} {a : Act} {w : World} (hm : P.follows .mixedOrders = true) (hB : Region.lexB .any l.toArray = true)
    (h : wpStill P l.toArray w.drew (fun a' => Q .normal a' w.drew) l a) : (Code.region id l.toArray true).wp P Q a w := wp_region_still_lit hm hB h
/-- The kept lengths that a crash is handed. -/
def KArg (w : World) (b : Nat) (A : Option Addr) (keep : List Int) : Prop := (0 < keep.length → ∃ ad, A = some ad ∧ ad.block < w.heap.size ∧ ad.block ≠ b) ∧ Kd.C (Kd.int .i64) w A keep.length keep
/-- The first i files are laid into the builders. -/
def laid (fs : List Fl) (i : Nat) : List (List UInt8) := (List.range 8).map fun f => if f < i then (fs.getD f ⟨[], 0⟩).b.take (fs.getD f ⟨[], 0⟩).n else []
theorem laid_len (fs : List Fl) (i : Nat) : (laid fs i).length = 8 := by simp [laid]
theorem laid_at (fs : List Fl) {i : Nat} (hi : i < 8) : (laid fs i)[i]? = some [] := by simp [laid, hi]
theorem laid_set (fs : List Fl) {i : Nat} (hi : i < 8) : (laid fs i).set i ([] ++ ((fs.getD i ⟨[], 0⟩).b.take (fs.getD i ⟨[], 0⟩).n)) = laid fs (i + 1) := by
  apply List.ext_getElem?
  intro f
  by_cases e : i = f
  · subst e
    rw [List.getElem?_set_self (by rw [laid_len]; exact hi)]
    simp [laid, hi]
  · rw [List.getElem?_set_ne e]
    by_cases hf : f < 8
    · have : (f < i) = (f < i + 1) := by rw [eq_iff_iff]; omega
      simp [laid, hf, this]
    · rw [List.getElem?_eq_none (by rw [laid_len]; omega), List.getElem?_eq_none (by rw [laid_len]; omega)]
theorem laid_end {fs : List Fl} (h : fs.length = 8) : laid fs 8 = crash0 fs := by
  apply List.ext_getElem?
  intro f
  by_cases hf : f < 8
  · have hl : f < fs.length := by omega
    simp [laid, crash0, hf, List.getD_eq_getElem?_getD, List.getElem?_eq_getElem hl]
  · rw [List.getElem?_eq_none (by rw [laid_len]; omega), List.getElem?_eq_none (by simp [crash0]; omega)]
theorem extract_size (s : ByteArray) (a b : Nat) : (s.extract a b).size = (s.extract a b).data.toList.length := by
  rw [Array.length_toList]
  rfl
theorem extract_take (l : List UInt8) (n : Nat) : ((bs l).extract 0 n).data.toList = l.take n := by
  simp [bs, ByteArray.extract, ByteArray.copySlice]
theorem NAt.made (w : World) : NAt (w.alloc (.cells #[.pointer none, .slice none 0 0, .pointer none, .slice none 0 0, .pointer none, .slice none 0 0, .pointer none, .slice none 0 0, .pointer none, .slice none 0 0, .pointer none, .slice none 0 0, .pointer none, .slice none 0 0, .pointer none, .slice none 0 0] 97)) w.heap.size w.heap.size (List.replicate 8 []) (List.replicate 8 (.pointer none, .slice none 0 0)) where
  hB := Nat.le_refl _
  lenL := by simp
  lenP := by simp
  blk := (heap_alloc_new w _).trans rfl
  self := fun f p hp => by
    rw [List.getElem?_replicate] at hp
    split at hp
    · injection hp with hp
      rw [← hp]
      exact .inl rfl
    · cases hp
  own := fun f l p hl hp => by
    rw [List.getElem?_replicate] at hp hl
    split at hp
    · injection hp with hp
      rw [if_pos (by assumption)] at hl
      injection hl with hl
      rw [← hp, ← hl]
      exact ⟨⟨rfl, .inl ⟨rfl, rfl⟩⟩, fun _ => rfl⟩
    · cases hp
  dis := fun f f' p p' k _ hp _ hk => by
    rw [List.getElem?_replicate] at hp
    split at hp
    · injection hp with hp
      rw [← hp] at hk
      simp [Value.ownBlock] at hk
    · cases hp
theorem laid_zero (fs : List Fl) : laid fs 0 = List.replicate 8 [] := by
  apply List.ext_getElem?
  intro f
  by_cases hf : f < 8
  · rw [List.getElem?_replicate, if_pos hf]
    simp [laid, hf]
  · rw [List.getElem?_eq_none (by rw [laid_len]; omega), List.getElem?_eq_none (by simp; omega)]

theorem idx0 (D : DS) (w : World) : (Instr.index 85 (.agg #[.string (bs (D.fl 0).b), .int .i64 (D.fl 0).n, .string (bs (D.fl 1).b), .int .i64 (D.fl 1).n, .string (bs (D.fl 2).b), .int .i64 (D.fl 2).n, .string (bs (D.fl 3).b), .int .i64 (D.fl 3).n, .string (bs (D.fl 4).b), .int .i64 (D.fl 4).n, .string (bs (D.fl 5).b), .int .i64 (D.fl 5).n, .string (bs (D.fl 6).b), .int .i64 (D.fl 6).n, .string (bs (D.fl 7).b), .int .i64 (D.fl 7).n]) (.int .i64 ((0 : Nat) : Int))).run Try.prog w = .ok (.agg #[.string (bs (D.fl 0).b), .int .i64 (D.fl 0).n]) w := by kernel_rfl
theorem idx1 (D : DS) (w : World) : (Instr.index 85 (.agg #[.string (bs (D.fl 0).b), .int .i64 (D.fl 0).n, .string (bs (D.fl 1).b), .int .i64 (D.fl 1).n, .string (bs (D.fl 2).b), .int .i64 (D.fl 2).n, .string (bs (D.fl 3).b), .int .i64 (D.fl 3).n, .string (bs (D.fl 4).b), .int .i64 (D.fl 4).n, .string (bs (D.fl 5).b), .int .i64 (D.fl 5).n, .string (bs (D.fl 6).b), .int .i64 (D.fl 6).n, .string (bs (D.fl 7).b), .int .i64 (D.fl 7).n]) (.int .i64 ((1 : Nat) : Int))).run Try.prog w = .ok (.agg #[.string (bs (D.fl 1).b), .int .i64 (D.fl 1).n]) w := by kernel_rfl
theorem idx2 (D : DS) (w : World) : (Instr.index 85 (.agg #[.string (bs (D.fl 0).b), .int .i64 (D.fl 0).n, .string (bs (D.fl 1).b), .int .i64 (D.fl 1).n, .string (bs (D.fl 2).b), .int .i64 (D.fl 2).n, .string (bs (D.fl 3).b), .int .i64 (D.fl 3).n, .string (bs (D.fl 4).b), .int .i64 (D.fl 4).n, .string (bs (D.fl 5).b), .int .i64 (D.fl 5).n, .string (bs (D.fl 6).b), .int .i64 (D.fl 6).n, .string (bs (D.fl 7).b), .int .i64 (D.fl 7).n]) (.int .i64 ((2 : Nat) : Int))).run Try.prog w = .ok (.agg #[.string (bs (D.fl 2).b), .int .i64 (D.fl 2).n]) w := by kernel_rfl
theorem idx3 (D : DS) (w : World) : (Instr.index 85 (.agg #[.string (bs (D.fl 0).b), .int .i64 (D.fl 0).n, .string (bs (D.fl 1).b), .int .i64 (D.fl 1).n, .string (bs (D.fl 2).b), .int .i64 (D.fl 2).n, .string (bs (D.fl 3).b), .int .i64 (D.fl 3).n, .string (bs (D.fl 4).b), .int .i64 (D.fl 4).n, .string (bs (D.fl 5).b), .int .i64 (D.fl 5).n, .string (bs (D.fl 6).b), .int .i64 (D.fl 6).n, .string (bs (D.fl 7).b), .int .i64 (D.fl 7).n]) (.int .i64 ((3 : Nat) : Int))).run Try.prog w = .ok (.agg #[.string (bs (D.fl 3).b), .int .i64 (D.fl 3).n]) w := by kernel_rfl
theorem idx4 (D : DS) (w : World) : (Instr.index 85 (.agg #[.string (bs (D.fl 0).b), .int .i64 (D.fl 0).n, .string (bs (D.fl 1).b), .int .i64 (D.fl 1).n, .string (bs (D.fl 2).b), .int .i64 (D.fl 2).n, .string (bs (D.fl 3).b), .int .i64 (D.fl 3).n, .string (bs (D.fl 4).b), .int .i64 (D.fl 4).n, .string (bs (D.fl 5).b), .int .i64 (D.fl 5).n, .string (bs (D.fl 6).b), .int .i64 (D.fl 6).n, .string (bs (D.fl 7).b), .int .i64 (D.fl 7).n]) (.int .i64 ((4 : Nat) : Int))).run Try.prog w = .ok (.agg #[.string (bs (D.fl 4).b), .int .i64 (D.fl 4).n]) w := by kernel_rfl
theorem idx5 (D : DS) (w : World) : (Instr.index 85 (.agg #[.string (bs (D.fl 0).b), .int .i64 (D.fl 0).n, .string (bs (D.fl 1).b), .int .i64 (D.fl 1).n, .string (bs (D.fl 2).b), .int .i64 (D.fl 2).n, .string (bs (D.fl 3).b), .int .i64 (D.fl 3).n, .string (bs (D.fl 4).b), .int .i64 (D.fl 4).n, .string (bs (D.fl 5).b), .int .i64 (D.fl 5).n, .string (bs (D.fl 6).b), .int .i64 (D.fl 6).n, .string (bs (D.fl 7).b), .int .i64 (D.fl 7).n]) (.int .i64 ((5 : Nat) : Int))).run Try.prog w = .ok (.agg #[.string (bs (D.fl 5).b), .int .i64 (D.fl 5).n]) w := by kernel_rfl
theorem idx6 (D : DS) (w : World) : (Instr.index 85 (.agg #[.string (bs (D.fl 0).b), .int .i64 (D.fl 0).n, .string (bs (D.fl 1).b), .int .i64 (D.fl 1).n, .string (bs (D.fl 2).b), .int .i64 (D.fl 2).n, .string (bs (D.fl 3).b), .int .i64 (D.fl 3).n, .string (bs (D.fl 4).b), .int .i64 (D.fl 4).n, .string (bs (D.fl 5).b), .int .i64 (D.fl 5).n, .string (bs (D.fl 6).b), .int .i64 (D.fl 6).n, .string (bs (D.fl 7).b), .int .i64 (D.fl 7).n]) (.int .i64 ((6 : Nat) : Int))).run Try.prog w = .ok (.agg #[.string (bs (D.fl 6).b), .int .i64 (D.fl 6).n]) w := by kernel_rfl
theorem idx7 (D : DS) (w : World) : (Instr.index 85 (.agg #[.string (bs (D.fl 0).b), .int .i64 (D.fl 0).n, .string (bs (D.fl 1).b), .int .i64 (D.fl 1).n, .string (bs (D.fl 2).b), .int .i64 (D.fl 2).n, .string (bs (D.fl 3).b), .int .i64 (D.fl 3).n, .string (bs (D.fl 4).b), .int .i64 (D.fl 4).n, .string (bs (D.fl 5).b), .int .i64 (D.fl 5).n, .string (bs (D.fl 6).b), .int .i64 (D.fl 6).n, .string (bs (D.fl 7).b), .int .i64 (D.fl 7).n]) (.int .i64 ((7 : Nat) : Int))).run Try.prog w = .ok (.agg #[.string (bs (D.fl 7).b), .int .i64 (D.fl 7).n]) w := by kernel_rfl
theorem idx_files (D : DS) (i : Nat) (hi : i < 8) (w : World) : (Instr.index 85 (.agg #[.string (bs (D.fl 0).b), .int .i64 (D.fl 0).n, .string (bs (D.fl 1).b), .int .i64 (D.fl 1).n, .string (bs (D.fl 2).b), .int .i64 (D.fl 2).n, .string (bs (D.fl 3).b), .int .i64 (D.fl 3).n, .string (bs (D.fl 4).b), .int .i64 (D.fl 4).n, .string (bs (D.fl 5).b), .int .i64 (D.fl 5).n, .string (bs (D.fl 6).b), .int .i64 (D.fl 6).n, .string (bs (D.fl 7).b), .int .i64 (D.fl 7).n]) (.int .i64 i)).run Try.prog w = .ok (.agg #[.string (bs (D.fl i).b), .int .i64 (D.fl i).n]) w := by
  have : i = 0 ∨ i = 1 ∨ i = 2 ∨ i = 3 ∨ i = 4 ∨ i = 5 ∨ i = 6 ∨ i = 7 := by omega
  rcases this with rfl | rfl | rfl | rfl | rfl | rfl | rfl | rfl
  · exact idx0 D w
  · exact idx1 D w
  · exact idx2 D w
  · exact idx3 D w
  · exact idx4 D w
  · exact idx5 D w
  · exact idx6 D w
  · exact idx7 D w

theorem KAt.old {w : World} {v : Value} {l : List Int} (h : KAt w v l) : ∀ (ad : Addr) (n c : Nat), v = .slice (some ad) n c → 0 < n → ad.block < w.heap.size := by
  obtain ⟨A, c, rfl, hc, hb, _⟩ := h
  intro ad n c' e hn
  injection e with e1 e2 _
  subst e1 e2
  obtain ⟨ad', cur, e, hh⟩ := hb hn
  injection e with e
  subst e
  exact (Array.getElem?_eq_some_iff.1 hh).1
theorem KAt.moveB {w w1 : World} {v : Value} {l : List Int} {B0 : Nat} (h : KAt w v l) (hkb : ∀ (ad : Addr) (n c : Nat), v = .slice (some ad) n c → 0 < n → ad.block < B0) (hm : ∀ k, k < B0 → w1.heap[k]? = w.heap[k]?) : KAt w1 v l := by
  obtain ⟨A, c, rfl, hc, hb, h1, h2, h3⟩ := h
  refine ⟨A, c, rfl, hc, fun hp => ?_, h1, h2, fun hp => ?_⟩
  · obtain ⟨ad, cur, e, hh⟩ := hb hp
    subst e
    exact ⟨ad, cur, rfl, (hm _ (hkb ad _ _ rfl hp)).trans hh⟩
  · obtain ⟨ad', e', hcell⟩ := h3 hp
    subst e'
    refine ⟨ad', rfl, fun j p hj => ?_⟩
    obtain ⟨cs, hs, hK, hx⟩ := hcell j p hj
    refine ⟨cs, hs, hK, fun i u hu => ?_⟩
    rw [← hx i u hu]
    refine World.cell?_of_block ?_
    rw [add_block]
    exact hm _ (hkb ad' _ _ rfl hp)
/-- A disk whose blocks lie below B0, in a world that is the same there. -/
theorem DAt.moveB {w w1 w0 : World} {b : Nat} {D D0 : DS} {qv kv : Value} (h : DAt w b D qv kv) (h0 : DAt w0 b D0 qv kv) (hm : ∀ k, k < w0.heap.size → w1.heap[k]? = w.heap[k]?) : DAt w1 b D qv kv where
  len := h.len
  blk := (hm b h0.lt).trans h.blk
  que := h.que.move fun k hk => by
    obtain ⟨cur, hc⟩ := h0.que.typed hk
    exact hm k (Array.getElem?_eq_some_iff.1 hc).1
  kep := h.kep.moveB h0.kep.old hm
theorem Exc.below {g : Nat} {w w1 w2 : World} (h : Exc g w w1) (hb : Below w.heap.size w1 w2) : Exc g w w2 := ⟨hb.os.trans h.os, hb.tape.trans h.tape, hb.output.trans h.output, Nat.le_trans h.size hb.size, fun k hk hg => (hb.block k hk).trans (h.block k hk hg)⟩
theorem Exc.set {g o : Nat} {w w1 : World} {v : Value} (h : Exc g w w1) : Exc g w (w1.setCell ⟨g, o, none⟩ v) := ⟨h.os, h.tape, h.output, by have := h.size; simpa using this, fun k hk hg => (heap_far w1 _ v hg).trans (h.block k hk hg)⟩
theorem DAt.setFile {w : World} {b : Nat} {D : DS} {qv kv : Value} (h : DAt w b D qv kv) {f : Nat} (hf : f < 8) (l : List UInt8) : DAt ((w.setCell ⟨b, f * 2, none⟩ (.string (bs l))).setCell ⟨b, f * 2 + 1, none⟩ (.int .i64 (bs l).size)) b { D with fs := D.fs.set f ⟨l, l.length⟩ } qv kv := by
  have h2 := (h.setBytes hf l).setLasts hf (bs l).size
  have hl : f < D.fs.length := by rw [h.len]; exact hf
  have e : (({ D with fs := D.fs.set f ⟨l, (D.fl f).n⟩ } : DS).fl f).b = l := by
    unfold DS.fl
    rw [List.getD_eq_getElem?_getD, List.getElem?_set_self hl]
    rfl
  rw [e, bs_size] at h2
  rw [bs_size]
  simp only [List.set_set] at h2
  exact h2
/-- The files after i of them are written anew. -/
def newTo (L : List (List UInt8)) (fs : List Fl) (i : Nat) : List Fl := (L.map fun l => (⟨l, l.length⟩ : Fl)).take i ++ fs.drop i
theorem newTo_set {L : List (List UInt8)} {fs : List Fl} (hL : L.length = 8) (hf : fs.length = 8) {i : Nat} (hi : i < 8) {l : List UInt8} (hl : L[i]? = some l) : (newTo L fs i).set i ⟨l, l.length⟩ = newTo L fs (i + 1) := by
  have h1 : ((L.map fun l => (⟨l, l.length⟩ : Fl)).take i).length = i := by rw [List.length_take, List.length_map]; omega
  have e : L[i] = l := by rw [List.getElem?_eq_getElem (by omega)] at hl; injection hl
  unfold newTo
  rw [List.set_append_right i _ (by omega), h1, Nat.sub_self, List.drop_eq_getElem_cons (by omega : i < fs.length), List.set_cons_zero, List.take_succ_eq_append_getElem (by rw [List.length_map]; omega), List.append_assoc, List.getElem_map, e]
  rfl
theorem newTo_end {L : List (List UInt8)} {fs : List Fl} (hL : L.length = 8) (hf : fs.length = 8) : newTo L fs 8 = L.map fun l => (⟨l, l.length⟩ : Fl) := by
  unfold newTo
  rw [List.drop_of_length_le (by omega), List.append_nil, List.take_of_length_le (by rw [List.length_map]; omega)]
theorem newTo_zero (L : List (List UInt8)) (fs : List Fl) : newTo L fs 0 = fs := rfl
theorem pw_block_below {w w1 : World} {k : Nat} {o : Obj} (h : Below w.heap.size w w1) (hk : w.heap[k]? = some o) : w1.heap[k]? = some o := (h.block k (Array.getElem?_eq_some_iff.1 hk).1).trans hk
theorem QAt.form {w : World} {v : Value} {q : List Pd} (h : QAt w v q) : ∃ A c, v = .slice A q.length c ∧ (0 < q.length → ∃ g cap, A = some ⟨g, 0, none⟩ ∧ q.length ≤ cap ∧ RowE w g cap q) := by
  rcases h with ⟨rfl, rfl⟩ | ⟨g, cap, rfl, hr⟩
  · exact ⟨none, 0, rfl, fun h => by simp at h⟩
  · refine ⟨_, _, rfl, fun _ => ⟨g, cap, rfl, ?_, hr⟩⟩
    obtain ⟨_, _, _, h1, _⟩ := hr
    exact h1
theorem repeat_zero : ∀ n, Lib.repeatL [0] n = List.replicate n (0 : UInt8)
  | 0 => rfl
  | n + 1 => by rw [Lib.repeatL, repeat_zero n]; rfl
theorem extract_mid (l : List UInt8) (a n : Nat) : ((bs l).extract a (a + n)).data.toList = (l.drop a).take n := by
  simp only [bs, ByteArray.data_extract, Array.toList_extract, List.extract_eq_take_drop]
  rw [Nat.add_sub_cancel_left]

set_option maxRecDepth 100000 in
set_option maxHeartbeats 4000000 in
theorem crashF {w : World} {b : Nat} {D : DS} {qv kv : Value} (h : DAt w b D qv kv) (ok : DOk D) (A : Option Addr) (c : Nat) (keep : List Int) (hk : KArg w b A keep) :
    Calls Try.prog 18 #[.pointer (some ⟨b, 0, none⟩), .slice A keep.length c] w fun e w' => e = .returned (.tuple #[]) ∧ (∃ qv', DAt w' b (crashD D keep) qv' kv) ∧ Fr w w' b := by
  cases hd : D.down with
  | true =>
    have hc := h.cdown
    rw [hd] at hc
    have H1 := Aside0.mk (show crashD D keep = D by unfold crashD; rw [if_pos hd])
    have HH := Aside0.mk h
    clear h ok hk hd
    go_enter Try.func18, Try.ntmps18
    go_wp2_with fail
    refine bodyPost_ret (results_none rfl _ _ _) rfl ?_
    exact ⟨rfl, ⟨qv, by rw [H1.out]; exact HH.out⟩, Fr.refl _ _⟩
  | false =>
    have hc := h.cdown
    rw [hd] at hc
    have f18 := h.frozen 18
    have f19 := h.frozen 19
    have c19 := h.carmed
    have h1 := (h.setDown true).setArmed 0
    have HF1 := Aside0.mk ((Fr.ofSet h (h.setDown true)).trans (Fr.ofSet (h.setDown true) h1))
    have HH1 := Aside0.mk h1
    have HKA := Aside0.mk hk
    have HOK := Aside0.mk ok
    have HD := Aside0.mk hd
    have Hblt := Aside0.mk h.lt
    have hq := h.cq
    clear h1 h hk ok hd
    go_enter Try.func18, Try.ntmps18
    go_upto_region 3 with (fail)
    have hs1 : ((w.setCell ⟨b, 18, none⟩ (.bool true)).setCell ⟨b, 19, none⟩ (.int .i64 0)).heap.size = w.heap.size := by simp
    have HS1 := Aside0.mk hs1
    have hN := NAt.made ((w.setCell ⟨b, 18, none⟩ (.bool true)).setCell ⟨b, 19, none⟩ (.int .i64 0))
    rw [hs1] at hN
    have hka : KArg ((w.setCell ⟨b, 18, none⟩ (.bool true)).setCell ⟨b, 19, none⟩ (.int .i64 0)) b A keep := by
      obtain ⟨q1, q2, q3, q4⟩ := HKA.out
      refine ⟨fun hp => by rw [hs1]; exact q1 hp, q2, q3, fun hp => ?_⟩
      obtain ⟨ad, e, hlt, hne⟩ := q1 hp
      obtain ⟨ad', e', hcell⟩ := q4 hp
      rw [e] at e'
      injection e' with e'
      subst e'
      refine ⟨ad, e, fun j p hj => ?_⟩
      obtain ⟨cs, g1, g2, g3⟩ := hcell j p hj
      refine ⟨cs, g1, g2, fun i u hu => ?_⟩
      rw [← g3 i u hu]
      refine World.cell?_of_block ?_
      rw [add_block]
      exact (heap_far _ _ _ hne).trans (heap_far _ _ _ hne)
    have HKA1 := Aside0.mk hka
    have hb2 := (Below.refl _ ((w.setCell ⟨b, 18, none⟩ (.bool true)).setCell ⟨b, 19, none⟩ (.int .i64 0))).alloc (Nat.le_refl _) (.cells #[.pointer none, .slice none 0 0, .pointer none, .slice none 0 0, .pointer none, .slice none 0 0, .pointer none, .slice none 0 0, .pointer none, .slice none 0 0, .pointer none, .slice none 0 0, .pointer none, .slice none 0 0, .pointer none, .slice none 0 0] 97)
    have HN2 := Aside0.mk hN
    clear hc f18 f19 c19 hq hN hka HKA
    generalize ((w.setCell ⟨b, 18, none⟩ (.bool true)).setCell ⟨b, 19, none⟩ (.int .i64 0)) = w1 at *
    have hd2 := HH1.out.below hb2
    have HB2 := Aside0.mk hb2
    have HD2 := Aside0.mk hd2
    clear hb2
    generalize w1.alloc (.cells #[.pointer none, .slice none 0 0, .pointer none, .slice none 0 0, .pointer none, .slice none 0 0, .pointer none, .slice none 0 0, .pointer none, .slice none 0 0, .pointer none, .slice none 0 0, .pointer none, .slice none 0 0, .pointer none, .slice none 0 0] 97) = w2 at *
    have g0 : w2.cell? ⟨b, 0, none⟩ = some (.string (bs (D.fl 0).b)) := hd2.bytes (f := 0) (by omega)
    have g1 : w2.cell? ⟨b, 1, none⟩ = some (.int .i64 (D.fl 0).n) := hd2.lasts (f := 0) (by omega)
    have g2 : w2.cell? ⟨b, 2, none⟩ = some (.string (bs (D.fl 1).b)) := hd2.bytes (f := 1) (by omega)
    have g3 : w2.cell? ⟨b, 3, none⟩ = some (.int .i64 (D.fl 1).n) := hd2.lasts (f := 1) (by omega)
    have g4 : w2.cell? ⟨b, 4, none⟩ = some (.string (bs (D.fl 2).b)) := hd2.bytes (f := 2) (by omega)
    have g5 : w2.cell? ⟨b, 5, none⟩ = some (.int .i64 (D.fl 2).n) := hd2.lasts (f := 2) (by omega)
    have g6 : w2.cell? ⟨b, 6, none⟩ = some (.string (bs (D.fl 3).b)) := hd2.bytes (f := 3) (by omega)
    have g7 : w2.cell? ⟨b, 7, none⟩ = some (.int .i64 (D.fl 3).n) := hd2.lasts (f := 3) (by omega)
    have g8 : w2.cell? ⟨b, 8, none⟩ = some (.string (bs (D.fl 4).b)) := hd2.bytes (f := 4) (by omega)
    have g9 : w2.cell? ⟨b, 9, none⟩ = some (.int .i64 (D.fl 4).n) := hd2.lasts (f := 4) (by omega)
    have g10 : w2.cell? ⟨b, 10, none⟩ = some (.string (bs (D.fl 5).b)) := hd2.bytes (f := 5) (by omega)
    have g11 : w2.cell? ⟨b, 11, none⟩ = some (.int .i64 (D.fl 5).n) := hd2.lasts (f := 5) (by omega)
    have g12 : w2.cell? ⟨b, 12, none⟩ = some (.string (bs (D.fl 6).b)) := hd2.bytes (f := 6) (by omega)
    have g13 : w2.cell? ⟨b, 13, none⟩ = some (.int .i64 (D.fl 6).n) := hd2.lasts (f := 6) (by omega)
    have g14 : w2.cell? ⟨b, 14, none⟩ = some (.string (bs (D.fl 7).b)) := hd2.bytes (f := 7) (by omega)
    have g15 : w2.cell? ⟨b, 15, none⟩ = some (.int .i64 (D.fl 7).n) := hd2.lasts (f := 7) (by omega)
    clear hd2 hs1
    go_wp2_with fail
    clear g0 g1 g2 g3 g4 g5 g6 g7 g8 g9 g10 g11 g12 g13 g14 g15
    have HNL : Aside0 (NAt w2 w.heap.size w.heap.size (laid D.fs 0) (List.replicate 8 (.pointer none, .slice none 0 0))) := ⟨by rw [laid_zero]; exact HN2.out⟩
    have HBw : Aside0 (w.heap.size ≤ w2.heap.size) := ⟨by have := HB2.out.size; have := HS1.out; omega⟩
    clear HN2
    go_loopg [5, 6, 27] 8 (fun kq v5 v6 v27 wr => ∃ i : Nat, v27 = .int .i64 i ∧ Aside0 (i + kq = 8) ∧ Aside0 (∃ ps, NAt wr w.heap.size w.heap.size (laid D.fs i) ps) ∧ Aside0 (Below w.heap.size w2 wr))
    case atStart => exact ⟨0, rfl, ⟨by omega⟩, ⟨⟨_, HNL.out⟩⟩, ⟨Below.refl _ _⟩⟩
    case round =>
      obtain ⟨i, rfl, HK, HNr, HW⟩ := hrel
      obtain ⟨ko, rfl⟩ : ∃ ko, ko = gk := ⟨_, rfl⟩
      by_cases ci : i < 8
      · have HI := fun w => idx_files D i ci w
        have HFl := Aside0.mk (HOK.out.flAt ci)
        have hn1 := HFl.out.1
        have hn2 : (D.fl i).n ≤ 9223372036854775807 := by have := HFl.out; omega
        have hn3 : (D.fl i).n ≤ (bs (D.fl i).b).size := by rw [bs_size]; exact hn1
        clear hn1
        go_wp2_with fail
        refine still_tail 7 (by kernel_rfl) (by kernel_rfl) ?_
        simp only [List.take_succ_cons, List.take_zero, List.drop_succ_cons, List.drop_zero]
        repeat still_step
        refine wpStill_nil ?_
        go_wp2_with fail
        obtain ⟨ps, hN⟩ := HNr.out
        have hbq := ((Below.refl _ wr).alloc (Nat.le_refl _) (.cells #[.string (bs (D.fl i).b), .int .i64 (D.fl i).n] 84)).drew
        have HNq := Aside0.mk (hN.below hbq)
        have HBq := Aside0.mk (HW.out.trans (hbq.mono (Nat.le_trans HBw.out HW.out.size)))
        have hlen : ([] : List UInt8).length + ((bs (D.fl i).b).extract 0 (D.fl i).n).size ≤ 140737488355328 := by
          rw [extract_size, extract_take, List.length_take]
          have := HFl.out
          simp
          omega
        have HLen := Aside0.mk hlen
        clear hN hbq hlen
        go_at_call 57
        refine (wsF HNq.out (by have := HW.out.size; have := HBw.out; simp; omega) ci (laid_at D.fs ci) _ HLen.out).mono ?_
        rintro e w3 ⟨rfl, hN3, hb3, _⟩
        rw [extract_take] at hN3
        have HN3 : Aside0 (∃ ps', NAt w3 w.heap.size w.heap.size (laid D.fs (i + 1)) ps') := ⟨by rw [← laid_set D.fs ci]; exact hN3⟩
        have HB3 := Aside0.mk (HBq.out.trans hb3)
        clear hN3 hb3 HI hn2 hn3
        go_wp2_with fail
        go_roundg (ko - 1)
        case measure => have := HK.out; omega
        case rel => exact ⟨i + 1, by go_num, ⟨by have := HK.out; omega⟩, HN3, HB3⟩
      · have hend : i = 8 := by have := HK.out; omega
        subst hend
        obtain ⟨wo, rfl⟩ : ∃ wo, wo = wr := ⟨_, rfl⟩
        have HBo := Aside0.mk (HB2.out.trans (show Below w1.heap.size w2 wo from by rw [HS1.out]; exact HW.out))
        have hdo := HH1.out.below HBo.out
        obtain ⟨Aq, cq, hqv, hqr⟩ := hdo.que.form
        subst hqv
        have hcq := hdo.cq
        have HDo := Aside0.mk hdo
        have HQr := Aside0.mk hqr
        have hql : D.q.length ≤ 9223372036854775807 := by
          by_cases h0 : 0 < D.q.length
          · obtain ⟨g, cap, _, h1, _, _, _, _, h2, _⟩ := hqr h0
            simp only [maxLen] at h2
            have h3 : D.q.length ≤ cap := h1
            omega
          · omega
        have HNo : Aside0 (∃ ps, NAt wo w.heap.size w.heap.size (crL D.fs keep D.q 0) ps) := ⟨by rw [crL, ← laid_end HOK.out.len]; exact HNr.out⟩
        have HBs : Aside0 (w.heap.size ≤ wo.heap.size) := ⟨Nat.le_trans HBw.out HW.out.size⟩
        clear hdo hqr HNr HNL HK HB2 HW HBw HD2
        go_wp2_with fail
        clear hcq
        go_loopg [7, 8, 9, 10, 45] D.q.length (fun kq v7 v8 v9 v10 v45 wr => ∃ i : Nat, v45 = .int .i64 i ∧ Aside0 (i + kq = D.q.length) ∧ Aside0 (∃ ps, NAt wr w.heap.size w.heap.size (crL D.fs keep D.q i) ps) ∧ Aside0 (Below w.heap.size wo wr))
        case atStart => exact ⟨0, rfl, ⟨by omega⟩, HNo, ⟨Below.refl _ _⟩⟩
        case round =>
          obtain ⟨i, rfl, HK, HNr, HW⟩ := hrel
          obtain ⟨ko, rfl⟩ : ∃ ko, ko = gk := ⟨_, rfl⟩
          by_cases ci : i < D.q.length
          · obtain ⟨x, hx⟩ : ∃ x, D.q[i]? = some x := ⟨_, List.getElem?_eq_getElem ci⟩
            obtain ⟨g, cap, hA, hcap, hr0⟩ := HQr.out (by omega)
            subst hA
            have hic : i ≤ cap := by have : D.q.length ≤ cap := hcap; omega
            have HBr := Aside0.mk (HBo.out.trans (show Below w1.heap.size wo wr from by rw [HS1.out]; exact HW.out))
            have HDr := Aside0.mk (HH1.out.below HBr.out)
            have hfit := (crL_fits HOK.out keep i).2 i x (Nat.le_refl _) hx
            have hmax := (crL_fits HOK.out keep i).1
            obtain ⟨⟨x1, x2⟩, x3, x4, x5, x6⟩ := HOK.out.qin x (List.mem_of_getElem? hx)
            have hg0 : g < w.heap.size := by
              obtain ⟨cur1, hc1⟩ := HH1.out.que.typed (k := g) rfl
              rw [← HS1.out]
              exact (Array.getElem?_eq_some_iff.1 hc1).1
            have hrr : RowE wr g cap D.q := hr0.move (HW.out.block g hg0)
            obtain ⟨q0, q1, q2⟩ := hrr.three hx
            have HX := Aside0.mk hx
            obtain ⟨xf, xa, xn⟩ := x
            obtain ⟨f, rfl⟩ : ∃ f : Nat, xf = f := ⟨xf.toNat, by simp at x1; omega⟩
            obtain ⟨a, rfl⟩ : ∃ a : Nat, xa = a := ⟨xa.toNat, by simp at x3; omega⟩
            obtain ⟨m, rfl⟩ : ∃ m : Nat, xn = m := ⟨xn.toNat, by simp at x4; omega⟩
            simp only [Int.toNat_natCast] at hfit x5 x6 x2
            have hf8 : f < 8 := by omega
            have HFl := Aside0.mk (HOK.out.flAt hf8)
            have HFit := Aside0.mk hfit
            have HM := Aside0.mk (hmax f hf8)
            have HAM := Aside0.mk x5
            have ha24 : a ≤ 16777216 := by have := HFl.out; omega
            have hm24 : m ≤ 16777216 := by have := HFl.out; omega
            clear hx hfit hmax x1 x2 x3 x4 x5 x6 hrr hr0 hcap
            by_cases hk : i < keep.length
            · have hkb : decide (i < keep.length) = true := decide_eq_true hk
              obtain ⟨adk, hA2, _, _⟩ := HKA1.out.1 (by omega)
              subst hA2
              go_wp2_with fail
              have hba := (Below.refl _ wr).alloc (Nat.le_refl _) (.cells #[.int .i64 f, .int .i64 a, .int .i64 m] 91)
              have hxb : (wr.alloc (.cells #[.int .i64 f, .int .i64 a, .int .i64 m] 91)).heap[wr.heap.size]? = some (.cells #[.int .i64 f, .int .i64 a, .int .i64 m] 91 (0, 0)) := heap_alloc_new wr _
              have HXB := Aside0.mk hxb
              have HWq := Aside0.mk (HW.out.trans (hba.mono (Nat.le_trans HBs.out HW.out.size)))
              have HNq : Aside0 (∃ ps, NAt (wr.alloc (.cells #[.int .i64 f, .int .i64 a, .int .i64 m] 91)) w.heap.size w.heap.size (crL D.fs keep D.q i) ps) := ⟨by
                obtain ⟨ps, hN⟩ := HNr.out
                exact ⟨ps, hN.below hba⟩⟩
              have hxs : wr.heap.size ≠ w.heap.size := by
                obtain ⟨ps, hN⟩ := HNr.out
                have := hN.lt
                omega
              have HXS := Aside0.mk hxs
              clear hba hxb hxs q0 q1 q2
              generalize wr.alloc (.cells #[.int .i64 f, .int .i64 a, .int .i64 m] 91) = wq at *
              generalize wr.heap.size = xb at *
              have HBq := Aside0.mk (HBo.out.trans (show Below w1.heap.size wo wq from by rw [HS1.out]; exact HWq.out))
              have p2 : wq.cell? ⟨xb, 2, none⟩ = some (.int .i64 m) := by simp [World.cell?, HXB.out]
              have p1 : wq.cell? ⟨xb, 1, none⟩ = some (.int .i64 a) := by simp [World.cell?, HXB.out]
              have p0 : wq.cell? ⟨xb, 0, none⟩ = some (.int .i64 f) := by simp [World.cell?, HXB.out]
              obtain ⟨ad', e, ck⟩ := Kd.at_int (Kd.C_below HKA1.out.2 HBq.out) (i : Int) (by omega) (by omega)
              obtain rfl : adk = ad' := by injection e
              have hkk : keptN keep i m = min (max (rd keep (i : Int)) 0) m := by unfold keptN; rw [if_pos hk]; rfl
              have hkbd := keptN_bound (keep := keep) (i := i) (n := (m : Int)) (by omega)
              rw [hkk] at hkbd
              have HKK := Aside0.mk hkk
              simp only [Int.toNat_natCast] at ck
              clear hkk e
              generalize rd keep (i : Int) = kk at ck HKK hkbd
              refine still_all (by kernel_rfl) (by kernel_rfl) ?_
              repeat still_step
              refine wpStill_nil ?_
              generalize min (max kk 0) (m : Int) = n at HKK hkbd ⊢
              obtain ⟨n, rfl⟩ : ∃ n' : Nat, n = n' := ⟨n.toNat, by omega⟩
              clear ck
              by_cases hz : n = 0
              · subst hz
                go_wp2_with fail
                go_roundg (ko - 1)
                case measure => have := HK.out; omega
                case rel => exact ⟨i + 1, by go_num, ⟨by have := HK.out; omega⟩, ⟨by
                  obtain ⟨ps, hN⟩ := HNq.out
                  refine ⟨ps, ?_⟩
                  rw [crL, HX.out]
                  have h0 : keptN keep i m = 0 := HKK.out
                  simp only [crashStep, h0, if_true]
                  exact hN.move fun _ _ _ => rfl⟩, ⟨HWq.out.drew⟩⟩
              · have hzb : ((n : Int) == 0) = false := beq_eq_false_iff_ne.2 (by omega)
                have hnm : n ≤ m := by omega
                obtain ⟨l, hl⟩ : ∃ l, (crL D.fs keep D.q i)[f]? = some l := ⟨_, List.getElem?_eq_getElem (by rw [crL_len, HOK.out.len]; exact hf8)⟩
                have hlg : (crL D.fs keep D.q i).getD f [] = l := by rw [List.getD_eq_getElem?_getD, hl]; rfl
                have HLG := Aside0.mk hlg
                have HL := Aside0.mk hl
                have hla : l.length ≤ a := by have := HFit.out; rw [hlg] at this; omega
                have HZ := Aside0.mk hz
                have hsub : IntKind.i64.wrap ((a : Int) - (l.length : Int)) = ((a - l.length : Nat) : Int) := by rw [i64wrap (by omega)]; omega
                clear hlg hl hz
                go_wp2_with fail
                obtain ⟨ps, hN⟩ := HNq.out
                have HNp := Aside0.mk hN
                have HR4 : Aside0 ((a - l.length : Nat) ≤ 9223372036854775807 ∧ (ByteArray.mk #[0]).size * (a - l.length) ≤ 140737488355328) := ⟨by
                  have : (ByteArray.mk #[0]).size = 1 := rfl
                  rw [this]
                  omega⟩
                have HSz := Aside0.mk (Nat.le_trans HBs.out HWq.out.size)
                have hlen5 : Aside0 (l.length + (bs (List.replicate (a - l.length) 0)).size ≤ 140737488355328) := ⟨by rw [bs_size, List.length_replicate]; omega⟩
                have hrep : Aside0 ((⟨(Lib.repeatL (ByteArray.mk #[0]).data.toList (a - l.length)).toArray⟩ : ByteArray) = bs (List.replicate (a - l.length) 0)) := ⟨by
                  show bs (Lib.repeatL [0] (a - l.length)) = _
                  rw [repeat_zero]⟩
                clear hN
                go_region_held3 (fun w' => w'.cell? ⟨xb, 1, none⟩ = some (.int .i64 a)) (first | exact p1 | exact pw_cell_below hb4 p1 | exact (hk5.cell (pw_block_below hb4 HXB.out) (by decide) HXS.out).trans (pw_cell_below hb4 p1))
                  (first
                    | (go_at_call 59; refine (lenF (by exact HNp.out.move fun _ _ _ => rfl) hf8 HL.out).mono ?_; rintro e w' ⟨rfl, rfl⟩)
                    | (go_at_call 58; refine (Try.strings_Repeat (ByteArray.mk #[0]) (a - l.length) _ HR4.out.1 HR4.out.2).mono ?_; rintro e w4 ⟨rfl, hb4⟩; rw [hrep.out])
                    | (go_at_call 57; refine (wsF (by exact (HNp.out.move (w1 := wq.drew.drew) fun _ _ _ => rfl).below hb4) (Nat.le_trans HSz.out hb4.size) hf8 HL.out _ hlen5.out).mono ?_; rintro e w5 ⟨rfl, hN5, hb5, hk5⟩; rw [bs_toList] at hN5))
                have HW5 := Aside0.mk ((HWq.out.trans ((show Below wq.heap.size wq w4 from ((Below.refl wq.heap.size wq).drew.drew).trans (show Below wq.heap.size wq.drew.drew w4 from hb4)).mono HSz.out)).trans hb5)
                have HB5 := Aside0.mk (HBo.out.trans (show Below w1.heap.size wo w5 from by rw [HS1.out]; exact HW5.out))
                have hd5 := HH1.out.below HB5.out
                have hxb5 : w5.heap[xb]? = some (.cells #[.int .i64 f, .int .i64 a, .int .i64 m] 91 (0, 0)) := (hk5 xb _ _ _ (pw_block_below hb4 HXB.out) (by decide) HXS.out).trans (pw_block_below hb4 HXB.out)
                have HXB5 := Aside0.mk hxb5
                have HN5 := Aside0.mk hN5
                have HS5 : Aside0 (w.heap.size ≤ w5.heap.size) := ⟨Nat.le_trans HBs.out HW5.out.size⟩
                have r0 : w5.cell? ⟨xb, 0, none⟩ = some (.int .i64 f) := by simp [World.cell?, hxb5]
                have r1 : w5.cell? ⟨xb, 1, none⟩ = some (.int .i64 a) := by simp [World.cell?, hxb5]
                have rb : w5.cell? ⟨b, f * 2, none⟩ = some (.string (bs (D.fl f).b)) := hd5.bytes hf8
                have hsz : (bs (D.fl f).b).size = (D.fl f).b.length := bs_size _
                have hadd : IntKind.i64.wrap ((a : Int) + (n : Int)) = (a : Int) + (n : Int) := i64wrap (by omega)
                have han : (a : Int) + (n : Int) ≤ ((bs (D.fl f).b).size : Int) := by rw [hsz]; have := HAM.out; omega
                have han2 : a + n ≤ (bs (D.fl f).b).size := by rw [hsz]; have := HAM.out; omega
                have hat : ((a : Int) + (n : Int)).toNat = a + n := by omega
                have haa : (a : Int) ≤ (a : Int) + (n : Int) := by omega
                have han0 : (0 : Int) ≤ (a : Int) + (n : Int) := by omega
                have ha0 : (0 : Int) ≤ (a : Int) := by omega
                have hf0 : (0 : Int) ≤ (f : Int) := by omega
                have hf8i : (f : Int) < 8 := by omega
                have hl5 : ((crL D.fs keep D.q i).set f (l ++ List.replicate (a - l.length) 0))[f]? = some (l ++ List.replicate (a - l.length) 0) := List.getElem?_set_self (List.getElem?_eq_some_iff.1 HL.out).1
                have HL5 := Aside0.mk hl5
                have hlen6 : Aside0 ((l ++ List.replicate (a - l.length) 0).length + ((bs (D.fl f).b).extract a (a + n)).size ≤ 140737488355328) := ⟨by
                  rw [extract_size, extract_mid, List.length_take, List.length_append, List.length_replicate]
                  omega⟩
                clear hb4 hb5 hk5 hN5 hd5 hxb5 hsz hl5 p0 p1 p2 hsub HR4 hrep hlen5
                go_wp2_with fail
                go_region_held3 (fun w' => w'.cell? ⟨xb, 0, none⟩ = some (.int .i64 f) ∧ w'.cell? ⟨xb, 1, none⟩ = some (.int .i64 a) ∧ w'.cell? ⟨b, f * 2, none⟩ = some (.string (bs (D.fl f).b))) (first | exact ⟨r0, r1, rb⟩ | exact hS6)
                  (first
                    | (go_at_call 57; refine (wsF (w := w5.drew) (HN5.out.choose_spec.move fun _ _ _ => rfl) HS5.out hf8 HL5.out _ hlen6.out).mono ?_; rintro e w6 ⟨rfl, hN6, hb6, hk6⟩; (have hS6 : w6.cell? ⟨xb, 0, none⟩ = some (.int .i64 f) ∧ w6.cell? ⟨xb, 1, none⟩ = some (.int .i64 a) ∧ w6.cell? ⟨b, f * 2, none⟩ = some (.string (bs (D.fl f).b)) := (by
                        have e1 := hk6 xb _ _ _ HXB5.out (by decide) HXS.out
                        have e2 : w6.heap[b]? = w5.heap[b]? := hb6.block b Hblt.out
                        exact ⟨(World.cell?_of_block (a := ⟨xb, 0, none⟩) e1).trans r0, (World.cell?_of_block (a := ⟨xb, 1, none⟩) e1).trans r1, (World.cell?_of_block (a := ⟨b, f * 2, none⟩) e2).trans rb⟩))))
                rw [extract_mid] at hN6
                have HN6 : Aside0 (∃ ps', NAt w6 w.heap.size w.heap.size (crL D.fs keep D.q (i + 1)) ps') := ⟨by
                  obtain ⟨ps', h6⟩ := hN6
                  refine ⟨ps', ?_⟩
                  rw [crL, HX.out]
                  have h0 : keptN keep i m ≠ 0 := by have h1 : keptN keep i m = n := HKK.out; rw [h1]; have := HZ.out; omega
                  have h1 : (keptN keep i m).toNat = n := by have h1 : keptN keep i m = n := HKK.out; rw [h1]; rfl
                  simp only [crashStep, if_neg h0, Int.toNat_natCast, h1, HLG.out]
                  rw [List.set_set] at h6
                  exact h6⟩
                have HW6 := Aside0.mk (HW5.out.trans (show Below w.heap.size w5 w6 from (Below.refl _ w5).drew.trans hb6))
                clear hN6 hb6 hk6 hS6 r0 r1 rb hadd han haa han2 hat han0 ha0 hf0 hf8i
                go_wp2_with fail
                go_roundg (ko - 1)
                case measure => have := HK.out; omega
                case rel => exact ⟨i + 1, by go_num, ⟨by have := HK.out; omega⟩, HN6, HW6⟩
            · have hkb : decide (i < keep.length) = false := decide_eq_false hk
              have H0 : Aside0 (keptN keep i m = 0) := ⟨by unfold keptN; rw [if_neg hk]⟩
              go_wp2_with fail
              go_roundg (ko - 1)
              case measure => have := HK.out; omega
              case rel => exact ⟨i + 1, by go_num, ⟨by have := HK.out; omega⟩, ⟨by
                obtain ⟨ps, hN⟩ := HNr.out
                refine ⟨ps, ?_⟩
                rw [crL, HX.out]
                simp only [crashStep, H0.out, if_true]
                exact hN.below ((Below.refl _ wr).alloc (Nat.le_refl _) _)⟩, ⟨HW.out.trans ((Below.refl _ wr).alloc (Nat.le_trans HBs.out HW.out.size) _)⟩⟩
          · have hend : i = D.q.length := by have := HK.out; omega
            subst hend
            obtain ⟨w7, rfl⟩ : ∃ w7, w7 = wr := ⟨_, rfl⟩
            have HB7 := Aside0.mk (HBo.out.trans (show Below w1.heap.size wo w7 from by rw [HS1.out]; exact HW.out))
            have hlenL : (crL D.fs keep D.q D.q.length).length = 8 := by rw [crL_len, HOK.out.len]
            have HLL := Aside0.mk hlenL
            have HLm : Aside0 (∀ (f : Nat) (l : List UInt8), (crL D.fs keep D.q D.q.length)[f]? = some l → l.length ≤ 140737488355328) := ⟨fun f l hl => by
              have hf : f < 8 := by have := (List.getElem?_eq_some_iff.1 hl).1; omega
              have := (crL_fits HOK.out keep D.q.length).1 f hf
              rw [List.getD_eq_getElem?_getD, hl] at this
              simp only [Option.getD_some] at this
              omega⟩
            have HE : Aside0 (crashD D keep = { D with fs := (crL D.fs keep D.q D.q.length).map (fun l => (⟨l, l.length⟩ : Fl)), q := [], down := true, armed := 0 }) := ⟨by
              unfold crashD
              rw [if_neg (by rw [HD.out]; simp), crL_end]⟩
            have HN7 := HNr
            generalize crL D.fs keep D.q D.q.length = L at HLL HLm HE HN7
            have HD7 : Aside0 (DAt w7 b { D with fs := newTo L D.fs 0, q := D.q, down := true, armed := 0 } (.slice Aq D.q.length cq) kv) := ⟨by rw [newTo_zero]; exact HH1.out.below HB7.out⟩
            have HX7 := Aside0.mk (Exc.ofBelow (g := b) HB7.out)
            clear hlenL HNr HK HW HDo HQr HBo HNo HBs HKA1
            go_wp2_with fail
            go_loopg [11, 12, 93] 8 (fun kq v11 v12 v93 wr => ∃ i : Nat, v93 = .int .i64 i ∧ Aside0 (i + kq = 8) ∧ Aside0 (∃ ps, NAt wr w.heap.size w.heap.size L ps) ∧ Aside0 (DAt wr b { D with fs := newTo L D.fs i, q := D.q, down := true, armed := 0 } (.slice Aq D.q.length cq) kv) ∧ Aside0 (Exc b w1 wr))
            case atStart => exact ⟨0, rfl, ⟨by omega⟩, HN7, HD7, HX7⟩
            case round =>
              obtain ⟨i, rfl, HK, HNr, HDr, HXr⟩ := hrel
              obtain ⟨ko, rfl⟩ : ∃ ko, ko = gk := ⟨_, rfl⟩
              by_cases ci : i < 8
              · obtain ⟨l, hl⟩ : ∃ l, L[i]? = some l := ⟨_, List.getElem?_eq_getElem (by rw [HLL.out]; exact ci)⟩
                have HL := Aside0.mk hl
                have hii : (i : Int) < 8 := by omega
                clear hl
                go_wp2_with fail
                go_at_call 60
                refine (strF HNr.out.choose_spec ci HL.out (HLm.out i l HL.out)).mono ?_
                rintro e w8 ⟨rfl, hN8, hb8⟩
                rw [show (⟨l.toArray⟩ : ByteArray) = bs l from rfl]
                have hd8 := HDr.out.moveB HH1.out (fun k hk => hb8.block k (by rw [← HS1.out]; exact hk))
                have HX8 := Aside0.mk (HXr.out.below (show Below w1.heap.size wr w8 from by rw [HS1.out]; exact hb8))
                have k0 := hd8.bytes ci
                have k1 := hd8.lasts ci
                have z0 := hd8.frozen (i * 2)
                have z1 := hd8.frozen (i * 2 + 1)
                have HDs := Aside0.mk (hd8.setFile ci l)
                have HN8 := Aside0.mk hN8
                clear hN8 hb8 hd8
                go_wp2_with fail
                go_roundg (ko - 1)
                case measure => have := HK.out; omega
                case rel => exact ⟨i + 1, by go_num, ⟨by have := HK.out; omega⟩, ⟨_, HN8.out.move fun k hk _ => (heap_far _ _ _ (by have := Hblt.out; show k ≠ b; omega)).trans (heap_far _ _ _ (by have := Hblt.out; show k ≠ b; omega))⟩, ⟨by
                  rw [← newTo_set HLL.out HOK.out.len ci HL.out]
                  exact HDs.out⟩, ⟨HX8.out.set.set⟩⟩
              · have hend : i = 8 := by have := HK.out; omega
                subst hend
                have hdr := HDr.out
                have cq8 := hdr.cq
                have fq8 := hdr.frozen 16
                have hds := hdr.setQ (v := .slice none 0 0) (q := []) (.inl ⟨rfl, rfl⟩)
                have HFs := Aside0.mk (Fr.ofSetQ hdr (v := .slice none 0 0) (fun k hk => by simp [Value.ownBlock] at hk) hds)
                have HFr := Aside0.mk (Fr.of HH1.out hdr (fun k hk hb => HXr.out.block k hk hb) HXr.out.os HXr.out.tape HXr.out.output HXr.out.size)
                have HDs := Aside0.mk hds
                clear hdr hds
                go_wp2_with fail
                go_end0
                refine ⟨rfl, ⟨.slice none 0 0, ?_⟩, (HF1.out.trans HFr.out).trans HFs.out⟩
                rw [HE.out, ← newTo_end HLL.out HOK.out.len]
                exact HDs.out
end Go.Proofs.Ytbhlpnkccdcdiaa.Dk
