/- An array of eight builders: copyCheck, WriteString, Len, String at one of them. -/
import Derived.Test.YtbhlpnkccdcdiaaKPre
import Derived.Shelf.Strings.BuilderF
namespace Go.Proofs.Ytbhlpnkccdcdiaa.Dk
open Go.RowKit Go.Proofs.YtbhlpnkccdcdiaaW.PrintWords Go.Lib
set_option linter.unusedVariables false
set_option linter.unusedSimpArgs false

theorem sizeBld : (Try.prog.info? 96).map (·.size) = some 2 := by kernel_rfl
theorem lies0 : liesAt Try.prog Try.prog.depth 97 (16 / Try.prog.cellsOf 97) 0 96 1 = true := by kernel_rfl
theorem lies1 : liesAt Try.prog Try.prog.depth 97 (16 / Try.prog.cellsOf 97) 2 96 1 = true := by kernel_rfl
theorem lies2 : liesAt Try.prog Try.prog.depth 97 (16 / Try.prog.cellsOf 97) 4 96 1 = true := by kernel_rfl
theorem lies3 : liesAt Try.prog Try.prog.depth 97 (16 / Try.prog.cellsOf 97) 6 96 1 = true := by kernel_rfl
theorem lies4 : liesAt Try.prog Try.prog.depth 97 (16 / Try.prog.cellsOf 97) 8 96 1 = true := by kernel_rfl
theorem lies5 : liesAt Try.prog Try.prog.depth 97 (16 / Try.prog.cellsOf 97) 10 96 1 = true := by kernel_rfl
theorem lies6 : liesAt Try.prog Try.prog.depth 97 (16 / Try.prog.cellsOf 97) 12 96 1 = true := by kernel_rfl
theorem lies7 : liesAt Try.prog Try.prog.depth 97 (16 / Try.prog.cellsOf 97) 14 96 1 = true := by kernel_rfl
theorem liesBld (f : Nat) (hf : f < 8) : liesAt Try.prog Try.prog.depth 97 (16 / Try.prog.cellsOf 97) (f * 2) 96 1 = true := by
  have : f = 0 ∨ f = 1 ∨ f = 2 ∨ f = 3 ∨ f = 4 ∨ f = 5 ∨ f = 6 ∨ f = 7 := by omega
  rcases this with rfl | rfl | rfl | rfl | rfl | rfl | rfl | rfl
  · exact lies0
  · exact lies1
  · exact lies2
  · exact lies3
  · exact lies4
  · exact lies5
  · exact lies6
  · exact lies7

set_option maxRecDepth 100000 in
theorem ccNew (w : World) (nb f : Nat) (hf : f < 8) (h0 : w.cell? ⟨nb, f * 2, none⟩ = some (.pointer none)) (hsh : w.shape? nb = some (97, 16)) (hfz : w.frozen? ⟨nb, f * 2, none⟩ = false) :
    Calls Try.prog 80 #[.pointer (some ⟨nb, f * 2, none⟩)] w fun e w' => e = .returned (.tuple #[]) ∧ w' = w.setCell ⟨nb, f * 2, none⟩ (.pointer (some ⟨nb, f * 2, none⟩)) := by
  obtain ⟨j, hj, hjs⟩ := Option.map_eq_some_iff.1 sizeBld
  have HL := Aside0.mk (liesBld f hf)
  have HJ := Aside0.mk hj
  have HJs := Aside0.mk hjs
  have HSh := Aside0.mk hsh
  have hoff : f * 2 < 16 := by omega
  clear hj hjs hsh
  go_enter Try.func80, Try.ntmps80
  go_wp2_with fail
  rw [Lib.run_to_unsafe w ⟨nb, f * 2, none⟩ Try.underlying93 Try.underlying136 HJ.out (by rw [HJs.out]; decide) HSh.out hoff]
  simp only [Result.andThen]
  rw [Oper.upon_value]
  go_wp2_with fail
  rw [run_callFunc_extern Try.func95 (by kernel_rfl) (by kernel_rfl) (by kernel_rfl) (e := Extern.AbiNoEscape.same) (by kernel_rfl)]
  rw [Lib.run_noEscape]
  simp only [Result.andThen]
  rw [Oper.upon_value]
  go_wp2_with fail
  rw [Lib.run_from_unsafe w ⟨nb, f * 2, none⟩ Try.underlying136 Try.underlying93 HJ.out HSh.out HL.out]
  simp only [Result.andThen]
  rw [Oper.upon_value]
  go_wp2_with fail
  go_end0
  exact ⟨rfl, rfl⟩
set_option maxRecDepth 100000 in
theorem ccUsed (w : World) (nb f : Nat) (h0 : w.cell? ⟨nb, f * 2, none⟩ = some (.pointer (some ⟨nb, f * 2, none⟩))) :
    Calls Try.prog 80 #[.pointer (some ⟨nb, f * 2, none⟩)] w fun e w' => e = .returned (.tuple #[]) ∧ w' = w := by
  obtain ⟨j, hj, _⟩ := Option.map_eq_some_iff.1 sizeBld
  have HJ := Aside0.mk hj
  clear hj
  go_enter Try.func80, Try.ntmps80
  go_wp2_with fail
  rw [Lib.run_neq_ptr_same w _ Try.underlying93 HJ.out]
  go_wp2_with fail
  go_end0
  exact ⟨rfl, rfl⟩

/-! ### append of a string to a row of bytes: where the row lies behind it -/
theorem info5 : (Try.prog.info? 5).map (fun i => (i.zero, i.size, i.bytes)) = some (some (.int .u8 0), 1, 1) := by kernel_rfl
theorem append_str (w : World) (base : Nat) (t u ty : TypeId) (ht : Try.prog.underlying t = some (.slice 5)) (hu : Try.prog.underlying u = some .string) (v : Value) (n : Nat) (xs : List Value) (hown : w.ownsRowF base 5 1 v n xs) (s : ByteArray)
    (hbytes : n + s.size ≤ 140737488355328) (hbase : base ≤ w.heap.size) :
    ∃ v' w', (Builtin.append_ #[t, u] ty #[v, .string s]).run Try.prog w = .ok v' w' ∧ w'.ownsRowF base 5 1 v' (n + s.size) (xs ++ strCells s) ∧ w.grownBy w' v.ownBlock ∧ (∀ k, v'.ownBlock = some k → v.ownBlock = some k ∨ w.heap.size ≤ k) ∧ (v' = .slice none 0 0 ↔ v = .slice none 0 0 ∧ s.size = 0) := by
  obtain ⟨i, hi, hzz⟩ := Option.map_eq_some_iff.1 info5
  simp only [Prod.mk.injEq] at hzz
  obtain ⟨hz, hsize, hby⟩ := hzz
  have h63 : n + s.size ≤ maxLen := by simp only [maxLen]; omega
  rcases hown.2 with ⟨rfl, rfl⟩ | ⟨g, cap, cur, fz, rfl, hbg, hg, hfz, hnc, hcm, hcs, htake⟩
  · have hown0 : w.ownsRowF w.heap.size 5 1 (.slice none 0 0) 0 xs := ⟨hown.1, .inl ⟨rfl, rfl⟩⟩
    obtain ⟨v', w', hr, h2, h3, hiff⟩ := run_append_own_stringF (P := Try.prog) w w.heap.size t u ty 5 i ht hu hi hz hsize hby (.slice none 0 0) 0 xs hown0 s h63 hbytes (Nat.le_refl _)
    refine ⟨v', w', hr, ⟨h2.1, ?_⟩, h3, fun k hk => ?_, hiff⟩
    · rcases h2.2 with h | ⟨g, cap, cur, fz, e, hb, r⟩
      · exact .inl h
      · exact .inr ⟨g, cap, cur, fz, e, Nat.le_trans hbase hb, r⟩
    · rcases h2.2 with ⟨rfl, _⟩ | ⟨g, cap, cur, fz, rfl, hb, r⟩
      · simp [Value.ownBlock] at hk
      · have : g = k := by simpa [Value.ownBlock] using hk
        exact .inr (by omega)
  · obtain ⟨v', w', hr, h2, h3, hiff⟩ := run_append_own_stringF (P := Try.prog) w base t u ty 5 i ht hu hi hz hsize hby _ n xs hown s h63 hbytes hbase
    refine ⟨v', w', hr, h2, h3, fun k hk => ?_, hiff⟩
    have hxl : xs.length = n := by simpa using hown.1
    by_cases hroom : n + s.size ≤ cap
    · have hr2 := run_append_room_stringF (P := Try.prog) w t u ty 5 i ht hu hi hsize g n cap cur fz hg (by simpa using hfz) s hroom (by omega)
      rw [hr] at hr2
      injection hr2 with e1 _
      rw [e1] at hk
      exact .inl hk
    · have holds : ∀ j u, xs[j]? = some u → w.cell? ((⟨g, 0, none⟩ : Addr).add j) = some u := hown.cells (g := g) rfl
      have hr2 := run_append_grow_string (P := Try.prog) w t u ty 5 i (.int .u8 0) ht hu hi hz ⟨g, 0, none⟩ n cap xs (by rw [hsize]; simpa using hxl) holds s (by omega) (by simp only [maxLen] at h63; omega) (by rw [hby]; exact growslice_fits (by omega) (by omega))
      rw [hr] at hr2
      injection hr2 with e1 _
      rw [e1] at hk
      have : w.heap.size = k := by simpa [Value.ownBlock] using hk
      exact .inr (by omega)
theorem wpList_append_str {w : World} {ops : Array Oper} {rest : List Oper} {o : Oper} {a : Act} {Q : Exit → Act → World → Prop} (hgd : o.guard = none) (sl x : Operand) (t u : TypeId)
    (ho : o.op = .call { callee := .builtin .append, args := #[sl, x], argTypes := #[t, u] }) (base : Nat) (ht : Try.prog.underlying t = some (.slice 5)) (hu : Try.prog.underlying u = some .string)
    (v : Value) (n : Nat) (xs : List Value) (hs : a.eval sl = v) (hown : w.ownsRowF base 5 1 v n xs) (s : ByteArray) (hx : a.eval x = .string s) (hbytes : n + s.size ≤ 140737488355328) (hbase : base ≤ w.heap.size)
    (h : ∀ v' w', w'.ownsRowF base 5 1 v' (n + s.size) (xs ++ strCells s) → w.grownBy w' v.ownBlock → (∀ k, v'.ownBlock = some k → v.ownBlock = some k ∨ w.heap.size ≤ k) → (v' = .slice none 0 0 ↔ v = .slice none 0 0 ∧ s.size = 0) → wpList Try.prog ops Q rest (a.put o.dst v') w') : wpList Try.prog ops Q (o :: rest) a w := by
  refine wpList_plain hgd fun K hK => ?_
  obtain ⟨v', w', hr, h2, h3, h4, h5⟩ := append_str w base t u o.type ht hu v n xs hown s hbytes hbase
  unfold Oper.wp execOp
  simp only [ho, resolve, invoke, builtin, Sem.run_bind, Sem.run_pure, Result.andThen_ok, List.map_toArray, List.map_cons, List.map_nil, hs, hx, hr]
  exact hK _ _ (h v' w' h2 h3 h4 h5)

/-! ### Eight builders -/
def BCells (ps : List (Value × Value)) : List Value := ps.flatMap fun x => [x.1, x.2]
theorem BCells_len : ∀ ps, (BCells ps).length = ps.length * 2
  | [] => rfl
  | x :: ps => by
    have := BCells_len ps
    unfold BCells at *
    rw [List.flatMap_cons, List.length_append, this]
    simp only [List.length_cons, List.length_nil]
    omega
theorem BCells_at : ∀ (ps : List (Value × Value)) (f : Nat) (x : Value × Value), ps[f]? = some x → (BCells ps)[f * 2]? = some x.1 ∧ (BCells ps)[f * 2 + 1]? = some x.2
  | [], f, x, h => by simp at h
  | y :: ps, 0, x, h => by
    have : y = x := by simpa using h
    subst this
    exact ⟨rfl, rfl⟩
  | y :: ps, f + 1, x, h => by
    have := BCells_at ps f x (by simpa using h)
    have e : BCells (y :: ps) = y.1 :: y.2 :: BCells ps := rfl
    rw [e, show (f + 1) * 2 = f * 2 + 1 + 1 by omega]
    simpa using this
theorem BCells_set : ∀ (ps : List (Value × Value)) (f : Nat) (x : Value × Value), f < ps.length → BCells (ps.set f x) = ((BCells ps).set (f * 2) x.1).set (f * 2 + 1) x.2
  | y :: ps, 0, x, _ => rfl
  | y :: ps, f + 1, x, h => by
    have := BCells_set ps f x (by simpa using h)
    have e : ∀ z zs, BCells (z :: zs) = z.1 :: z.2 :: BCells zs := fun _ _ => rfl
    rw [List.set_cons_succ, e, e, this, show (f + 1) * 2 = f * 2 + 1 + 1 by omega]
    simp only [List.set_cons_succ]
theorem set_same' {α : Type} : ∀ (l : List α) (i : Nat) (a : α), l[i]? = some a → l.set i a = l
  | x :: l, 0, a, h => by
    have : x = a := by simpa using h
    rw [this]
    rfl
  | x :: l, i + 1, a, h => by
    rw [List.set_cons_succ, set_same' l i a (by simpa using h)]
  | [], i, a, h => by simp at h
theorem size0 {s : ByteArray} (h : s.data.toList = []) : s.size = 0 := by
  have : s.data.toList.length = 0 := by rw [h]; rfl
  simpa using this
structure NAt (w : World) (B nb : Nat) (L : List (List UInt8)) (ps : List (Value × Value)) : Prop where
  hB : B ≤ nb
  lenL : L.length = 8
  lenP : ps.length = 8
  blk : w.heap[nb]? = some (.cells (BCells ps).toArray 97 (0, 0))
  self : ∀ (f : Nat) (p : Value × Value), ps[f]? = some p → p.1 = .pointer none ∨ p.1 = .pointer (some ⟨nb, f * 2, none⟩)
  own : ∀ (f : Nat) (l : List UInt8) (p : Value × Value), L[f]? = some l → ps[f]? = some p → w.ownsRowF B 5 1 p.2 l.length (byteCells l) ∧ (l = [] → p.2 = .slice none 0 0)
  dis : ∀ (f f' : Nat) (p p' : Value × Value) (k : Nat), f ≠ f' → ps[f]? = some p → ps[f']? = some p' → p.2.ownBlock = some k → p'.2.ownBlock ≠ some k
section
variable {w w1 : World} {B nb : Nat} {L : List (List UInt8)} {ps : List (Value × Value)}
theorem rowF_typed {base n : Nat} {v : Value} {xs : List Value} (h : w.ownsRowF base 5 1 v n xs) {k : Nat} (hk : v.ownBlock = some k) : base ≤ k ∧ k < w.heap.size ∧ ∃ cur fz, w.heap[k]? = some (.cells cur 5 fz) := by
  rcases h.2 with ⟨rfl, _⟩ | ⟨g, cap, cur, fz, rfl, hb, hg, _⟩
  · simp [Value.ownBlock] at hk
  · have : g = k := by simpa [Value.ownBlock] using hk
    subst this
    exact ⟨hb, (Array.getElem?_eq_some_iff.1 hg).1, cur, fz, hg⟩
theorem rowF_slice {base n : Nat} {v : Value} {xs : List Value} (h : w.ownsRowF base 5 1 v n xs) : ∃ ao cap, v = .slice ao n cap := by
  rcases h.2 with ⟨rfl, rfl⟩ | ⟨g, cap, cur, fz, rfl, _⟩
  · exact ⟨_, _, rfl⟩
  · exact ⟨_, _, rfl⟩
theorem rowF_move {base n : Nat} {v : Value} {xs : List Value} (h : w.ownsRowF base 5 1 v n xs) (hm : ∀ k, v.ownBlock = some k → w1.heap[k]? = w.heap[k]?) : w1.ownsRowF base 5 1 v n xs := by
  refine ⟨h.1, ?_⟩
  rcases h.2 with h | ⟨g, cap, cur, fz, rfl, hb, hg, r⟩
  · exact .inl h
  · exact .inr ⟨g, cap, cur, fz, rfl, hb, (hm g rfl).trans hg, r⟩
theorem NAt.lt (h : NAt w B nb L ps) : nb < w.heap.size := (Array.getElem?_eq_some_iff.1 h.blk).1
theorem NAt.at_ (h : NAt w B nb L ps) {f : Nat} (hf : f < 8) : ∃ l p, L[f]? = some l ∧ ps[f]? = some p := ⟨_, _, List.getElem?_eq_getElem (by rw [h.lenL]; exact hf), List.getElem?_eq_getElem (by rw [h.lenP]; exact hf)⟩
theorem NAt.cells (h : NAt w B nb L ps) {f : Nat} {p : Value × Value} (hp : ps[f]? = some p) : w.cell? ⟨nb, f * 2, none⟩ = some p.1 ∧ w.cell? ⟨nb, f * 2 + 1, none⟩ = some p.2 := by
  obtain ⟨h1, h2⟩ := BCells_at ps f p hp
  constructor
  · simp [World.cell?, h.blk, h1]
  · simp [World.cell?, h.blk, h2]
theorem NAt.frozen (h : NAt w B nb L ps) (o : Nat) : w.frozen? ⟨nb, o, none⟩ = false := by simp [World.frozen?, h.blk]
theorem NAt.shape (h : NAt w B nb L ps) : w.shape? nb = some (97, 16) := by
  have := BCells_len ps
  simp [World.shape?, h.blk, this, h.lenP]
theorem NAt.ne (h : NAt w B nb L ps) {f : Nat} {p : Value × Value} {l : List UInt8} (hl : L[f]? = some l) (hp : ps[f]? = some p) : p.2.ownBlock ≠ some nb := by
  intro e
  obtain ⟨_, _, cur, fz, hc⟩ := rowF_typed (h.own f l p hl hp).1 e
  rw [h.blk] at hc
  injection hc with hc
  injection hc with _ ht
  exact absurd ht (by decide)
theorem NAt.ofL (h : NAt w B nb L ps) {f : Nat} {p : Value × Value} (hp : ps[f]? = some p) : ∃ l, L[f]? = some l := by
  have := (List.getElem?_eq_some_iff.1 hp).1
  exact ⟨_, List.getElem?_eq_getElem (by rw [h.lenL, ← h.lenP]; exact this)⟩
theorem NAt.move (h : NAt w B nb L ps) (hm : ∀ k, B ≤ k → k < w.heap.size → w1.heap[k]? = w.heap[k]?) : NAt w1 B nb L ps where
  hB := h.hB
  lenL := h.lenL
  lenP := h.lenP
  blk := (hm nb h.hB h.lt).trans h.blk
  self := h.self
  own := fun f l p hl hp => ⟨rowF_move (h.own f l p hl hp).1 fun k hk => by
    obtain ⟨h1, h2, _⟩ := rowF_typed (h.own f l p hl hp).1 hk
    exact hm k h1 h2, (h.own f l p hl hp).2⟩
  dis := h.dis
theorem NAt.below (h : NAt w B nb L ps) (hb : Below w.heap.size w w1) : NAt w1 B nb L ps := h.move fun k _ hk => hb.block k hk
theorem set_get {α : Type} {l : List α} {i j : Nat} {a x : α} (h : (l.set i a)[j]? = some x) (hi : i < l.length) : (j = i ∧ x = a) ∨ (j ≠ i ∧ l[j]? = some x) := by
  by_cases e : i = j
  · subst e
    rw [List.getElem?_set_self hi] at h
    injection h with h
    exact .inl ⟨rfl, h.symm⟩
  · rw [List.getElem?_set_ne e] at h
    exact .inr ⟨fun h => e h.symm, h⟩
theorem BCells_set1 (ps : List (Value × Value)) (f : Nat) (p : Value × Value) (v : Value) (hp : ps[f]? = some p) : BCells (ps.set f (v, p.2)) = (BCells ps).set (f * 2) v := by
  have hf := (List.getElem?_eq_some_iff.1 hp).1
  rw [BCells_set ps f _ hf]
  refine set_same' _ _ _ ?_
  rw [List.getElem?_set_ne (by omega)]
  exact (BCells_at ps f p hp).2
theorem BCells_set2 (ps : List (Value × Value)) (f : Nat) (p : Value × Value) (v : Value) (hp : ps[f]? = some p) : BCells (ps.set f (p.1, v)) = (BCells ps).set (f * 2 + 1) v := by
  have hf := (List.getElem?_eq_some_iff.1 hp).1
  rw [BCells_set ps f _ hf, set_same' (BCells ps) (f * 2) _ (BCells_at ps f p hp).1]
/-- The builder is used. -/
theorem NAt.used (h : NAt w B nb L ps) {f : Nat} {p : Value × Value} (hp : ps[f]? = some p) : NAt (w.setCell ⟨nb, f * 2, none⟩ (.pointer (some ⟨nb, f * 2, none⟩))) B nb L (ps.set f (.pointer (some ⟨nb, f * 2, none⟩), p.2)) := by
  have hf := (List.getElem?_eq_some_iff.1 hp).1
  have far : ∀ k, k ≠ nb → (w.setCell ⟨nb, f * 2, none⟩ (.pointer (some ⟨nb, f * 2, none⟩))).heap[k]? = w.heap[k]? := fun k hk => Below.heap_setCell w _ _ k hk
  refine ⟨h.hB, h.lenL, by rw [List.length_set]; exact h.lenP, ?_, ?_, ?_, ?_⟩
  · rw [BCells_set1 ps f p _ hp]
    simp [World.setCell, Array.getElem?_modify, h.blk]
  · intro j q hq
    rcases set_get hq hf with ⟨rfl, rfl⟩ | ⟨_, hq⟩
    · exact .inr rfl
    · exact h.self j q hq
  · intro j l q hl hq
    rcases set_get hq hf with ⟨rfl, rfl⟩ | ⟨_, hq1⟩
    · exact ⟨rowF_move (h.own j l p hl hp).1 fun k hk => far k (fun e => h.ne hl hp (by rw [hk, e])), (h.own j l p hl hp).2⟩
    · exact ⟨rowF_move (h.own j l q hl hq1).1 fun k hk => far k (fun e => h.ne hl hq1 (by rw [hk, e])), (h.own j l q hl hq1).2⟩
  · intro j j' q q' k hj hq hq' hk
    rcases set_get hq hf with ⟨rfl, rfl⟩ | ⟨_, hq1⟩
    · rcases set_get hq' hf with ⟨rfl, rfl⟩ | ⟨_, hq'⟩
      · exact absurd rfl hj
      · exact h.dis _ _ p q' k hj hp hq' hk
    · rcases set_get hq' hf with ⟨e1, rfl⟩ | ⟨_, hq2⟩
      · exact h.dis _ _ q p k hj hq1 (by rw [e1]; exact hp) hk
      · exact h.dis _ _ q q' k hj hq1 hq2 hk
/-- Old blocks that hold no bytes, but the builders' own, are as they were. -/
def Keeps (nb : Nat) (w w' : World) : Prop := ∀ (k : Nat) (cur : Array Value) (t : Nat) (fz : Nat × Nat), w.heap[k]? = some (Obj.cells cur t fz) → t ≠ 5 → k ≠ nb → w'.heap[k]? = w.heap[k]?
theorem Keeps.refl (nb : Nat) (w : World) : Keeps nb w w := fun _ _ _ _ _ _ _ => rfl
theorem Keeps.trans {nb : Nat} {w w1 w2 : World} (h : Keeps nb w w1) (k : Keeps nb w1 w2) : Keeps nb w w2 := fun i cur t fz hi ht hn => (k i cur t fz ((h i cur t fz hi ht hn).trans hi) ht hn).trans (h i cur t fz hi ht hn)
theorem Keeps.ofBelow {nb : Nat} {w w1 : World} (h : Below w.heap.size w w1) : Keeps nb w w1 := fun i cur t fz hi _ _ => h.block i (Array.getElem?_eq_some_iff.1 hi).1
theorem Keeps.setCell {nb : Nat} (w : World) (o : Nat) (v : Value) : Keeps nb w (w.setCell ⟨nb, o, none⟩ v) := fun i _ _ _ _ _ hn => Below.heap_setCell w _ v i hn
theorem Keeps.cell {nb : Nat} {w w1 : World} (h : Keeps nb w w1) {k o : Nat} {cur : Array Value} {t : Nat} {fz : Nat × Nat} (hk : w.heap[k]? = some (Obj.cells cur t fz)) (ht : t ≠ 5) (hn : k ≠ nb) : w1.cell? ⟨k, o, none⟩ = w.cell? ⟨k, o, none⟩ := World.cell?_of_block (a := ⟨k, o, none⟩) (h k cur t fz hk ht hn)
theorem ccF (h : NAt w B nb L ps) {f : Nat} (hf : f < 8) {p : Value × Value} (hp : ps[f]? = some p) :
    Calls Try.prog 80 #[.pointer (some ⟨nb, f * 2, none⟩)] w fun e w' => e = .returned (.tuple #[]) ∧ NAt w' B nb L (ps.set f (.pointer (some ⟨nb, f * 2, none⟩), p.2)) ∧ Below B w w' ∧ w'.heap.size = w.heap.size ∧ Keeps nb w w' := by
  have hc := (h.cells hp).1
  rcases h.self f p hp with e | e
  · rw [e] at hc
    refine (ccNew w nb f hf hc h.shape (h.frozen _)).mono ?_
    rintro x w' ⟨rfl, rfl⟩
    exact ⟨rfl, h.used hp, (Below.refl B w).setCell (p := ⟨nb, f * 2, none⟩) h.hB _, by simp, Keeps.setCell w _ _⟩
  · rw [e] at hc
    refine (ccUsed w nb f hc).mono ?_
    rintro x w' ⟨rfl, rfl⟩
    have : ps.set f (.pointer (some ⟨nb, f * 2, none⟩), p.2) = ps := set_same' _ _ _ (by rw [hp, ← e])
    rw [this]
    exact ⟨rfl, h, Below.refl B _, rfl, Keeps.refl _ _⟩
/-- The builder's bytes are others. -/
theorem NAt.wrote (h : NAt w B nb L ps) {f : Nat} {p : Value × Value} {l l' : List UInt8} {v : Value} (hl : L[f]? = some l) (hp : ps[f]? = some p) (hg : w.grownBy w1 p.2.ownBlock)
    (hown : w1.ownsRowF B 5 1 v l'.length (byteCells l')) (hnil : l' = [] → v = .slice none 0 0) (hv : ∀ k, v.ownBlock = some k → p.2.ownBlock = some k ∨ w.heap.size ≤ k) :
    NAt (w1.setCell ⟨nb, f * 2 + 1, none⟩ v) B nb (L.set f l') (ps.set f (p.1, v)) ∧ w1.cell? ⟨nb, f * 2 + 1, none⟩ = some p.2 ∧ w1.frozen? ⟨nb, f * 2 + 1, none⟩ = false := by
  have hf := (List.getElem?_eq_some_iff.1 hp).1
  have hfl := (List.getElem?_eq_some_iff.1 hl).1
  have hb1 : w1.heap[nb]? = w.heap[nb]? := hg.block nb h.lt (fun e => h.ne hl hp e.symm)
  have far : ∀ k, k ≠ nb → (w1.setCell ⟨nb, f * 2 + 1, none⟩ v).heap[k]? = w1.heap[k]? := fun k hk => Below.heap_setCell w1 _ _ k hk
  have old : ∀ (j : Nat) (m : List UInt8) (q : Value × Value), j ≠ f → L[j]? = some m → ps[j]? = some q → ∀ k, q.2.ownBlock = some k → w1.heap[k]? = w.heap[k]? ∧ k < w.heap.size ∧ p.2.ownBlock ≠ some k ∧ k ≠ nb := by
    intro j m q hj hm hq k hk
    obtain ⟨_, h2, _⟩ := rowF_typed (h.own j m q hm hq).1 hk
    have h3 := h.dis j f q p k hj hq hp hk
    exact ⟨hg.block k h2 (fun e => h3 e.symm), h2, h3, fun e => by subst e; exact h.ne hm hq hk⟩
  refine ⟨⟨h.hB, by rw [List.length_set]; exact h.lenL, by rw [List.length_set]; exact h.lenP, ?_, ?_, ?_, ?_⟩, ?_, ?_⟩
  · rw [BCells_set2 ps f p _ hp]
    have := hb1.trans h.blk
    simp [World.setCell, Array.getElem?_modify, this]
  · intro j q hq
    rcases set_get hq hf with ⟨rfl, rfl⟩ | ⟨_, hq⟩
    · exact h.self j p hp
    · exact h.self j q hq
  · intro j m q hm hq
    rcases set_get hq hf with ⟨rfl, rfl⟩ | ⟨hj, hq⟩
    · rcases set_get hm hfl with ⟨_, rfl⟩ | ⟨hj, _⟩
      · refine ⟨rowF_move hown fun k hk => far k (fun e => ?_), hnil⟩
        subst e
        rcases hv _ hk with e | e
        · exact h.ne hl hp e
        · have := h.lt; omega
      · exact absurd rfl hj
    · rcases set_get hm hfl with ⟨rfl, _⟩ | ⟨_, hm⟩
      · exact absurd rfl hj
      · refine ⟨rowF_move (h.own j m q hm hq).1 fun k hk => ?_, (h.own j m q hm hq).2⟩
        obtain ⟨h1, _, _, h4⟩ := old j m q hj hm hq k hk
        exact (far k h4).trans h1
  · intro j j' q q' k hj hq hq' hk
    rcases set_get hq hf with ⟨rfl, rfl⟩ | ⟨hjf, hq⟩
    · rcases set_get hq' hf with ⟨rfl, rfl⟩ | ⟨hjf', hq'⟩
      · exact absurd rfl hj
      · intro hk'
        obtain ⟨m, hm⟩ := h.ofL hq'
        obtain ⟨_, h2, h3, _⟩ := old j' m q' hjf' hm hq' k hk'
        rcases hv k hk with e | e
        · exact h3 e
        · omega
    · obtain ⟨m, hm⟩ := h.ofL hq
      obtain ⟨_, h2, h3, _⟩ := old j m q hjf hm hq k hk
      rcases set_get hq' hf with ⟨rfl, rfl⟩ | ⟨_, hq'⟩
      · intro hk'
        rcases hv k hk' with e | e
        · exact h3 e
        · omega
      · exact h.dis _ _ q q' k hj hq hq' hk
  · rw [World.cell?_of_block (a := ⟨nb, f * 2 + 1, none⟩) hb1]
    exact (h.cells hp).2
  · rw [World.frozen?_of_block (a := ⟨nb, f * 2 + 1, none⟩) hb1]
    exact h.frozen _
theorem wpList_append_bld {w0 : World} {ops : Array Oper} {rest : List Oper} {o : Oper} {a : Act} {Q : Exit → Act → World → Prop} (hgd : o.guard = none) (sl x : Operand) (t u : TypeId)
    (ho : o.op = .call { callee := .builtin .append, args := #[sl, x], argTypes := #[t, u] }) (ht : Try.prog.underlying t = some (.slice 5)) (hu : Try.prog.underlying u = some .string)
    (f : Nat) (l : List UInt8) (p : Value × Value) (s : ByteArray) (hN : NAt w B nb L ps) (hl : L[f]? = some l) (hp : ps[f]? = some p) (hs : a.eval sl = p.2) (hx : a.eval x = .string s) (hbytes : l.length + s.size ≤ 140737488355328) (hbase : B ≤ w.heap.size) (hB : Below B w0 w) (hKp : Keeps nb w0 w)
    (h : ∀ (ao : Option Addr) (m cap : Nat) (w3 : World), Aside0 (NAt (w3.setCell ⟨nb, f * 2 + 1, none⟩ (.slice ao m cap)) B nb (L.set f (l ++ s.data.toList)) (ps.set f (p.1, .slice ao m cap))) → w3.cell? ⟨nb, f * 2 + 1, none⟩ = some p.2 → w3.frozen? ⟨nb, f * 2 + 1, none⟩ = false → Aside0 (Below B w0 (w3.setCell ⟨nb, f * 2 + 1, none⟩ (.slice ao m cap)) ∧ Keeps nb w0 (w3.setCell ⟨nb, f * 2 + 1, none⟩ (.slice ao m cap))) → wpList Try.prog ops Q rest (a.put o.dst (.slice ao m cap)) w3) : wpList Try.prog ops Q (o :: rest) a w := by
  have ho1 := hN.own f l p hl hp
  refine wpList_append_str hgd sl x t u ho B ht hu p.2 l.length (byteCells l) hs ho1.1 s hx hbytes hbase fun v3 w3 ho3 hg3 hv3 hi3 => ?_
  obtain ⟨ao3, cap3, rfl⟩ := rowF_slice ho3
  have ho3' : w3.ownsRowF B 5 1 (.slice ao3 (l.length + s.size) cap3) (l ++ s.data.toList).length (byteCells (l ++ s.data.toList)) := by
    rw [byteCells_append, ← strCells_eq, List.length_append]
    exact ho3
  obtain ⟨hN3, hc3, hf3⟩ := hN.wrote hl hp hg3 ho3' (fun hn => hi3.2 ⟨ho1.2 (List.append_eq_nil_iff.1 hn).1, size0 (List.append_eq_nil_iff.1 hn).2⟩) hv3
  refine h ao3 _ cap3 w3 ⟨hN3⟩ hc3 hf3 ⟨(hB.grown hg3 hbase (fun k hk => (rowF_typed ho1.1 hk).1)).setCell (p := ⟨nb, f * 2 + 1, none⟩) hN.hB _, hKp.trans (Keeps.trans (fun k cur t fz hk ht hn => hg3.block k (Array.getElem?_eq_some_iff.1 hk).1 (fun e => ?_)) (Keeps.setCell w3 _ _))⟩
  obtain ⟨_, _, cur', fz', hc'⟩ := rowF_typed ho1.1 e.symm
  rw [hk] at hc'
  injection hc' with hc'
  injection hc' with _ h2
  exact ht h2
set_option maxRecDepth 100000 in
set_option maxHeartbeats 1000000 in
theorem wsF (h : NAt w B nb L ps) (hBw : B ≤ w.heap.size) {f : Nat} (hf : f < 8) {l : List UInt8} (hl : L[f]? = some l) (s : ByteArray) (hlen : l.length + s.size ≤ 140737488355328) :
    Calls Try.prog 57 #[.pointer (some ⟨nb, f * 2, none⟩), .string s] w fun e w' => e = .returned (.tuple #[.int .i64 s.size, .nilIface]) ∧ (∃ ps', NAt w' B nb (L.set f (l ++ s.data.toList)) ps') ∧ Below B w w' ∧ Keeps nb w w' := by
  obtain ⟨_, p, _, hp⟩ := h.at_ hf
  have HC := Aside0.mk (ccF h hf hp)
  have HL := Aside0.mk hl
  have HP := Aside0.mk hp
  have hfp : f < ps.length := (List.getElem?_eq_some_iff.1 hp).1
  clear h hl hp
  go_enter Try.func57, Try.ntmps57
  go_wp2_with fail
  go_at_call 80
  refine HC.out.mono ?_
  rintro e w2 ⟨rfl, hN, hb2, hs2, hk2⟩
  have hp2 : (ps.set f (.pointer (some ⟨nb, f * 2, none⟩), p.2))[f]? = some (.pointer (some ⟨nb, f * 2, none⟩), p.2) := List.getElem?_set_self hfp
  have hc2 := (hN.cells hp2).2
  have HO := Aside0.mk (hN.own f l _ HL.out hp2)
  have HN := Aside0.mk hN
  have HP2 := Aside0.mk hp2
  have HB2 := Aside0.mk hb2
  have HK2 := Aside0.mk hk2
  have hBw2 : B ≤ w2.heap.size := by omega
  obtain ⟨ao2, cap2, hv2⟩ := rowF_slice HO.out.1
  generalize p.2 = v at hc2 HO HN HP2 hv2
  subst hv2
  clear hN hb2 hp2 hs2 hk2 HC HP
  go_wp2_with (at_builtin; refine wpList_append_bld (w0 := w) rfl _ _ 94 9 rfl Try.underlying94 Try.underlying9 f l _ s HN.out HL.out HP2.out rfl rfl hlen hBw2 HB2.out HK2.out ?_; intro ao3 m3 cap3 w3 HN3 hc3 hf3 HB3)
  go_ret2
  exact ⟨rfl, ⟨_, HN3.out⟩, HB3.out.1, HB3.out.2⟩
theorem lenF (h : NAt w B nb L ps) {f : Nat} (hf : f < 8) {l : List UInt8} (hl : L[f]? = some l) :
    Calls Try.prog 59 #[.pointer (some ⟨nb, f * 2, none⟩)] w fun e w' => e = .returned (.int .i64 l.length) ∧ w = w' := by
  obtain ⟨_, p, _, hp⟩ := h.at_ hf
  have hc := (h.cells hp).2
  obtain ⟨ao, cap, hv⟩ := rowF_slice (h.own f l p hl hp).1
  rw [hv] at hc
  clear h hl hp hv
  go_enter Try.func59, Try.ntmps59
  go_wp2_with fail
  go_ret
  exact ⟨rfl, rfl⟩
theorem rowF_froze {base g cap : Nat} {xs : List Value} (h : w.ownsRowF base 5 1 (.slice (some ⟨g, 0, none⟩) xs.length cap) xs.length xs) : (w.freeze ⟨g, 0, none⟩ xs.length).ownsRowF base 5 1 (.slice (some ⟨g, 0, none⟩) xs.length cap) xs.length xs ∧ ∀ k, k ≠ g → (w.freeze ⟨g, 0, none⟩ xs.length).heap[k]? = w.heap[k]? := by
  unfold World.freeze
  split
  · exact ⟨h, fun _ _ => rfl⟩
  · rename_i hn0
    refine ⟨⟨h.1, ?_⟩, fun k hk => by simp [Array.getElem?_modify, Ne.symm hk]⟩
    rcases h.2 with ⟨hv, _⟩ | ⟨g', cap', cur, fz, hv, hbg, hg, hfz, rest⟩
    · cases hv
    · injection hv with ha _ hcap
      injection ha with ha
      injection ha with hgg _ _
      subst hgg
      subst hcap
      obtain ⟨lo, hi⟩ := fz
      refine .inr ⟨g, _, cur, (if lo == hi then (0, 0 + xs.length) else (min lo 0, max hi (0 + xs.length))), rfl, hbg, ?_, ?_, rest⟩
      · simp [Array.getElem?_modify, hg]
      · simp only at hfz
        split <;> simp <;> omega
theorem freeze_drew (w : World) (a : Addr) (n : Nat) : (w.drew.freeze a n).heap = (w.freeze a n).heap := by
  unfold World.freeze
  split <;> rfl
theorem NAt.froze (h : NAt w B nb L ps) {f g cap : Nat} {l : List UInt8} {p : Value × Value} (hl : L[f]? = some l) (hp : ps[f]? = some p) (hv : p.2 = .slice (some ⟨g, 0, none⟩) l.length cap) : NAt (w.freeze ⟨g, 0, none⟩ l.length) B nb L ps := by
  have ho := (h.own f l p hl hp).1
  rw [hv] at ho
  have hgk : p.2.ownBlock = some g := by rw [hv]; rfl
  obtain ⟨h1, h2⟩ := rowF_froze (xs := byteCells l) (g := g) (cap := cap) (by rw [byteCells_length]; exact ho)
  rw [byteCells_length] at h1 h2
  have hgb : g ≠ nb := fun e => h.ne hl hp (by rw [hgk, e])
  refine ⟨h.hB, h.lenL, h.lenP, (h2 nb (Ne.symm hgb)).trans h.blk, h.self, fun j m q hm hq => ⟨?_, (h.own j m q hm hq).2⟩, h.dis⟩
  by_cases e : j = f
  · subst e
    rw [hp] at hq
    injection hq with hq
    subst hq
    rw [hl] at hm
    injection hm with hm
    subst hm
    rw [hv]
    exact h1
  · refine rowF_move (h.own j m q hm hq).1 fun k hk => h2 k (fun e2 => ?_)
    subst e2
    exact h.dis j f q p k e hq hp hk hgk
set_option maxRecDepth 100000 in
set_option maxHeartbeats 1000000 in
theorem strF (h : NAt w B nb L ps) {f : Nat} (hf : f < 8) {l : List UInt8} (hl : L[f]? = some l) (hll : l.length ≤ 140737488355328) :
    Calls Try.prog 60 #[.pointer (some ⟨nb, f * 2, none⟩)] w fun e w' => e = .returned (.string ⟨l.toArray⟩) ∧ NAt w' B nb L ps ∧ Below B w w' := by
  obtain ⟨_, p, _, hp⟩ := h.at_ hf
  have hc := (h.cells hp).2
  by_cases h0 : l = []
  · have hv := (h.own f l p hl hp).2 h0
    subst h0
    rw [hv] at hc
    have HH := Aside0.mk h
    have hUS : (Builtin.unsafeString_ #[128, 3] 9 #[.pointer none, .int .i64 0]).run Try.prog w.drew = .ok (.string .empty) w.drew := Lib.run_unsafeString_none w.drew _ _ _ none
    have hSD : (Builtin.unsafeSliceData_ #[94] 128 #[.slice none 0 0]).run Try.prog w.drew = .ok (.pointer none) w.drew := rfl
    have c1 : w.drew.cell? ⟨nb, f * 2 + 1, none⟩ = some (.slice none 0 0) := hc
    clear h hl hp hv hll hc
    go_enter Try.func60, Try.ntmps60
    go_wp2_with fail
    go_region
    all_goals
      go_wp2_with fail
      go_ret
      exact ⟨rfl, HH.out.move fun _ _ _ => rfl, Below.drew (Below.refl B w)⟩
  · have ho := (h.own f l p hl hp).1
    obtain ⟨g, cap, cur, fz, hv, hbg, hg, hfz, hnc, hcm, hcs, htake⟩ : ∃ g cap cur fz, p.2 = .slice (some ⟨g, 0, none⟩) l.length cap ∧ B ≤ g ∧ w.heap[g]? = some (.cells cur 5 fz) ∧ fz.2 ≤ l.length * 1 ∧ l.length ≤ cap ∧ cap ≤ maxLen ∧ cur.size = cap * 1 ∧ cur.toList.take (l.length * 1) = byteCells l := by
      rcases ho.2 with ⟨_, hz⟩ | ⟨g, cap, cur, fz, hv, r⟩
      · exact absurd (List.length_eq_zero_iff.1 hz) h0
      · exact ⟨g, cap, cur, fz, hv, r⟩
    have hl0 : 0 < l.length := List.length_pos_iff.2 h0
    have HK := Aside0.mk (h.froze hl hp hv)
    rw [hv] at hc ho
    have c1 : w.drew.cell? ⟨nb, f * 2 + 1, none⟩ = some (.slice (some ⟨g, 0, none⟩) l.length cap) := hc
    have hSD : (Builtin.unsafeSliceData_ #[94] 128 #[.slice (some ⟨g, 0, none⟩) l.length cap]).run Try.prog w.drew = .ok (.pointer (some ⟨g, 0, none⟩)) w.drew := Lib.run_unsafeSliceData_row _ _ _ _ _ _ (by omega)
    have hUS : (Builtin.unsafeString_ #[128, 3] 9 #[.pointer (some ⟨g, 0, none⟩), .int .i64 l.length]).run Try.prog w.drew = .ok (.string ⟨l.toArray⟩) (w.drew.freeze ⟨g, 0, none⟩ l.length) := by
      refine Lib.run_unsafeString_row w.drew 128 3 9 5 Try.underlying128 (by kernel_rfl) g cur.size (by have hg' : w.drew.heap[g]? = some (.cells cur 5 fz) := hg; simp [World.shape?, hg']) l h0 (by omega) (by unfold maxLen at hcm; omega) ?_
      intro j x hx
      exact ho.cells (g := g) rfl j (.int .u8 x.toNat) (by simp [byteCells, hx])
    have HBG := Aside0.mk hbg
    clear h hl hp hv hll hc ho hg hfz hnc hcm hcs htake h0 hbg
    go_enter Try.func60, Try.ntmps60
    go_wp2_with fail
    go_region
    all_goals
      go_wp2_with fail
      go_ret
      exact ⟨rfl, HK.out.move fun k _ _ => by rw [freeze_drew], Lib.below_freeze (Below.drew (Below.refl B w)) (p := ⟨g, 0, none⟩) HBG.out _⟩
end
end Go.Proofs.Ytbhlpnkccdcdiaa.Dk
