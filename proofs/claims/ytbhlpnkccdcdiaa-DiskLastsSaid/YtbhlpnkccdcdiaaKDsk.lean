/- A disk of the call's own, and its methods by what they are told to answer. -/
import Derived.Test.YtbhlpnkccdcdiaaKOk
namespace Go.Proofs.Ytbhlpnkccdcdiaa.Dk
open Go.RowKit Go.Proofs.YtbhlpnkccdcdiaaW.PrintWords Go.Lib
set_option linter.unusedVariables false
set_option linter.unusedSimpArgs false

/-- A disk made since the world w0. -/
structure Dsk (w0 w : World) (b : Nat) (D : DS) (m : Nat) : Prop where
  at_ : ∃ qv kv, DAt w b D qv kv
  good : Good D m
  far : Below w0.heap.size w0 w
  from_ : w0.heap.size ≤ b
  own : ∀ k, qOwn w b k → w0.heap.size ≤ k
section
variable {w0 w w1 : World} {b m : Nat} {D D' : DS}
theorem Dsk.lt (h : Dsk w0 w b D m) : b < w.heap.size := by
  obtain ⟨qv, kv, h⟩ := h.at_
  exact h.lt
theorem Dsk.frame (h : Dsk w0 w b D m) {qv kv : Value} (h1 : DAt w1 b D' qv kv) (hf : Fr w w1 b) (m' : Nat) (hg : Good D' m') : Dsk w0 w1 b D' m' := by
  obtain ⟨hb, ho⟩ := hf.below h.from_ h.own h.far.size
  exact ⟨⟨qv, kv, h1⟩, hg, h.far.trans hb, h.from_, ho⟩
theorem Dsk.below (h : Dsk w0 w b D m) (hb : Below w.heap.size w w1) : Dsk w0 w1 b D m := by
  obtain ⟨qv, kv, hd⟩ := h.at_
  exact h.frame (hd.below hb) (Fr.ofBelow hd hb) m h.good
theorem Dsk.fr (h : Dsk w0 w b D m) (hb : Below w.heap.size w w1) : Fr w w1 b := by
  obtain ⟨qv, kv, hd⟩ := h.at_
  exact Fr.ofBelow hd hb
theorem Dsk.alloc (h : Dsk w0 w b D m) (o : Obj) : Dsk w0 (w.alloc o) b D m := h.below ((Below.refl _ w).alloc (Nat.le_refl _) o)
theorem Dsk.drew (h : Dsk w0 w b D m) : Dsk w0 w.drew b D m := by
  obtain ⟨qv, kv, hd⟩ := h.at_
  refine ⟨⟨qv, kv, hd.move fun _ _ => rfl⟩, h.good, ⟨h.far.os, h.far.tape, h.far.output, h.far.size, h.far.block⟩, h.from_, h.own⟩
theorem Dsk.mono (h : Dsk w0 w b D m) {n : Nat} (hm : m ≤ n) : Dsk w0 w b D n := ⟨h.at_, h.good.mono hm, h.far, h.from_, h.own⟩
/-- A block that the disk's calls leave as it is. -/
theorem Dsk.typed (h : Dsk w0 w b D m) {k : Nat} {cur : Array Value} {t : Nat} (hk : w.heap[k]? = some (.cells cur t (0, 0))) (h1 : t ≠ 88) (h2 : t ≠ 91) : k ≠ b ∧ ¬ qOwn w b k := by
  obtain ⟨qv, kv, hd⟩ := h.at_
  refine ⟨?_, ?_⟩
  · rintro rfl
    rw [hd.blk] at hk
    injection hk with hk
    injection hk with _ e
    exact h1 e.symm
  · intro ho
    obtain ⟨cur', hc⟩ := hd.que.typed ((qOwn_at hd).1 ho)
    rw [hk] at hc
    injection hc with hc
    injection hc with _ e
    exact h2 e
theorem Dsk.stays (h : Dsk w0 w b D m) (hf : Fr w w1 b) {k : Nat} {cur : Array Value} {t : Nat} (hk : w.heap[k]? = some (.cells cur t (0, 0))) (h1 : t ≠ 88) (h2 : t ≠ 91) : w1.heap[k]? = some (.cells cur t (0, 0)) := by
  obtain ⟨a, c⟩ := h.typed hk h1 h2
  rw [hf.block k (Array.getElem?_eq_some_iff.1 hk).1 a c]
  exact hk

theorem newP (h : Below w0.heap.size w0 w) : Calls Try.prog 14 #[] w fun e w' => e = .returned (.pointer (some ⟨w.heap.size, 0, none⟩)) ∧ Dsk w0 w' w.heap.size newD 0 ∧ Below w.heap.size w w' := by
  refine (newF w).mono ?_
  rintro e w' ⟨rfl, hd, hb⟩
  refine ⟨rfl, ⟨⟨_, _, hd⟩, good_new, h.trans (hb.mono h.size), h.size, fun k hk => ?_⟩, hb⟩
  have := (qOwn_at hd).1 hk
  simp [Value.ownBlock] at this
theorem appendP (h : Dsk w0 w b D m) (hm : m ≤ 1000000) (f : Int) (s : ByteArray) (hs : s.size ≤ 140737488355328) (r : Int) (he : appendD D f s.data.toList = (D', r)) :
    Calls Try.prog 15 #[.pointer (some ⟨b, 0, none⟩), .int .i64 f, .string s] w fun e w' => e = .returned (.int .i64 r) ∧ Dsk w0 w' b D' (m + 1) ∧ Fr w w' b := by
  obtain ⟨qv, kv, hd⟩ := h.at_
  refine (appendF hd h.good.ok (Nat.le_trans h.good.short hm) f s hs).mono ?_
  rintro e w' ⟨rfl, ⟨qv', h'⟩, hf⟩
  have hg := good_append h.good f s.data.toList
  rw [he] at h' hg ⊢
  exact ⟨rfl, h.frame h' hf _ hg, hf⟩
theorem flushP (h : Dsk w0 w b D m) (f : Int) (r : Int) (he : flushD D f = (D', r)) :
    Calls Try.prog 16 #[.pointer (some ⟨b, 0, none⟩), .int .i64 f] w fun e w' => e = .returned (.int .i64 r) ∧ Dsk w0 w' b D' m ∧ Fr w w' b := by
  obtain ⟨qv, kv, hd⟩ := h.at_
  refine (flushF hd h.good.ok f).mono ?_
  rintro e w' ⟨rfl, ⟨qv', h'⟩, hf⟩
  have hg := good_flush h.good f
  rw [he] at h' hg ⊢
  exact ⟨rfl, h.frame h' hf _ hg, hf⟩
theorem cutP_ (h : Dsk w0 w b D m) (f n : Int) (r : Int) (he : cutD D f n = (D', r)) :
    Calls Try.prog 53 #[.pointer (some ⟨b, 0, none⟩), .int .i64 f, .int .i64 n] w fun e w' => e = .returned (.int .i64 r) ∧ Dsk w0 w' b D' m ∧ Fr w w' b := by
  obtain ⟨qv, kv, hd⟩ := h.at_
  refine (cutF hd h.good.ok f n).mono ?_
  rintro e w' ⟨rfl, ⟨qv', h'⟩, hf⟩
  have hg := good_cut h.good f n
  rw [he] at h' hg ⊢
  exact ⟨rfl, h.frame h' hf _ hg, hf⟩
theorem turnP (h : Dsk w0 w b D m) (f g : Int) (r : Int) (he : turnD D f g = (D', r)) :
    Calls Try.prog 17 #[.pointer (some ⟨b, 0, none⟩), .int .i64 f, .int .i64 g] w fun e w' => e = .returned (.int .i64 r) ∧ Dsk w0 w' b D' m ∧ Fr w w' b := by
  obtain ⟨qv, kv, hd⟩ := h.at_
  refine (turnF hd h.good.ok f g).mono ?_
  rintro e w' ⟨rfl, ⟨qv', h'⟩, hf⟩
  have hg := good_turn h.good f g
  rw [he] at h' hg ⊢
  exact ⟨rfl, h.frame h' hf _ hg, hf⟩
theorem crashP (h : Dsk w0 w b D m) (A : Option Addr) (n c : Nat) (keep : List Int) (hn : keep.length = n) (hk : KArg w b A keep) (he : crashD D keep = D') :
    Calls Try.prog 18 #[.pointer (some ⟨b, 0, none⟩), .slice A n c] w fun e w' => e = .returned (.tuple #[]) ∧ Dsk w0 w' b D' m ∧ Fr w w' b := by
  subst hn
  obtain ⟨qv, kv, hd⟩ := h.at_
  refine (crashF hd h.good.ok A c keep hk).mono ?_
  rintro e w' ⟨rfl, ⟨qv', h'⟩, hf⟩
  have hg := good_crash h.good keep
  rw [he] at h' hg
  exact ⟨rfl, h.frame h' hf _ hg, hf⟩
theorem startP (h : Dsk w0 w b D m) (he : { D with down := false } = D') :
    Calls Try.prog 19 #[.pointer (some ⟨b, 0, none⟩)] w fun e w' => e = .returned (.tuple #[]) ∧ Dsk w0 w' b D' m ∧ Fr w w' b := by
  obtain ⟨qv, kv, hd⟩ := h.at_
  refine (startF hd).mono ?_
  rintro e w' ⟨rfl, h', hf⟩
  have hg := good_start h.good
  rw [he] at h' hg
  exact ⟨rfl, h.frame h' hf _ hg, hf⟩
theorem loseP (h : Dsk w0 w b D m) (n : Int) (hn : n ≤ 9223372036854775807) (he : { D with lost := n.toNat } = D') :
    Calls Try.prog 52 #[.pointer (some ⟨b, 0, none⟩), .int .i64 n] w fun e w' => e = .returned (.tuple #[]) ∧ Dsk w0 w' b D' m ∧ Fr w w' b := by
  obtain ⟨qv, kv, hd⟩ := h.at_
  refine (loseF hd n).mono ?_
  rintro e w' ⟨rfl, h', hf⟩
  have hg := good_lose (n := n.toNat) h.good (by omega)
  rw [he] at h' hg
  exact ⟨rfl, h.frame h' hf _ hg, hf⟩
theorem readP (h : Dsk w0 w b D m) (f : Int) (s : ByteArray) (r : Int) (he : readD D f = (s.data.toList, r)) :
    Calls Try.prog 20 #[.pointer (some ⟨b, 0, none⟩), .int .i64 f] w fun e w' => e = .returned (.tuple #[.string s, .int .i64 r]) ∧ Dsk w0 w' b D m ∧ Below w.heap.size w w' := by
  obtain ⟨qv, kv, hd⟩ := h.at_
  refine (readF hd f).mono ?_
  rintro e w' ⟨rfl, h', hb⟩
  rw [he, bs_of]
  exact ⟨rfl, h.below hb, hb⟩
theorem sizeP (h : Dsk w0 w b D m) (f : Int) (n : Nat) (he : sizeOf D f = n) :
    Calls Try.prog 21 #[.pointer (some ⟨b, 0, none⟩), .int .i64 f] w fun e w' => e = .returned (.int .i64 n) ∧ w = w' := by
  obtain ⟨qv, kv, hd⟩ := h.at_
  rw [← he]
  exact sizeF hd f
theorem downP (h : Dsk w0 w b D m) (v : Bool) (he : D.down = v) :
    Calls Try.prog 23 #[.pointer (some ⟨b, 0, none⟩)] w fun e w' => e = .returned (.bool v) ∧ w = w' := by
  obtain ⟨qv, kv, hd⟩ := h.at_
  rw [← he]
  exact downF hd
end
/-- A literal's kept lengths. -/
theorem KArg.lit {w : World} {b g : Nat} {l : List Int} {cs : Array Value} (hc : cs = (l.map (Value.int .i64)).toArray) (h : w.heap[g]? = some (.cells cs 3 (0, 0))) (hl : l.length ≤ 1000000) (hb : g ≠ b) : KArg w b (some ⟨g, 0, none⟩) l := by
  refine ⟨fun _ => ⟨_, rfl, (Array.getElem?_eq_some_iff.1 h).1, hb⟩, ?_⟩
  have e : cs.size = l.length := by rw [hc]; simp
  refine ⟨rfl, by show l.length ≤ 9223372036854775807; omega, fun hp => ⟨_, rfl, fun j p hj => ⟨[.int .i64 p], rfl, rfl, fun i u hu => ?_⟩⟩⟩
  have hi : i = 0 := by
    have := (List.getElem?_eq_some_iff.1 hu).1
    simpa using this
  subst hi
  have : u = .int .i64 p := by simpa using hu.symm
  subst this
  have hx : cs[j]? = some (.int .i64 p) := by rw [hc, List.getElem?_toArray, List.getElem?_map, hj]; rfl
  have hsz : j * (Kd.int .i64).sz + 0 = j := by show j * 1 + 0 = j; omega
  rw [hsz]
  cases j with
  | zero => simp [World.cell?, Addr.add, h, hx]
  | succ j => simp [World.cell?, Addr.add, h, hx]
theorem KArg.nil (w : World) (b : Nat) : KArg w b none [] := ⟨fun h => by simp at h, Kd.C_nil _ _⟩
end Go.Proofs.Ytbhlpnkccdcdiaa.Dk
