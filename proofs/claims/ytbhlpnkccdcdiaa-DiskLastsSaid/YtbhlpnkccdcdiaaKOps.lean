/- The disk's New, Lose, Read, Append. -/
import Derived.Test.YtbhlpnkccdcdiaaKCrashW
namespace Go.Proofs.Ytbhlpnkccdcdiaa.Dk
open Go.RowKit Go.Proofs.YtbhlpnkccdcdiaaW.PrintWords Go.Lib
set_option linter.unusedVariables false
set_option linter.unusedSimpArgs false

def newD : DS := ⟨List.replicate 8 ⟨[], 0⟩, [], 0, false, 0, []⟩
theorem KAt_nil (w : World) : KAt w (.slice none 0 0) [] := ⟨none, 0, rfl, by simp, fun h => by simp at h, Kd.C_nil _ _⟩
theorem newF (w : World) : Calls Try.prog 14 #[] w fun e w' => e = .returned (.pointer (some ⟨w.heap.size, 0, none⟩)) ∧ DAt w' w.heap.size newD (.slice none 0 0) (.slice none 0 0) ∧ Below w.heap.size w w' := by
  go_enter Try.func14, Try.ntmps14
  go_wp2_with fail
  go_ret
  refine ⟨rfl, ⟨by simp [newD], ?_, .inl ⟨rfl, rfl⟩, KAt_nil _⟩, (Below.refl _ w).alloc (Nat.le_refl _) _⟩
  exact (heap_alloc_new w _).trans rfl
theorem loseF {w : World} {b : Nat} {D : DS} {qv kv : Value} (h : DAt w b D qv kv) (n : Int) : Calls Try.prog 52 #[.pointer (some ⟨b, 0, none⟩), .int .i64 n] w fun e w' => e = .returned (.tuple #[]) ∧ DAt w' b { D with lost := n.toNat } qv kv ∧ Fr w w' b := by
  have hc := h.clost
  have hf := h.frozen 17
  have HH := Aside0.mk h
  have hs := h.setLost n.toNat
  rw [show ((n.toNat : Nat) : Int) = max n 0 by omega] at hs
  have HS := Aside0.mk hs
  clear h hs
  go_enter Try.func52, Try.ntmps52
  go_wp2_with fail
  go_end0
  exact ⟨rfl, HS.out, Fr.ofSet HH.out HS.out⟩
def readD (D : DS) (f : Int) : List UInt8 × Int := if mayOf D [f] = 0 then ((D.fl f.toNat).b, 0) else ([], mayOf D [f])
theorem readF {w : World} {b : Nat} {D : DS} {qv kv : Value} (h : DAt w b D qv kv) (f : Int) : Calls Try.prog 20 #[.pointer (some ⟨b, 0, none⟩), .int .i64 f] w fun e w' => e = .returned (.tuple #[.string (bs (readD D f).1), .int .i64 (readD D f).2]) ∧ DAt w' b D qv kv ∧ Below w.heap.size w w' := by
  have hba := (Below.refl _ w).alloc (Nat.le_refl _) (.cells #[.int .i64 f] 3)
  have h1 := h.below hba
  have HM := Aside0.mk (may1 h1 w.heap.size f (by simp))
  have HH := Aside0.mk h1
  have HB := Aside0.mk hba
  by_cases h0 : mayOf D [f] = 0
  · have hf : isB f = true := by
      unfold mayOf at h0
      split at h0
      · cases h0
      · split at h0
        · rename_i h2
          simpa using h2
        · cases h0
    obtain ⟨n, hn, rfl⟩ := isB_of hf
    have hc := h1.bytes hn
    have HR := Aside0.mk (show readD D (n : Int) = ((D.fl n).b, 0) by unfold readD; rw [if_pos h0]; rfl)
    rw [h0] at HM
    have hni : (n : Int) < 8 := by omega
    clear h h1 h0 hf hba
    go_enter Try.func20, Try.ntmps20
    go_wp2_with (go_at_call 55; refine HM.out.mono ?_; rintro e w' ⟨rfl, rfl⟩)
    go_ret2
    exact ⟨by rw [HR.out]; rfl, HH.out, HB.out⟩
  · have h0b : (mayOf D [f] != 0) = true := by simpa using h0
    have HR := Aside0.mk (show readD D f = ([], mayOf D [f]) by unfold readD; rw [if_neg h0])
    clear h h1 h0 hba
    generalize mayOf D [f] = r at *
    go_enter Try.func20, Try.ntmps20
    go_wp2_with (go_at_call 55; refine HM.out.mono ?_; rintro e w' ⟨rfl, rfl⟩)
    go_ret2
    exact ⟨by rw [HR.out]; rfl, HH.out, HB.out⟩

/-! ### Append -/
def putD (D : DS) (f : Nat) (s : List UInt8) : DS := { D with q := D.q ++ [⟨f, (D.fl f).b.length, s.length⟩], fs := D.fs.set f ⟨(D.fl f).b ++ s, (D.fl f).n⟩ }
/-- What Append does before a crash that is due, and what it answers. -/
def coreD (D : DS) (f : Int) (s : List UInt8) : DS × Int :=
  if mayOf D [f] ≠ 0 then (D, mayOf D [f]) else if 16777216 < (D.fl f.toNat).b.length + s.length then (D, 8) else if s = [] then (D, 0) else (putD D f.toNat s, 0)
def appendD (D : DS) (f : Int) (s : List UInt8) : DS × Int :=
  if endsB D = true then (crashD (coreD (tick D) f s).1 (coreD (tick D) f s).1.keep, 9) else coreD (tick D) f s
theorem bs_append (l : List UInt8) (s : ByteArray) : bs l ++ s = bs (l ++ s.data.toList) := by
  cases s with | mk a =>
  simp [bs, ByteArray.ext_iff, ByteArray.data_append]
theorem QAt.owns {w : World} {v : Value} {q : List Pd} (h : QAt w v q) : w.ownsRow 0 91 3 v q.length (q.flatMap cE) := by
  have fl : ∀ l : List Pd, (l.flatMap cE).length = l.length * 3 := fun l => by
    induction l with
    | nil => rfl
    | cons x l ih => rw [List.flatMap_cons, List.length_append, ih, cE_len, List.length_cons]; omega
  have fg : ∀ (l : List Pd) (j : Nat) (u : Value), (l.flatMap cE)[j]? = some u → ∃ x, l[j / 3]? = some x ∧ (cE x)[j % 3]? = some u := by
    intro l
    induction l with
    | nil => intro j u h; simp at h
    | cons x l ih =>
      intro j u h
      rw [List.flatMap_cons] at h
      by_cases hj : j < 3
      · rw [List.getElem?_append_left (by rw [cE_len]; exact hj)] at h
        exact ⟨x, by rw [Nat.div_eq_of_lt hj]; rfl, by rw [Nat.mod_eq_of_lt hj]; exact h⟩
      · rw [List.getElem?_append_right (by rw [cE_len]; omega), cE_len] at h
        obtain ⟨y, hy, hu⟩ := ih (j - 3) u h
        have e1 : j / 3 = (j - 3) / 3 + 1 := by omega
        have e2 : j % 3 = (j - 3) % 3 := by omega
        exact ⟨y, by rw [e1]; simpa using hy, by rw [e2]; exact hu⟩
  rcases h with ⟨rfl, rfl⟩ | ⟨g, cap, rfl, cur, hb, hs, hl, hm, hc⟩
  · exact ⟨rfl, .inl ⟨rfl, rfl⟩⟩
  · refine ⟨fl q, .inr ⟨g, cap, cur, rfl, Nat.zero_le _, hb, hl, hm, hs, ?_⟩⟩
    apply List.ext_getElem?
    intro j
    rw [List.getElem?_take]
    by_cases hj : j < q.length * 3
    · rw [if_pos hj]
      obtain ⟨u, hu⟩ : ∃ u, (q.flatMap cE)[j]? = some u := ⟨_, List.getElem?_eq_getElem (by rw [fl]; exact hj)⟩
      obtain ⟨x, hx, hux⟩ := fg q j u hu
      have := hc _ x hx _ u hux
      rw [show j / 3 * 3 + j % 3 = j by omega] at this
      rw [hu]
      simpa using this
    · rw [if_neg hj, List.getElem?_eq_none (by rw [fl]; omega)]
theorem QAt.ofOwns {w : World} {v : Value} {q : List Pd} (h : w.ownsRow 0 91 3 v q.length (q.flatMap cE)) : QAt w v q := by
  rcases h.2 with ⟨rfl, h2⟩ | ⟨g, cap, cur, rfl, _, hb, hl, hm, hs, ht⟩
  · exact .inl ⟨rfl, List.length_eq_zero_iff.1 h2⟩
  · refine .inr ⟨g, cap, rfl, cur, hb, hs, hl, hm, fun j x hj i u hu => ?_⟩
    have flat_at : ∀ (l : List Pd) (j i : Nat) (x : Pd) (u : Value), l[j]? = some x → (cE x)[i]? = some u → (l.flatMap cE)[j * 3 + i]? = some u := by
      intro l
      induction l with
      | nil => intro j i x u h; simp at h
      | cons y l ih =>
        intro j i x u h hu
        have hi : i < 3 := by have := (List.getElem?_eq_some_iff.1 hu).1; rwa [cE_len] at this
        cases j with
        | zero =>
          have : y = x := by simpa using h
          subst this
          rw [List.flatMap_cons, Nat.zero_mul, Nat.zero_add, List.getElem?_append_left (by rw [cE_len]; exact hi)]
          exact hu
        | succ j =>
          rw [List.flatMap_cons, List.getElem?_append_right (by rw [cE_len]; omega), cE_len, show (j + 1) * 3 + i - 3 = j * 3 + i by omega]
          exact ih j i x u (by simpa using h) hu
    have h1 := flat_at q j i x u hj hu
    rw [← ht, List.getElem?_take] at h1
    split at h1
    · simpa using h1
    · cases h1
section
variable {w w2 : World} {b : Nat} {D D' : DS} {qv kv : Value}
theorem DAt.appendQ (h : DAt w b D qv kv) (hg : w.grownBy w2 qv.ownBlock) {v : Value} {q : List Pd} (hq : QAt w2 v q) (hv : ∀ k, v.ownBlock = some k → qv.ownBlock = some k ∨ w.heap.size ≤ k) :
    w2.cell? ⟨b, 16, none⟩ = some qv ∧ w2.frozen? ⟨b, 16, none⟩ = false ∧ DAt (w2.setCell ⟨b, 16, none⟩ v) b { D with q := q } v kv ∧ Fr w (w2.setCell ⟨b, 16, none⟩ v) b := by
  have hb1 : w2.heap[b]? = w.heap[b]? := hg.block b h.lt (fun e => h.qne e.symm)
  have hk1 : KAt w2 kv D.keep := h.kep.move fun k cur hc => hg.block k (Array.getElem?_eq_some_iff.1 hc).1 (fun e => by
    obtain ⟨cur', hc'⟩ := h.que.typed e.symm
    rw [hc] at hc'
    injection hc' with hc'
    injection hc' with _ ht
    exact absurd ht (by decide))
  have hblk := hb1.trans h.blk
  have hvb : v.ownBlock ≠ some b := by
    intro e
    obtain ⟨cur, hc⟩ := hq.typed e
    rw [hblk] at hc
    injection hc with hc
    injection hc with _ ht
    exact absurd ht (by decide)
  have hd : DAt (w2.setCell ⟨b, 16, none⟩ v) b { D with q := q } v kv := {
    len := h.len
    blk := by
      have e : DCells { D with q := q } v kv = (DCells D qv kv).set 16 v := (tail_set h.len 0 v).symm
      rw [e, ← setCells_toArray]
      simp [World.setCell, Array.getElem?_modify, hblk]
    que := hq.setFar hvb
    kep := hk1.setFar hblk (by decide) }
  refine ⟨?_, ?_, hd, ⟨hg.os, hg.tape, hg.output, by have := hg.size; simpa using this, fun k hk h1 h2 => (heap_far w2 _ v h1).trans (hg.block k hk (fun e => h2 ((qOwn_at h).2 e.symm))), fun k hk hl => ?_⟩⟩
  · rw [World.cell?_of_block (a := ⟨b, 16, none⟩) hb1]
    exact h.cq
  · rw [World.frozen?_of_block (a := ⟨b, 16, none⟩) hb1]
    exact h.frozen 16
  · rcases hv k ((qOwn_at hd).1 hk) with e | e
    · exact (qOwn_at h).2 e
    · omega
theorem KAt.arg (h : DAt w b D qv kv) : ∃ A c, kv = .slice A D.keep.length c ∧ KArg w b A D.keep := by
  obtain ⟨A, c, rfl, hc, hb, hC⟩ := h.kep
  refine ⟨A, c, rfl, fun hp => ?_, hC⟩
  obtain ⟨ad, cur, e, hh⟩ := hb hp
  refine ⟨ad, e, (Array.getElem?_eq_some_iff.1 hh).1, fun e2 => ?_⟩
  rw [e2, h.blk] at hh
  injection hh with hh
  injection hh with _ ht
  exact absurd ht (by decide)
end
end Go.Proofs.Ytbhlpnkccdcdiaa.Dk
