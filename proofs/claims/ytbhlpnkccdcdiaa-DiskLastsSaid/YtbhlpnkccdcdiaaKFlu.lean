/- The disk's Flush, Cut, Turn. -/
import Derived.Test.YtbhlpnkccdcdiaaKApp
namespace Go.Proofs.Ytbhlpnkccdcdiaa.Dk
open Go.RowKit Go.Proofs.YtbhlpnkccdcdiaaW.PrintWords Go.Lib
set_option linter.unusedVariables false
set_option linter.unusedSimpArgs false

/-- The crash that is due, before a call. -/
def preD (D : DS) : DS := if endsB D = true then crashD (tick D) (tick D).keep else tick D
def flushD (D : DS) (f : Int) : DS × Int :=
  if mayOf (preD D) [f] ≠ 0 then (preD D, mayOf (preD D) [f]) else if 0 < (preD D).lost then ({ preD D with lost := (preD D).lost - 1 }, 13)
  else ({ preD D with fs := (preD D).fs.set f.toNat ⟨((preD D).fl f.toNat).b, ((preD D).fl f.toNat).b.length⟩, q := settle (preD D).q f 0 }, 0)
def cutD (D : DS) (f n : Int) : DS × Int :=
  if mayOf (preD D) [f] ≠ 0 then (preD D, mayOf (preD D) [f]) else if n < 0 ∨ (((preD D).fl f.toNat).b.length : Int) < n then (preD D, 1)
  else ({ preD D with fs := (preD D).fs.set f.toNat ⟨((preD D).fl f.toNat).b.take n.toNat, min ((preD D).fl f.toNat).n n.toNat⟩, q := settle (preD D).q f n }, 0)
def turnD (D : DS) (f g : Int) : DS × Int :=
  if mayOf (preD D) [f, g] ≠ 0 then (preD D, mayOf (preD D) [f, g]) else if f = g then (preD D, 1) else if ((preD D).fl g.toNat).n < ((preD D).fl g.toNat).b.length then (preD D, 10)
  else ({ preD D with fs := ((preD D).fs.set f.toNat ((preD D).fl g.toNat)).set g.toNat ⟨[], 0⟩, q := settle (preD D).q f 0 }, 0)
theorem crashD_down (D : DS) (k : List Int) : (crashD D k).down = true := by
  unfold crashD
  split
  · assumption
  · rfl
theorem may_down {D : DS} (h : D.down = true) (l : List Int) : mayOf D l = 9 := by unfold mayOf; rw [if_pos h]
theorem pre_down {D : DS} (h : endsB D = true) (l : List Int) : mayOf (preD D) l = 9 := by
  unfold preD
  rw [if_pos h]
  exact may_down (crashD_down _ _) l
theorem pre_tick {D : DS} (h : endsB D = false) : preD D = tick D := by unfold preD; rw [if_neg (by rw [h]; simp)]

set_option maxRecDepth 100000 in
set_option maxHeartbeats 4000000 in
theorem flushF {w : World} {b : Nat} {D : DS} {qv kv : Value} (h : DAt w b D qv kv) (ok : DOk D) (f : Int) :
    Calls Try.prog 16 #[.pointer (some ⟨b, 0, none⟩), .int .i64 f] w fun e w' => e = .returned (.int .i64 (flushD D f).2) ∧ (∃ qv', DAt w' b (flushD D f).1 qv' kv) ∧ Fr w w' b := by
  have HE := Aside0.mk (endsF h ok.armed)
  have HOK := Aside0.mk (tick_ok ok)
  cases he : endsB D with
  | true =>
    have HM9 := Aside0.mk (pre_down he [f])
    have HPR := Aside0.mk (show preD D = crashD (tick D) (tick D).keep by unfold preD; rw [if_pos he])
    have HSP := Aside0.mk (show flushD D f = (preD D, mayOf (preD D) [f]) by unfold flushD; rw [if_pos (by rw [HM9.out]; simp)])
    rw [he] at HE
    clear h ok he
    go_enter Try.func16, Try.ntmps16
    go_wp2_with fail
    go_at_call 54
    refine HE.out.mono ?_
    rintro e w1 ⟨rfl, hd1, hf1⟩
    obtain ⟨Ak, ck, hkv, hka⟩ := KAt.arg hd1
    subst hkv
    have hck := hd1.ckeep
    have HKA := Aside0.mk hka
    have HD1 := Aside0.mk hd1
    have HF1 := Aside0.mk hf1
    clear hd1 hf1 hka
    go_wp2_with fail
    go_at_call 18
    refine (crashF HD1.out HOK.out _ _ _ HKA.out).mono ?_
    rintro e w2 ⟨rfl, hd2, hf2⟩
    obtain ⟨qv2, hd2⟩ := hd2
    rw [← HPR.out] at hd2
    have hba := (Below.refl _ w2).alloc (Nat.le_refl _) (.cells #[.int .i64 f] 3)
    have HD2 := Aside0.mk (hd2.below hba)
    have HF2 := Aside0.mk ((HF1.out.trans hf2).trans (Fr.ofBelow hd2 hba))
    clear hd2 hf2 hba hck
    go_wp2_with fail
    go_at_call 55
    refine (may1 HD2.out w2.heap.size f (by simp)).mono ?_
    rintro e w3 ⟨rfl, rfl⟩
    rw [HM9.out]
    go_wp2_with fail
    go_ret
    refine ⟨by rw [HSP.out, HM9.out]; rfl, ⟨qv2, ?_⟩, HF2.out⟩
    rw [HSP.out]
    exact HD2.out
  | false =>
    have HPR := Aside0.mk (pre_tick he)
    rw [he] at HE
    have HSPd : Aside0 (flushD D f = flushD D f) := ⟨rfl⟩
    by_cases h0 : mayOf (tick D) [f] = 0
    case neg =>
      have h0b : (mayOf (tick D) [f] != 0) = true := by simpa using h0
      have HSP := Aside0.mk (show flushD D f = (tick D, mayOf (tick D) [f]) by unfold flushD; rw [HPR.out, if_pos h0])
      have HM := Aside0.mk (fun {w1 : World} (hd : DAt w1 b (tick D) qv kv) (gg : Nat) hg => may1 hd gg f hg)
      clear h ok he h0
      generalize mayOf (tick D) [f] = r at *
      go_enter Try.func16, Try.ntmps16
      go_wp2_with fail
      go_at_call 54
      refine HE.out.mono ?_
      rintro e w1 ⟨rfl, hd1, hf1⟩
      have hba := (Below.refl _ w1).alloc (Nat.le_refl _) (.cells #[.int .i64 f] 3)
      have HD2 := Aside0.mk (hd1.below hba)
      have HF2 := Aside0.mk (hf1.trans (Fr.ofBelow hd1 hba))
      clear hd1 hf1 hba
      go_wp2_with fail
      go_at_call 55
      refine (HM.out HD2.out w1.heap.size (by simp)).mono ?_
      rintro e w2 ⟨rfl, rfl⟩
      go_wp2_with fail
      go_ret
      refine ⟨by rw [HSP.out]; rfl, ⟨qv, ?_⟩, HF2.out⟩
      rw [HSP.out]
      exact HD2.out
    case pos =>
      have HM := Aside0.mk (fun {w1 : World} (hd : DAt w1 b (tick D) qv kv) (gg : Nat) hg => may1 hd gg f hg)
      rw [h0] at HM
      have H0 := Aside0.mk h0
      obtain ⟨_, hb⟩ := may_is h0
      obtain ⟨k, hk8, rfl⟩ := isB_of hb
      have hll := HOK.out.lost
      have HSZ := Aside0.mk (fun {w1 : World} (hd : DAt w1 b (tick D) qv kv) => sizeF hd (k : Int))
      have hsz : sizeOf (tick D) (k : Int) = ((tick D).fl k).b.length := by unfold sizeOf; rw [if_pos hb]; rfl
      rw [hsz] at HSZ
      have hQ := HOK.out.qok
      by_cases hl : 0 < (tick D).lost
      · have HSP := Aside0.mk (show flushD D (k : Int) = ({ tick D with lost := (tick D).lost - 1 }, 13) by unfold flushD; rw [HPR.out, if_neg (by rw [H0.out]; simp), if_pos hl])
        have hQ2 := Aside0.mk hQ
        clear h ok he h0 hb hsz hQ
        generalize tick D = D1 at *
        go_enter Try.func16, Try.ntmps16
        go_wp2_with fail
        go_at_call 54
        refine HE.out.mono ?_
        rintro e w1 ⟨rfl, hd1, hf1⟩
        have hba := (Below.refl _ w1).alloc (Nat.le_refl _) (.cells #[.int .i64 k] 3)
        have HD2 := Aside0.mk (hd1.below hba)
        have HF2 := Aside0.mk (hf1.trans (Fr.ofBelow hd1 hba))
        clear hd1 hf1 hba
        go_wp2_with fail
        go_at_call 55
        refine (HM.out HD2.out w1.heap.size (by simp)).mono ?_
        rintro e w2 ⟨rfl, rfl⟩
        have hc := HD2.out.clost
        have hf := HD2.out.frozen 17
        obtain ⟨m, hm⟩ : ∃ m, D1.lost = m + 1 := ⟨D1.lost - 1, by omega⟩
        have hds := HD2.out.setLost m
        have HDs := Aside0.mk hds
        have HFs := Aside0.mk (HF2.out.trans (Fr.ofSet HD2.out hds))
        have HMm := Aside0.mk hm
        rw [hm] at hc hl hll
        have hcm : ((m + 1 : Nat) : Int) = (m : Int) + 1 := by omega
        rw [hcm] at hc
        clear hds hm hcm hl
        go_wp2_with fail
        go_ret
        refine ⟨by rw [HSP.out]; rfl, ⟨qv, ?_⟩, HFs.out⟩
        rw [HSP.out]
        rw [show D1.lost - 1 = m by rw [HMm.out]; rfl]
        exact HDs.out
      · have HSP := Aside0.mk (show flushD D (k : Int) = ({ tick D with fs := (tick D).fs.set k ⟨((tick D).fl k).b, ((tick D).fl k).b.length⟩, q := settle (tick D).q k 0 }, 0) by unfold flushD; rw [HPR.out, if_neg (by rw [H0.out]; simp), if_neg hl]; rfl)
        have hl0 : (tick D).lost = 0 := by omega
        have HQ2 := Aside0.mk hQ
        clear h ok he h0 hb hsz hQ hl
        generalize tick D = D1 at *
        go_enter Try.func16, Try.ntmps16
        go_wp2_with fail
        go_at_call 54
        refine HE.out.mono ?_
        rintro e w1 ⟨rfl, hd1, hf1⟩
        have hba := (Below.refl _ w1).alloc (Nat.le_refl _) (.cells #[.int .i64 k] 3)
        have HD2 := Aside0.mk (hd1.below hba)
        have HF2 := Aside0.mk (hf1.trans (Fr.ofBelow hd1 hba))
        clear hd1 hf1 hba
        go_wp2_with fail
        go_at_call 55
        refine (HM.out HD2.out w1.heap.size (by simp)).mono ?_
        rintro e w2 ⟨rfl, rfl⟩
        have hc := HD2.out.clost
        rw [hl0] at hc
        have k1 := HD2.out.lasts hk8
        have z1 := HD2.out.frozen (k * 2 + 1)
        have hk0 : (0 : Int) ≤ (k : Int) := by omega
        have hk7 : (k : Int) < 8 := by omega
        clear hl0 hll
        generalize (w1.alloc (.cells #[.int .i64 k] 3)) = W2 at *
        have hds := HD2.out.setLasts hk8 (D1.fl k).b.length
        have hfs := Fr.ofSet HD2.out hds
        have HDs : Aside0 (DAt ((W2.setCell ⟨b, k * 2 + 1, none⟩ (.int .i64 (D1.fl k).b.length)).drew) b { D1 with fs := D1.fs.set k ⟨(D1.fl k).b, (D1.fl k).b.length⟩ } qv kv) := ⟨hds.move fun _ _ => rfl⟩
        have HFs : Aside0 (Fr w ((W2.setCell ⟨b, k * 2 + 1, none⟩ (.int .i64 (D1.fl k).b.length)).drew) b) := ⟨by
          have h := HF2.out.trans hfs
          exact ⟨h.os, h.tape, h.output, h.size, h.block, h.own⟩⟩
        have HDd := Aside0.mk (HD2.out.move (w1 := W2.drew) fun _ _ => rfl)
        clear hds hfs
        go_wp2_with fail
        refine still_tail 9 (by kernel_rfl) (by kernel_rfl) ?_
        simp only [List.take_succ_cons, List.take_zero, List.drop_succ_cons, List.drop_zero]
        still_step
        still_step
        still_step
        still_step
        still_call ((HSZ.out HDd.out).mono fun e w' h => ⟨h.1, h.2.symm⟩)
        repeat still_step
        refine wpStill_nil ?_
        go_wp2_with fail
        go_at_call 56
        refine (settleF HDs.out (k : Int) 0 HQ2.out (by omega)).mono ?_
        rintro e w3 ⟨rfl, hd3⟩
        obtain ⟨qv3, hd3, hf3⟩ := hd3
        have HD3 := Aside0.mk hd3
        have HF3 := Aside0.mk (HFs.out.trans hf3)
        clear hd3 hf3 hc k1 z1
        go_wp2_with fail
        go_ret
        refine ⟨by rw [HSP.out]; rfl, ⟨qv3, ?_⟩, HF3.out⟩
        rw [HSP.out]
        exact HD3.out

set_option maxRecDepth 100000 in
set_option maxHeartbeats 4000000 in
theorem cutF {w : World} {b : Nat} {D : DS} {qv kv : Value} (h : DAt w b D qv kv) (ok : DOk D) (f n : Int) :
    Calls Try.prog 53 #[.pointer (some ⟨b, 0, none⟩), .int .i64 f, .int .i64 n] w fun e w' => e = .returned (.int .i64 (cutD D f n).2) ∧ (∃ qv', DAt w' b (cutD D f n).1 qv' kv) ∧ Fr w w' b := by
  have HE := Aside0.mk (endsF h ok.armed)
  have HOK := Aside0.mk (tick_ok ok)
  cases he : endsB D with
  | true =>
    have HM9 := Aside0.mk (pre_down he [f])
    have HPR := Aside0.mk (show preD D = crashD (tick D) (tick D).keep by unfold preD; rw [if_pos he])
    have HSP := Aside0.mk (show cutD D f n = (preD D, mayOf (preD D) [f]) by unfold cutD; rw [if_pos (by rw [HM9.out]; simp)])
    rw [he] at HE
    clear h ok he
    go_enter Try.func53, Try.ntmps53
    go_wp2_with fail
    go_at_call 54
    refine HE.out.mono ?_
    rintro e w1 ⟨rfl, hd1, hf1⟩
    obtain ⟨Ak, ck, hkv, hka⟩ := KAt.arg hd1
    subst hkv
    have hck := hd1.ckeep
    have HKA := Aside0.mk hka
    have HD1 := Aside0.mk hd1
    have HF1 := Aside0.mk hf1
    clear hd1 hf1 hka
    go_wp2_with fail
    go_at_call 18
    refine (crashF HD1.out HOK.out _ _ _ HKA.out).mono ?_
    rintro e w2 ⟨rfl, hd2, hf2⟩
    obtain ⟨qv2, hd2⟩ := hd2
    rw [← HPR.out] at hd2
    have hba := (Below.refl _ w2).alloc (Nat.le_refl _) (.cells #[.int .i64 f] 3)
    have HD2 := Aside0.mk (hd2.below hba)
    have HF2 := Aside0.mk ((HF1.out.trans hf2).trans (Fr.ofBelow hd2 hba))
    clear hd2 hf2 hba hck
    go_wp2_with fail
    go_at_call 55
    refine (may1 HD2.out w2.heap.size f (by simp)).mono ?_
    rintro e w3 ⟨rfl, rfl⟩
    rw [HM9.out]
    go_wp2_with fail
    go_ret
    refine ⟨by rw [HSP.out, HM9.out]; rfl, ⟨qv2, ?_⟩, HF2.out⟩
    rw [HSP.out]
    exact HD2.out
  | false =>
    have HPR := Aside0.mk (pre_tick he)
    rw [he] at HE
    have HSPd : Aside0 (cutD D f n = cutD D f n) := ⟨rfl⟩
    by_cases h0 : mayOf (tick D) [f] = 0
    case neg =>
      have h0b : (mayOf (tick D) [f] != 0) = true := by simpa using h0
      have HSP := Aside0.mk (show cutD D f n = (tick D, mayOf (tick D) [f]) by unfold cutD; rw [HPR.out, if_pos h0])
      have HM := Aside0.mk (fun {w1 : World} (hd : DAt w1 b (tick D) qv kv) (gg : Nat) hg => may1 hd gg f hg)
      clear h ok he h0
      generalize mayOf (tick D) [f] = r at *
      go_enter Try.func53, Try.ntmps53
      go_wp2_with fail
      go_at_call 54
      refine HE.out.mono ?_
      rintro e w1 ⟨rfl, hd1, hf1⟩
      have hba := (Below.refl _ w1).alloc (Nat.le_refl _) (.cells #[.int .i64 f] 3)
      have HD2 := Aside0.mk (hd1.below hba)
      have HF2 := Aside0.mk (hf1.trans (Fr.ofBelow hd1 hba))
      clear hd1 hf1 hba
      go_wp2_with fail
      go_at_call 55
      refine (HM.out HD2.out w1.heap.size (by simp)).mono ?_
      rintro e w2 ⟨rfl, rfl⟩
      go_wp2_with fail
      go_ret
      refine ⟨by rw [HSP.out]; rfl, ⟨qv, ?_⟩, HF2.out⟩
      rw [HSP.out]
      exact HD2.out
    case pos =>
      have HM := Aside0.mk (fun {w1 : World} (hd : DAt w1 b (tick D) qv kv) (gg : Nat) hg => may1 hd gg f hg)
      rw [h0] at HM
      have H0 := Aside0.mk h0
      obtain ⟨_, hb⟩ := may_is h0
      obtain ⟨k, hk8, rfl⟩ := isB_of hb
      have hQ := HOK.out.qok
      have hfl := HOK.out.flAt hk8
      have hk0 : (0 : Int) ≤ (k : Int) := by omega
      have hk7 : (k : Int) < 8 := by omega
      obtain ⟨ln, hln⟩ : ∃ ln, ((tick D).fl k).b.length = ln := ⟨_, rfl⟩
      have hsz : (bs ((tick D).fl k).b).size = ln := by rw [bs_size, hln]
      have HSz := Aside0.mk hsz
      have HLn := Aside0.mk hln
      have HQ2 := Aside0.mk hQ
      have hln24 : ln ≤ 16777216 := by have := hfl.2; omega
      rw [hln] at hfl
      have HFL := Aside0.mk hfl
      by_cases hn : n < 0 ∨ (ln : Int) < n
      · have HSP := Aside0.mk (show cutD D (k : Int) n = (tick D, 1) by unfold cutD; rw [HPR.out, if_neg (by rw [H0.out]; simp), if_pos (by rw [Int.toNat_natCast, hln]; exact hn)])
        clear h ok he h0 hb hQ hln hfl
        generalize tick D = D1 at *
        by_cases hn0 : n < 0
        · have hnb : decide (n < 0) = true := decide_eq_true hn0
          clear hn hn0
          go_enter Try.func53, Try.ntmps53
          go_wp2_with fail
          go_at_call 54
          refine HE.out.mono ?_
          rintro e w1 ⟨rfl, hd1, hf1⟩
          have hba := (Below.refl _ w1).alloc (Nat.le_refl _) (.cells #[.int .i64 k] 3)
          have HD2 := Aside0.mk (hd1.below hba)
          have HF2 := Aside0.mk (hf1.trans (Fr.ofBelow hd1 hba))
          clear hd1 hf1 hba
          go_wp2_with fail
          go_at_call 55
          refine (HM.out HD2.out w1.heap.size (by simp)).mono ?_
          rintro e w2 ⟨rfl, rfl⟩
          have k1 := HD2.out.bytes hk8
          go_wp2_with fail
          go_ret
          refine ⟨by rw [HSP.out]; rfl, ⟨qv, ?_⟩, HF2.out⟩
          rw [HSP.out]
          exact HD2.out
        · have hnb : decide (n < 0) = false := decide_eq_false hn0
          have hnl : (ln : Int) < n := by omega
          have hnlb : decide ((ln : Int) < n) = true := decide_eq_true hnl
          clear hn
          go_enter Try.func53, Try.ntmps53
          go_wp2_with fail
          go_at_call 54
          refine HE.out.mono ?_
          rintro e w1 ⟨rfl, hd1, hf1⟩
          have hba := (Below.refl _ w1).alloc (Nat.le_refl _) (.cells #[.int .i64 k] 3)
          have HD2 := Aside0.mk (hd1.below hba)
          have HF2 := Aside0.mk (hf1.trans (Fr.ofBelow hd1 hba))
          clear hd1 hf1 hba
          go_wp2_with fail
          go_at_call 55
          refine (HM.out HD2.out w1.heap.size (by simp)).mono ?_
          rintro e w2 ⟨rfl, rfl⟩
          have k1 := HD2.out.bytes hk8
          go_wp2_with fail
          go_ret
          refine ⟨by rw [HSP.out]; rfl, ⟨qv, ?_⟩, HF2.out⟩
          rw [HSP.out]
          exact HD2.out
      · obtain ⟨m, rfl⟩ : ∃ m : Nat, n = m := ⟨n.toNat, by omega⟩
        have hml : m ≤ ln := by omega
        have HSP := Aside0.mk (show cutD D (k : Int) (m : Int) = ({ tick D with fs := (tick D).fs.set k ⟨((tick D).fl k).b.take m, min ((tick D).fl k).n m⟩, q := settle (tick D).q k m }, 0) by unfold cutD; rw [HPR.out, if_neg (by rw [H0.out]; simp), if_neg (by rw [Int.toNat_natCast, hln]; exact hn)]; rfl)
        clear h ok he h0 hb hQ hln hfl hn
        generalize tick D = D1 at *
        go_enter Try.func53, Try.ntmps53
        go_wp2_with fail
        go_at_call 54
        refine HE.out.mono ?_
        rintro e w1 ⟨rfl, hd1, hf1⟩
        have hba := (Below.refl _ w1).alloc (Nat.le_refl _) (.cells #[.int .i64 k] 3)
        have HD2 := Aside0.mk (hd1.below hba)
        have HF2 := Aside0.mk (hf1.trans (Fr.ofBelow hd1 hba))
        clear hd1 hf1 hba
        go_wp2_with fail
        go_at_call 55
        refine (HM.out HD2.out w1.heap.size (by simp)).mono ?_
        rintro e w2 ⟨rfl, rfl⟩
        have k0 := HD2.out.bytes hk8
        have k1 := HD2.out.lasts hk8
        have z0 := HD2.out.frozen (k * 2)
        have z1 := HD2.out.frozen (k * 2 + 1)
        generalize (w1.alloc (.cells #[.int .i64 k] 3)) = W2 at *
        have hms : m ≤ (bs (D1.fl k).b).size := by rw [hsz]; exact hml
        have hd0 := HD2.out.setBytes hk8 ((D1.fl k).b.take m)
        have hd1 := hd0.setLasts hk8 (min (D1.fl k).n m)
        have hf1 := (Fr.ofSet HD2.out hd0).trans (Fr.ofSet hd0 hd1)
        have hex : bs ((D1.fl k).b.take m) = (bs (D1.fl k).b).extract 0 m := by rw [← extract_take, bs_of]
        have hmn : ((min (D1.fl k).n m : Nat) : Int) = min ((D1.fl k).n : Int) (m : Int) := by omega
        have hfd : ({ D1 with fs := D1.fs.set k ⟨(D1.fl k).b.take m, (D1.fl k).n⟩ } : DS).fl k = ⟨(D1.fl k).b.take m, (D1.fl k).n⟩ := by
          unfold DS.fl
          rw [getD_set _ _ _ _ _ (by rw [HD2.out.len]; exact hk8), if_pos rfl]
        rw [hfd] at hd1
        simp only [List.set_set] at hd1
        rw [hex, hmn] at hd1 hf1
        have HDs : Aside0 (DAt (((W2.setCell ⟨b, k * 2, none⟩ (.string ((bs (D1.fl k).b).extract 0 m))).setCell ⟨b, k * 2 + 1, none⟩ (.int .i64 (min ((D1.fl k).n : Int) (m : Int)))).drew) b { D1 with fs := D1.fs.set k ⟨(D1.fl k).b.take m, min (D1.fl k).n m⟩ } qv kv) := ⟨hd1.move fun _ _ => rfl⟩
        have HFs : Aside0 (Fr w (((W2.setCell ⟨b, k * 2, none⟩ (.string ((bs (D1.fl k).b).extract 0 m))).setCell ⟨b, k * 2 + 1, none⟩ (.int .i64 (min ((D1.fl k).n : Int) (m : Int)))).drew) b) := ⟨by
          have h := HF2.out.trans hf1
          exact ⟨h.os, h.tape, h.output, h.size, h.block, h.own⟩⟩
        clear hd0 hd1 hf1 hex hmn hfd
        go_wp2_with fail
        go_region_law (fail)
        all_goals
          go_wp2_with fail
          go_at_call 56
          refine (settleF HDs.out (k : Int) (m : Int) HQ2.out (by omega)).mono ?_
          rintro e w3 ⟨rfl, hd3⟩
          obtain ⟨qv3, hd3, hf3⟩ := hd3
          have HD3 := Aside0.mk hd3
          have HF3 := Aside0.mk (HFs.out.trans hf3)
          clear hd3 hf3 k0 k1 z0 z1
          go_wp2_with fail
          go_ret
          refine ⟨by rw [HSP.out]; rfl, ⟨qv3, ?_⟩, HF3.out⟩
          rw [HSP.out]
          exact HD3.out

theorem may_is2 {D : DS} {f g : Int} (h0 : mayOf D [f, g] = 0) : isB f = true ∧ isB g = true := by
  unfold mayOf at h0
  split at h0
  · cases h0
  · split at h0
    · rename_i h2
      simpa using h2
    · cases h0
theorem DAt.setFl {w : World} {b : Nat} {D : DS} {qv kv : Value} (h : DAt w b D qv kv) {f : Nat} (hf : f < 8) (x : Fl) : DAt ((w.setCell ⟨b, f * 2, none⟩ (.string (bs x.b))).setCell ⟨b, f * 2 + 1, none⟩ (.int .i64 x.n)) b { D with fs := D.fs.set f x } qv kv := by
  have h2 := (h.setBytes hf x.b).setLasts hf x.n
  have hl : f < D.fs.length := by rw [h.len]; exact hf
  have e : (({ D with fs := D.fs.set f ⟨x.b, (D.fl f).n⟩ } : DS).fl f).b = x.b := by
    unfold DS.fl
    rw [List.getD_eq_getElem?_getD, List.getElem?_set_self hl]
    rfl
  rw [e] at h2
  simp only [List.set_set] at h2
  exact h2
theorem Fr.ofSet2 {w : World} {b : Nat} {D D' : DS} {qv kv : Value} (h : DAt w b D qv kv) {o o' : Nat} {v v' : Value} (h1 : DAt ((w.setCell ⟨b, o, none⟩ v).setCell ⟨b, o', none⟩ v') b D' qv kv) : Fr w ((w.setCell ⟨b, o, none⟩ v).setCell ⟨b, o', none⟩ v') b :=
  Fr.of h h1 (fun k _ hk => (heap_far _ _ v' hk).trans (heap_far w _ v hk)) rfl rfl rfl (by simp)

set_option maxRecDepth 100000 in
set_option maxHeartbeats 4000000 in
theorem turnF {w : World} {b : Nat} {D : DS} {qv kv : Value} (h : DAt w b D qv kv) (ok : DOk D) (f g : Int) :
    Calls Try.prog 17 #[.pointer (some ⟨b, 0, none⟩), .int .i64 f, .int .i64 g] w fun e w' => e = .returned (.int .i64 (turnD D f g).2) ∧ (∃ qv', DAt w' b (turnD D f g).1 qv' kv) ∧ Fr w w' b := by
  have HE := Aside0.mk (endsF h ok.armed)
  have HOK := Aside0.mk (tick_ok ok)
  cases he : endsB D with
  | true =>
    have HM9 := Aside0.mk (pre_down he [f, g])
    have HPR := Aside0.mk (show preD D = crashD (tick D) (tick D).keep by unfold preD; rw [if_pos he])
    have HSP := Aside0.mk (show turnD D f g = (preD D, mayOf (preD D) [f, g]) by unfold turnD; rw [if_pos (by rw [HM9.out]; simp)])
    rw [he] at HE
    clear h ok he
    go_enter Try.func17, Try.ntmps17
    go_wp2_with fail
    go_at_call 54
    refine HE.out.mono ?_
    rintro e w1 ⟨rfl, hd1, hf1⟩
    obtain ⟨Ak, ck, hkv, hka⟩ := KAt.arg hd1
    subst hkv
    have hck := hd1.ckeep
    have HKA := Aside0.mk hka
    have HD1 := Aside0.mk hd1
    have HF1 := Aside0.mk hf1
    clear hd1 hf1 hka
    go_wp2_with fail
    go_at_call 18
    refine (crashF HD1.out HOK.out _ _ _ HKA.out).mono ?_
    rintro e w2 ⟨rfl, hd2, hf2⟩
    obtain ⟨qv2, hd2⟩ := hd2
    rw [← HPR.out] at hd2
    have hba := (Below.refl _ w2).alloc (Nat.le_refl _) (.cells #[.int .i64 f, .int .i64 g] 3)
    have HD2 := Aside0.mk (hd2.below hba)
    have HF2 := Aside0.mk ((HF1.out.trans hf2).trans (Fr.ofBelow hd2 hba))
    clear hd2 hf2 hba hck
    go_wp2_with fail
    go_at_call 55
    refine (may2 HD2.out w2.heap.size f g (by simp) (by simp)).mono ?_
    rintro e w3 ⟨rfl, rfl⟩
    rw [HM9.out]
    go_wp2_with fail
    go_ret
    refine ⟨by rw [HSP.out, HM9.out]; rfl, ⟨qv2, ?_⟩, HF2.out⟩
    rw [HSP.out]
    exact HD2.out
  | false =>
    have HPR := Aside0.mk (pre_tick he)
    rw [he] at HE
    have HSPd : Aside0 (turnD D f g = turnD D f g) := ⟨rfl⟩
    by_cases h0 : mayOf (tick D) [f, g] = 0
    case neg =>
      have h0b : (mayOf (tick D) [f, g] != 0) = true := by simpa using h0
      have HSP := Aside0.mk (show turnD D f g = (tick D, mayOf (tick D) [f, g]) by unfold turnD; rw [HPR.out, if_pos h0])
      have HM := Aside0.mk (fun {w1 : World} (hd : DAt w1 b (tick D) qv kv) (gg : Nat) hg hg2 => may2 hd gg f g hg hg2)
      clear h ok he h0
      generalize mayOf (tick D) [f, g] = r at *
      go_enter Try.func17, Try.ntmps17
      go_wp2_with fail
      go_at_call 54
      refine HE.out.mono ?_
      rintro e w1 ⟨rfl, hd1, hf1⟩
      have hba := (Below.refl _ w1).alloc (Nat.le_refl _) (.cells #[.int .i64 f, .int .i64 g] 3)
      have HD2 := Aside0.mk (hd1.below hba)
      have HF2 := Aside0.mk (hf1.trans (Fr.ofBelow hd1 hba))
      clear hd1 hf1 hba
      go_wp2_with fail
      go_at_call 55
      refine (HM.out HD2.out w1.heap.size (by simp) (by simp)).mono ?_
      rintro e w2 ⟨rfl, rfl⟩
      go_wp2_with fail
      go_ret
      refine ⟨by rw [HSP.out]; rfl, ⟨qv, ?_⟩, HF2.out⟩
      rw [HSP.out]
      exact HD2.out
    case pos =>
      have HM := Aside0.mk (fun {w1 : World} (hd : DAt w1 b (tick D) qv kv) (gg : Nat) hg hg2 => may2 hd gg f g hg hg2)
      rw [h0] at HM
      have H0 := Aside0.mk h0
      obtain ⟨hb, hb2⟩ := may_is2 h0
      obtain ⟨k, hk8, rfl⟩ := isB_of hb
      obtain ⟨j, hj8, rfl⟩ := isB_of hb2
      have hQ := HOK.out.qok
      have HQ2 := Aside0.mk hQ
      have hk0 : (0 : Int) ≤ (k : Int) := by omega
      have hk7 : (k : Int) < 8 := by omega
      have hj0 : (0 : Int) ≤ (j : Int) := by omega
      have hj7 : (j : Int) < 8 := by omega
      by_cases hkj : k = j
      · subst hkj
        have HSP := Aside0.mk (show turnD D (k : Int) (k : Int) = (tick D, 1) by unfold turnD; rw [HPR.out, if_neg (by rw [H0.out]; simp), if_pos rfl])
        clear h ok he h0 hb hb2 hQ
        generalize tick D = D1 at *
        go_enter Try.func17, Try.ntmps17
        go_wp2_with fail
        go_at_call 54
        refine HE.out.mono ?_
        rintro e w1 ⟨rfl, hd1, hf1⟩
        have hba := (Below.refl _ w1).alloc (Nat.le_refl _) (.cells #[.int .i64 k, .int .i64 k] 3)
        have HD2 := Aside0.mk (hd1.below hba)
        have HF2 := Aside0.mk (hf1.trans (Fr.ofBelow hd1 hba))
        clear hd1 hf1 hba
        go_wp2_with fail
        go_at_call 55
        refine (HM.out HD2.out w1.heap.size (by simp) (by simp)).mono ?_
        rintro e w2 ⟨rfl, rfl⟩
        have k0 := HD2.out.bytes hk8
        have k1 := HD2.out.lasts hk8
        have HD3 := Aside0.mk (fun o => HD2.out.below ((Below.refl _ _).alloc (Nat.le_refl _) o))
        have HF3 := Aside0.mk (fun o => HF2.out.trans (Fr.ofBelow HD2.out ((Below.refl _ _).alloc (Nat.le_refl _) o)))
        go_wp2_with fail
        go_ret
        refine ⟨by rw [HSP.out]; rfl, ⟨qv, ?_⟩, HF3.out _⟩
        rw [HSP.out]
        exact HD3.out _
      · have hkjb : ((k : Int) == (j : Int)) = false := beq_eq_false_iff_ne.2 (by omega)
        obtain ⟨ln, hln⟩ : ∃ ln, ((tick D).fl j).b.length = ln := ⟨_, rfl⟩
        have hsz : (bs ((tick D).fl j).b).size = ln := by rw [bs_size, hln]
        by_cases hlt : ((tick D).fl j).n < ln
        · have HSP := Aside0.mk (show turnD D (k : Int) (j : Int) = (tick D, 10) by unfold turnD; rw [HPR.out, if_neg (by rw [H0.out]; simp), if_neg (by omega), if_pos (by rw [Int.toNat_natCast, hln]; exact hlt)])
          clear h ok he h0 hb hb2 hQ hln hkj
          generalize tick D = D1 at *
          have hltb : decide ((D1.fl j).n < ln) = true := decide_eq_true hlt
          go_enter Try.func17, Try.ntmps17
          go_wp2_with fail
          go_at_call 54
          refine HE.out.mono ?_
          rintro e w1 ⟨rfl, hd1, hf1⟩
          have hba := (Below.refl _ w1).alloc (Nat.le_refl _) (.cells #[.int .i64 k, .int .i64 j] 3)
          have HD2 := Aside0.mk (hd1.below hba)
          have HF2 := Aside0.mk (hf1.trans (Fr.ofBelow hd1 hba))
          clear hd1 hf1 hba
          go_wp2_with fail
          go_at_call 55
          refine (HM.out HD2.out w1.heap.size (by simp) (by simp)).mono ?_
          rintro e w2 ⟨rfl, rfl⟩
          have k0 := HD2.out.bytes hj8
          have k1 := HD2.out.lasts hj8
          have HD3 := Aside0.mk (fun o => HD2.out.below ((Below.refl _ _).alloc (Nat.le_refl _) o))
          have HF3 := Aside0.mk (fun o => HF2.out.trans (Fr.ofBelow HD2.out ((Below.refl _ _).alloc (Nat.le_refl _) o)))
          go_wp2_with fail
          go_ret
          refine ⟨by rw [HSP.out]; rfl, ⟨qv, ?_⟩, HF3.out _⟩
          rw [HSP.out]
          exact HD3.out _
        · have HSP := Aside0.mk (show turnD D (k : Int) (j : Int) = ({ tick D with fs := ((tick D).fs.set k ((tick D).fl j)).set j ⟨[], 0⟩, q := settle (tick D).q k 0 }, 0) by unfold turnD; rw [HPR.out, if_neg (by rw [H0.out]; simp), if_neg (by omega), if_neg (by rw [Int.toNat_natCast, hln]; exact hlt)]; rfl)
          clear h ok he h0 hb hb2 hQ hln
          generalize tick D = D1 at *
          have hltb : decide ((D1.fl j).n < ln) = false := decide_eq_false hlt
          go_enter Try.func17, Try.ntmps17
          go_wp2_with fail
          go_at_call 54
          refine HE.out.mono ?_
          rintro e w1 ⟨rfl, hd1, hf1⟩
          have hba := (Below.refl _ w1).alloc (Nat.le_refl _) (.cells #[.int .i64 k, .int .i64 j] 3)
          have HD2 := Aside0.mk (hd1.below hba)
          have HF2 := Aside0.mk (hf1.trans (Fr.ofBelow hd1 hba))
          clear hd1 hf1 hba
          go_wp2_with fail
          go_at_call 55
          refine (HM.out HD2.out w1.heap.size (by simp) (by simp)).mono ?_
          rintro e w2 ⟨rfl, rfl⟩
          have k0 := HD2.out.bytes hj8
          have k1 := HD2.out.lasts hj8
          have HD3 := Aside0.mk (HD2.out.below ((Below.refl _ _).alloc (Nat.le_refl _) (.cells #[.string (bs (D1.fl j).b), .int .i64 (D1.fl j).n] 84)))
          have HF3 := Aside0.mk (HF2.out.trans (Fr.ofBelow HD2.out ((Below.refl _ _).alloc (Nat.le_refl _) (.cells #[.string (bs (D1.fl j).b), .int .i64 (D1.fl j).n] 84))))
          go_wp2_with fail
          have hbx : ((w1.alloc (.cells #[.int .i64 k, .int .i64 j] 3)).alloc (.cells #[.string (bs (D1.fl j).b), .int .i64 (D1.fl j).n] 84)).cell? ⟨w1.heap.size + 1, 0, none⟩ = some (.string (bs (D1.fl j).b)) := by simp
          have hby : ((w1.alloc (.cells #[.int .i64 k, .int .i64 j] 3)).alloc (.cells #[.string (bs (D1.fl j).b), .int .i64 (D1.fl j).n] 84)).cell? ⟨w1.heap.size + 1, 1, none⟩ = some (.int .i64 (D1.fl j).n) := by simp
          clear k0 k1
          generalize ((w1.alloc (.cells #[.int .i64 k, .int .i64 j] 3)).alloc (.cells #[.string (bs (D1.fl j).b), .int .i64 (D1.fl j).n] 84)) = W3 at *
          have k0 := HD3.out.bytes hk8
          have k1 := HD3.out.lasts hk8
          have z0 := HD3.out.frozen (k * 2)
          have z1 := HD3.out.frozen (k * 2 + 1)
          have hd4 := HD3.out.setFl hk8 (D1.fl j)
          have i0 := hd4.bytes hj8
          have i1 := hd4.lasts hj8
          have y0 := hd4.frozen (j * 2)
          have y1 := hd4.frozen (j * 2 + 1)
          have hd5 := hd4.setFl hj8 ⟨[], 0⟩
          have hf5 := (Fr.ofSet2 HD3.out hd4).trans (Fr.ofSet2 hd4 hd5)
          have HDs : Aside0 (DAt (((((W3.setCell ⟨b, k * 2, none⟩ (.string (bs (D1.fl j).b))).setCell ⟨b, k * 2 + 1, none⟩ (.int .i64 (D1.fl j).n)).setCell ⟨b, j * 2, none⟩ (.string ⟨#[]⟩)).setCell ⟨b, j * 2 + 1, none⟩ (.int .i64 0)).drew) b { D1 with fs := (D1.fs.set k (D1.fl j)).set j ⟨[], 0⟩ } qv kv) := ⟨hd5.move fun _ _ => rfl⟩
          have HFs : Aside0 (Fr w (((((W3.setCell ⟨b, k * 2, none⟩ (.string (bs (D1.fl j).b))).setCell ⟨b, k * 2 + 1, none⟩ (.int .i64 (D1.fl j).n)).setCell ⟨b, j * 2, none⟩ (.string ⟨#[]⟩)).setCell ⟨b, j * 2 + 1, none⟩ (.int .i64 0)).drew) b) := ⟨by
            have h := HF3.out.trans hf5
            exact ⟨h.os, h.tape, h.output, h.size, h.block, h.own⟩⟩
          clear hd4 hd5 hf5
          go_region_law (fail)
          go_wp2_with fail
          go_at_call 56
          refine (settleF HDs.out (k : Int) 0 HQ2.out (by omega)).mono ?_
          rintro e w3 ⟨rfl, hd3⟩
          obtain ⟨qv3, hd3, hf3⟩ := hd3
          have HD6 := Aside0.mk hd3
          have HF6 := Aside0.mk (HFs.out.trans hf3)
          clear hd3 hf3 k0 k1 z0 z1 i0 i1 y0 y1
          go_wp2_with fail
          go_ret
          refine ⟨by rw [HSP.out]; rfl, ⟨qv3, ?_⟩, HF6.out⟩
          rw [HSP.out]
          exact HD6.out
end Go.Proofs.Ytbhlpnkccdcdiaa.Dk
