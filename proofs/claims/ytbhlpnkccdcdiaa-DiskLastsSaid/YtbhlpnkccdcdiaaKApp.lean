/- The disk's Append. -/
import Derived.Test.YtbhlpnkccdcdiaaKOps
import Derived.Laws.Concat
namespace Go.Proofs.Ytbhlpnkccdcdiaa.Dk
open Go.RowKit Go.Proofs.YtbhlpnkccdcdiaaW.PrintWords Go.Lib
set_option linter.unusedVariables false
set_option linter.unusedSimpArgs false

theorem tick_ok {D : DS} (h : DOk D) : DOk (tick D) := by
  unfold tick
  split
  · exact h
  · exact ⟨h.len, h.fl, h.qin, h.ord, h.lost, by have := h.armed; show D.armed - 1 ≤ _; omega⟩
theorem tick_fs (D : DS) : (tick D).fs = D.fs ∧ (tick D).q = D.q ∧ (tick D).lost = D.lost ∧ (tick D).down = D.down ∧ (tick D).keep = D.keep := by
  unfold tick
  split <;> exact ⟨rfl, rfl, rfl, rfl, rfl⟩
theorem getD_set {α : Type} (l : List α) (i j : Nat) (a d : α) (hi : i < l.length) : (l.set i a).getD j d = if i = j then a else l.getD j d := by
  rw [List.getD_eq_getElem?_getD, List.getD_eq_getElem?_getD]
  by_cases e : i = j
  · subst e
    rw [List.getElem?_set_self hi, if_pos rfl]
    rfl
  · rw [List.getElem?_set_ne e, if_neg e]
theorem putD_ok {D : DS} (h : DOk D) {f : Nat} (hf : f < 8) {s : List UInt8} (hs : (D.fl f).b.length + s.length ≤ 16777216) : DOk (putD D f s) := by
  have hl : f < D.fs.length := by rw [h.len]; exact hf
  have hff := h.flAt hf
  have hfl : ∀ j, (putD D f s).fl j = if f = j then ⟨(D.fl f).b ++ s, (D.fl f).n⟩ else D.fl j := fun j => getD_set _ _ _ _ _ hl
  refine ⟨by simpa [putD] using h.len, fun x hx => ?_, fun p hp => ?_, ?_, h.lost, h.armed⟩
  · rcases List.mem_or_eq_of_mem_set hx with hx | rfl
    · exact h.fl x hx
    · simp only [List.length_append]
      omega
  · rw [hfl]
    rcases List.mem_append.1 (show p ∈ D.q ++ [⟨f, (D.fl f).b.length, s.length⟩] from hp) with hp | hp
    · obtain ⟨h1, h2, h3, h4, h5⟩ := h.qin p hp
      refine ⟨h1, h2, h3, ?_⟩
      split
      · rename_i e
        subst e
        simp only [List.length_append]
        omega
      · exact ⟨h4, h5⟩
    · rw [List.mem_singleton] at hp
      subst hp
      simp only [Int.toNat_natCast, if_true, List.length_append]
      omega
  · show (D.q ++ [(⟨f, (D.fl f).b.length, s.length⟩ : Pd)]).Pairwise _
    rw [List.pairwise_append]
    refine ⟨h.ord, List.pairwise_singleton _ _, fun p hp p' hp' e => ?_⟩
    rw [List.mem_singleton] at hp'
    subst hp'
    obtain ⟨h1, h2, h3, h4, h5⟩ := h.qin p hp
    simp only at e ⊢
    rw [e, Int.toNat_natCast] at h4
    exact h4
theorem may_is {D : DS} {f : Int} (h0 : mayOf D [f] = 0) : D.down = false ∧ isB f = true := by
  unfold mayOf at h0
  split at h0
  · cases h0
  · rename_i hd
    split at h0
    · rename_i h2
      exact ⟨by simpa using hd, by simpa using h2⟩
    · cases h0
theorem coreD_ok {D : DS} (h : DOk D) (f : Int) (s : List UInt8) : DOk (coreD D f s).1 := by
  unfold coreD
  split
  · exact h
  · rename_i h0
    obtain ⟨_, hb⟩ := may_is (D := D) (f := f) (by omega)
    obtain ⟨n, hn, rfl⟩ := isB_of hb
    split
    · exact h
    · split
      · exact h
      · exact putD_ok h hn (by rename_i h1 _; simp only [Int.toNat_natCast] at h1 ⊢; omega)
theorem infoPd : (Try.prog.info? 91).map (fun i => (i.zero, i.size, i.bytes)) = some (some (.agg #[.int .i64 0, .int .i64 0, .int .i64 0]), 3, 24) := by kernel_rfl
/-- 'd.queue = append(d.queue, p)', at a step of a region that draws its order. -/
theorem step_append_pd {W : World} {b : Nat} {D : DS} {qv kv : Value} {ops : Array Oper} {o : Oper} {a : Act} {K : Act → World → Prop} {Q : Exit → Act → World → Prop} {E : Prop} (hgd : o.guard = none) (s x : Operand) (t : TypeId)
    (ho : o.op = .call { callee := .builtin .append, args := #[s, x], argTypes := #[t, t] }) (ht : Try.prog.underlying t = some (.slice 91))
    (h : DAt W b D qv kv) (hs : a.eval s = qv) (B0 c : Nat) (hx : a.eval x = .slice (some ⟨B0, 0, none⟩) 1 c) (xp : Pd) (tb : Nat) (fr : Nat × Nat) (hB : W.heap[B0]? = some (.cells (cE xp).toArray tb fr)) (hlen : D.q.length ≤ 1000000)
    (hK : ∀ (g cap : Nat) (w2 : World), w2.cell? ⟨b, 16, none⟩ = some qv → w2.frozen? ⟨b, 16, none⟩ = false → Aside0 (DAt (w2.setCell ⟨b, 16, none⟩ (.slice (some ⟨g, 0, none⟩) (D.q.length + 1) cap)) b { D with q := D.q ++ [xp] } (.slice (some ⟨g, 0, none⟩) (D.q.length + 1) cap) kv) → Aside0 (Fr W (w2.setCell ⟨b, 16, none⟩ (.slice (some ⟨g, 0, none⟩) (D.q.length + 1) cap)) b) → K (a.put o.dst (.slice (some ⟨g, 0, none⟩) (D.q.length + 1) cap)) w2) :
    if Region.wanted o (yielded ops a.tmps) = true then Oper.wp Try.prog o a W K Q else E := by
  obtain ⟨i, hi, hzz⟩ := Option.map_eq_some_iff.1 infoPd
  simp only [Prod.mk.injEq] at hzz
  obtain ⟨hz0, hz1, hz2⟩ := hzz
  refine step_append_lies W hgd s x t ho 0 91 i _ 3 24 ht hi hz0 hz1 hz2 rfl (by decide) qv D.q.length (D.q.flatMap cE) hs h.que.owns ⟨B0, 0, none⟩ 1 c (cE xp) hx rfl (World.news_of_block (cs := (cE xp).toArray) hB) (cE_one xp) (by decide) (by simp only [maxLen]; omega) (by omega) (Nat.zero_le _) _ rfl fun g cap w2 hown hgrow hat hlt => ?_
  have hq : QAt w2 (.slice (some ⟨g, 0, none⟩) (D.q.length + 1) cap) (D.q ++ [xp]) := by
    have e : (D.q ++ [xp]).length = D.q.length + 1 := by simp
    refine QAt.ofOwns ?_
    rw [e, List.flatMap_append]
    simpa using hown
  obtain ⟨r1, r2, r3, r4⟩ := h.appendQ hgrow hq (fun k hk => by
    have : g = k := by simpa [Value.ownBlock] using hk
    subst this
    rcases hat with e | e
    · exact .inl e
    · exact .inr (by omega))
  exact hK g cap w2 r1 r2 ⟨r3⟩ ⟨r4⟩
theorem size_toList (s : ByteArray) : s.data.toList.length = s.size := by
  rw [Array.length_toList]
  rfl

set_option maxRecDepth 100000 in
set_option maxHeartbeats 4000000 in
theorem appendF {w : World} {b : Nat} {D : DS} {qv kv : Value} (h : DAt w b D qv kv) (ok : DOk D) (hql : D.q.length ≤ 1000000) (f : Int) (s : ByteArray) (hs : s.size ≤ 140737488355328) :
    Calls Try.prog 15 #[.pointer (some ⟨b, 0, none⟩), .int .i64 f, .string s] w fun e w' => e = .returned (.int .i64 (appendD D f s.data.toList).2) ∧ (∃ qv', DAt w' b (appendD D f s.data.toList).1 qv' kv) ∧ Fr w w' b := by
  have HE := Aside0.mk (endsF h ok.armed)
  have HOK := Aside0.mk (tick_ok ok)
  obtain ⟨t1, t2, t3, t4, t5⟩ := tick_fs D
  have hq1 : (tick D).q.length ≤ 1000000 := by rw [t2]; exact hql
  have HAP : Aside0 (appendD D f s.data.toList = if endsB D = true then (crashD (coreD (tick D) f s.data.toList).1 (coreD (tick D) f s.data.toList).1.keep, 9) else coreD (tick D) f s.data.toList) := ⟨rfl⟩
  generalize tick D = D1 at *
  clear h ok hql t1 t2 t3 t4 t5
  by_cases h0 : mayOf D1 [f] = 0
  case neg =>
    have h0b : (mayOf D1 [f] == 0) = false := beq_eq_false_iff_ne.2 h0
    have HC := Aside0.mk (show coreD D1 f s.data.toList = (D1, mayOf D1 [f]) by unfold coreD; rw [if_pos h0])
    have HM := Aside0.mk (fun {w1 : World} (hd : DAt w1 b D1 qv kv) (g : Nat) hg => may1 hd g f hg)
    clear h0
    generalize mayOf D1 [f] = r at *
    cases he : endsB D with
    | false =>
      rw [he] at HE HAP
      go_enter Try.func15, Try.ntmps15
      go_wp2_with fail
      go_at_call 54
      refine HE.out.mono ?_
      rintro e w1 ⟨rfl, hd1, hf1⟩
      have hba := (Below.refl _ w1).alloc (Nat.le_refl _) (.cells #[.int .i64 f] 3)
      have HD2 := Aside0.mk (hd1.below hba)
      have HF2 := Aside0.mk (hf1.trans (Fr.ofBelow hd1 hba))
      clear hd1 hf1 hba
      go_wp2_with fail
      go_at_call 55
      refine (HM.out HD2.out w1.heap.size (by simp)).mono ?_
      rintro e w2 ⟨rfl, rfl⟩
      go_wp2_with fail
      go_ret
      refine ⟨by rw [HAP.out, HC.out]; rfl, ⟨qv, ?_⟩, HF2.out⟩
      rw [HAP.out, HC.out]
      exact HD2.out
    | true =>
      rw [he] at HE HAP
      go_enter Try.func15, Try.ntmps15
      go_wp2_with fail
      go_at_call 54
      refine HE.out.mono ?_
      rintro e w1 ⟨rfl, hd1, hf1⟩
      obtain ⟨Ak, ck, hkv, _⟩ := KAt.arg hd1
      subst hkv
      have hba := (Below.refl _ w1).alloc (Nat.le_refl _) (.cells #[.int .i64 f] 3)
      have HD2 := Aside0.mk (hd1.below hba)
      have HF2 := Aside0.mk (hf1.trans (Fr.ofBelow hd1 hba))
      clear hd1 hf1 hba
      go_wp2_with fail
      go_at_call 55
      refine (HM.out HD2.out w1.heap.size (by simp)).mono ?_
      rintro e w2 ⟨rfl, rfl⟩
      have hck := HD2.out.ckeep
      obtain ⟨_, _, ek, hka⟩ := KAt.arg HD2.out
      injection ek with e1 _ e3
      subst e1 e3
      have HKA := Aside0.mk hka
      clear hka
      go_wp2_with fail
      go_at_call 18
      refine (crashF HD2.out HOK.out _ _ _ HKA.out).mono ?_
      rintro e w9 ⟨rfl, hd9, hf9⟩
      have HD9 := Aside0.mk hd9
      have HF9 := Aside0.mk (HF2.out.trans hf9)
      clear hd9 hf9 hck
      go_wp2_with fail
      go_ret
      refine ⟨by rw [HAP.out]; rfl, ?_, HF9.out⟩
      rw [HAP.out, HC.out]
      exact HD9.out
  case pos =>
    obtain ⟨hdn, hb⟩ := may_is h0
    have HM := Aside0.mk (fun {w1 : World} (hd : DAt w1 b D1 qv kv) (g : Nat) hg => may1 hd g f hg)
    rw [h0] at HM
    have HSZ := Aside0.mk (fun {w1 : World} (hd : DAt w1 b D1 qv kv) => sizeF hd f)
    have hsz : sizeOf D1 f = (D1.fl f.toNat).b.length := by unfold sizeOf; rw [if_pos hb]
    have H0 := Aside0.mk h0
    obtain ⟨k, hk8, rfl⟩ := isB_of hb
    rw [hsz] at HSZ
    simp only [Int.toNat_natCast] at HSZ
    have hfl := HOK.out.flAt hk8
    have hst := size_toList s
    have HST := Aside0.mk hst
    have hbn : (D1.fl k).b.length ≤ 16777216 := hfl.2
    obtain ⟨ln, hln⟩ : ∃ ln, (D1.fl k).b.length = ln := ⟨_, rfl⟩
    have HLN := Aside0.mk hln
    rw [hln] at HSZ hbn
    clear h0 hdn hb hsz hfl hst hln
    by_cases hfull : 16777216 < ln + s.size
    · have HC := Aside0.mk (show coreD D1 (k : Int) s.data.toList = (D1, 8) by
        unfold coreD
        rw [if_neg (by rw [H0.out]; simp), if_pos (by rw [HST.out]; simp only [Int.toNat_natCast]; rw [HLN.out]; exact hfull)])
      cases he : endsB D with
      | false =>
        rw [he] at HE HAP
        go_enter Try.func15, Try.ntmps15
        go_wp2_with fail
        go_at_call 54
        refine HE.out.mono ?_
        rintro e w1 ⟨rfl, hd1, hf1⟩
        have hba := (Below.refl _ w1).alloc (Nat.le_refl _) (.cells #[.int .i64 k] 3)
        have HD2 := Aside0.mk (hd1.below hba)
        have HF2 := Aside0.mk (hf1.trans (Fr.ofBelow hd1 hba))
        clear hd1 hf1 hba
        go_wp2_with fail
        go_at_call 55
        refine (HM.out HD2.out w1.heap.size (by simp)).mono ?_
        rintro e w2 ⟨rfl, rfl⟩
        go_wp2_with fail
        go_at_call 21
        refine (HSZ.out HD2.out).mono ?_
        rintro e w3 ⟨rfl, rfl⟩
        go_wp2_with fail
        go_ret
        refine ⟨by rw [HAP.out, HC.out]; rfl, ⟨qv, ?_⟩, HF2.out⟩
        rw [HAP.out, HC.out]
        exact HD2.out
      | true =>
        rw [he] at HE HAP
        go_enter Try.func15, Try.ntmps15
        go_wp2_with fail
        go_at_call 54
        refine HE.out.mono ?_
        rintro e w1 ⟨rfl, hd1, hf1⟩
        obtain ⟨Ak, ck, hkv, _⟩ := KAt.arg hd1
        subst hkv
        have hba := (Below.refl _ w1).alloc (Nat.le_refl _) (.cells #[.int .i64 k] 3)
        have HD2 := Aside0.mk (hd1.below hba)
        have HF2 := Aside0.mk (hf1.trans (Fr.ofBelow hd1 hba))
        clear hd1 hf1 hba
        go_wp2_with fail
        go_at_call 55
        refine (HM.out HD2.out w1.heap.size (by simp)).mono ?_
        rintro e w2 ⟨rfl, rfl⟩
        go_wp2_with fail
        go_at_call 21
        refine (HSZ.out HD2.out).mono ?_
        rintro e w3 ⟨rfl, rfl⟩
        have hck := HD2.out.ckeep
        obtain ⟨_, _, ek, hka⟩ := KAt.arg HD2.out
        injection ek with e1 _ e3
        subst e1 e3
        have HKA := Aside0.mk hka
        clear hka
        go_wp2_with fail
        go_at_call 18
        refine (crashF HD2.out HOK.out _ _ _ HKA.out).mono ?_
        rintro e w9 ⟨rfl, hd9, hf9⟩
        have HD9 := Aside0.mk hd9
        have HF9 := Aside0.mk (HF2.out.trans hf9)
        clear hd9 hf9 hck
        go_wp2_with fail
        go_ret
        refine ⟨by rw [HAP.out]; rfl, ?_, HF9.out⟩
        rw [HAP.out, HC.out]
        exact HD9.out
    · by_cases hse : s.data.toList = []
      · have hs0 : s = ⟨#[]⟩ := by
          have := bs_of s
          rw [hse] at this
          exact this.symm
        have HC := Aside0.mk (show coreD D1 (k : Int) s.data.toList = (D1, 0) by
          unfold coreD
          rw [if_neg (by rw [H0.out]; simp), if_neg (by rw [HST.out]; simp only [Int.toNat_natCast]; rw [HLN.out]; exact hfull), if_pos hse])
        subst hs0
        clear hse
        cases he : endsB D with
        | false =>
          rw [he] at HE HAP
          go_enter Try.func15, Try.ntmps15
          go_wp2_with fail
          go_at_call 54
          refine HE.out.mono ?_
          rintro e w1 ⟨rfl, hd1, hf1⟩
          have hba := (Below.refl _ w1).alloc (Nat.le_refl _) (.cells #[.int .i64 k] 3)
          have HD2 := Aside0.mk (hd1.below hba)
          have HF2 := Aside0.mk (hf1.trans (Fr.ofBelow hd1 hba))
          clear hd1 hf1 hba
          go_wp2_with fail
          go_at_call 55
          refine (HM.out HD2.out w1.heap.size (by simp)).mono ?_
          rintro e w2 ⟨rfl, rfl⟩
          go_wp2_with fail
          go_at_call 21
          refine (HSZ.out HD2.out).mono ?_
          rintro e w3 ⟨rfl, rfl⟩
          go_wp2_with fail
          go_ret
          refine ⟨by rw [HAP.out, HC.out]; rfl, ⟨qv, ?_⟩, HF2.out⟩
          rw [HAP.out, HC.out]
          exact HD2.out
        | true =>
          rw [he] at HE HAP
          go_enter Try.func15, Try.ntmps15
          go_wp2_with fail
          go_at_call 54
          refine HE.out.mono ?_
          rintro e w1 ⟨rfl, hd1, hf1⟩
          obtain ⟨Ak, ck, hkv, _⟩ := KAt.arg hd1
          subst hkv
          have hba := (Below.refl _ w1).alloc (Nat.le_refl _) (.cells #[.int .i64 k] 3)
          have HD2 := Aside0.mk (hd1.below hba)
          have HF2 := Aside0.mk (hf1.trans (Fr.ofBelow hd1 hba))
          clear hd1 hf1 hba
          go_wp2_with fail
          go_at_call 55
          refine (HM.out HD2.out w1.heap.size (by simp)).mono ?_
          rintro e w2 ⟨rfl, rfl⟩
          go_wp2_with fail
          go_at_call 21
          refine (HSZ.out HD2.out).mono ?_
          rintro e w3 ⟨rfl, rfl⟩
          have hck := HD2.out.ckeep
          obtain ⟨_, _, ek, hka⟩ := KAt.arg HD2.out
          injection ek with e1 _ e3
          subst e1 e3
          have HKA := Aside0.mk hka
          clear hka
          go_wp2_with fail
          go_at_call 18
          refine (crashF HD2.out HOK.out _ _ _ HKA.out).mono ?_
          rintro e w9 ⟨rfl, hd9, hf9⟩
          have HD9 := Aside0.mk hd9
          have HF9 := Aside0.mk (HF2.out.trans hf9)
          clear hd9 hf9 hck
          go_wp2_with fail
          go_ret
          refine ⟨by rw [HAP.out]; rfl, ?_, HF9.out⟩
          rw [HAP.out, HC.out]
          exact HD9.out
      · have HC := Aside0.mk (show coreD D1 (k : Int) s.data.toList = (putD D1 k s.data.toList, 0) by
          unfold coreD
          rw [if_neg (by rw [H0.out]; simp), if_neg (by rw [HST.out]; simp only [Int.toNat_natCast]; rw [HLN.out]; exact hfull), if_neg hse]
          rfl)
        have hsb : (!s.toList.isEmpty) = true := by rw [toList_data]; simpa using hse
        clear hse
        cases he : endsB D with
        | false =>
          rw [he] at HE HAP
          go_enter Try.func15, Try.ntmps15
          go_wp2_with fail
          go_at_call 54
          refine HE.out.mono ?_
          rintro e w1 ⟨rfl, hd1, hf1⟩
          have hba := (Below.refl _ w1).alloc (Nat.le_refl _) (.cells #[.int .i64 k] 3)
          have HD2 := Aside0.mk (hd1.below hba)
          have HF2 := Aside0.mk (hf1.trans (Fr.ofBelow hd1 hba))
          clear hd1 hf1 hba
          go_wp2_with fail
          go_at_call 55
          refine (HM.out HD2.out w1.heap.size (by simp)).mono ?_
          rintro e w2 ⟨rfl, rfl⟩
          go_wp2_with fail
          go_at_call 21
          refine (HSZ.out HD2.out).mono ?_
          rintro e w3 ⟨rfl, rfl⟩
          go_wp2_with fail
          generalize (w1.alloc (.cells #[.int .i64 k] 3)) = W2 at HD2 HF2 ⊢
          obtain ⟨Aq, cq, hqv, _⟩ := HD2.out.que.form
          subst hqv
          have hcq := HD2.out.cq
          have HDd := Aside0.mk (HD2.out.move (w1 := W2.drew) fun _ _ => rfl)
          have HDa : Aside0 (DAt ((W2.alloc (.cells #[.int .i64 k, .int .i64 ln, .int .i64 s.size] 91)).drew) b D1 (.slice Aq D1.q.length cq) kv) := ⟨(HD2.out.below ((Below.refl _ W2).alloc (Nat.le_refl _) _)).move fun _ _ => rfl⟩
          have HFa : Aside0 (Fr w ((W2.alloc (.cells #[.int .i64 k, .int .i64 ln, .int .i64 s.size] 91)).drew) b) := ⟨HF2.out.trans (Fr.ofBelow HD2.out ((Below.refl _ W2).alloc (Nat.le_refl _) _).drew)⟩
          have HBa : Aside0 ((W2.alloc (.cells #[.int .i64 k, .int .i64 ln, .int .i64 s.size] 91)).drew.heap[W2.heap.size]? = some (.cells (cE ⟨k, ln, s.size⟩).toArray 91 (0, 0))) := ⟨heap_alloc_new W2 _⟩
          go_wp2_with fail
          have hcqa : (W2.alloc (.cells #[.int .i64 k, .int .i64 ln, .int .i64 s.size] 91)).cell? ⟨b, 16, none⟩ = some (.slice Aq D1.q.length cq) := HDa.out.cq
          go_region_law (first | (go_simp; go_at_call 21; refine (HSZ.out HDd.out).mono ?_; rintro e w' ⟨rfl, rfl⟩) | (refine step_append_pd rfl (.tmp 36) (.tmp 44) 86 rfl Try.underlying86 HDa.out (by simp [Act.eval, Act.put]) W2.heap.size 1 (by simp [Act.eval, Act.put]) ⟨k, ln, s.size⟩ 91 (0, 0) HBa.out hq1 ?_; intro g cap w2 hc2 hf2 HD3 HF3))
          all_goals
            have HFb := Aside0.mk (HFa.out.trans HF3.out)
            have r0 : (w2.setCell ⟨b, 16, none⟩ (.slice (some ⟨g, 0, none⟩) (D1.q.length + 1) cap)).cell? ⟨b, k * 2, none⟩ = some (.string (bs (D1.fl k).b)) := HD3.out.bytes hk8
            have z0 := HD3.out.frozen (k * 2)
            have hk0 : (0 : Int) ≤ (k : Int) := by omega
            have hk7 : (k : Int) < 8 := by omega
            have hdp := HD3.out.setBytes hk8 ((D1.fl k).b ++ s.data.toList)
            have hfp := Fr.ofSet HD3.out hdp
            rw [← bs_append] at hdp hfp
            have HDp : Aside0 (DAt (((w2.setCell ⟨b, 16, none⟩ (.slice (some ⟨g, 0, none⟩) (D1.q.length + 1) cap)).setCell ⟨b, k * 2, none⟩ (.string (bs (D1.fl k).b ++ s))).drew) b (putD D1 k s.data.toList) (.slice (some ⟨g, 0, none⟩) (D1.q.length + 1) cap) kv) := ⟨by
              have e : putD D1 k s.data.toList = { D1 with q := D1.q ++ [⟨k, ln, s.size⟩], fs := D1.fs.set k ⟨(D1.fl k).b ++ s.data.toList, (D1.fl k).n⟩ } := by
                unfold putD
                rw [HLN.out, HST.out]
              rw [e]
              exact hdp.move fun _ _ => rfl⟩
            have HFp : Aside0 (Fr w (((w2.setCell ⟨b, 16, none⟩ (.slice (some ⟨g, 0, none⟩) (D1.q.length + 1) cap)).setCell ⟨b, k * 2, none⟩ (.string (bs (D1.fl k).b ++ s))).drew) b) := ⟨by
              have h := HFb.out.trans hfp
              exact ⟨h.os, h.tape, h.output, h.size, h.block, h.own⟩⟩
            have hadd := fun w => run_string_add_sum (P := Try.prog) w (bs (D1.fl k).b) s (by rw [bs_size]; have := HLN.out; omega)
            clear hdp hfp hc2 hf2 HD3 HF3 hcq hcqa HDd HDa HBa HFa HFb HD2 HF2
            go_wp2_with fail
            refine still_tail 13 (by kernel_rfl) (by kernel_rfl) ?_
            simp only [List.take_succ_cons, List.take_zero, List.drop_succ_cons, List.drop_zero]
            repeat still_step
            refine wpStill_nil ?_
            go_wp2_with fail
            go_ret
            refine ⟨by rw [HAP.out, HC.out]; rfl, ⟨.slice (some ⟨g, 0, none⟩) (D1.q.length + 1) cap, ?_⟩, HFp.out⟩
            rw [HAP.out, HC.out]
            exact HDp.out
        | true =>
          rw [he] at HE HAP
          go_enter Try.func15, Try.ntmps15
          go_wp2_with fail
          go_at_call 54
          refine HE.out.mono ?_
          rintro e w1 ⟨rfl, hd1, hf1⟩
          obtain ⟨Ak, ck, hkv, _⟩ := KAt.arg hd1
          subst hkv
          have hba := (Below.refl _ w1).alloc (Nat.le_refl _) (.cells #[.int .i64 k] 3)
          have HD2 := Aside0.mk (hd1.below hba)
          have HF2 := Aside0.mk (hf1.trans (Fr.ofBelow hd1 hba))
          clear hd1 hf1 hba
          go_wp2_with fail
          go_at_call 55
          refine (HM.out HD2.out w1.heap.size (by simp)).mono ?_
          rintro e w2 ⟨rfl, rfl⟩
          go_wp2_with fail
          go_at_call 21
          refine (HSZ.out HD2.out).mono ?_
          rintro e w3 ⟨rfl, rfl⟩
          go_wp2_with fail
          generalize (w1.alloc (.cells #[.int .i64 k] 3)) = W2 at HD2 HF2 ⊢
          obtain ⟨Aq, cq, hqv, _⟩ := HD2.out.que.form
          subst hqv
          have hcq := HD2.out.cq
          have HDd := Aside0.mk (HD2.out.move (w1 := W2.drew) fun _ _ => rfl)
          have HDa : Aside0 (DAt ((W2.alloc (.cells #[.int .i64 k, .int .i64 ln, .int .i64 s.size] 91)).drew) b D1 (.slice Aq D1.q.length cq) (.slice Ak D1.keep.length ck)) := ⟨(HD2.out.below ((Below.refl _ W2).alloc (Nat.le_refl _) _)).move fun _ _ => rfl⟩
          have HFa : Aside0 (Fr w ((W2.alloc (.cells #[.int .i64 k, .int .i64 ln, .int .i64 s.size] 91)).drew) b) := ⟨HF2.out.trans (Fr.ofBelow HD2.out ((Below.refl _ W2).alloc (Nat.le_refl _) _).drew)⟩
          have HBa : Aside0 ((W2.alloc (.cells #[.int .i64 k, .int .i64 ln, .int .i64 s.size] 91)).drew.heap[W2.heap.size]? = some (.cells (cE ⟨k, ln, s.size⟩).toArray 91 (0, 0))) := ⟨heap_alloc_new W2 _⟩
          go_wp2_with fail
          have hcqa : (W2.alloc (.cells #[.int .i64 k, .int .i64 ln, .int .i64 s.size] 91)).cell? ⟨b, 16, none⟩ = some (.slice Aq D1.q.length cq) := HDa.out.cq
          go_region_law (first | (go_simp; go_at_call 21; refine (HSZ.out HDd.out).mono ?_; rintro e w' ⟨rfl, rfl⟩) | (refine step_append_pd rfl (.tmp 36) (.tmp 44) 86 rfl Try.underlying86 HDa.out (by simp [Act.eval, Act.put]) W2.heap.size 1 (by simp [Act.eval, Act.put]) ⟨k, ln, s.size⟩ 91 (0, 0) HBa.out hq1 ?_; intro g cap w2 hc2 hf2 HD3 HF3))
          all_goals
            have HFb := Aside0.mk (HFa.out.trans HF3.out)
            have r0 : (w2.setCell ⟨b, 16, none⟩ (.slice (some ⟨g, 0, none⟩) (D1.q.length + 1) cap)).cell? ⟨b, k * 2, none⟩ = some (.string (bs (D1.fl k).b)) := HD3.out.bytes hk8
            have z0 := HD3.out.frozen (k * 2)
            have hk0 : (0 : Int) ≤ (k : Int) := by omega
            have hk7 : (k : Int) < 8 := by omega
            have hdp := HD3.out.setBytes hk8 ((D1.fl k).b ++ s.data.toList)
            have hfp := Fr.ofSet HD3.out hdp
            rw [← bs_append] at hdp hfp
            have HDp : Aside0 (DAt (((w2.setCell ⟨b, 16, none⟩ (.slice (some ⟨g, 0, none⟩) (D1.q.length + 1) cap)).setCell ⟨b, k * 2, none⟩ (.string (bs (D1.fl k).b ++ s))).drew) b (putD D1 k s.data.toList) (.slice (some ⟨g, 0, none⟩) (D1.q.length + 1) cap) (.slice Ak D1.keep.length ck)) := ⟨by
              have e : putD D1 k s.data.toList = { D1 with q := D1.q ++ [⟨k, ln, s.size⟩], fs := D1.fs.set k ⟨(D1.fl k).b ++ s.data.toList, (D1.fl k).n⟩ } := by
                unfold putD
                rw [HLN.out, HST.out]
              rw [e]
              exact hdp.move fun _ _ => rfl⟩
            have HFp : Aside0 (Fr w (((w2.setCell ⟨b, 16, none⟩ (.slice (some ⟨g, 0, none⟩) (D1.q.length + 1) cap)).setCell ⟨b, k * 2, none⟩ (.string (bs (D1.fl k).b ++ s))).drew) b) := ⟨by
              have h := HFb.out.trans hfp
              exact ⟨h.os, h.tape, h.output, h.size, h.block, h.own⟩⟩
            have hadd := fun w => run_string_add_sum (P := Try.prog) w (bs (D1.fl k).b) s (by rw [bs_size]; have := HLN.out; omega)
            clear hdp hfp hc2 hf2 HD3 HF3 hcq hcqa HDd HDa HBa HFa HFb HD2 HF2
            go_wp2_with fail
            refine still_tail 13 (by kernel_rfl) (by kernel_rfl) ?_
            simp only [List.take_succ_cons, List.take_zero, List.drop_succ_cons, List.drop_zero]
            repeat still_step
            refine wpStill_nil ?_
            have hck := HDp.out.ckeep
            obtain ⟨_, _, ek, hka⟩ := KAt.arg HDp.out
            injection ek with e1 _ e3
            subst e1 e3
            have HKA := Aside0.mk hka
            clear hka
            have HOP : Aside0 (DOk (putD D1 k s.data.toList)) := ⟨by have := coreD_ok HOK.out (k : Int) s.data.toList; rw [HC.out] at this; exact this⟩
            go_wp2_with fail
            go_at_call 18
            refine (crashF HDp.out HOP.out _ _ D1.keep HKA.out).mono ?_
            rintro e w9 ⟨rfl, hd9, hf9⟩
            have HD9 := Aside0.mk hd9
            have HF9 := Aside0.mk (HFp.out.trans hf9)
            clear hd9 hf9 hck
            go_wp2_with fail
            go_ret
            refine ⟨by rw [HAP.out]; rfl, ?_, HF9.out⟩
            rw [HAP.out, HC.out]
            exact HD9.out
end Go.Proofs.Ytbhlpnkccdcdiaa.Dk
