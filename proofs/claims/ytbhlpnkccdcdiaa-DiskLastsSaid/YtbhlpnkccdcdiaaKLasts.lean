/- bournelaw06.DiskLasts: the walk. -/
import Derived.Test.YtbhlpnkccdcdiaaKDo
import Derived.Test.YtbhlpnkccdcdiaaKSmall
namespace Go.Proofs.Ytbhlpnkccdcdiaa.Dk
open Go.RowKit Go.Proofs.YtbhlpnkccdcdiaaW.PrintWords
set_option linter.unusedVariables false
set_option linter.unusedSimpArgs false

/-- A row of eight strings that the law made. -/
structure SafeAt (w : World) (g : Nat) (ss : List ByteArray) : Prop where
  blk : w.heap[g]? = some (.cells (ss.map Value.string).toArray 9 (0, 0))
  len : ss.length = 8
section
variable {w0 w w1 : World} {b g m : Nat} {D : DS} {ss : List ByteArray}
theorem SafeAt.cell (h : SafeAt w g ss) {f : Nat} (hf : f < 8) : w.cell? ⟨g, f, none⟩ = some (.string (sfAt ss f)) := by
  have hl : f < ss.length := by rw [h.len]; exact hf
  simp [World.cell?, h.blk, sfAt, List.getElem?_map, List.getD_eq_getElem?_getD, List.getElem?_eq_getElem hl]
theorem SafeAt.frozen (h : SafeAt w g ss) (f : Nat) : w.frozen? ⟨g, f, none⟩ = false := by simp [World.frozen?, h.blk]
theorem SafeAt.set (h : SafeAt w g ss) (f : Nat) (x : ByteArray) : SafeAt (w.setCell ⟨g, f, none⟩ (.string x)) g (ss.set f x) := by
  refine ⟨?_, by rw [List.length_set]; exact h.len⟩
  simp [World.setCell, Array.getElem?_modify, h.blk]
theorem SafeAt.lt (h : SafeAt w g ss) : g < w.heap.size := (Array.getElem?_eq_some_iff.1 h.blk).1
theorem SafeAt.below (h : SafeAt w g ss) (hb : Below w.heap.size w w1) : SafeAt w1 g ss := ⟨(hb.block g h.lt).trans h.blk, h.len⟩
theorem SafeAt.fr (h : SafeAt w g ss) (hd : Dsk w0 w b D m) (hf : Fr w w1 b) : SafeAt w1 g ss := ⟨hd.stays hf h.blk (by decide) (by decide), h.len⟩
theorem SafeAt.far (h : SafeAt w g ss) {p : Addr} (hp : g ≠ p.block) (u : Value) : SafeAt (w.setCell p u) g ss := ⟨(heap_far w p u hp).trans h.blk, h.len⟩
/-- A store into a block of the call's own that is none of the disk's. -/
theorem Dsk.setFar (h : Dsk w0 w b D m) {p : Addr} {cur : Array Value} {t : Nat} (hk : w.heap[p.block]? = some (.cells cur t (0, 0))) (h1 : t ≠ 88) (h2 : t ≠ 91) (h3 : t ≠ 3) (hp : w0.heap.size ≤ p.block) (u : Value) : Dsk w0 (w.setCell p u) b D m := by
  obtain ⟨qv, kv, hd⟩ := h.at_
  obtain ⟨a, c⟩ := h.typed hk h1 h2
  have hD : DAt (w.setCell p u) b D qv kv := ⟨hd.len, (heap_far w p u (Ne.symm a)).trans hd.blk, hd.que.setFar (fun e => c ((qOwn_at hd).2 e)), hd.kep.setFar hk h3⟩
  have ho : ∀ k, qOwn (w.setCell p u) b k ↔ qOwn w b k := fun k => by rw [qOwn_at hd, qOwn_at hD]
  have hS : Below w0.heap.size w (w.setCell p u) := (Below.refl _ w).setCell hp u
  exact ⟨⟨qv, kv, hD⟩, h.good, h.far.trans hS, h.from_, fun k hk => h.own k ((ho k).1 hk)⟩
theorem Dsk.drewN (h : Dsk w0 w b D m) (n : Nat) : Dsk w0 (w.drewN n) b D m := h.below (Drawn0.below ⟨⟨n, rfl⟩⟩)
/-- The kept lengths that came in. -/
theorem KArg.ofIn {A : Option Addr} {keep : List Int} (h : Kd.C (Kd.int .i64) w A keep.length keep) (hd : Dsk w w1 b D m) : KArg w1 b A keep := by
  refine ⟨fun hp => ?_, Kd.C_below h hd.far⟩
  obtain ⟨ad, e, hc⟩ := Kd.at_int h 0 (by decide) (by omega)
  have hlt := World.block_lt_of_cell? w _ hc
  rw [add_block] at hlt
  have := hd.far.size
  have := hd.from_
  exact ⟨ad, e, by omega, by omega⟩
end
/-- The first j files are read again. -/
def mixS (ss : List ByteArray) (D : DS) (j : Nat) : List ByteArray := (List.range 8).map fun f => if f < j then bs (D.fl f).b else sfAt ss f
theorem mix_at (ss : List ByteArray) (D : DS) (j : Nat) {f : Nat} (hf : f < 8) : sfAt (mixS ss D j) f = if f < j then bs (D.fl f).b else sfAt ss f := by
  unfold mixS sfAt
  rw [List.getD_eq_getElem?_getD, List.getElem?_map, List.getElem?_range hf]
  rfl
theorem mix_len (ss : List ByteArray) (D : DS) (j : Nat) : (mixS ss D j).length = 8 := by simp [mixS]
theorem sf_ext {a b : List ByteArray} (ha : a.length = 8) (hb : b.length = 8) (h : ∀ f, f < 8 → sfAt a f = sfAt b f) : a = b := by
  apply List.ext_getElem (by omega)
  intro i h1 h2
  have := h i (by omega)
  simpa [sfAt, List.getD_eq_getElem?_getD, List.getElem?_eq_getElem h1, List.getElem?_eq_getElem h2] using this
theorem mix_zero {ss : List ByteArray} (h : ss.length = 8) (D : DS) : mixS ss D 0 = ss := sf_ext (mix_len _ _ _) h fun f hf => by rw [mix_at _ _ _ hf, if_neg (Nat.not_lt_zero _)]
theorem mix_set (ss : List ByteArray) (D : DS) {j : Nat} (hj : j < 8) : (mixS ss D j).set j (bs (D.fl j).b) = mixS ss D (j + 1) := by
  refine sf_ext (by rw [List.length_set, mix_len]) (mix_len _ _ _) fun f hf => ?_
  rw [sf_set (by rw [mix_len]; exact hj), mix_at _ _ _ hf, mix_at _ _ _ hf]
  by_cases e : j = f
  · subst e
    rw [if_pos rfl, if_pos (Nat.lt_succ_self _)]
  · rw [if_neg e]
    by_cases h : f < j
    · rw [if_pos h, if_pos (by omega)]
    · rw [if_neg h, if_neg (by omega)]
theorem pre_extract {s : ByteArray} {t : List UInt8} : s.size ≤ (bs (s.data.toList ++ t)).size ∧ (bs (s.data.toList ++ t)).extract 0 s.size = s := by
  constructor
  · rw [bs_size, List.length_append, size_toList]
    omega
  · rw [← bs_of ((bs (s.data.toList ++ t)).extract 0 s.size), ByteArray.data_extract, Array.toList_extract, List.extract_eq_take_drop, bs_toList, List.drop_zero, Nat.sub_zero, ← size_toList, List.take_left, bs_of]
theorem madeS (w : World) : (Instr.makeSlice 38 (.int .i64 8) (.int .i64 8)).run Try.prog w = .ok (.slice (some ⟨w.heap.size, 0, none⟩) 8 8) (w.alloc (.cells ((List.replicate 8 (⟨#[]⟩ : ByteArray)).map Value.string).toArray 9)) := by kernel_rfl
/-- The law's state at the head of its loop. -/
structure LasS (w wr : World) (b g : Nat) (D : DS) (ss : List ByteArray) (m : Nat) : Prop where
  dsk : Dsk w wr b D m
  row : SafeAt wr g ss
  ok : SafeOk D ss
  hg : w.heap.size ≤ g
theorem LasS.drewN {w wr : World} {b g m : Nat} {D : DS} {ss : List ByteArray} (h : LasS w wr b g D ss m) (n : Nat) : LasS w (wr.drewN n) b g D ss m := ⟨h.dsk.drewN n, h.row.below (Drawn0.below ⟨⟨n, rfl⟩⟩), h.ok, h.hg⟩
theorem las_again {w wr : World} {b g m : Nat} {D : DS} {ss : List ByteArray} (hd : Dsk w wr b { D with down := false } m) (hr : SafeAt wr g (mixS ss { D with down := false } 8)) (hq : D.q = []) (hf : ∀ f, f < 8 → ∃ t, D.fl f = ⟨(sfAt ss f).data.toList ++ t, ((sfAt ss f).data.toList ++ t).length⟩) (hg : w.heap.size ≤ g) {w1 : World} (hd1 : Dsk w w1 b (crashD { D with down := false } []) m) (hf1 : Fr wr w1 b) : LasS w w1 b g (crashD { D with down := false } []) (mixS ss { D with down := false } 8) m := by
  have hok := hd.good.ok
  have hok' : DOk D := ⟨hok.len, hok.fl, hok.qin, hok.ord, hok.lost, hok.armed⟩
  refine ⟨hd1, hr.fr hd hf1, ⟨mix_len _ _ _, fun f hf8 => ?_⟩, hg⟩
  rw [mix_at _ _ _ hf8, if_pos hf8, bs_toList, again_same hok' hq (fun f hf8 => by obtain ⟨t, ht⟩ := hf f hf8; rw [ht]) f hf8]
  rfl
theorem last_facts {D : DS} {ss : List ByteArray} {m : Nat} (h : SafeOk D ss) (hg : Good D m) (keep : List Int) : ∀ f, f < 8 → (∃ t, (({ crashD { armD D 0 [] with down := false } keep with down := false } : DS).fl f).b = (sfAt ss f).data.toList ++ t) ∧ TornL (({ crashD { armD D 0 [] with down := false } keep with down := false } : DS).fl f).b (({ armD D 0 [] with down := false } : DS).fl f).b ∧ (({ crashD { armD D 0 [] with down := false } keep with down := false } : DS).fl f).b.length ≤ 16777216 := by
  intro f hf
  have hg2 : Good { armD D 0 [] with down := false } m := good_start (good_arm (n := (0 : Int).toNat) hg (by decide) [])
  refine ⟨?_, torn_crash hg2.ok rfl keep hf, ((good_crash hg2 keep).ok.flAt hf).2⟩
  obtain ⟨_, _, h3⟩ := fell_crash hg2.ok rfl keep
  obtain ⟨t, ht⟩ := h3 f hf
  refine ⟨t, ?_⟩
  rw [h.at_ f hf]
  exact congrArg Fl.b ht
theorem lasSet {w wr : World} {b g m n : Nat} {D : DS} {ss : List ByteArray} {v : ByteArray} (hd : Dsk w wr b D m) (hr : SafeAt wr g ss) (hg : w.heap.size ≤ g) (ho : SafeOk D (ss.set n v)) : LasS w (wr.setCell ⟨g, n, none⟩ (.string v)) b g D (ss.set n v) m :=
  ⟨hd.setFar (p := ⟨g, n, none⟩) hr.blk (by decide) (by decide) (by decide) hg _, hr.set n v, ho, hg⟩
theorem SafeAt.drewN {w : World} {g : Nat} {ss : List ByteArray} (h : SafeAt w g ss) (n : Nat) : SafeAt (w.drewN n) g ss := h.below (Drawn0.below ⟨⟨n, rfl⟩⟩)
theorem kk_cases {k r : Int} (h : ¬ ((k = 2 ∨ k = 3 ∨ k = 4) ∧ r = 0)) : ((k == 2) = false ∧ (k == 3) = false ∧ (k == 4) = false) ∨ ((r == 0) = false ∧ (k == 2) = true ∧ (k == 3) = false ∧ (k == 4) = false) ∨ ((r == 0) = false ∧ (k == 2) = false ∧ (k == 3) = true ∧ (k == 4) = false) ∨ ((r == 0) = false ∧ (k == 2) = false ∧ (k == 3) = false ∧ (k == 4) = true) := by
  simp only [beq_iff_eq, beq_eq_false_iff_ne, ne_eq]
  omega
theorem act_cells {w : World} {ba : Nat} {a0 a1 a2 a3 a4 a5 : Value} {t : Nat} {fr : Nat × Nat} (h : w.heap[ba]? = some (.cells #[a0, a1, a2, a3, a4, a5] t fr)) : w.cell? ⟨ba, 0, none⟩ = some a0 ∧ w.cell? ⟨ba, 1, none⟩ = some a1 ∧ w.cell? ⟨ba, 2, none⟩ = some a2 ∧ w.cell? ⟨ba, 3, none⟩ = some a3 := by
  simp [World.cell?, h]
theorem read_up {D : DS} (hd : D.down = false) {n : Nat} (hn : n < 8) : readD D n = ((bs (D.fl n).b).data.toList, 0) := by
  have h0 : mayOf D [(n : Int)] = 0 := by
    unfold mayOf
    rw [if_neg (by rw [hd]; simp), if_pos (by simp [isB_nat hn])]
  unfold readD
  rw [if_pos h0, bs_toList, Int.toNat_natCast]

def LastsGoal (l : List Act6) (A : Option Addr) (c : Nat) (keep : List Int) (A2 : Option Addr) (c2 : Nat) (w : World) : Prop := Calls Try.prog 5 #[.slice A l.length c, .slice A2 keep.length c2] w fun e w' => e = .returned (.bool true) ∧ Below w.heap.size w w'
set_option maxRecDepth 100000 in
set_option maxHeartbeats 4000000 in
theorem lasts_test (l : List Act6) (A : Option Addr) (c : Nat) (keep : List Int) (A2 : Option Addr) (c2 : Nat) (w : World) (hC : ActsAt w A l) (hC2 : Kd.C (Kd.int .i64) w A2 keep.length keep) (hf : fewB l = true) (h200 : l.length ≤ 200) (hX : ∀ x ∈ l, x.s.size ≤ 140737488355328 ∧ x.keep.length ≤ 1000000 ∧ x.n ≤ 9223372036854775807) : LastsGoal l A c keep A2 c2 w := by
  have HC := Aside0.mk hC
  have HXA := Aside0.mk hX
  clear hX
  have HC2 := Aside0.mk hC2
  have hm : l.length ≤ 9223372036854775807 := hC.1
  have HFW := Aside0.mk hf
  have HMK := Aside0.mk madeS
  clear hC hC2 hf
  unfold LastsGoal
  go_enter Try.func5, Try.ntmps5
  go_wp2_with fail
  go_at_call 13
  refine (small6F w).mono ?_
  rintro e w1 ⟨rfl, hb⟩
  have HB1 := Aside0.mk hb
  clear hb
  go_wp2_with fail
  go_at_call 14
  refine (newP HB1.out).mono ?_
  rintro e w2 ⟨rfl, hd, _⟩
  have HD2 := Aside0.mk hd
  clear hd
  go_wp2_with fail
  go_at_call 22
  have HFE := Aside0.mk (fewF (HC.out.below HD2.out.far) c)
  rw [HFW.out] at HFE
  refine HFE.out.mono ?_
  rintro e w3 ⟨rfl, hw⟩
  have HD3 := Aside0.mk (HD2.out.below hw.below)
  clear hw HD2 HFE
  have hmk := HMK.out
  go_wp2_with fail
  clear hmk
  have HL0 : Aside0 (LasS w (w3.alloc (.cells ((List.replicate 8 (⟨#[]⟩ : ByteArray)).map Value.string).toArray 9)) w1.heap.size w3.heap.size newD (List.replicate 8 ⟨#[]⟩) 0) := ⟨⟨HD3.out.alloc _, ⟨(MapKept.heap_alloc w3 _).1, rfl⟩, safe_new, HD3.out.far.size⟩⟩
  generalize hG : w3.heap.size = g at *
  clear hG
  generalize hB : w1.heap.size = b at *
  clear hB
  go_loopg [8] l.length (fun kq v8 wr => ∃ (i : Nat) (D : DS) (ss : List ByteArray), v8 = .int .i64 i ∧ Aside0 (i + kq = l.length) ∧ Aside0 (LasS w wr b g D ss i))
  case atStart => exact ⟨0, _, _, rfl, ⟨Nat.zero_add _⟩, HL0⟩
  case round =>
    obtain ⟨i, D, ss, rfl, HK, HS⟩ := hrel
    have hi : i ≤ l.length := by have := HK.out; omega
    clear HL0 HB1 HD3
    by_cases hlt : i < l.length
    · obtain ⟨ad, A', c', rfl, h0, h1, h2, h3, h4, h5, hK⟩ := HC.out.at_ hlt
      have hfar := HS.out.dsk.far
      have HKA := Aside0.mk (KArg.ofIn hK HS.out.dsk)
      replace h0 := pw_cell_below hfar h0
      replace h1 := pw_cell_below hfar h1
      replace h2 := pw_cell_below hfar h2
      replace h3 := pw_cell_below hfar h3
      replace h4 := pw_cell_below hfar h4
      replace h5 := pw_cell_below hfar h5
      clear hK hfar
      have HXB := Aside0.mk (HXA.out _ (List.getElem_mem hlt))
      generalize l[i] = x at *
      obtain ⟨D', s', r, hdo⟩ : ∃ D' s' r, doD D x = (D', s', r) := ⟨_, _, _, rfl⟩
      have hst := do_step HS.out.dsk.good.ok HS.out.ok x
      rw [hdo] at hst
      have HST := Aside0.mk hst
      have HDO := Aside0.mk hdo
      clear hst hdo
      go_wp2_with fail
      go_at_call 23
      refine (downP (HS.out.dsk.alloc _) D.down rfl).mono ?_
      rintro e w4 ⟨rfl, rfl⟩
      go_wp2_with fail
      go_at_call 24
      have hG2 := doP (c := c') (HS.out.dsk.alloc (.cells #[.int .i64 x.k, .int .i64 x.f, .int .i64 x.g, .int .i64 x.n, .string x.s, .slice A' x.keep.length c'] 40)) (by omega) HXB.out.1 HXB.out.2.2 HXB.out.2.1 (HKA.out.below ((Below.refl _ _).alloc (Nat.le_refl _) _))
      unfold DoGoal at hG2
      rw [HDO.out] at hG2
      refine hG2.mono ?_
      rintro e w5 ⟨rfl, hd, hf⟩
      have hal := (Below.refl wr.heap.size wr).alloc (Nat.le_refl _) (.cells #[.int .i64 x.k, .int .i64 x.f, .int .i64 x.g, .int .i64 x.n, .string x.s, .slice A' x.keep.length c'] 40)
      have HD5 : Aside0 (Dsk w w5 b D' (i + 1)) := ⟨hd⟩
      have HR5 := Aside0.mk ((HS.out.row.below hal).fr (HS.out.dsk.alloc _) hf)
      have HB5 := Aside0.mk ((HS.out.dsk.alloc _).stays hf (MapKept.heap_alloc wr _).1 (by decide) (by decide))
      have HG := Aside0.mk HS.out.hg
      have HUP : Aside0 (D.down = D.down) := ⟨rfl⟩
      have hne : wr.heap.size ≠ g := fun e => by have := HS.out.row.lt; omega
      generalize bs (D', s', r).2.1 = S' at *
      generalize hba : wr.heap.size = ba at *
      clear hd hf hal hG2 h0 h1 h2 h3 h4 h5 hba HS HKA HXB HDO
      obtain ⟨dn, hdn0⟩ : ∃ dn, D.down = dn := ⟨_, rfl⟩
      have HDN0 := Aside0.mk hdn0
      rw [hdn0]
      clear hdn0
      cases HST.out with
      | flushed hk hr hu hdn n hn hf hs =>
        subst hr
        obtain rfl : dn = false := HDN0.out.symm.trans hu
        clear hu
        have HP := Aside0.mk (pickF x.k w5)
        rw [hk] at HP
        obtain ⟨q0, q1, q2, q3⟩ := act_cells HB5.out
        rw [hf] at q1
        have HSO := Aside0.mk hs
        have hn8 : (n : Int) < 8 := by omega
        have HF2 := Aside0.mk hf
        clear hk hs hf
        go_wp2_with fail
        go_at_call 25
        refine HP.out.mono ?_
        rintro e w6 ⟨rfl, rfl⟩
        go_wp2_with fail
        go_at_call 20
        refine (readP HD5.out n (bs (D'.fl n).b) 0 (read_up hdn hn)).mono ?_
        rintro e w7 ⟨rfl, hd7, hb7⟩
        have HR7 := Aside0.mk (HR5.out.below hb7)
        have HDE := Aside0.mk (hd7.setFar (p := ⟨g, n, none⟩) HR7.out.blk (by decide) (by decide) (by decide) HG.out (.string (bs (D'.fl n).b)))
        have HLE : Aside0 (LasS w _ b g D' _ (i + 1)) := ⟨⟨HDE.out, HR7.out.set n (bs (D'.fl n).b), HSO.out, HG.out⟩⟩
        obtain ⟨q0', q1', q2', q3'⟩ := act_cells ((hb7.block ba (Array.getElem?_eq_some_iff.1 HB5.out).1).trans HB5.out)
        rw [HF2.out] at q1'
        have sc := HR7.out.cell hn
        have sf := HR7.out.frozen n
        clear hd7 hb7 q0 q1 q2 q3
        go_wp2_with fail
        go_quiet (fail)
        replace HLE := Aside0.mk (HLE.out.drewN nq)
        go_wp2_with (go_at_call 23; refine (downP HLE.out.dsk false hdn).mono ?_; rintro e w9 ⟨rfl, rfl⟩)
        all_goals
          go_roundg (gk - 1)
          case measure => have := HK.out; omega
          case rel => exact ⟨i + 1, D', _, by go_num, ⟨by have := HK.out; omega⟩, HLE⟩
      | cut hk hr hu hdn n j hn hf hj h1 h2 =>
        subst hr
        obtain rfl : dn = false := HDN0.out.symm.trans hu
        clear hu
        have HP := Aside0.mk (pickF x.k w5)
        rw [hk] at HP
        obtain ⟨q0, q1, q2, q3⟩ := act_cells HB5.out
        rw [hf] at q1
        rw [hj] at q3
        have hn8 : (n : Int) < 8 := by omega
        have sc := HR5.out.cell hn
        have sf := HR5.out.frozen n
        have H1 := Aside0.mk h1
        have H2 := Aside0.mk h2
        clear hk hf hj h1 h2
        by_cases hlj : j < (sfAt ss n).size
        · have gg : decide (j < (sfAt ss n).size) = true := decide_eq_true (by omega)
          have gj : (j : Int) ≤ (sfAt ss n).size := by omega
          go_wp2_with fail
          go_at_call 25
          refine HP.out.mono ?_
          rintro e w6 ⟨rfl, rfl⟩
          go_wp2_with fail
          go_quiet (fail)
          go_wp2_with fail
          refine still_tail 12 (by kernel_rfl) (by kernel_rfl) ?_
          simp only [List.take_succ_cons, List.take_zero, List.drop_succ_cons, List.drop_zero]
          repeat still_step
          refine wpStill_nil ?_
          have HLE := Aside0.mk (lasSet (HD5.out.drewN (nq + 1)) (HR5.out.drewN (nq + 1)) HG.out (H1.out hlj))
          clear hlj gg gj
          go_wp2_with (go_at_call 23; refine (downP HLE.out.dsk false hdn).mono ?_; rintro e w9 ⟨rfl, rfl⟩)
          all_goals
            go_roundg (gk - 1)
            case measure => have := HK.out; omega
            case rel => exact ⟨i + 1, D', _, by go_num, ⟨by have := HK.out; omega⟩, HLE⟩
        · have gg : decide (j < (sfAt ss n).size) = false := decide_eq_false (by omega)
          go_wp2_with fail
          go_at_call 25
          refine HP.out.mono ?_
          rintro e w6 ⟨rfl, rfl⟩
          have HLE : Aside0 (LasS w w5 b g D' _ (i + 1)) := ⟨⟨HD5.out, HR5.out, H2.out hlj, HG.out⟩⟩
          clear hlj
          go_wp2_with fail
          go_quiet (fail)
          replace HLE := Aside0.mk (HLE.out.drewN nq)
          go_wp2_with (go_at_call 23; refine (downP HLE.out.dsk false hdn).mono ?_; rintro e w9 ⟨rfl, rfl⟩)
          all_goals
            go_roundg (gk - 1)
            case measure => have := HK.out; omega
            case rel => exact ⟨i + 1, D', _, by go_num, ⟨by have := HK.out; omega⟩, HLE⟩
      | turned hk hr hu hdn n j hn hj8 hf hj hs =>
        subst hr
        obtain rfl : dn = false := HDN0.out.symm.trans hu
        clear hu
        have HP := Aside0.mk (pickF x.k w5)
        rw [hk] at HP
        obtain ⟨q0, q1, q2, q3⟩ := act_cells HB5.out
        rw [hf] at q1
        rw [hj] at q2
        have hn8 : (n : Int) < 8 := by omega
        have hj8' : (j : Int) < 8 := by omega
        have sc := HR5.out.cell hn
        have sf := HR5.out.frozen n
        have sc2 := HR5.out.cell hj8
        have sf2 := HR5.out.frozen j
        have HSO := Aside0.mk hs
        clear hk hf hj hs
        go_wp2_with fail
        go_at_call 25
        refine HP.out.mono ?_
        rintro e w6 ⟨rfl, rfl⟩
        go_wp2_with fail
        go_quiet (fail)
        have HR6 := (HR5.out.drewN (nq + 1)).set n (sfAt ss j)
        have sc3 := HR6.cell hj8
        have sf3 := HR6.frozen j
        have HLE := Aside0.mk (lasSet ((HD5.out.drewN (nq + 1)).setFar (p := ⟨g, n, none⟩) (HR5.out.drewN (nq + 1)).blk (by decide) (by decide) (by decide) HG.out (.string (sfAt ss j))) HR6 HG.out HSO.out)
        clear HR6
        go_wp2_with fail
        refine still_tail 9 (by kernel_rfl) (by kernel_rfl) ?_
        simp only [List.take_succ_cons, List.take_zero, List.drop_succ_cons, List.drop_zero]
        repeat still_step
        refine wpStill_nil ?_
        go_wp2_with (go_at_call 23; refine (downP HLE.out.dsk false hdn).mono ?_; rintro e w9 ⟨rfl, rfl⟩)
        all_goals
          go_roundg (gk - 1)
          case measure => have := HK.out; omega
          case rel => exact ⟨i + 1, D', _, by go_num, ⟨by have := HK.out; omega⟩, HLE⟩
      | other hk hm =>
        have HP := Aside0.mk (pickF x.k w5)
        obtain ⟨q0, q1, q2, q3⟩ := act_cells HB5.out
        have HM := Aside0.mk hm
        have HKC := Aside0.mk (kk_cases hk)
        generalize x.k % 11 = kk at *
        clear hk hm HST
        go_wp2_with fail
        go_at_call 25
        refine HP.out.mono ?_
        rintro e w6 ⟨rfl, rfl⟩
        go_upto_region 13 with (fail)
        go_cut [68] (fun v68 wc => v68 = .bool false ∧ w5 = wc)
        case first =>
          rcases HKC.out with ⟨k2, k3, k4⟩ | ⟨kr, k2, k3, k4⟩ | ⟨kr, k2, k3, k4⟩ | ⟨kr, k2, k3, k4⟩
          all_goals
            go_wp2_with fail
            go_meet
            exact ⟨rfl, rfl⟩
        case rest =>
          obtain ⟨rfl, rfl⟩ := hcut
          go_upto_region 16 with (fail)
          go_cut [97] (fun v97 wc => v97 = .bool false ∧ ∃ n, w5.drewN n = wc)
          case first =>
            rcases HKC.out with ⟨k2, k3, k4⟩ | ⟨kr, k2, k3, k4⟩ | ⟨kr, k2, k3, k4⟩ | ⟨kr, k2, k3, k4⟩
            all_goals
              go_quiet (fail)
              go_wp2_with fail
              go_meet
              exact ⟨rfl, _, rfl⟩
          case rest =>
          obtain ⟨rfl, nq, rfl⟩ := hcut
          go_upto_region 18 with (fail)
          go_cut [115] (fun v115 wc => v115 = .bool false ∧ w5.drewN nq = wc)
          case first =>
            rcases HKC.out with ⟨k2, k3, k4⟩ | ⟨kr, k2, k3, k4⟩ | ⟨kr, k2, k3, k4⟩ | ⟨kr, k2, k3, k4⟩
            all_goals
              go_wp2_with fail
              go_meet
              exact ⟨rfl, rfl⟩
          case rest =>
          obtain ⟨rfl, rfl⟩ := hcut
          rcases HM.out with ⟨hud, hso⟩ | ⟨hu, hdn, hq0, hfl⟩
          · have HLE : Aside0 (LasS w w5 b g D' ss (i + 1)) := ⟨⟨HD5.out, HR5.out, hso, HG.out⟩⟩
            clear hso HM
            cases dn with
            | true =>
              clear hud
              replace HLE := Aside0.mk (HLE.out.drewN nq)
              go_wp2_with fail
              go_roundg (gk - 1)
              case measure => have := HK.out; omega
              case rel => exact ⟨i + 1, D', _, by go_num, ⟨by have := HK.out; omega⟩, HLE⟩
            | false =>
              have hdn : D'.down = false := hud.resolve_left (fun e => by have := HDN0.out.symm.trans e; cases this)
              clear hud
              replace HLE := Aside0.mk (HLE.out.drewN nq)
              go_wp2_with (go_at_call 23; refine (downP HLE.out.dsk false hdn).mono ?_; rintro e w9 ⟨rfl, rfl⟩)
              all_goals
                go_roundg (gk - 1)
                case measure => have := HK.out; omega
                case rel => exact ⟨i + 1, D', _, by go_num, ⟨by have := HK.out; omega⟩, HLE⟩
          · obtain rfl : dn = false := HDN0.out.symm.trans hu
            clear hu
            have HFL := Aside0.mk hfl
            have HQ0 := Aside0.mk hq0
            have HDN := Aside0.mk hdn
            clear hfl hq0 hdn HM
            have HD6 := Aside0.mk (HD5.out.drewN nq)
            have HR6 := Aside0.mk (HR5.out.drewN nq)
            go_wp2_with fail
            go_at_call 23
            refine (downP HD6.out true HDN.out).mono ?_
            rintro e w9 ⟨rfl, rfl⟩
            go_wp2_with fail
            go_at_call 19
            refine (startP HD6.out (D' := { D' with down := false }) rfl).mono ?_
            rintro e w10 ⟨rfl, hd10, hf10⟩
            have HX0 : Aside0 (Dsk w w10 b { D' with down := false } (i + 1) ∧ SafeAt w10 g (mixS ss { D' with down := false } 0)) := ⟨hd10, by rw [mix_zero HR6.out.len]; exact HR6.out.fr HD6.out hf10⟩
            clear hd10 hf10
            obtain ⟨ko, rfl⟩ : ∃ k : Nat, k = gk := ⟨_, rfl⟩
            obtain ⟨wo, rfl⟩ : ∃ wo : World, wo = wr := ⟨_, rfl⟩
            go_wp2_with fail
            go_loopg [16] 8 (fun k2 v16 wr => ∃ j : Nat, v16 = .int .i64 j ∧ Aside0 (j + k2 = 8) ∧ Aside0 (Dsk w wr b { D' with down := false } (i + 1) ∧ SafeAt wr g (mixS ss { D' with down := false } j)))
            case atStart => exact ⟨0, rfl, ⟨rfl⟩, HX0⟩
            case round =>
              obtain ⟨j, rfl, HJ, HX⟩ := hrel
              have hj8 : j ≤ 8 := by have := HJ.out; omega
              by_cases hj : j < 8
              · go_wp2_with fail
                go_at_call 20
                refine (readP HX.out.1 j (bs (({ D' with down := false } : DS).fl j).b) 0 (read_up rfl hj)).mono ?_
                rintro e w11 ⟨rfl, hd11, hb11⟩
                have hr11 := HX.out.2.below hb11
                have HBG : Aside0 (Calls Try.prog 26 #[.string (bs (({ D' with down := false } : DS).fl j).b), .string (sfAt ss j)] w11 fun e w' => e = .returned (.bool true) ∧ w11 = w') := ⟨by
                  obtain ⟨t, ht⟩ := HFL.out j hj
                  have e : (({ D' with down := false } : DS).fl j).b = (sfAt ss j).data.toList ++ t := congrArg Fl.b ht
                  rw [e]
                  exact beginsF pre_extract.1 pre_extract.2 w11⟩
                have sc := hr11.cell hj
                rw [mix_at _ _ _ hj, if_neg (Nat.lt_irrefl j)] at sc
                have sf := hr11.frozen j
                have HX2 : Aside0 (Dsk w (w11.setCell ⟨g, j, none⟩ (.string (bs (({ D' with down := false } : DS).fl j).b))) b { D' with down := false } (i + 1) ∧ SafeAt (w11.setCell ⟨g, j, none⟩ (.string (bs (({ D' with down := false } : DS).fl j).b))) g (mixS ss { D' with down := false } (j + 1))) := ⟨hd11.setFar (p := ⟨g, j, none⟩) hr11.blk (by decide) (by decide) (by decide) HG.out (.string (bs (({ D' with down := false } : DS).fl j).b)), by rw [← mix_set _ _ hj]; exact hr11.set j _⟩
                clear hd11 hb11 hr11
                have hj8' : (j : Int) < 8 := by omega
                go_wp2_with fail
                go_at_call 26
                refine HBG.out.mono ?_
                rintro e w12 ⟨rfl, rfl⟩
                go_wp2_with fail
                go_roundg (gk - 1)
                case measure => have := HJ.out; omega
                case rel => exact ⟨j + 1, by go_num, ⟨by have := HJ.out; omega⟩, HX2⟩
              · obtain rfl : j = 8 := by omega
                have HLE : Aside0 (∀ w12, Dsk w w12 b (crashD { D' with down := false } []) (i + 1) → Fr wr w12 b → LasS w w12 b g (crashD { D' with down := false } []) (mixS ss { D' with down := false } 8) (i + 1)) := ⟨fun w12 h1 h2 => las_again HX.out.1 HX.out.2 HQ0.out HFL.out HG.out h1 h2⟩
                go_wp2_with fail
                go_at_call 18
                refine (crashP HX.out.1 none 0 0 [] rfl (KArg.nil _ _) rfl).mono ?_
                rintro e w12 ⟨rfl, hd12, hf12⟩
                have HL12 := Aside0.mk (HLE.out _ hd12 hf12)
                clear hd12 hf12
                go_wp2_with fail
                go_roundg (ko - 1)
                case measure => have := HK.out; omega
                case rel => exact ⟨i + 1, _, _, by go_num, ⟨by have := HK.out; omega⟩, HL12⟩
    · obtain rfl : i = l.length := by omega
      go_wp2_with fail
      go_at_call 27
      refine (armP HS.out.dsk 0 (by decide) (Kd.C_nil _ _) (by simp) 0 0 rfl rfl).mono ?_
      rintro e w4 ⟨rfl, hd4, hf4⟩
      have HR4 := Aside0.mk (HS.out.row.fr HS.out.dsk hf4)
      have HD4 := Aside0.mk hd4
      clear hd4 hf4
      go_wp2_with fail
      go_at_call 19
      refine (startP HD4.out rfl).mono ?_
      rintro e w5 ⟨rfl, hd5, hf5⟩
      have HF5 := Aside0.mk (last_facts HS.out.ok HS.out.dsk.good keep)
      obtain ⟨D5, h5⟩ : ∃ D5 : DS, { armD D 0 [] with down := false } = D5 := ⟨_, rfl⟩
      rw [h5] at hd5 HF5
      have HU5 : Aside0 (D5.down = false) := ⟨by rw [← h5]⟩
      have HR5 := Aside0.mk (HR4.out.fr HD4.out hf5)
      have HD5 := Aside0.mk hd5
      have HG := Aside0.mk HS.out.hg
      clear hd5 hf5 h5 HS HR4 HD4
      have hmk := HMK.out
      go_wp2_with fail
      clear hmk
      have HX0 : Aside0 (Dsk w (w5.alloc (.cells ((List.replicate 8 (⟨#[]⟩ : ByteArray)).map Value.string).toArray 9)) b D5 l.length ∧ SafeAt (w5.alloc (.cells ((List.replicate 8 (⟨#[]⟩ : ByteArray)).map Value.string).toArray 9)) g ss ∧ SafeAt (w5.alloc (.cells ((List.replicate 8 (⟨#[]⟩ : ByteArray)).map Value.string).toArray 9)) w5.heap.size (mixS (List.replicate 8 ⟨#[]⟩) D5 0)) := ⟨HD5.out.alloc _, HR5.out.below ((Below.refl _ _).alloc (Nat.le_refl _) _), by rw [mix_zero rfl]; exact ⟨(MapKept.heap_alloc w5 _).1, rfl⟩⟩
      have hne : g ≠ w5.heap.size := fun e => by have := HR5.out.lt; omega
      have HG2 : Aside0 (w.heap.size ≤ w5.heap.size) := ⟨HD5.out.far.size⟩
      generalize hg2 : w5.heap.size = g2 at *
      clear hg2 HD5 HR5
      go_loopg [20] 8 (fun k2 v20 wr => ∃ j : Nat, v20 = .int .i64 j ∧ Aside0 (j + k2 = 8) ∧ Aside0 (Dsk w wr b D5 l.length ∧ SafeAt wr g ss ∧ SafeAt wr g2 (mixS (List.replicate 8 ⟨#[]⟩) D5 j)))
      case atStart => exact ⟨0, rfl, ⟨rfl⟩, HX0⟩
      case round =>
        obtain ⟨j, rfl, HJ, HX⟩ := hrel
        have hj8 : j ≤ 8 := by have := HJ.out; omega
        by_cases hj : j < 8
        · go_wp2_with fail
          go_at_call 20
          refine (readP HX.out.1 j (bs (D5.fl j).b) 0 (read_up HU5.out hj)).mono ?_
          rintro e w11 ⟨rfl, hd11, hb11⟩
          have hr11 := HX.out.2.2.below hb11
          have sc := hr11.cell hj
          have sf := hr11.frozen j
          have HX2 : Aside0 (Dsk w (w11.setCell ⟨g2, j, none⟩ (.string (bs (D5.fl j).b))) b D5 l.length ∧ SafeAt (w11.setCell ⟨g2, j, none⟩ (.string (bs (D5.fl j).b))) g ss ∧ SafeAt (w11.setCell ⟨g2, j, none⟩ (.string (bs (D5.fl j).b))) g2 (mixS (List.replicate 8 ⟨#[]⟩) D5 (j + 1))) := ⟨hd11.setFar (p := ⟨g2, j, none⟩) hr11.blk (by decide) (by decide) (by decide) HG2.out (.string (bs (D5.fl j).b)), (HX.out.2.1.below hb11).far (p := ⟨g2, j, none⟩) hne _, by rw [← mix_set _ _ hj]; exact hr11.set j _⟩
          clear hd11 hb11 hr11
          have hj8' : (j : Int) < 8 := by omega
          go_wp2_with fail
          go_roundg (gk - 1)
          case measure => have := HJ.out; omega
          case rel => exact ⟨j + 1, by go_num, ⟨by have := HJ.out; omega⟩, HX2⟩
        · obtain rfl : j = 8 := by omega
          have HKA := Aside0.mk (KArg.ofIn HC2.out HX.out.1)
          go_wp2_with fail
          go_at_call 18
          refine (crashP HX.out.1 A2 _ c2 keep rfl HKA.out rfl).mono ?_
          rintro e w12 ⟨rfl, hd12, hf12⟩
          have HX12 := Aside0.mk (And.intro hd12 (And.intro (HX.out.2.1.fr HX.out.1 hf12) (HX.out.2.2.fr HX.out.1 hf12)))
          clear hd12 hf12
          go_wp2_with fail
          go_at_call 19
          refine (startP HX12.out.1 rfl).mono ?_
          rintro e w13 ⟨rfl, hd13, hf13⟩
          have HX13 := Aside0.mk (And.intro hd13 (And.intro (HX12.out.2.1.fr HX12.out.1 hf13) (HX12.out.2.2.fr HX12.out.1 hf13)))
          obtain ⟨D6, h6⟩ : ∃ D6 : DS, { crashD D5 keep with down := false } = D6 := ⟨_, rfl⟩
          have HF6 : Aside0 (D6.down = false ∧ ∀ f, f < 8 → (∃ t, (D6.fl f).b = (sfAt ss f).data.toList ++ t) ∧ TornL (D6.fl f).b (D5.fl f).b ∧ (D6.fl f).b.length ≤ 16777216) := ⟨by rw [← h6]; exact ⟨rfl, HF5.out⟩⟩
          rw [h6] at HX13
          clear hd13 hf13 h6 HX12 HX
          go_wp2_with fail
          go_loopg [23] 8 (fun k2 v23 wr => ∃ j : Nat, v23 = .int .i64 j ∧ Aside0 (j + k2 = 8) ∧ Aside0 (Dsk w wr b D6 l.length ∧ SafeAt wr g ss ∧ SafeAt wr g2 (mixS (List.replicate 8 ⟨#[]⟩) D5 8)))
          case atStart => exact ⟨0, rfl, ⟨rfl⟩, HX13⟩
          case round =>
            obtain ⟨j, rfl, HJ, HX⟩ := hrel
            have hj8 : j ≤ 8 := by have := HJ.out; omega
            by_cases hj : j < 8
            · go_wp2_with fail
              go_at_call 20
              refine (readP HX.out.1 j (bs (D6.fl j).b) 0 (read_up HF6.out.1 hj)).mono ?_
              rintro e w14 ⟨rfl, hd14, hb14⟩
              have hr1 := HX.out.2.1.below hb14
              have hr2 := HX.out.2.2.below hb14
              have sc := hr1.cell hj
              have sc2 := hr2.cell hj
              rw [mix_at _ _ _ hj, if_pos hj] at sc2
              have HBG : Aside0 (Calls Try.prog 26 #[.string (bs (D6.fl j).b), .string (sfAt ss j)] w14 fun e w' => e = .returned (.bool true) ∧ w14 = w') := ⟨by
                obtain ⟨⟨t, ht⟩, _⟩ := HF6.out.2 j hj
                rw [ht]
                exact beginsF pre_extract.1 pre_extract.2 w14⟩
              have HTG : Aside0 (Calls Try.prog 28 #[.string (bs (D6.fl j).b), .string (bs (D5.fl j).b)] w14 fun e w' => e = .returned (.bool true) ∧ Drawn0 w14 w') := ⟨tornF (TornB.of (by rw [bs_toList, bs_toList]; exact (HF6.out.2 j hj).2.1)) (by rw [bs_size]; exact (HF6.out.2 j hj).2.2) w14⟩
              have HX14 := Aside0.mk (And.intro hd14 (And.intro hr1 hr2))
              clear hd14 hr1 hr2 hb14
              have hj8' : (j : Int) < 8 := by omega
              go_wp2_with fail
              go_at_call 26
              refine HBG.out.mono ?_
              rintro e w15 ⟨rfl, rfl⟩
              go_wp2_with fail
              go_at_call 28
              refine HTG.out.mono ?_
              rintro e w16 ⟨rfl, hw⟩
              have HX16 := Aside0.mk (And.intro (HX14.out.1.below hw.below) (And.intro (HX14.out.2.1.below hw.below) (HX14.out.2.2.below hw.below)))
              clear hw
              go_wp2_with fail
              go_roundg (gk - 1)
              case measure => have := HJ.out; omega
              case rel => exact ⟨j + 1, by go_num, ⟨by have := HJ.out; omega⟩, HX16⟩
            · go_wp2_with fail
              go_ret
              exact ⟨rfl, HX.out.1.far⟩

theorem few_bound {l : List Act6} (h : ∀ x ∈ l, x.s.size ≤ 140737488355328 ∧ x.keep.length ≤ 140737488355328) : ∀ k, k ≤ 200 → k ≤ l.length → 0 ≤ fewS l k ∧ fewS l k ≤ k * 281474976710656 ∧ ∀ i x, i < k → l[i]? = some x → (x.keep.length : Int) ≤ fewS l k
  | 0, _, _ => ⟨Int.le_refl _, Int.le_refl _, fun i x hi => absurd hi (Nat.not_lt_zero _)⟩
  | k + 1, hk, hl => by
    obtain ⟨h0, h1, h2⟩ := few_bound h k (by omega) (by omega)
    obtain ⟨y, hy⟩ : ∃ y, l[k]? = some y := ⟨_, List.getElem?_eq_getElem (by omega)⟩
    obtain ⟨b1, b2⟩ := h y (List.mem_of_getElem? hy)
    have e : fewS l (k + 1) = fewS l k + (y.s.size : Nat) + (y.keep.length : Nat) := by
      rw [fewS, hy]
      simp only [wrap64]
      omega
    rw [e]
    refine ⟨by omega, by omega, fun i x hi hx => ?_⟩
    by_cases e2 : i = k
    · subst e2
      rw [hy] at hx
      injection hx with hx
      subst hx
      omega
    · have := h2 i x (by omega) hx
      omega
theorem few_true {l : List Act6} (h : ∀ x ∈ l, x.s.size ≤ 140737488355328 ∧ x.keep.length ≤ 140737488355328) (hf : fewB l = true) : l.length ≤ 200 ∧ ∀ x ∈ l, x.keep.length ≤ 1000000 := by
  unfold fewB at hf
  simp only [Bool.and_eq_true, decide_eq_true_eq] at hf
  refine ⟨hf.1, fun x hx => ?_⟩
  obtain ⟨i, hi⟩ := List.mem_iff_getElem?.1 hx
  have := (few_bound h l.length hf.1 (Nat.le_refl _)).2.2 i x (List.getElem?_eq_some_iff.1 hi).1 hi
  omega
set_option maxRecDepth 100000 in
set_option maxHeartbeats 4000000 in
theorem lasts_many (l : List Act6) (A : Option Addr) (c : Nat) (keep : List Int) (A2 : Option Addr) (c2 : Nat) (w : World) (hC : ActsAt w A l) (hf : fewB l = false) : LastsGoal l A c keep A2 c2 w := by
  have HC := Aside0.mk hC
  have HFW := Aside0.mk hf
  clear hC hf
  unfold LastsGoal
  go_enter Try.func5, Try.ntmps5
  go_wp2_with fail
  go_at_call 13
  refine (small6F w).mono ?_
  rintro e w1 ⟨rfl, hb⟩
  have HB1 := Aside0.mk hb
  clear hb
  go_wp2_with fail
  go_at_call 14
  refine (newP HB1.out).mono ?_
  rintro e w2 ⟨rfl, hd, _⟩
  have HD2 := Aside0.mk hd
  clear hd
  go_wp2_with fail
  go_at_call 22
  have HFE := Aside0.mk (fewF (HC.out.below HD2.out.far) c)
  rw [HFW.out] at HFE
  refine HFE.out.mono ?_
  rintro e w3 ⟨rfl, hw⟩
  have HD3 := Aside0.mk (HD2.out.below hw.below)
  clear hw HD2 HFE
  go_wp2_with fail
  go_ret
  exact ⟨rfl, HD3.out.far⟩
theorem diskLasts_row (A : Option Addr) (c : Nat) (l : List Act6) (A2 : Option Addr) (c2 : Nat) (keep : List Int) (w : World) (hC : ActsAt w A l) (hx : ∀ x ∈ l, x.n ≤ 9223372036854775807 ∧ x.s.size ≤ 140737488355328 ∧ x.keep.length ≤ 140737488355328) (hC2 : Kd.C (Kd.int .i64) w A2 keep.length keep) (_ : keep.all i64B = true) : LastsGoal l A c keep A2 c2 w := by
  cases hf : fewB l with
  | false => exact lasts_many l A c keep A2 c2 w hC hf
  | true =>
    obtain ⟨h1, h2⟩ := few_true (fun x hx' => (hx x hx').2) hf
    exact lasts_test l A c keep A2 c2 w hC hC2 hf h1 (fun x hx' => ⟨(hx x hx').2.1, h2 x hx', (hx x hx').1⟩)
end Go.Proofs.Ytbhlpnkccdcdiaa.Dk

