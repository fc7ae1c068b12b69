/- The disk's Arm: the kept lengths are copied. -/
import Derived.Test.YtbhlpnkccdcdiaaKDsk
namespace Go.Proofs.Ytbhlpnkccdcdiaa.Dk
open Go.RowKit Go.Proofs.YtbhlpnkccdcdiaaW.PrintWords Go.Lib
set_option linter.unusedVariables false
set_option linter.unusedSimpArgs false

theorem ints_reads {w : World} {A : Option Addr} {n : Nat} {l : List Int} (h : Kd.C (Kd.int .i64) w A n l) : ReadsInt w .i64 A n l := by
  obtain ⟨h1, h2, h3⟩ := h
  refine ⟨h1, h2, fun hp => ?_⟩
  obtain ⟨ad, e, hc⟩ := h3 hp
  refine ⟨ad, e, fun j hj => ?_⟩
  obtain ⟨cs, hs, hK, hx⟩ := hc j (l.getD j 0) (by rw [List.getElem?_eq_getElem (by omega), List.getD_eq_getElem?_getD, List.getElem?_eq_getElem (by omega)]; rfl)
  have hcs : cs = [.int .i64 (l.getD j 0)] := hK
  subst hcs
  have := hx 0 _ rfl
  have hsz : j * (Kd.int .i64).sz + 0 = j := by show j * 1 + 0 = j; omega
  rwa [hsz] at this
theorem ints_of {w : World} {A : Option Addr} {n : Nat} {l : List Int} (h : ReadsInt w .i64 A n l) : Kd.C (Kd.int .i64) w A n l := by
  obtain ⟨h1, h2, h3⟩ := h
  refine ⟨h1, h2, fun hp => ?_⟩
  obtain ⟨ad, e, hc⟩ := h3 hp
  refine ⟨ad, e, fun j p hj => ⟨[.int .i64 p], rfl, rfl, fun i u hu => ?_⟩⟩
  have hi : i = 0 := by
    have := (List.getElem?_eq_some_iff.1 hu).1
    simpa using this
  subst hi
  have : u = .int .i64 p := by simpa using hu.symm
  subst this
  have hsz : j * (Kd.int .i64).sz + 0 = j := by show j * 1 + 0 = j; omega
  have hj2 := (List.getElem?_eq_some_iff.1 hj).1
  rw [hsz, hc j (by omega), List.getD_eq_getElem?_getD, hj]
  rfl
/-- A row of numbers that a call owns, as the disk's kept lengths. -/
theorem KAt.ofOwns {w : World} {base : Nat} {v : Value} {l : List Int} (h : w.ownsRow base 3 1 v l.length (nums .i64 l)) : KAt w v l := by
  obtain ⟨A, c, rfl, hr⟩ := own_reads h
  have hc : l.length ≤ c ∧ (0 < l.length → ∃ ad cur, A = some ad ∧ w.heap[ad.block]? = some (.cells cur 3 (0, 0))) := by
    rcases h.2 with ⟨e, h2⟩ | ⟨g, cap, cur, e, _, hb, hl, hm, hs, ht⟩
    · injection e with e1 e2 e3
      exact ⟨by omega, fun hp => by omega⟩
    · injection e with e1 e2 e3
      subst e1 e3
      exact ⟨hl, fun _ => ⟨_, cur, rfl, hb⟩⟩
  exact ⟨A, c, rfl, hc.1, hc.2, ints_of hr⟩
theorem infoInt : (Try.prog.info? 3).map (fun i => (i.zero, i.size, i.bytes)) = some (some (.int .i64 0), 1, 8) := by kernel_rfl
set_option maxRecDepth 100000 in
set_option maxHeartbeats 1000000 in
theorem cloneI {w : World} {A : Option Addr} {l : List Int} (h : Kd.C (Kd.int .i64) w A l.length l) (hl : l.length ≤ 1000000) (c : Nat) :
    Calls Try.prog 62 #[.slice A l.length c] w fun e w' => (∃ v, e = .returned v ∧ KAt w' v l) ∧ Below w.heap.size w w' := by
  have HR := Aside0.mk (ints_reads h)
  have HA : Aside0 (A = none → l = []) := ⟨fun e => by
    rcases Nat.eq_zero_or_pos l.length with h0 | h0
    · exact List.eq_nil_of_length_eq_zero h0
    · obtain ⟨ad, h', _⟩ := h.2.2 h0
      rw [e] at h'
      cases h'⟩
  clear h
  have q22 : ∀ (w : World) (a : Option Addr) (n c n' c' : Nat), (binOp .eql 22 (.slice a n c) (.slice none n' c')).run Try.prog w = .ok (.bool a.isNone) w := fun w a n c n' c' => Lib.run_eql_slice_nil w _ _ a n c n' c' Try.underlying22
  cases A with
  | none =>
    obtain rfl : l = [] := HA.out rfl
    go_enter Try.func62, Try.ntmps62
    go_wp2_with fail
    go_ret
    exact ⟨⟨_, rfl, KAt_nil _⟩, Below.refl _ _⟩
  | some ad =>
    clear HA
    have HB := Aside0.mk (Below.refl w.heap.size w)
    go_enter Try.func62, Try.ntmps62
    go_wp2_with (at_builtin; refine print_append_row (w0 := w) w.heap.size rfl _ _ _ 3 .i64 8 rfl Try.underlying22 infoInt (by decide) _ [] l (some ad) l.length c rfl rfl ((World.ownsRow_made w #[] 0 (Nat.le_refl _) (Nat.zero_le _) rfl)) (HR.out.below ((Below.refl _ w).alloc (Nat.le_refl _) _)) ((Below.refl _ w).alloc (Nat.le_refl _) _) (by simp) (by simp only [List.length_nil]; omega) ?_)
    intro v1 w1 hown hbel _ _
    have HO := Aside0.mk hown
    have HBe := Aside0.mk hbel
    clear hown hbel
    go_wp2_with fail
    go_ret
    exact ⟨⟨_, rfl, KAt.ofOwns HO.out⟩, HBe.out⟩
theorem DAt.setKeep {w : World} {b : Nat} {D : DS} {qv kv : Value} (h : DAt w b D qv kv) {v : Value} {l : List Int} (hk : KAt w v l) : DAt (w.setCell ⟨b, 20, none⟩ v) b { D with keep := l } qv v where
  len := h.len
  blk := by
    have hD : DCells { D with keep := l } qv v = (DCells D qv kv).set 20 v := (tail_set h.len 4 v).symm
    rw [hD, ← setCells_toArray]
    simp [World.setCell, Array.getElem?_modify, h.blk]
  que := h.que.setFar h.qne
  kep := hk.setFar h.blk (by decide)
def armD (D : DS) (n : Int) (l : List Int) : DS := { D with armed := n.toNat, keep := l }
set_option maxRecDepth 100000 in
set_option maxHeartbeats 1000000 in
theorem armF {w : World} {b : Nat} {D : DS} {qv kv : Value} (h : DAt w b D qv kv) (n : Int) {A : Option Addr} {l : List Int} (hC : Kd.C (Kd.int .i64) w A l.length l) (hl : l.length ≤ 1000000) (c : Nat) :
    Calls Try.prog 27 #[.pointer (some ⟨b, 0, none⟩), .int .i64 n, .slice A l.length c] w fun e w' => e = .returned (.tuple #[]) ∧ (∃ kv', DAt w' b (armD D n l) qv kv') ∧ Fr w w' b := by
  have HC := Aside0.mk (cloneI hC hl c)
  have HH := Aside0.mk h
  clear h hC
  go_enter Try.func27, Try.ntmps27
  go_wp2_with fail
  go_at_call 62
  refine HC.out.mono ?_
  rintro e w1 ⟨⟨v, rfl, hk⟩, hb⟩
  obtain ⟨A', c', hv⟩ : ∃ A' c', v = .slice A' l.length c' := by
    obtain ⟨A', c', e, _⟩ := hk
    exact ⟨_, _, e⟩
  subst hv
  have h1 := HH.out.below hb
  have hc1 := h1.carmed
  have hc2 := h1.ckeep
  have hf1 := h1.frozen 19
  have hf2 := h1.frozen 20
  have h2 := h1.setArmed n.toNat
  rw [show ((n.toNat : Nat) : Int) = max n 0 by omega] at h2
  have h3 := h2.setKeep (l := l) (hk.setFar h1.blk (by decide))
  have HD := Aside0.mk h3
  have HF := Aside0.mk (((Fr.ofBelow HH.out hb).trans (Fr.ofSet h1 h2)).trans (Fr.ofSet h2 h3))
  clear h1 h2 h3 hb hk
  go_wp2_with fail
  go_end0
  exact ⟨rfl, ⟨_, HD.out⟩, HF.out⟩
theorem armP {w0 w : World} {b m : Nat} {D : DS} (h : Dsk w0 w b D m) (n : Int) (hn : n ≤ 9223372036854775807) {A : Option Addr} {l : List Int} (hC : Kd.C (Kd.int .i64) w A l.length l) (hl : l.length ≤ 1000000) (k c : Nat) (hk : l.length = k) {D' : DS} (he : armD D n l = D') :
    Calls Try.prog 27 #[.pointer (some ⟨b, 0, none⟩), .int .i64 n, .slice A k c] w fun e w' => e = .returned (.tuple #[]) ∧ Dsk w0 w' b D' m ∧ Fr w w' b := by
  subst hk
  obtain ⟨qv, kv, hd⟩ := h.at_
  refine (armF hd n hC hl c).mono ?_
  rintro e w' ⟨rfl, ⟨kv', h'⟩, hf⟩
  have hg := good_arm (n := n.toNat) h.good (by omega) l
  rw [show ({ D with armed := n.toNat, keep := l } : DS) = D' from he] at hg
  rw [he] at h'
  exact ⟨rfl, h.frame h' hf _ hg, hf⟩
end Go.Proofs.Ytbhlpnkccdcdiaa.Dk
