/- bournelaw06.DiskTurns: the walk. -/
import Derived.Test.YtbhlpnkccdcdiaaKTurnsP
import Derived.Test.YtbhlpnkccdcdiaaKSmall
import Derived.Test.YtbhlpnkccdcdiaaKRowK
namespace Go.Proofs.Ytbhlpnkccdcdiaa.Dk
open Go.RowKit Go.Proofs.YtbhlpnkccdcdiaaW.PrintWords Go.Lib
set_option linter.unusedVariables false
set_option linter.unusedSimpArgs false

/-- Kept lengths that came in. -/
theorem KArg.ofC {w w1 : World} {b m : Nat} {D : DS} {A : Option Addr} {keep : List Int} (h : Kd.C (Kd.int .i64) w A keep.length keep) (hd : Dsk w w1 b D m) : KArg w1 b A keep := by
  refine ⟨fun hp => ?_, Kd.C_below h hd.far⟩
  obtain ⟨_, _, h3⟩ := h
  obtain ⟨ad, e, hc⟩ := h3 hp
  obtain ⟨p, hp'⟩ : ∃ p, keep[0]? = some p := ⟨keep[0], List.getElem?_eq_getElem hp⟩
  obtain ⟨c, hl, hK, hx⟩ := hc 0 p hp'
  have hl1 : 0 < c.length := by rw [hl]; exact Nat.one_pos
  obtain ⟨u, hu⟩ : ∃ u, c[0]? = some u := ⟨c[0], List.getElem?_eq_getElem hl1⟩
  have hcell := hx 0 u hu
  have hlt : ad.block < w.heap.size := by
    have hb : (ad.add (0 * (Kd.int .i64).sz + 0)).block = ad.block := add_block _ _
    rw [← hb]
    cases hh : w.heap[(ad.add (0 * (Kd.int .i64).sz + 0)).block]? with
    | none =>
      unfold World.cell? at hcell
      rw [hh] at hcell
      cases hcell
    | some o => exact (Array.getElem?_eq_some_iff.1 hh).1
  have := hd.far.size
  have := hd.from_
  exact ⟨ad, e, by omega, by omega⟩

set_option maxRecDepth 100000 in
set_option maxHeartbeats 4000000 in
theorem turns_long1 (e nw : ByteArray) (step : Int) (A : Option Addr) (c : Nat) (keep : List Int) (w : World) (hk : Kd.C (Kd.int .i64) w A keep.length keep) (h1 : ¬ e.size ≤ 50000) : Calls Try.prog 3 #[.string e, .string nw, .int .i64 step, .slice A keep.length c] w fun e w' => e = .returned (.bool true) ∧ Below w.heap.size w w' := by
  have HK := Aside0.mk hk
  clear hk
  have h1b : decide ((50000 : Int) < e.size) = true := decide_eq_true (by omega)
  go_enter Try.func3, Try.ntmps3
  go_wp2_with fail
  go_at_call 13
  refine (small6F w).mono ?_
  rintro e w1 ⟨rfl, hb⟩
  have HB1 := Aside0.mk hb
  clear hb
  go_wp2_with fail
  go_at_call 14
  refine (newP HB1.out).mono ?_
  rintro e w2 ⟨rfl, hd, _⟩
  have HD2 := Aside0.mk hd
  clear hd
  go_wp2_with fail
  go_ret
  exact ⟨rfl, HD2.out.far⟩

set_option maxRecDepth 100000 in
set_option maxHeartbeats 4000000 in
theorem turns_long2 (e nw : ByteArray) (step : Int) (A : Option Addr) (c : Nat) (keep : List Int) (w : World) (hk : Kd.C (Kd.int .i64) w A keep.length keep) (h1 : e.size ≤ 50000) (h2 : ¬ nw.size ≤ 50000) : Calls Try.prog 3 #[.string e, .string nw, .int .i64 step, .slice A keep.length c] w fun e w' => e = .returned (.bool true) ∧ Below w.heap.size w w' := by
  have HK := Aside0.mk hk
  clear hk
  have h1b : decide ((50000 : Int) < e.size) = false := decide_eq_false (by omega)
  have h2b : decide ((50000 : Int) < nw.size) = true := decide_eq_true (by omega)
  go_enter Try.func3, Try.ntmps3
  go_wp2_with fail
  go_at_call 13
  refine (small6F w).mono ?_
  rintro e w1 ⟨rfl, hb⟩
  have HB1 := Aside0.mk hb
  clear hb
  go_wp2_with fail
  go_at_call 14
  refine (newP HB1.out).mono ?_
  rintro e w2 ⟨rfl, hd, _⟩
  have HD2 := Aside0.mk hd
  clear hd
  go_wp2_with fail
  go_ret
  exact ⟨rfl, HD2.out.far⟩

set_option maxRecDepth 100000 in
set_option maxHeartbeats 4000000 in
theorem turns_zero (e nw : ByteArray) (step : Int) (A : Option Addr) (c : Nat) (keep : List Int) (w : World) (hk : Kd.C (Kd.int .i64) w A keep.length keep) (h1 : e.size ≤ 50000) (h2 : nw.size ≤ 50000) (hs : step = 0) : Calls Try.prog 3 #[.string e, .string nw, .int .i64 step, .slice A keep.length c] w fun e w' => e = .returned (.bool true) ∧ Below w.heap.size w w' := by
  have HK := Aside0.mk hk
  clear hk
  subst hs
  have h1b : decide ((50000 : Int) < e.size) = false := decide_eq_false (by omega)
  have h2b : decide ((50000 : Int) < nw.size) = false := decide_eq_false (by omega)
  have E1 := Aside0.mk (ap3 e.data.toList (by rw [size_toList]; exact h1))
  go_enter Try.func3, Try.ntmps3
  go_wp2_with fail
  go_at_call 13
  refine (small6F w).mono ?_
  rintro e w1 ⟨rfl, hb⟩
  have HB1 := Aside0.mk hb
  clear hb
  go_wp2_with fail
  go_at_call 14
  refine (newP HB1.out).mono ?_
  rintro e w2 ⟨rfl, hd, _⟩
  have HD2 := Aside0.mk hd
  clear hd
  go_wp2_with fail
  go_at_call 15
  refine (appendP HD2.out (by decide) 3 e (by omega) 0 E1.out).mono ?_
  rintro e w3 ⟨rfl, hd, _⟩
  have HD3 := Aside0.mk hd
  clear hd
  go_wp2_with fail
  go_at_call 16
  refine (flushP HD3.out 3 0 (fl3 _)).mono ?_
  rintro e w4 ⟨rfl, hd, _⟩
  have HD4 := Aside0.mk hd
  clear hd
  go_wp2_with fail
  go_at_call 17
  refine (turnP HD4.out 3 4 0 (tu _ _ _ _ (Nat.le_refl _))).mono ?_
  rintro e w5 ⟨rfl, hd, _⟩
  have HD5 := Aside0.mk hd
  clear hd
  go_wp2_with fail
  go_at_call 18
  refine (crashP HD5.out A _ c keep rfl (KArg.ofC HK.out HD5.out) (cr [] [] keep)).mono ?_
  rintro e w6 ⟨rfl, hd, _⟩
  have HD6 := Aside0.mk hd
  clear hd
  go_wp2_with fail
  go_at_call 19
  refine (startP HD6.out (st _ _ _ _ _)).mono ?_
  rintro e w7 ⟨rfl, hd, _⟩
  have HD7 := Aside0.mk hd
  clear hd
  go_wp2_with fail
  go_at_call 20
  refine (readP HD7.out 3 ⟨#[]⟩ 0 (rd3 _ _ _ _ _)).mono ?_
  rintro e w8 ⟨rfl, hd, _⟩
  have HD8 := Aside0.mk hd
  clear hd
  go_wp2_with fail
  go_ret
  exact ⟨rfl, HD8.out.far⟩

set_option maxRecDepth 100000 in
set_option maxHeartbeats 4000000 in
theorem turns_one_empty (e nw : ByteArray) (step : Int) (A : Option Addr) (c : Nat) (keep : List Int) (w : World) (hk : Kd.C (Kd.int .i64) w A keep.length keep) (h1 : e.size ≤ 50000) (h2 : nw.size ≤ 50000) (hs1 : step = 1) (hn : nw.data.toList = []) : Calls Try.prog 3 #[.string e, .string nw, .int .i64 step, .slice A keep.length c] w fun e w' => e = .returned (.bool true) ∧ Below w.heap.size w w' := by
  have HK := Aside0.mk hk
  clear hk
  have h1b : decide ((50000 : Int) < e.size) = false := decide_eq_false (by omega)
  have h2b : decide ((50000 : Int) < nw.size) = false := decide_eq_false (by omega)
  have E1 := Aside0.mk (ap3 e.data.toList (by rw [size_toList]; exact h1))
  subst hs1
  have E2 : Aside0 (appendD (tS e.data.toList e.data.toList.length [] 0 [] false) 4 nw.data.toList = (tS e.data.toList e.data.toList.length [] 0 [] false, 0)) := ⟨by rw [hn]; exact ap4 e.data.toList e.data.toList.length [] (by decide)⟩
  have E3 : Aside0 (readD (tS [] 0 [] 0 [] false) 3 = (nw.data.toList, 0)) := ⟨by rw [hn]; rfl⟩
  have hnb : (!nw.toList.isEmpty) = false := by rw [toList_data, hn]; rfl
  clear hn
  go_enter Try.func3, Try.ntmps3
  go_wp2_with fail
  go_at_call 13
  refine (small6F w).mono ?_
  rintro e w1 ⟨rfl, hb⟩
  have HB1 := Aside0.mk hb
  clear hb
  go_wp2_with fail
  go_at_call 14
  refine (newP HB1.out).mono ?_
  rintro e w2 ⟨rfl, hd, _⟩
  have HD2 := Aside0.mk hd
  clear hd
  go_wp2_with fail
  go_at_call 15
  refine (appendP HD2.out (by decide) 3 e (by omega) 0 E1.out).mono ?_
  rintro e w3 ⟨rfl, hd, _⟩
  have HD3 := Aside0.mk hd
  clear hd
  go_wp2_with fail
  go_at_call 16
  refine (flushP HD3.out 3 0 (fl3 _)).mono ?_
  rintro e w4 ⟨rfl, hd, _⟩
  have HD4 := Aside0.mk hd
  clear hd
  go_wp2_with fail
  go_at_call 15
  refine (appendP HD4.out (by decide) 4 nw (by omega) 0 E2.out).mono ?_
  rintro e w5 ⟨rfl, hd, _⟩
  have HD5 := Aside0.mk hd
  clear hd
  go_wp2_with fail
  go_at_call 17
  refine (turnP HD5.out 3 4 0 (tu _ _ _ _ (Nat.le_refl _))).mono ?_
  rintro e w6 ⟨rfl, hd, _⟩
  have HD6 := Aside0.mk hd
  clear hd
  go_wp2_with fail
  go_at_call 18
  refine (crashP HD6.out A _ c keep rfl (KArg.ofC HK.out HD6.out) (cr [] [] keep)).mono ?_
  rintro e w7 ⟨rfl, hd, _⟩
  have HD7 := Aside0.mk hd
  clear hd
  go_wp2_with fail
  go_at_call 19
  refine (startP HD7.out (st _ _ _ _ _)).mono ?_
  rintro e w8 ⟨rfl, hd, _⟩
  have HD8 := Aside0.mk hd
  clear hd
  go_wp2_with fail
  go_at_call 20
  refine (readP HD8.out 3 nw 0 E3.out).mono ?_
  rintro e w9 ⟨rfl, hd, _⟩
  have HD9 := Aside0.mk hd
  clear hd
  go_wp2_with fail
  go_at_call 21
  refine (sizeP HD9.out 4 _ (sz4 _ _ _ _ _ _)).mono ?_
  rintro e w10 ⟨rfl, rfl⟩
  go_wp2_with fail
  go_ret
  exact ⟨rfl, HD9.out.far⟩

set_option maxRecDepth 100000 in
set_option maxHeartbeats 4000000 in
theorem turns_one (e nw : ByteArray) (step : Int) (A : Option Addr) (c : Nat) (keep : List Int) (w : World) (hk : Kd.C (Kd.int .i64) w A keep.length keep) (h1 : e.size ≤ 50000) (h2 : nw.size ≤ 50000) (hs1 : step = 1) (hn : nw.data.toList ≠ []) : Calls Try.prog 3 #[.string e, .string nw, .int .i64 step, .slice A keep.length c] w fun e w' => e = .returned (.bool true) ∧ Below w.heap.size w w' := by
  have HK := Aside0.mk hk
  clear hk
  have h1b : decide ((50000 : Int) < e.size) = false := decide_eq_false (by omega)
  have h2b : decide ((50000 : Int) < nw.size) = false := decide_eq_false (by omega)
  have E1 := Aside0.mk (ap3 e.data.toList (by rw [size_toList]; exact h1))
  subst hs1
  have E2 := Aside0.mk (ap4 e.data.toList e.data.toList.length nw.data.toList (by rw [size_toList]; exact h2))
  obtain ⟨k, hcr⟩ := crE e.data.toList nw.data.toList hn keep
  have E3 := Aside0.mk hcr
  have E4 := Aside0.mk (tuE e.data.toList e.data.toList.length nw.data.toList hn)
  have hnb : (!nw.toList.isEmpty) = true := by rw [toList_data]; simpa using hn
  have E5 : decide (min k nw.size ≤ nw.size) = true := decide_eq_true (Nat.min_le_right _ _)
  clear hcr hn
  go_enter Try.func3, Try.ntmps3
  go_wp2_with fail
  go_at_call 13
  refine (small6F w).mono ?_
  rintro e w1 ⟨rfl, hb⟩
  have HB1 := Aside0.mk hb
  clear hb
  go_wp2_with fail
  go_at_call 14
  refine (newP HB1.out).mono ?_
  rintro e w2 ⟨rfl, hd, _⟩
  have HD2 := Aside0.mk hd
  clear hd
  go_wp2_with fail
  go_at_call 15
  refine (appendP HD2.out (by decide) 3 e (by omega) 0 E1.out).mono ?_
  rintro e w3 ⟨rfl, hd, _⟩
  have HD3 := Aside0.mk hd
  clear hd
  go_wp2_with fail
  go_at_call 16
  refine (flushP HD3.out 3 0 (fl3 _)).mono ?_
  rintro e w4 ⟨rfl, hd, _⟩
  have HD4 := Aside0.mk hd
  clear hd
  go_wp2_with fail
  go_at_call 15
  refine (appendP HD4.out (by decide) 4 nw (by omega) 0 E2.out).mono ?_
  rintro e w5 ⟨rfl, hd, _⟩
  have HD5 := Aside0.mk hd
  clear hd
  go_wp2_with fail
  go_at_call 17
  refine (turnP HD5.out 3 4 10 E4.out).mono ?_
  rintro e w6 ⟨rfl, hd, _⟩
  have HD6 := Aside0.mk hd
  clear hd
  go_wp2_with fail
  go_at_call 18
  refine (crashP HD6.out A _ c keep rfl (KArg.ofC HK.out HD6.out) E3.out).mono ?_
  rintro e w7 ⟨rfl, hd, _⟩
  have HD7 := Aside0.mk hd
  clear hd
  go_wp2_with fail
  go_at_call 19
  refine (startP HD7.out (st _ _ _ _ _)).mono ?_
  rintro e w8 ⟨rfl, hd, _⟩
  have HD8 := Aside0.mk hd
  clear hd
  go_wp2_with fail
  go_at_call 20
  refine (readP HD8.out 3 e 0 (rd3 _ _ _ _ _)).mono ?_
  rintro e w9 ⟨rfl, hd, _⟩
  have HD9 := Aside0.mk hd
  clear hd
  go_wp2_with fail
  go_at_call 21
  refine (sizeP HD9.out 4 _ (sz4 _ _ _ _ _ _)).mono ?_
  rintro e w10 ⟨rfl, rfl⟩
  go_wp2_with fail
  go_ret
  exact ⟨rfl, HD9.out.far⟩

set_option maxRecDepth 100000 in
set_option maxHeartbeats 4000000 in
theorem turns_else (e nw : ByteArray) (step : Int) (A : Option Addr) (c : Nat) (keep : List Int) (w : World) (hk : Kd.C (Kd.int .i64) w A keep.length keep) (h1 : e.size ≤ 50000) (h2 : nw.size ≤ 50000) (hs0 : step ≠ 0) (hs1 : step ≠ 1) : Calls Try.prog 3 #[.string e, .string nw, .int .i64 step, .slice A keep.length c] w fun e w' => e = .returned (.bool true) ∧ Below w.heap.size w w' := by
  have HK := Aside0.mk hk
  clear hk
  have h1b : decide ((50000 : Int) < e.size) = false := decide_eq_false (by omega)
  have h2b : decide ((50000 : Int) < nw.size) = false := decide_eq_false (by omega)
  have E1 := Aside0.mk (ap3 e.data.toList (by rw [size_toList]; exact h1))
  have hs0b : (step != 0) = true := bne_iff_ne.2 hs0
  have hs1b : (step != 1) = true := bne_iff_ne.2 hs1
  have hs0c : (step == 0) = false := beq_eq_false_iff_ne.2 hs0
  have hs1c : (step == 1) = false := beq_eq_false_iff_ne.2 hs1
  have E2 := Aside0.mk (ap4 e.data.toList e.data.toList.length nw.data.toList (by rw [size_toList]; exact h2))
  go_enter Try.func3, Try.ntmps3
  go_wp2_with fail
  go_at_call 13
  refine (small6F w).mono ?_
  rintro e w1 ⟨rfl, hb⟩
  have HB1 := Aside0.mk hb
  clear hb
  go_wp2_with fail
  go_at_call 14
  refine (newP HB1.out).mono ?_
  rintro e w2 ⟨rfl, hd, _⟩
  have HD2 := Aside0.mk hd
  clear hd
  go_wp2_with fail
  go_at_call 15
  refine (appendP HD2.out (by decide) 3 e (by omega) 0 E1.out).mono ?_
  rintro e w3 ⟨rfl, hd, _⟩
  have HD3 := Aside0.mk hd
  clear hd
  go_wp2_with fail
  go_at_call 16
  refine (flushP HD3.out 3 0 (fl3 _)).mono ?_
  rintro e w4 ⟨rfl, hd, _⟩
  have HD4 := Aside0.mk hd
  clear hd
  go_wp2_with fail
  go_at_call 15
  refine (appendP HD4.out (by decide) 4 nw (by omega) 0 E2.out).mono ?_
  rintro e w5 ⟨rfl, hd, _⟩
  have HD5 := Aside0.mk hd
  clear hd
  go_wp2_with fail
  go_at_call 16
  refine (flushP HD5.out 4 0 (fl4 _ _ _)).mono ?_
  rintro e w6 ⟨rfl, hd, _⟩
  have HD6 := Aside0.mk hd
  clear hd
  go_wp2_with fail
  go_at_call 17
  refine (turnP HD6.out 3 4 0 (tu _ _ _ _ (Nat.le_refl _))).mono ?_
  rintro e w7 ⟨rfl, hd, _⟩
  have HD7 := Aside0.mk hd
  clear hd
  go_wp2_with fail
  go_at_call 18
  refine (crashP HD7.out A _ c keep rfl (KArg.ofC HK.out HD7.out) (cr nw.data.toList [] keep)).mono ?_
  rintro e w8 ⟨rfl, hd, _⟩
  have HD8 := Aside0.mk hd
  clear hd
  go_wp2_with fail
  go_at_call 19
  refine (startP HD8.out (st _ _ _ _ _)).mono ?_
  rintro e w9 ⟨rfl, hd, _⟩
  have HD9 := Aside0.mk hd
  clear hd
  go_wp2_with fail
  go_at_call 20
  refine (readP HD9.out 3 nw 0 (rd3 _ _ _ _ _)).mono ?_
  rintro e w10 ⟨rfl, hd, _⟩
  have HD10 := Aside0.mk hd
  clear hd
  go_wp2_with fail
  go_at_call 21
  refine (sizeP HD10.out 4 _ (sz4 _ _ _ _ _ _)).mono ?_
  rintro e w11 ⟨rfl, rfl⟩
  go_wp2_with fail
  go_ret
  exact ⟨rfl, HD10.out.far⟩

theorem diskTurns_calls (e nw : ByteArray) (step : Int) (A : Option Addr) (c : Nat) (keep : List Int) (w : World) (hk : Kd.C (Kd.int .i64) w A keep.length keep) : Calls Try.prog 3 #[.string e, .string nw, .int .i64 step, .slice A keep.length c] w fun e w' => e = .returned (.bool true) ∧ Below w.heap.size w w' := by
  by_cases h1 : e.size ≤ 50000
  · by_cases h2 : nw.size ≤ 50000
    · by_cases hs0 : step = 0
      · exact turns_zero e nw step A c keep w hk h1 h2 hs0
      · by_cases hs1 : step = 1
        · by_cases hn : nw.data.toList = []
          · exact turns_one_empty e nw step A c keep w hk h1 h2 hs1 hn
          · exact turns_one e nw step A c keep w hk h1 h2 hs1 hn
        · exact turns_else e nw step A c keep w hk h1 h2 hs0 hs1
    · exact turns_long2 e nw step A c keep w hk h1 h2
  · exact turns_long1 e nw step A c keep w hk h1

theorem diskTurns_row (e nw : ByteArray) (step : Int) (A : Option Addr) (c : Nat) (keep : List Int) (w : World) (_ : e.size ≤ maxLen) (_ : nw.size ≤ maxLen) (_ : (Lit.int .i64 step).wf = true) (hk : Kd.C (Kd.int .i64) w A keep.length keep) (_ : keep.all i64B = true) : Calls Try.prog 3 #[.string e, .string nw, .int .i64 step, .slice A keep.length c] w fun e w' => e = .returned (.bool true) ∧ Below w.heap.size w w' := diskTurns_calls e nw step A c keep w hk
end Go.Proofs.Ytbhlpnkccdcdiaa.Dk
