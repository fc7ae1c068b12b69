/- bournelaw06.do: one operation of the law. -/
import Derived.Test.YtbhlpnkccdcdiaaKActs
namespace Go.Proofs.Ytbhlpnkccdcdiaa.Dk
open Go.RowKit Go.Proofs.YtbhlpnkccdcdiaaW.PrintWords
set_option linter.unusedVariables false
set_option linter.unusedSimpArgs false

theorem KArg.below {w w1 : World} {b : Nat} {A : Option Addr} {l : List Int} (h : KArg w b A l) (hb : Below w.heap.size w w1) : KArg w1 b A l :=
  ⟨fun hp => by
    obtain ⟨ad, e, h1, h2⟩ := h.1 hp
    exact ⟨ad, e, Nat.lt_of_lt_of_le h1 hb.size, h2⟩, Kd.C_below h.2 hb⟩
def DoGoal (w0 w : World) (b m : Nat) (D : DS) (x : Act6) (A : Option Addr) (c : Nat) : Prop :=
  Calls Try.prog 24 #[.pointer (some ⟨b, 0, none⟩), .agg #[.int .i64 x.k, .int .i64 x.f, .int .i64 x.g, .int .i64 x.n, .string x.s, .slice A x.keep.length c]] w fun e w' =>
    e = .returned (.tuple #[.string (bs (doD D x).2.1), .int .i64 (doD D x).2.2]) ∧ Dsk w0 w' b (doD D x).1 (m + 1) ∧ Fr w w' b
section
variable {w0 w : World} {b m : Nat} {D : DS} {x : Act6} {A : Option Addr} {c : Nat}

set_option maxRecDepth 100000 in
set_option maxHeartbeats 1000000 in
theorem do0 (h : Dsk w0 w b D m) (hm : m ≤ 900000) (hs : x.s.size ≤ 140737488355328) (hn : x.n ≤ 9223372036854775807) (hl : x.keep.length ≤ 1000000) (hK : KArg w b A x.keep) (hk : x.k % 11 = 0) : DoGoal w0 w b m D x A c := by
  have hba := (Below.refl w.heap.size w).alloc (Nat.le_refl _) (.cells #[.int .i64 x.k, .int .i64 x.f, .int .i64 x.g, .int .i64 x.n, .string x.s, .slice A x.keep.length c] 40)
  have HP := Aside0.mk (pickF x.k (w.alloc (.cells #[.int .i64 x.k, .int .i64 x.f, .int .i64 x.g, .int .i64 x.n, .string x.s, .slice A x.keep.length c] 40)))
  rw [hk] at HP
  have HF := Aside0.mk (h.fr hba)
  have HD := Aside0.mk (h.below hba)
  have HA := Aside0.mk (hK.below hba)
  obtain ⟨D1, r1, e1⟩ : ∃ D1 r1, appendD D x.f x.s.data.toList = (D1, r1) := ⟨_, _, rfl⟩
  have E1 := Aside0.mk e1
  clear e1
  have HE : Aside0 (doD D x = (D1, [], r1)) := ⟨by unfold doD; simp only [hk]; rw [E1.out]; rfl⟩
  have HN := Aside0.mk hn
  have HS := Aside0.mk hs
  have HL := Aside0.mk hl
  clear h hK hba hk hn hs hl
  unfold DoGoal
  go_enter Try.func24, Try.ntmps24
  go_wp2_with fail
  go_at_call 25
  refine HP.out.mono ?_
  rintro e w1 ⟨rfl, rfl⟩
  go_wp2_with fail
  go_at_call 15
  refine (appendP HD.out (by omega) x.f x.s HS.out r1 E1.out).mono ?_
  rintro e w2 ⟨rfl, hd, hf⟩
  have HD2 := Aside0.mk hd
  have HF2 := Aside0.mk (HF.out.trans hf)
  clear hd hf
  go_wp2_with fail
  go_ret2
  refine ⟨by rw [HE.out]; rfl, ?_, HF2.out⟩
  rw [HE.out]
  exact HD2.out

set_option maxRecDepth 100000 in
set_option maxHeartbeats 1000000 in
theorem do1 (h : Dsk w0 w b D m) (hm : m ≤ 900000) (hs : x.s.size ≤ 140737488355328) (hn : x.n ≤ 9223372036854775807) (hl : x.keep.length ≤ 1000000) (hK : KArg w b A x.keep) (hk : x.k % 11 = 1) : DoGoal w0 w b m D x A c := by
  have hba := (Below.refl w.heap.size w).alloc (Nat.le_refl _) (.cells #[.int .i64 x.k, .int .i64 x.f, .int .i64 x.g, .int .i64 x.n, .string x.s, .slice A x.keep.length c] 40)
  have HP := Aside0.mk (pickF x.k (w.alloc (.cells #[.int .i64 x.k, .int .i64 x.f, .int .i64 x.g, .int .i64 x.n, .string x.s, .slice A x.keep.length c] 40)))
  rw [hk] at HP
  have HF := Aside0.mk (h.fr hba)
  have HD := Aside0.mk (h.below hba)
  have HA := Aside0.mk (hK.below hba)
  obtain ⟨D1, r1, e1⟩ : ∃ D1 r1, appendD D x.f x.s.data.toList = (D1, r1) := ⟨_, _, rfl⟩
  have E1 := Aside0.mk e1
  clear e1
  have HE : Aside0 (doD D x = (D1, [], r1)) := ⟨by unfold doD; simp only [hk]; rw [E1.out]; rfl⟩
  have HN := Aside0.mk hn
  have HS := Aside0.mk hs
  have HL := Aside0.mk hl
  clear h hK hba hk hn hs hl
  unfold DoGoal
  go_enter Try.func24, Try.ntmps24
  go_wp2_with fail
  go_at_call 25
  refine HP.out.mono ?_
  rintro e w1 ⟨rfl, rfl⟩
  go_wp2_with fail
  go_at_call 15
  refine (appendP HD.out (by omega) x.f x.s HS.out r1 E1.out).mono ?_
  rintro e w2 ⟨rfl, hd, hf⟩
  have HD2 := Aside0.mk hd
  have HF2 := Aside0.mk (HF.out.trans hf)
  clear hd hf
  go_wp2_with fail
  go_ret2
  refine ⟨by rw [HE.out]; rfl, ?_, HF2.out⟩
  rw [HE.out]
  exact HD2.out

set_option maxRecDepth 100000 in
set_option maxHeartbeats 1000000 in
theorem do2 (h : Dsk w0 w b D m) (hm : m ≤ 900000) (hs : x.s.size ≤ 140737488355328) (hn : x.n ≤ 9223372036854775807) (hl : x.keep.length ≤ 1000000) (hK : KArg w b A x.keep) (hk : x.k % 11 = 2) : DoGoal w0 w b m D x A c := by
  have hba := (Below.refl w.heap.size w).alloc (Nat.le_refl _) (.cells #[.int .i64 x.k, .int .i64 x.f, .int .i64 x.g, .int .i64 x.n, .string x.s, .slice A x.keep.length c] 40)
  have HP := Aside0.mk (pickF x.k (w.alloc (.cells #[.int .i64 x.k, .int .i64 x.f, .int .i64 x.g, .int .i64 x.n, .string x.s, .slice A x.keep.length c] 40)))
  rw [hk] at HP
  have HF := Aside0.mk (h.fr hba)
  have HD := Aside0.mk (h.below hba)
  have HA := Aside0.mk (hK.below hba)
  obtain ⟨D1, r1, e1⟩ : ∃ D1 r1, flushD D x.f = (D1, r1) := ⟨_, _, rfl⟩
  have E1 := Aside0.mk e1
  clear e1
  have HE : Aside0 (doD D x = (D1, [], r1)) := ⟨by unfold doD; simp only [hk]; rw [E1.out]; rfl⟩
  have HN := Aside0.mk hn
  have HS := Aside0.mk hs
  have HL := Aside0.mk hl
  clear h hK hba hk hn hs hl
  unfold DoGoal
  go_enter Try.func24, Try.ntmps24
  go_wp2_with fail
  go_at_call 25
  refine HP.out.mono ?_
  rintro e w1 ⟨rfl, rfl⟩
  go_wp2_with fail
  go_at_call 16
  refine (flushP HD.out x.f r1 E1.out).mono ?_
  rintro e w2 ⟨rfl, hd, hf⟩
  have HD2 := Aside0.mk (hd.mono (n := m + 1) (by omega))
  have HF2 := Aside0.mk (HF.out.trans hf)
  clear hd hf
  go_wp2_with fail
  go_ret2
  refine ⟨by rw [HE.out]; rfl, ?_, HF2.out⟩
  rw [HE.out]
  exact HD2.out

set_option maxRecDepth 100000 in
set_option maxHeartbeats 1000000 in
theorem do3 (h : Dsk w0 w b D m) (hm : m ≤ 900000) (hs : x.s.size ≤ 140737488355328) (hn : x.n ≤ 9223372036854775807) (hl : x.keep.length ≤ 1000000) (hK : KArg w b A x.keep) (hk : x.k % 11 = 3) : DoGoal w0 w b m D x A c := by
  have hba := (Below.refl w.heap.size w).alloc (Nat.le_refl _) (.cells #[.int .i64 x.k, .int .i64 x.f, .int .i64 x.g, .int .i64 x.n, .string x.s, .slice A x.keep.length c] 40)
  have HP := Aside0.mk (pickF x.k (w.alloc (.cells #[.int .i64 x.k, .int .i64 x.f, .int .i64 x.g, .int .i64 x.n, .string x.s, .slice A x.keep.length c] 40)))
  rw [hk] at HP
  have HF := Aside0.mk (h.fr hba)
  have HD := Aside0.mk (h.below hba)
  have HA := Aside0.mk (hK.below hba)
  obtain ⟨D1, r1, e1⟩ : ∃ D1 r1, cutD D x.f x.n = (D1, r1) := ⟨_, _, rfl⟩
  have E1 := Aside0.mk e1
  clear e1
  have HE : Aside0 (doD D x = (D1, [], r1)) := ⟨by unfold doD; simp only [hk]; rw [E1.out]; rfl⟩
  have HN := Aside0.mk hn
  have HS := Aside0.mk hs
  have HL := Aside0.mk hl
  clear h hK hba hk hn hs hl
  unfold DoGoal
  go_enter Try.func24, Try.ntmps24
  go_wp2_with fail
  go_at_call 25
  refine HP.out.mono ?_
  rintro e w1 ⟨rfl, rfl⟩
  go_wp2_with fail
  go_at_call 53
  refine (cutP_ HD.out x.f x.n r1 E1.out).mono ?_
  rintro e w2 ⟨rfl, hd, hf⟩
  have HD2 := Aside0.mk (hd.mono (n := m + 1) (by omega))
  have HF2 := Aside0.mk (HF.out.trans hf)
  clear hd hf
  go_wp2_with fail
  go_ret2
  refine ⟨by rw [HE.out]; rfl, ?_, HF2.out⟩
  rw [HE.out]
  exact HD2.out

set_option maxRecDepth 100000 in
set_option maxHeartbeats 1000000 in
theorem do4 (h : Dsk w0 w b D m) (hm : m ≤ 900000) (hs : x.s.size ≤ 140737488355328) (hn : x.n ≤ 9223372036854775807) (hl : x.keep.length ≤ 1000000) (hK : KArg w b A x.keep) (hk : x.k % 11 = 4) : DoGoal w0 w b m D x A c := by
  have hba := (Below.refl w.heap.size w).alloc (Nat.le_refl _) (.cells #[.int .i64 x.k, .int .i64 x.f, .int .i64 x.g, .int .i64 x.n, .string x.s, .slice A x.keep.length c] 40)
  have HP := Aside0.mk (pickF x.k (w.alloc (.cells #[.int .i64 x.k, .int .i64 x.f, .int .i64 x.g, .int .i64 x.n, .string x.s, .slice A x.keep.length c] 40)))
  rw [hk] at HP
  have HF := Aside0.mk (h.fr hba)
  have HD := Aside0.mk (h.below hba)
  have HA := Aside0.mk (hK.below hba)
  obtain ⟨D1, r1, e1⟩ : ∃ D1 r1, turnD D x.f x.g = (D1, r1) := ⟨_, _, rfl⟩
  have E1 := Aside0.mk e1
  clear e1
  have HE : Aside0 (doD D x = (D1, [], r1)) := ⟨by unfold doD; simp only [hk]; rw [E1.out]; rfl⟩
  have HN := Aside0.mk hn
  have HS := Aside0.mk hs
  have HL := Aside0.mk hl
  clear h hK hba hk hn hs hl
  unfold DoGoal
  go_enter Try.func24, Try.ntmps24
  go_wp2_with fail
  go_at_call 25
  refine HP.out.mono ?_
  rintro e w1 ⟨rfl, rfl⟩
  go_wp2_with fail
  go_at_call 17
  refine (turnP HD.out x.f x.g r1 E1.out).mono ?_
  rintro e w2 ⟨rfl, hd, hf⟩
  have HD2 := Aside0.mk (hd.mono (n := m + 1) (by omega))
  have HF2 := Aside0.mk (HF.out.trans hf)
  clear hd hf
  go_wp2_with fail
  go_ret2
  refine ⟨by rw [HE.out]; rfl, ?_, HF2.out⟩
  rw [HE.out]
  exact HD2.out

set_option maxRecDepth 100000 in
set_option maxHeartbeats 1000000 in
theorem do5 (h : Dsk w0 w b D m) (hm : m ≤ 900000) (hs : x.s.size ≤ 140737488355328) (hn : x.n ≤ 9223372036854775807) (hl : x.keep.length ≤ 1000000) (hK : KArg w b A x.keep) (hk : x.k % 11 = 5) : DoGoal w0 w b m D x A c := by
  have hba := (Below.refl w.heap.size w).alloc (Nat.le_refl _) (.cells #[.int .i64 x.k, .int .i64 x.f, .int .i64 x.g, .int .i64 x.n, .string x.s, .slice A x.keep.length c] 40)
  have HP := Aside0.mk (pickF x.k (w.alloc (.cells #[.int .i64 x.k, .int .i64 x.f, .int .i64 x.g, .int .i64 x.n, .string x.s, .slice A x.keep.length c] 40)))
  rw [hk] at HP
  have HF := Aside0.mk (h.fr hba)
  have HD := Aside0.mk (h.below hba)
  have HA := Aside0.mk (hK.below hba)
  have HE : Aside0 (doD D x = (crashD D x.keep, [], 0)) := ⟨by unfold doD; simp only [hk]; rfl⟩
  have HN := Aside0.mk hn
  have HS := Aside0.mk hs
  have HL := Aside0.mk hl
  clear h hK hba hk hn hs hl
  unfold DoGoal
  go_enter Try.func24, Try.ntmps24
  go_wp2_with fail
  go_at_call 25
  refine HP.out.mono ?_
  rintro e w1 ⟨rfl, rfl⟩
  go_wp2_with fail
  go_at_call 18
  refine (crashP HD.out A _ c x.keep rfl HA.out rfl).mono ?_
  rintro e w2 ⟨rfl, hd, hf⟩
  have HD2 := Aside0.mk (hd.mono (n := m + 1) (by omega))
  have HF2 := Aside0.mk (HF.out.trans hf)
  clear hd hf
  go_wp2_with fail
  go_ret2
  refine ⟨by rw [HE.out]; rfl, ?_, HF2.out⟩
  rw [HE.out]
  exact HD2.out

set_option maxRecDepth 100000 in
set_option maxHeartbeats 1000000 in
theorem do6 (h : Dsk w0 w b D m) (hm : m ≤ 900000) (hs : x.s.size ≤ 140737488355328) (hn : x.n ≤ 9223372036854775807) (hl : x.keep.length ≤ 1000000) (hK : KArg w b A x.keep) (hk : x.k % 11 = 6) : DoGoal w0 w b m D x A c := by
  have hba := (Below.refl w.heap.size w).alloc (Nat.le_refl _) (.cells #[.int .i64 x.k, .int .i64 x.f, .int .i64 x.g, .int .i64 x.n, .string x.s, .slice A x.keep.length c] 40)
  have HP := Aside0.mk (pickF x.k (w.alloc (.cells #[.int .i64 x.k, .int .i64 x.f, .int .i64 x.g, .int .i64 x.n, .string x.s, .slice A x.keep.length c] 40)))
  rw [hk] at HP
  have HF := Aside0.mk (h.fr hba)
  have HD := Aside0.mk (h.below hba)
  have HA := Aside0.mk (hK.below hba)
  have HE : Aside0 (doD D x = ({ D with lost := x.n.toNat }, [], 0)) := ⟨by unfold doD; simp only [hk]; rfl⟩
  have HN := Aside0.mk hn
  have HS := Aside0.mk hs
  have HL := Aside0.mk hl
  clear h hK hba hk hn hs hl
  unfold DoGoal
  go_enter Try.func24, Try.ntmps24
  go_wp2_with fail
  go_at_call 25
  refine HP.out.mono ?_
  rintro e w1 ⟨rfl, rfl⟩
  go_wp2_with fail
  go_at_call 52
  refine (loseP HD.out x.n HN.out rfl).mono ?_
  rintro e w2 ⟨rfl, hd, hf⟩
  have HD2 := Aside0.mk (hd.mono (n := m + 1) (by omega))
  have HF2 := Aside0.mk (HF.out.trans hf)
  clear hd hf
  go_wp2_with fail
  go_ret2
  refine ⟨by rw [HE.out]; rfl, ?_, HF2.out⟩
  rw [HE.out]
  exact HD2.out

set_option maxRecDepth 100000 in
set_option maxHeartbeats 1000000 in
theorem do7 (h : Dsk w0 w b D m) (hm : m ≤ 900000) (hs : x.s.size ≤ 140737488355328) (hn : x.n ≤ 9223372036854775807) (hl : x.keep.length ≤ 1000000) (hK : KArg w b A x.keep) (hk : x.k % 11 = 7) : DoGoal w0 w b m D x A c := by
  have hba := (Below.refl w.heap.size w).alloc (Nat.le_refl _) (.cells #[.int .i64 x.k, .int .i64 x.f, .int .i64 x.g, .int .i64 x.n, .string x.s, .slice A x.keep.length c] 40)
  have HP := Aside0.mk (pickF x.k (w.alloc (.cells #[.int .i64 x.k, .int .i64 x.f, .int .i64 x.g, .int .i64 x.n, .string x.s, .slice A x.keep.length c] 40)))
  rw [hk] at HP
  have HF := Aside0.mk (h.fr hba)
  have HD := Aside0.mk (h.below hba)
  have HA := Aside0.mk (hK.below hba)
  have HE : Aside0 (doD D x = ({ D with down := false }, [], 0)) := ⟨by unfold doD; simp only [hk]; rfl⟩
  have HN := Aside0.mk hn
  have HS := Aside0.mk hs
  have HL := Aside0.mk hl
  clear h hK hba hk hn hs hl
  unfold DoGoal
  go_enter Try.func24, Try.ntmps24
  go_wp2_with fail
  go_at_call 25
  refine HP.out.mono ?_
  rintro e w1 ⟨rfl, rfl⟩
  go_wp2_with fail
  go_at_call 19
  refine (startP HD.out rfl).mono ?_
  rintro e w2 ⟨rfl, hd, hf⟩
  have HD2 := Aside0.mk (hd.mono (n := m + 1) (by omega))
  have HF2 := Aside0.mk (HF.out.trans hf)
  clear hd hf
  go_wp2_with fail
  go_ret2
  refine ⟨by rw [HE.out]; rfl, ?_, HF2.out⟩
  rw [HE.out]
  exact HD2.out

set_option maxRecDepth 100000 in
set_option maxHeartbeats 1000000 in
theorem do8 (h : Dsk w0 w b D m) (hm : m ≤ 900000) (hs : x.s.size ≤ 140737488355328) (hn : x.n ≤ 9223372036854775807) (hl : x.keep.length ≤ 1000000) (hK : KArg w b A x.keep) (hk : x.k % 11 = 8) : DoGoal w0 w b m D x A c := by
  have hba := (Below.refl w.heap.size w).alloc (Nat.le_refl _) (.cells #[.int .i64 x.k, .int .i64 x.f, .int .i64 x.g, .int .i64 x.n, .string x.s, .slice A x.keep.length c] 40)
  have HP := Aside0.mk (pickF x.k (w.alloc (.cells #[.int .i64 x.k, .int .i64 x.f, .int .i64 x.g, .int .i64 x.n, .string x.s, .slice A x.keep.length c] 40)))
  rw [hk] at HP
  have HF := Aside0.mk (h.fr hba)
  have HD := Aside0.mk (h.below hba)
  have HA := Aside0.mk (hK.below hba)
  obtain ⟨l1, r1, e1⟩ : ∃ l1 r1, readD D x.f = (l1, r1) := ⟨_, _, rfl⟩
  have E1 := Aside0.mk e1
  clear e1
  have HE : Aside0 (doD D x = (D, l1, r1)) := ⟨by unfold doD; simp only [hk]; rw [E1.out]; rfl⟩
  have HN := Aside0.mk hn
  have HS := Aside0.mk hs
  have HL := Aside0.mk hl
  clear h hK hba hk hn hs hl
  unfold DoGoal
  go_enter Try.func24, Try.ntmps24
  go_wp2_with fail
  go_at_call 25
  refine HP.out.mono ?_
  rintro e w1 ⟨rfl, rfl⟩
  go_wp2_with fail
  go_at_call 20
  refine (readP HD.out x.f (bs l1) r1 (by rw [bs_toList]; exact E1.out)).mono ?_
  rintro e w2 ⟨rfl, hd, hf⟩
  have HD2 := Aside0.mk (hd.mono (n := m + 1) (by omega))
  have HF2 := Aside0.mk (HF.out.trans (HD.out.fr hf))
  clear hd hf
  go_wp2_with fail
  go_ret2
  refine ⟨by rw [HE.out]; rfl, ?_, HF2.out⟩
  rw [HE.out]
  exact HD2.out

set_option maxRecDepth 100000 in
set_option maxHeartbeats 1000000 in
theorem do9 (h : Dsk w0 w b D m) (hm : m ≤ 900000) (hs : x.s.size ≤ 140737488355328) (hn : x.n ≤ 9223372036854775807) (hl : x.keep.length ≤ 1000000) (hK : KArg w b A x.keep) (hk : x.k % 11 = 9) : DoGoal w0 w b m D x A c := by
  have hba := (Below.refl w.heap.size w).alloc (Nat.le_refl _) (.cells #[.int .i64 x.k, .int .i64 x.f, .int .i64 x.g, .int .i64 x.n, .string x.s, .slice A x.keep.length c] 40)
  have HP := Aside0.mk (pickF x.k (w.alloc (.cells #[.int .i64 x.k, .int .i64 x.f, .int .i64 x.g, .int .i64 x.n, .string x.s, .slice A x.keep.length c] 40)))
  rw [hk] at HP
  have HF := Aside0.mk (h.fr hba)
  have HD := Aside0.mk (h.below hba)
  have HA := Aside0.mk (hK.below hba)
  have HE : Aside0 (doD D x = (D, [], 0)) := ⟨by unfold doD; simp only [hk]; rfl⟩
  have HN := Aside0.mk hn
  have HS := Aside0.mk hs
  have HL := Aside0.mk hl
  clear h hK hba hk hn hs hl
  unfold DoGoal
  go_enter Try.func24, Try.ntmps24
  go_wp2_with fail
  go_at_call 25
  refine HP.out.mono ?_
  rintro e w1 ⟨rfl, rfl⟩
  go_wp2_with fail
  have HD2 := Aside0.mk (HD.out.mono (n := m + 1) (by omega))
  have HF2 := HF
  go_ret2
  refine ⟨by rw [HE.out]; rfl, ?_, HF2.out⟩
  rw [HE.out]
  exact HD2.out

set_option maxRecDepth 100000 in
set_option maxHeartbeats 1000000 in
theorem do10 (h : Dsk w0 w b D m) (hm : m ≤ 900000) (hs : x.s.size ≤ 140737488355328) (hn : x.n ≤ 9223372036854775807) (hl : x.keep.length ≤ 1000000) (hK : KArg w b A x.keep) (hk : x.k % 11 = 10) : DoGoal w0 w b m D x A c := by
  have hba := (Below.refl w.heap.size w).alloc (Nat.le_refl _) (.cells #[.int .i64 x.k, .int .i64 x.f, .int .i64 x.g, .int .i64 x.n, .string x.s, .slice A x.keep.length c] 40)
  have HP := Aside0.mk (pickF x.k (w.alloc (.cells #[.int .i64 x.k, .int .i64 x.f, .int .i64 x.g, .int .i64 x.n, .string x.s, .slice A x.keep.length c] 40)))
  rw [hk] at HP
  have HF := Aside0.mk (h.fr hba)
  have HD := Aside0.mk (h.below hba)
  have HA := Aside0.mk (hK.below hba)
  have HE : Aside0 (doD D x = (armD D x.n x.keep, [], 0)) := ⟨by unfold doD; simp only [hk]; rfl⟩
  have HN := Aside0.mk hn
  have HS := Aside0.mk hs
  have HL := Aside0.mk hl
  clear h hK hba hk hn hs hl
  unfold DoGoal
  go_enter Try.func24, Try.ntmps24
  go_wp2_with fail
  go_at_call 25
  refine HP.out.mono ?_
  rintro e w1 ⟨rfl, rfl⟩
  go_wp2_with fail
  go_at_call 27
  refine (armP HD.out x.n HN.out HA.out.2 HL.out _ c rfl rfl).mono ?_
  rintro e w2 ⟨rfl, hd, hf⟩
  have HD2 := Aside0.mk (hd.mono (n := m + 1) (by omega))
  have HF2 := Aside0.mk (HF.out.trans hf)
  clear hd hf
  go_wp2_with fail
  go_ret2
  refine ⟨by rw [HE.out]; rfl, ?_, HF2.out⟩
  rw [HE.out]
  exact HD2.out
end
theorem doP {w0 w : World} {b m : Nat} {D : DS} {x : Act6} {A : Option Addr} {c : Nat} (h : Dsk w0 w b D m) (hm : m ≤ 900000) (hs : x.s.size ≤ 140737488355328) (hn : x.n ≤ 9223372036854775807) (hl : x.keep.length ≤ 1000000) (hK : KArg w b A x.keep) : DoGoal w0 w b m D x A c := by
  have : x.k % 11 = 0 ∨ x.k % 11 = 1 ∨ x.k % 11 = 2 ∨ x.k % 11 = 3 ∨ x.k % 11 = 4 ∨ x.k % 11 = 5 ∨ x.k % 11 = 6 ∨ x.k % 11 = 7 ∨ x.k % 11 = 8 ∨ x.k % 11 = 9 ∨ x.k % 11 = 10 := by omega
  rcases this with hk | hk | hk | hk | hk | hk | hk | hk | hk | hk | hk
  · exact do0 h hm hs hn hl hK hk
  · exact do1 h hm hs hn hl hK hk
  · exact do2 h hm hs hn hl hK hk
  · exact do3 h hm hs hn hl hK hk
  · exact do4 h hm hs hn hl hK hk
  · exact do5 h hm hs hn hl hK hk
  · exact do6 h hm hs hn hl hK hk
  · exact do7 h hm hs hn hl hK hk
  · exact do8 h hm hs hn hl hK hk
  · exact do9 h hm hs hn hl hK hk
  · exact do10 h hm hs hn hl hK hk
end Go.Proofs.Ytbhlpnkccdcdiaa.Dk
