/- slices.SortStableFunc at entries: a row is sorted stably by a key. -/
import Derived.Test.YtlmjopodghikgaaHSymC
namespace Go.Proofs.Ytlmjopodghikgaa.Print
open Go.RowKit Go.Proofs.YtlmjopodghikgaaW.PrintWords Go.Proofs.Ytlmjopodghikgaa.Stable
set_option linter.unusedVariables false
set_option linter.unusedSimpArgs false

theorem symAll (key : S36 → Int) (gc : Nat) (eg : ∀ args w, (callFunc gc args).run Try.prog w = .ok (.enter gc args) w) (hcmp : CmpB gc key) : ∀ N, SymSaid key gc N
  | 0 => by
    intro w g cap B hg hB X u v Y hu hv hN
    exact absurd (List.length_eq_zero_iff.1 (by omega)) hu
  | N + 1 => by
    have IH := symAll key gc eg hcmp N
    intro w g cap B hg hB X u v Y hu hv hN su sv hr a m b len ha hm hb hl hsm
    have hup := List.length_pos_iff.2 hu
    have hvp := List.length_pos_iff.2 hv
    by_cases h1 : u.length = 1
    · obtain ⟨x, rfl⟩ := List.length_eq_one_iff.1 h1
      have e : X ++ [x] ++ v ++ Y = X ++ x :: (v ++ Y) := by simp
      rw [e] at hr hl
      exact symOne key gc eg hcmp w g cap B hg hB X v Y x sv hr a m b len ha (by simpa using hm) (by simpa using hb) hl hsm
    · by_cases h2 : v.length = 1
      · obtain ⟨x, rfl⟩ := List.length_eq_one_iff.1 h2
        have e : X ++ u ++ [x] ++ Y = X ++ u ++ x :: Y := by simp
        rw [e] at hr hl
        exact symTwo key gc eg hcmp w g cap B hg hB X u Y x su hr (by omega) a m b len ha hm (by simp at hb; omega) hl hsm
      · exact symGen key gc eg hcmp N IH w g cap B hg hB X u v Y (by omega) (by omega) hN su sv hr a m b len ha hm hb hl hsm

/-- A list of sorted blocks of s entries each, the last of which may be shorter. -/
inductive Blk (key : S36 → Int) (s : Nat) : List S36 → Prop
  | last (l : List S36) (h : l.length ≤ s) (hs : Srt key l) : Blk key s l
  | cons (u l : List S36) (h : u.length = s) (hs : Srt key u) (hl : Blk key s l) : Blk key s (u ++ l)
/-- Whole blocks alone. -/
inductive BlkF (key : S36 → Int) (s : Nat) : List S36 → Prop
  | nil : BlkF key s []
  | snoc (P u : List S36) (hP : BlkF key s P) (h : u.length = s) (hs : Srt key u) : BlkF key s (P ++ u)
theorem BlkF.close {key : S36 → Int} {s : Nat} {P : List S36} (h : BlkF key s P) : ∀ {Q : List S36}, Blk key s Q → Blk key s (P ++ Q) := by
  induction h with
  | nil => intro Q hQ; simpa using hQ
  | snoc P u hP h hs ih =>
    intro Q hQ
    rw [List.append_assoc]
    exact ih (.cons u Q h hs hQ)
theorem Blk.two {key : S36 → Int} {s : Nat} {Q : List S36} (h : Blk key s Q) (hs : 0 < s) (hl : 2 * s ≤ Q.length) : ∃ u v R, Q = u ++ v ++ R ∧ u.length = s ∧ v.length = s ∧ Srt key u ∧ Srt key v ∧ Blk key s R := by
  cases h with
  | last _ h _ => omega
  | cons u l h hu hl2 =>
    simp at hl
    cases hl2 with
    | last _ h2 hv => exact ⟨u, l, [], by simp, h, by omega, hu, hv, .last [] (by simp) List.Pairwise.nil⟩
    | cons v R h2 hv hR => exact ⟨u, v, R, by simp, h, h2, hu, hv, hR⟩
theorem Blk.one {key : S36 → Int} {s : Nat} {Q : List S36} (h : Blk key s Q) (h1 : s < Q.length) (h2 : Q.length < 2 * s) : ∃ u v, Q = u ++ v ∧ u.length = s ∧ v ≠ [] ∧ Srt key u ∧ Srt key v := by
  cases h with
  | last _ h _ => omega
  | cons u l h hu hl2 =>
    simp at h1 h2
    have hne : l ≠ [] := fun e => by subst e; simp at h1; omega
    cases hl2 with
    | last _ h3 hv => exact ⟨u, l, rfl, h, hne, hu, hv⟩
    | cons v R h3 hv hR => simp at h2; omega
theorem Blk.none {key : S36 → Int} {s : Nat} {Q : List S36} (h : Blk key s Q) (h1 : Q.length ≤ s) : Srt key Q := by
  cases h with
  | last _ _ hs => exact hs
  | cons u l h hu hl2 =>
    simp at h1
    have : l = [] := List.length_eq_zero_iff.1 (by omega)
    subst this
    simpa using hu

set_option maxHeartbeats 8000000 in
set_option maxRecDepth 100000 in
theorem stableF (key : S36 → Int) (gc : Nat) (eg : ∀ args w, (callFunc gc args).run Try.prog w = .ok (.enter gc args) w) (hcmp : CmpB gc key) (w : World) (g cap B : Nat) (hg : B ≤ g) (hB : B ≤ w.heap.size) (l : List S36) (hr : RowE w g cap l) (len : Nat) (hl : len = l.length) (hsm : len ≤ 35184372088832) :
    Calls Try.prog 43 #[.slice (some ⟨g, 0, none⟩) len cap, .int .i64 len, .func (.func gc) #[] #[]] w fun e w' => e = .returned (.tuple #[]) ∧ (∃ s, StableOf key l s ∧ RowE w' g cap s) ∧ Below B w w' := by
  have HR := Aside0.mk hr
  have HL := Aside0.mk hl
  have HI := Aside0.mk (fun w hB => insertionF key gc eg hcmp w g cap B hg hB)
  have HS := Aside0.mk (fun w hB X u v Y hu hv su sv hr a m b len ha hm hb hl hsm => symAll key gc eg hcmp (u.length + v.length) w g cap B hg hB X u v Y hu hv (Nat.le_refl _) su sv hr a m b len ha hm hb hl hsm)
  clear hr hl hcmp
  go_enter Try.func43, Try.ntmps43
  go_wp2_with fail
  go_loopg [7, 8] len (fun kq v7 v8 wr => ∃ (a : Nat) (P Q : List S36), v7 = .int .i64 a ∧ v8 = .int .i64 ((a : Int) + 20) ∧ a ≤ len ∧ Aside0 (a = P.length ∧ len = P.length + Q.length ∧ len - a ≤ kq) ∧ Aside0 (BlkF key 20 P) ∧ Aside0 (Same key l (P ++ Q)) ∧ Aside0 (RowE wr g cap (P ++ Q)) ∧ Aside0 (Below B w wr))
  case atStart => exact ⟨0, [], l, rfl, rfl, by omega, ⟨rfl, by simpa using HL.out, by omega⟩, ⟨.nil⟩, ⟨Same.refl _⟩, HR, ⟨Below.refl _ _⟩⟩
  case round =>
    obtain ⟨a, P, Q, rfl, rfl, ha, HK, HP, HSm, HRow, HW⟩ := hrel
    by_cases c2 : a + 20 ≤ len
    · have c2' : (a : Int) + 20 ≤ (len : Int) := by omega
      have hq : (Q.take 20).length = 20 := by rw [List.length_take]; have := HK.out; omega
      have HC := Aside0.mk (HI.out wr (Nat.le_trans hB HW.out.size) P (Q.take 20) (Q.drop 20) (by rw [List.append_assoc, List.take_append_drop]; exact HRow.out) a (a + 20) len HK.out.1 (by rw [hq]; have := HK.out; omega) (by rw [List.append_assoc, List.take_append_drop, List.length_append]; exact HK.out.2.1) (by omega))
      have HQ := Aside0.mk hq
      clear hq
      go_wp2_with fail
      go_at_call 46
      have e20 : ((a : Int) + 20) = ((a + 20 : Nat) : Int) := by omega
      rw [e20]
      refine HC.out.mono ?_
      rintro e w1 ⟨rfl, ⟨s', hs', hrow'⟩, hb'⟩
      have HS' := Aside0.mk hs'
      have HR' := Aside0.mk hrow'
      have HW' := Aside0.mk (HW.out.trans hb')
      clear hs' hrow' hb' e20
      go_wp2_with fail
      go_roundg (gk - 20)
      case measure => have := HK.out; omega
      case rel =>
        have hl' := HS'.out.same.length
        have hq := HQ.out
        refine ⟨a + 20, P ++ s', Q.drop 20, by go_num, by first | rfl | (congr 1; omega), by omega, ⟨by have := HK.out; simp; omega, by have := HK.out; simp; omega, by have := HK.out; omega⟩, ⟨.snoc P s' HP.out (by omega) HS'.out.srt⟩, ⟨?_⟩, HR', HW'⟩
        refine HSm.out.trans ?_
        have := ((Same.refl (key := key) P).append HS'.out.same).append (Same.refl (Q.drop 20))
        rwa [List.append_assoc, List.take_append_drop] at this
    · have c2' : ¬ (a : Int) + 20 ≤ (len : Int) := by omega
      have HC := Aside0.mk (HI.out wr (Nat.le_trans hB HW.out.size) P Q [] (by simpa using HRow.out) a len len HK.out.1 HK.out.2.1 (by simpa using HK.out.2.1) (by omega))
      go_wp2_with fail
      go_at_call 46
      refine HC.out.mono ?_
      rintro e w1 ⟨rfl, ⟨s', hs', hrow'⟩, hb'⟩
      have HSc : Aside0 (Blk key 20 (P ++ s') ∧ Same key l (P ++ s') ∧ (P ++ s').length = len) := ⟨by
        have hl' := hs'.same.length
        refine ⟨HP.out.close (.last s' (by have := HK.out; omega) hs'.srt), HSm.out.trans ((Same.refl P).append hs'.same), by have := HK.out; simp; omega⟩⟩
      have HR' : Aside0 (RowE w1 g cap (P ++ s')) := ⟨by simpa using hrow'⟩
      have HW' := Aside0.mk (HW.out.trans hb')
      clear hs' hrow' hb' HC HP HSm HRow HW HK c2 c2'
      generalize P ++ s' = c at HSc HR'
      go_wp2_with fail
      go_loopg [6, 7, 8, 9] len (fun kr v6 _ _ _ wq => ∃ (s : Nat) (c : List S36), v6 = .int .i64 s ∧ 20 ≤ s ∧ s ≤ 2 * len + 20 ∧ Aside0 (len - s ≤ kr) ∧ Aside0 (Blk key s c ∧ Same key l c ∧ c.length = len) ∧ Aside0 (RowE wq g cap c) ∧ Aside0 (Below B w wq))
      case atStart => exact ⟨20, c, rfl, by omega, by omega, ⟨by omega⟩, HSc, HR', HW'⟩
      case round =>
        obtain ⟨s, c, rfl, s1, s2, HK, HBk, HRow, HW⟩ := hrel
        obtain ⟨ko, rfl⟩ : ∃ ko, ko = gk := ⟨_, rfl⟩
        by_cases c3 : s < len
        · go_wp2_with fail
          go_loopg [7, 8] len (fun kr v7 v8 wq => ∃ (a : Nat) (P Q : List S36), v7 = .int .i64 a ∧ v8 = .int .i64 ((a : Int) + 2 * (s : Int)) ∧ a ≤ len ∧ Aside0 (a = P.length ∧ len = P.length + Q.length ∧ len - a ≤ kr) ∧ Aside0 (BlkF key (2 * s) P ∧ Blk key s Q) ∧ Aside0 (Same key l (P ++ Q)) ∧ Aside0 (RowE wq g cap (P ++ Q)) ∧ Aside0 (Below B w wq))
          case atStart => exact ⟨0, [], c, rfl, by first | rfl | (congr 1; omega), by omega, ⟨rfl, by have := HBk.out.2.2; simp; omega, by omega⟩, ⟨.nil, HBk.out.1⟩, ⟨HBk.out.2.1⟩, HRow, HW⟩
          case round =>
            obtain ⟨a, P, Q, rfl, rfl, ha, HK2, HP, HSm, HRow, HW⟩ := hrel
            by_cases c4 : a + 2 * s ≤ len
            · have c4' : (a : Int) + 2 * (s : Int) ≤ (len : Int) := by omega
              obtain ⟨u, v, R, hQ, hul, hvl, hus, hvs, hRb⟩ := HP.out.2.two (by omega) (by have := HK2.out; omega)
              subst hQ
              have HUV := Aside0.mk (show u.length = s ∧ v.length = s ∧ Blk key s R from ⟨hul, hvl, hRb⟩)
              have HC := Aside0.mk (HS.out wr (Nat.le_trans hB HW.out.size) P u v R (fun e => by rw [e] at hul; simp at hul; omega) (fun e => by rw [e] at hvl; simp at hvl; omega) hus hvs (by have := HRow.out; simpa [List.append_assoc] using this) a (a + s) (a + 2 * s) len HK2.out.1 (by have := HK2.out; omega) (by have := HK2.out; omega) (by have := HK2.out; simp at this ⊢; omega) (by omega))
              clear hul hvl hus hvs hRb
              go_wp2_with fail
              go_at_call 47
              have e1 : ((a : Int) + (s : Int)) = ((a + s : Nat) : Int) := by omega
              have e2 : ((a : Int) + 2 * (s : Int)) = ((a + 2 * s : Nat) : Int) := by omega
              rw [e1, e2]
              refine HC.out.mono ?_
              rintro e w1 ⟨rfl, ⟨s', hs', hrow'⟩, hb'⟩
              have HS' := Aside0.mk hs'
              have HR' := Aside0.mk hrow'
              have HW' := Aside0.mk (HW.out.trans hb')
              clear hs' hrow' hb' e1 e2
              go_wp2_with fail
              go_roundg (gk - 1)
              case measure => have := HK2.out; omega
              case rel =>
                have hl' := HS'.out.same.length
                have huv := HUV.out
                simp at hl'
                refine ⟨a + 2 * s, P ++ s', R, by first | rfl | go_num, by first | rfl | (congr 1; omega), by omega, ⟨by have := HK2.out; simp; omega, by have := HK2.out; simp at this ⊢; omega, by have := HK2.out; omega⟩, ⟨.snoc P s' HP.out.1 (by omega) HS'.out.srt, huv.2.2⟩, ⟨?_⟩, HR', HW'⟩
                refine HSm.out.trans ?_
                have := ((Same.refl (key := key) P).append HS'.out.same).append (Same.refl R)
                simpa [List.append_assoc] using this
            · have c4' : ¬ (a : Int) + 2 * (s : Int) ≤ (len : Int) := by omega
              by_cases c5 : a + s < len
              · have c5' : (a : Int) + (s : Int) < (len : Int) := by omega
                obtain ⟨u, v, hQ, hul, hvn, hus, hvs⟩ := HP.out.2.one (by have := HK2.out; omega) (by have := HK2.out; omega)
                subst hQ
                have HUV := Aside0.mk hul
                have HC := Aside0.mk (HS.out wr (Nat.le_trans hB HW.out.size) P u v [] (fun e => by rw [e] at hul; simp at hul; omega) hvn hus hvs (by have := HRow.out; simpa [List.append_assoc] using this) a (a + s) len len HK2.out.1 (by have := HK2.out; omega) (by have := HK2.out; simp at this; omega) (by have := HK2.out; simp at this ⊢; omega) (by omega))
                clear hul hvn hus hvs
                go_wp2_with fail
                go_at_call 47
                have e1 : ((a : Int) + (s : Int)) = ((a + s : Nat) : Int) := by omega
                rw [e1]
                refine HC.out.mono ?_
                rintro e w1 ⟨rfl, ⟨s', hs', hrow'⟩, hb'⟩
                have HS' := Aside0.mk hs'
                have HR' := Aside0.mk hrow'
                have HW' := Aside0.mk (HW.out.trans hb')
                clear hs' hrow' hb' e1
                go_wp2_with fail
                go_roundg (ko - 1)
                case measure => have := HK.out; omega
                case rel =>
                  have hl' := HS'.out.same.length
                  simp at hl'
                  have hk2 := HK2.out
                  simp at hk2
                  refine ⟨2 * s, P ++ s', by first | rfl | go_num | (congr 1; omega), by omega, by omega, ⟨by have := HK.out; omega⟩, ⟨HP.out.1.close (.last s' (by omega) HS'.out.srt), ?_, by simp; omega⟩, ⟨by have := HR'.out; simpa using this⟩, HW'⟩
                  exact HSm.out.trans ((Same.refl (key := key) P).append HS'.out.same)
              · have c5' : ¬ (a : Int) + (s : Int) < (len : Int) := by omega
                go_wp2_with fail
                go_roundg (ko - 1)
                case measure => have := HK.out; omega
                case rel =>
                  have hk2 := HK2.out
                  exact ⟨2 * s, P ++ Q, by first | rfl | go_num | (congr 1; omega), by omega, by omega, ⟨by have := HK.out; omega⟩, ⟨HP.out.1.close (.last Q (by omega) (HP.out.2.none (by omega))), HSm.out, by simp; omega⟩, HRow, HW⟩
        · go_wp2_with fail
          go_end0
          have h := HBk.out
          exact ⟨rfl, ⟨c, ⟨h.1.none (by omega), h.2.1⟩, HRow.out⟩, HW.out⟩

theorem sortStableF (key : S36 → Int) (gc : Nat) (eg : ∀ args w, (callFunc gc args).run Try.prog w = .ok (.enter gc args) w) (hcmp : CmpB gc key) (w : World) (g cap B : Nat) (hg : B ≤ g) (hB : B ≤ w.heap.size) (l : List S36) (hr : RowE w g cap l) (hsm : l.length ≤ 35184372088832) :
    Calls Try.prog 35 #[.slice (some ⟨g, 0, none⟩) l.length cap, .func (.func gc) #[] #[]] w fun e w' => e = .returned (.tuple #[]) ∧ RowE w' g cap (ssort key l) ∧ Below B w w' := by
  have HC := Aside0.mk (stableF key gc eg hcmp w g cap B hg hB l hr l.length rfl hsm)
  clear hr hcmp
  go_enter Try.func35, Try.ntmps35
  go_wp2_with (go_at_call 43; refine HC.out.mono ?_; rintro e w1 ⟨rfl, hs, hb⟩)
  go_end0
  obtain ⟨s, hs, hrow⟩ := hs
  have := hs.eq
  subst this
  exact ⟨rfl, hrow, hb⟩
end Go.Proofs.Ytlmjopodghikgaa.Print
