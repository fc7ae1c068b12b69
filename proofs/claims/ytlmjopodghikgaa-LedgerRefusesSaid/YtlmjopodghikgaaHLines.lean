/- ledger.Lines: the entries of an owner from a day until a day, as known at an hour, sorted stably by day. -/
import Derived.Test.YtlmjopodghikgaaHStab
import Derived.Test.YtlmjopodghikgaaHAcc
namespace Go.Proofs.Ytlmjopodghikgaa.Print
open Go.RowKit Go.Proofs.YtlmjopodghikgaaW.PrintWords Go.Proofs.Ytlmjopodghikgaa.Stable
set_option linter.unusedVariables false
set_option linter.unusedSimpArgs false

theorem insertion_nil (f : Value) (w : World) : Calls Try.prog 46 #[.slice none 0 0, .int .i64 0, .int .i64 0, f] w fun e w' => e = .returned (.tuple #[]) ∧ w' = w := by
  go_enter Try.func46, Try.ntmps46
  go_wp2_with fail
  refine wp_loop_rounds 1 ?_
  rw [rounds_succ]
  go_wp2_with fail
  go_end0
  exact ⟨rfl, rfl⟩
theorem stable_nil (f : Value) (w : World) : Calls Try.prog 43 #[.slice none 0 0, .int .i64 0, f] w fun e w' => e = .returned (.tuple #[]) ∧ w' = w := by
  go_enter Try.func43, Try.ntmps43
  go_wp2_with fail
  refine wp_loop_rounds 1 ?_
  rw [rounds_succ]
  go_wp2_with (go_at_call 46; refine (insertion_nil _ _).mono ?_; rintro e w' ⟨rfl, rfl⟩)
  refine wp_loop_rounds 1 ?_
  rw [rounds_succ]
  go_wp2_with fail
  go_end0
  exact ⟨rfl, rfl⟩
theorem sortStable_nil (f : Value) (w : World) : Calls Try.prog 35 #[.slice none 0 0, f] w fun e w' => e = .returned (.tuple #[]) ∧ w' = w := by
  go_enter Try.func35, Try.ntmps35
  go_wp2_with (go_at_call 43; refine (stable_nil _ _).mono ?_; rintro e w' ⟨rfl, rfl⟩)
  go_end0
  exact ⟨rfl, rfl⟩

def linesOf (l : List S36) (owner from_ until_ known : Int) : List S36 := ssort (·.f0) (l.filter (linP owner from_ until_ known))
def ledger_Lines.f (l0 : List S36) (a1 a2 a3 a4 : Int) : Option (List S36) := if l0.length * 56 ≤ 140737488355328 then some (linesOf l0 a1 a2 a3 a4) else none

theorem dayCmpB : CmpB 36 (·.f0) := fun x y W => cmp1 x y W
theorem linPB {W4 : World} {p1 p2 p3 p4 : Addr} {owner from_ until_ known : Int} (h1 : W4.cell? p1 = some (.int .i64 owner)) (h2 : W4.cell? p2 = some (.int .i64 from_)) (h3 : W4.cell? p3 = some (.int .i64 until_)) (h4 : W4.cell? p4 = some (.int .i64 known)) :
    PredB W4.heap.size W4 33 #[.pointer (some p1), .pointer (some p2), .pointer (some p3), .pointer (some p4)] (linP owner from_ until_ known) := by
  intro W x hB
  exact lin1 x owner from_ until_ known p1 p2 p3 p4 W (pw_cell_below hB h1) (pw_cell_below hB h2) (pw_cell_below hB h3) (pw_cell_below hB h4)

set_option maxHeartbeats 1000000 in
theorem ledger_Lines.calls (A0 : Option Addr) (c0 : Nat) (l0 : List S36) (a1 : Int) (a2 : Int) (a3 : Int) (a4 : Int) (r : List S36) (w : World) (hr0 : Kd.C k36 w A0 l0.length l0) (hc0 : l0.length ≤ c0) (h : ledger_Lines.f l0 a1 a2 a3 a4 = some r) :
    Calls Try.prog 16 #[.slice A0 l0.length c0, .int .i64 a1, .int .i64 a2, .int .i64 a3, .int .i64 a4] w fun e w' => ∃ v0_ : Value, e = .returned (v0_) ∧ Kd.R k36 36 w' w.heap.size (fun _ => True) v0_ r ∧ Below w.heap.size w w' := by
  unfold ledger_Lines.f at h
  by_cases hl : l0.length * 56 ≤ 140737488355328
  case neg => rw [if_neg hl] at h; cases h
  rw [if_pos hl] at h
  injection h with h
  have HR := Aside0.mk h
  have HL := Aside0.mk hl
  have HR0 := Aside0.mk hr0
  have e33 : ∀ args w, (callFunc 33 args).run Try.prog w = .ok (.enter 33 args) w := enters_of Try.func33 (by kernel_rfl) rfl
  have e36 : ∀ args w, (callFunc 36 args).run Try.prog w = .ok (.enter 36 args) w := enters_of Try.func36 (by kernel_rfl) rfl
  have E33 := Aside0.mk e33
  have E36 := Aside0.mk e36
  clear h hr0 hl e33 e36
  go_enter Try.func16, Try.ntmps16
  go_wp2_with fail
  go_at_call 29
  obtain ⟨k1, k2, k3, k4, hb4⟩ := four_cells w a1 a2 a3 a4
  have HC4 := Aside0.mk (chosenF E33.out A0 c0 l0 (four w a1 a2 a3 a4) (linPB k1 k2 k3 k4) (Kd.C_below HR0.out hb4) hc0 HL.out)
  have HB4 := Aside0.mk hb4
  clear k1 k2 k3 k4 hb4
  unfold four at HC4 HB4
  refine HC4.out.mono ?_
  rintro e w1 ⟨v1, rfl, hR, hb⟩
  have HB := Aside0.mk (HB4.out.trans (hb.mono HB4.out.size))
  have HBS := Aside0.mk HB4.out.size
  clear HC4 HB4 hb
  have hf := List.length_filter_le (linP a1 a2 a3 a4) l0
  have hlen : (l0.filter (linP a1 a2 a3 a4)).length ≤ 35184372088832 := by have := HL.out; omega
  have HRS : Aside0 (ssort (·.f0) (l0.filter (linP a1 a2 a3 a4)) = r) := HR
  clear hf HR
  generalize l0.filter (linP a1 a2 a3 a4) = lf at hR hlen HRS
  rcases RowE.ofR hR with ⟨rfl, rfl⟩ | ⟨gr, cap, rfl, hgr, _, hrow⟩
  · clear hR
    have e0 : r = [] := HRS.out.symm
    subst e0
    go_wp2_with (go_at_call 35; refine (sortStable_nil _ _).mono ?_; rintro e w' ⟨rfl, rfl⟩)
    go_ret
    exact ⟨_, rfl, Kd.R_nil _ _ _ _ _, HB.out⟩
  · have hgr' : w.heap.size ≤ gr := Nat.le_trans HBS.out hgr
    have HG := Aside0.mk hgr'
    have HS := Aside0.mk (sortStableF (·.f0) 36 E36.out dayCmpB w1 gr cap w.heap.size hgr' HB.out.size lf hrow hlen)
    clear hR hgr hgr' hrow
    go_wp2_with (go_at_call 35; refine HS.out.mono ?_; rintro e w' ⟨rfl, hrow, hb⟩)
    go_ret
    have hlr : (ssort (·.f0) lf).length = lf.length := (ssort_stable (key := (·.f0)) lf).same.length
    have hto := hrow.toR (base := w.heap.size) (ok := fun _ => True) HG.out trivial
    rw [HRS.out] at hlr hto
    rw [hlr] at hto
    exact ⟨_, rfl, hto, HB.out.trans hb⟩
end Go.Proofs.Ytlmjopodghikgaa.Print
