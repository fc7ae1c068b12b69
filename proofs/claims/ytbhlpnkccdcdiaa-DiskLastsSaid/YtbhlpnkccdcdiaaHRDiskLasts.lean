/- DiskLasts: for every input the law returns true; each argument reads behind the call as it read before. No condition. -/
import Derived.Test.YtbhlpnkccdcdiaaRows
import Derived.Test.YtbhlpnkccdcdiaaKRowK
import Derived.Test.YtbhlpnkccdcdiaaKLasts
import Derived.Test.YtbhlpnkccdcdiaaKRowA
namespace Go.Proofs.Ytbhlpnkccdcdiaa.diskLasts
open Go.ChangeShapes Go.WideShapes Go.ChangeAt Go.RowKit
open Go.Proofs.Ytbhlpnkccdcdiaa.Dk Go.Proofs.YtbhlpnkccdcdiaaW.PrintWords
set_option linter.unusedVariables false
theorem own : ownKnob Try.prog.godebug = none := by kernel_rfl
set_option maxRecDepth 100000 in
theorem lifted (os : Os) (started : os.Started) (H : Type) (enc : TypeId × Value → H) :
    ReturnsInHanded {} Try.checked os 5 .any (Rows.diskLastsSpec.pre6 enc Try.prog Try.f5 Rows.diskLastsRow.domain false) (Rows.diskLastsSpec.post enc Try.prog Try.f5 false true false false) := by
  refine returnsInHanded_of_change_sized (C := Try.checked) own started (by kernel_rfl) Try.func5
    (ChangeSpec.witness6 (enc := enc) (C := Try.checked) false ⟨#[], #[.slice none 0 0, .slice none 0 0], []⟩ 8 (by kernel_rfl) (by kernel_rfl) (by kernel_rfl) (by kernel_rfl)) ?_
  intro W base args ds gs before hval0 hW hcnd hsz0 _
  have hsz : (DataW.weightsEach Try.prog (Try.f5.params.toList ++ Rows.diskLastsSpec.plain.varTypes Try.prog) (ds ++ gs)).all (· ≤ reachBytes) = true := hsz0
  have hval : ∀ (j : Nat) t v, Try.f5.params[j]? = some t → args[j]? = some v → Value.okWide Try.prog W .any base t v := hval0
  have hW' := hW
  obtain ⟨p, q, hA0, hV, rfl, hfz, hnd⟩ := hW
  have hA : DataW.TrodAll enc Try.prog W 0 (fun _ => true) true Try.f5.params.toList args.toList ds p := hA0
  rw [Try.params5] at hA hval hsz
  obtain ⟨v0, vs0, d0, ds0, p0, q0, hargs, rfl, rfl, h0, r0⟩ := trodAll_cons hA
  obtain ⟨v1, vs1, d1, ds1, p1, q1, rfl, rfl, rfl, h1, r1⟩ := trodAll_cons r0
  obtain ⟨rfl, rfl, rfl⟩ := trodAll_nil r1
  obtain rfl : args = #[v0, v1] := by cases args; simp_all
  obtain ⟨rfl, rfl⟩ := trodVars_none hV
  obtain ⟨A0, n0, c0, rfl⟩ := okWide_slice Try.underlying36 (hval 0 36 v0 rfl rfl)
  have k0 := h0
  have lt0 : ∀ x ∈ p0, x.block < W.heap.size := by obtain ⟨m, hm⟩ := k0; exact DataW.trod_lt m _ _ _ hm
  obtain ⟨A0', n0', c0', l0, e0, hn0, hc0, hr0, ws0⟩ : ∃ A len cap l, [Value.slice A0 n0 c0] = [.slice A len cap] ∧ len = List.length l ∧ len ≤ cap ∧ ActsAt W A l ∧ ∀ x ∈ l, (Lit.int .i64 x.n).wf = true ∧ x.s.size ∈ d0.weights Try.prog 36 ∧ (x.keep = [] ∨ ∃ n ∈ d0.weights Try.prog 36, x.keep.length * 8 ≤ n) := by
    obtain ⟨fuel, hf⟩ := h0
    exact openAL hf
  have w0 : ∀ x ∈ l0, x.n ≤ 9223372036854775807 ∧ x.s.size ≤ 140737488355328 ∧ x.keep.length ≤ 140737488355328 := fun x hx => by
    obtain ⟨k1, k2, k3⟩ := ws0 x hx
    refine ⟨(i64B_range k1).2, sizedW hsz (j := 0) rfl rfl k2, ?_⟩
    rcases k3 with k3 | ⟨n, hn, hle⟩
    · rw [k3]; exact Nat.zero_le _
    · have := sizedW hsz (j := 0) rfl rfl hn; omega
  obtain ⟨rfl, rfl, rfl⟩ : A0 = A0' ∧ n0 = n0' ∧ c0 = c0' := by simpa using e0
  subst hn0
  obtain ⟨A1, n1, c1, rfl⟩ := okWide_slice Try.underlying22 (hval 1 22 v1 rfl rfl)
  have k1 := h1
  have lt1 : ∀ x ∈ p1, x.block < W.heap.size := by obtain ⟨m, hm⟩ := k1; exact DataW.trod_lt m _ _ _ hm
  obtain ⟨A1', n1', c1', l1, e1, hn1, hc1, hr1, w1⟩ : ∃ A len cap l, [Value.slice A1 n1 c1] = [.slice A len cap] ∧ len = List.length l ∧ len ≤ cap ∧ Kd.C (Kd.int .i64) W A l.length l ∧ l.all i64B = true := by
    obtain ⟨fuel, hf⟩ := h1
    exact openI hf
  obtain ⟨rfl, rfl, rfl⟩ : A1 = A1' ∧ n1 = n1' ∧ c1 = c1' := by simpa using e1
  subst hn1
  clear hA0 hval0 hsz0 hsz
  refine (diskLasts_row A0 c0 l0 A1 c1 l1 W hr0 w0 hr1 w1).mono fun e W' ⟨he, bel⟩ => ?_
  subst he
  exact ⟨_, rfl, _, _, _, [], _, [], hW', trodAll_mk1 (shut_bool Try.underlying4 _), (trodAll_cons_mk (Below.trod laidOut (by kernel_rfl) (of_decide_eq_true (by kernel_rfl)) k0 bel lt0) (trodAll_cons_mk (Below.trod laidOut (by kernel_rfl) (of_decide_eq_true (by kernel_rfl)) k1 bel lt1) trodAll_mk0)), rfl, bel.frame _, fun h => by cases h⟩
theorem over : Rows.diskLastsRow.holds Try.pinned (OpenSpec.ofChange Rows.diskLastsSpec) :=
  OpenClaim.holds_of_wide 5 Try.f5 rfl rfl rfl rfl rfl rfl rfl ⟨rfl, rfl, rfl, rfl, rfl⟩ rfl rfl rfl rfl rfl (by kernel_rfl) Try.func5 (by kernel_rfl)
    (of_decide_eq_true (by kernel_rfl)) (by unfold Func.isWrapper; first | (rw [if_pos (by decide +kernel)]; kernel_rfl) | (rw [if_neg (by decide +kernel)]; exact ⟨rfl, rfl⟩))
    (fun os started H enc _ => lifted os started H enc)
theorem proved : Rows.DiskLastsSaid := over
#print axioms proved
end Go.Proofs.Ytbhlpnkccdcdiaa.diskLasts
namespace Go.Proofs.Ytbhlpnkccdcdiaa
theorem diskLasts_holds : Rows.DiskLastsSaid := diskLasts.proved
end Go.Proofs.Ytbhlpnkccdcdiaa

