/- DiskReorders: for every input the law returns true; each argument reads behind the call as it read before. No condition. -/
import Derived.Test.YtbhlpnkccdcdiaaRows
import Derived.Test.YtbhlpnkccdcdiaaKRowK
import Derived.Test.YtbhlpnkccdcdiaaKReord
namespace Go.Proofs.Ytbhlpnkccdcdiaa.diskReorders
open Go.ChangeShapes Go.WideShapes Go.ChangeAt Go.RowKit
open Go.Proofs.Ytbhlpnkccdcdiaa.Dk Go.Proofs.YtbhlpnkccdcdiaaW.PrintWords
set_option linter.unusedVariables false
theorem own : ownKnob Try.prog.godebug = none := by kernel_rfl
set_option maxRecDepth 100000 in
theorem lifted (os : Os) (started : os.Started) (H : Type) (enc : TypeId × Value → H) :
    ReturnsInHanded {} Try.checked os 4 .any (Rows.diskReordersSpec.pre6 enc Try.prog Try.f4 Rows.diskReordersRow.domain false) (Rows.diskReordersSpec.post enc Try.prog Try.f4 false true false false) := by
  refine returnsInHanded_of_change_sized (C := Try.checked) own started (by kernel_rfl) Try.func4
    (ChangeSpec.witness6 (enc := enc) (C := Try.checked) false ⟨#[], #[.string ⟨#[]⟩, .string ⟨#[]⟩, .string ⟨#[]⟩, .slice none 0 0], []⟩ 8 (by kernel_rfl) (by kernel_rfl) (by kernel_rfl) (by kernel_rfl)) ?_
  intro W base args ds gs before hval0 hW hcnd hsz0 _
  have hsz : (DataW.weightsEach Try.prog (Try.f4.params.toList ++ Rows.diskReordersSpec.plain.varTypes Try.prog) (ds ++ gs)).all (· ≤ reachBytes) = true := hsz0
  have hval : ∀ (j : Nat) t v, Try.f4.params[j]? = some t → args[j]? = some v → Value.okWide Try.prog W .any base t v := hval0
  have hW' := hW
  obtain ⟨p, q, hA0, hV, rfl, hfz, hnd⟩ := hW
  have hA : DataW.TrodAll enc Try.prog W 0 (fun _ => true) true Try.f4.params.toList args.toList ds p := hA0
  rw [Try.params4] at hA hval hsz
  obtain ⟨v0, vs0, d0, ds0, p0, q0, hargs, rfl, rfl, h0, r0⟩ := trodAll_cons hA
  obtain ⟨v1, vs1, d1, ds1, p1, q1, rfl, rfl, rfl, h1, r1⟩ := trodAll_cons r0
  obtain ⟨v2, vs2, d2, ds2, p2, q2, rfl, rfl, rfl, h2, r2⟩ := trodAll_cons r1
  obtain ⟨v3, vs3, d3, ds3, p3, q3, rfl, rfl, rfl, h3, r3⟩ := trodAll_cons r2
  obtain ⟨rfl, rfl, rfl⟩ := trodAll_nil r3
  obtain rfl : args = #[v0, v1, v2, v3] := by cases args; simp_all
  obtain ⟨rfl, rfl⟩ := trodVars_none hV
  obtain ⟨s0, rfl, rfl, rfl, w0⟩ := Go.ChangeMaps.open_string Try.underlying9 (hval 0 9 v0 rfl rfl) h0
  obtain ⟨s1, rfl, rfl, rfl, w1⟩ := Go.ChangeMaps.open_string Try.underlying9 (hval 1 9 v1 rfl rfl) h1
  obtain ⟨s2, rfl, rfl, rfl, w2⟩ := Go.ChangeMaps.open_string Try.underlying9 (hval 2 9 v2 rfl rfl) h2
  obtain ⟨A3, n3, c3, rfl⟩ := okWide_slice Try.underlying22 (hval 3 22 v3 rfl rfl)
  have k3 := h3
  have lt3 : ∀ x ∈ p3, x.block < W.heap.size := by obtain ⟨m, hm⟩ := k3; exact DataW.trod_lt m _ _ _ hm
  obtain ⟨A3', n3', c3', l3, e3, hn3, hc3, hr3, w3⟩ : ∃ A len cap l, [Value.slice A3 n3 c3] = [.slice A len cap] ∧ len = List.length l ∧ len ≤ cap ∧ Kd.C (Kd.int .i64) W A l.length l ∧ l.all i64B = true := by
    obtain ⟨fuel, hf⟩ := h3
    exact openI hf
  obtain ⟨rfl, rfl, rfl⟩ : A3 = A3' ∧ n3 = n3' ∧ c3 = c3' := by simpa using e3
  subst hn3
  have y0 : s0.size ≤ 140737488355328 := by have h := sized_string hsz (j := 0) rfl rfl; rw [size_toList] at h; exact Nat.le_trans h (by decide)
  have y1 : s1.size ≤ 140737488355328 := by have h := sized_string hsz (j := 1) rfl rfl; rw [size_toList] at h; exact Nat.le_trans h (by decide)
  have y2 : s2.size ≤ 140737488355328 := by have h := sized_string hsz (j := 2) rfl rfl; rw [size_toList] at h; exact Nat.le_trans h (by decide)
  clear hA0 hval0 hsz0 hsz
  refine (diskReorders_row s0 s1 s2 A3 c3 l3 W y0 y1 y2 hr3 w3).mono fun e W' ⟨he, bel⟩ => ?_
  subst he
  exact ⟨_, rfl, _, _, _, [], _, [], hW', trodAll_mk1 (shut_bool Try.underlying4 _), (trodAll_cons_mk (Go.ChangeMaps.shut_string Try.underlying9 w0) (trodAll_cons_mk (Go.ChangeMaps.shut_string Try.underlying9 w1) (trodAll_cons_mk (Go.ChangeMaps.shut_string Try.underlying9 w2) (trodAll_cons_mk (Below.trod laidOut (by kernel_rfl) (of_decide_eq_true (by kernel_rfl)) k3 bel lt3) trodAll_mk0)))), rfl, bel.frame _, fun h => by cases h⟩
theorem over : Rows.diskReordersRow.holds Try.pinned (OpenSpec.ofChange Rows.diskReordersSpec) :=
  OpenClaim.holds_of_wide 4 Try.f4 rfl rfl rfl rfl rfl rfl rfl ⟨rfl, rfl, rfl, rfl, rfl⟩ rfl rfl rfl rfl rfl (by kernel_rfl) Try.func4 (by kernel_rfl)
    (of_decide_eq_true (by kernel_rfl)) (by unfold Func.isWrapper; first | (rw [if_pos (by decide +kernel)]; kernel_rfl) | (rw [if_neg (by decide +kernel)]; exact ⟨rfl, rfl⟩))
    (fun os started H enc _ => lifted os started H enc)
theorem proved : Rows.DiskReordersSaid := over
#print axioms proved
end Go.Proofs.Ytbhlpnkccdcdiaa.diskReorders
namespace Go.Proofs.Ytbhlpnkccdcdiaa
theorem diskReorders_holds : Rows.DiskReordersSaid := diskReorders.proved
end Go.Proofs.Ytbhlpnkccdcdiaa

