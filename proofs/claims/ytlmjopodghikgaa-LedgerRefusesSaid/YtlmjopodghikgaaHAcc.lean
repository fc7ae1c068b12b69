/- slices.Clone at entries, ledger.chosen, ledger.Account: the exact sum of the litres of the entries of an account. -/
import Derived.Test.YtlmjopodghikgaaHDel
import Derived.Test.YtlmjopodghikgaaHSum
import Derived.Test.YtlmjopodghikgaaPrintFledgerlitres
import Derived.Lib.SliceRun
namespace Go.Proofs.Ytlmjopodghikgaa.Print
open Go.RowKit Go.Proofs.YtlmjopodghikgaaW.PrintWords
set_option linter.unusedVariables false
set_option linter.unusedSimpArgs false

theorem kE_KM {w W : World} {base : Nat} {ok : Nat → Prop} (x : S36) (cs : List Value) (h : k36.K w x cs) : k36.M W base ok x cs := by
  have := kE_openK h
  subst this
  exact k36_mkM _ _ _ _

/-- What slices.Clone leaves of entries. -/
theorem cloneF (A0 : Option Addr) (c0 : Nat) (l0 : List S36) (w : World) (hr0 : Kd.C k36 w A0 l0.length l0) (hc0 : l0.length ≤ c0) (hl : l0.length * 56 ≤ 140737488355328) :
    Calls Try.prog 41 #[.slice A0 l0.length c0] w fun e w' => ∃ v0_ : Value, e = .returned (v0_) ∧ Kd.R k36 36 w' w.heap.size (fun _ => True) v0_ l0 ∧ Below w.heap.size w w' := by
  have hnil := fun (W : World) (a : Option Addr) (n c : Nat) => Lib.run_eql_slice_nil (P := Try.prog) W 22 36 a n c 0 0 Try.underlying22
  have HR0 := Aside0.mk hr0
  have HL := Aside0.mk hl
  cases A0 with
  | none =>
    have h0 : l0 = [] := by
      rcases Nat.eq_zero_or_pos l0.length with h | h
      · exact List.length_eq_zero_iff.1 h
      · obtain ⟨ad, e, _⟩ := hr0.2.2 h
        cases e
    subst h0
    clear hr0 hc0 hl
    go_enter Try.func41, Try.ntmps41
    go_wp2_with fail
    go_ret
    exact ⟨_, rfl, Kd.R_nil _ _ _ _ _, Below.refl _ _⟩
  | some ad =>
    have HO : Aside0 (Kd.R k36 36 (w.alloc (.cells #[] 36)) w.heap.size (fun _ => True) (.slice (some ⟨w.heap.size, 0, none⟩) 0 0) []) :=
      ⟨fun _ _ => trivial, OwnRow.lit (ps := []) w w.heap.size (inner := []) (Reps.none _ _) (Nat.le_refl _) (by simp)⟩
    have HR1 := Aside0.mk (Kd.C_below hr0 ((Below.refl _ w).alloc (Nat.le_refl _) (.cells #[] 36)))
    clear hr0 hc0 hl
    go_enter Try.func41, Try.ntmps41
    go_wp2_with (at_builtin; refine Kd.R_append_rows k36 (w0 := w) w.heap.size rfl _ _ 22 36 _ 56 rfl Try.underlying22 info36 rfl (by decide) (by decide) _ [] l0 (some ad) l0.length _ (fun _ => True) (fun _ => False) rfl rfl HO.out HR1.out (fun x cs h => kE_KM x cs h) (fun _ h => h.elim) (fun _ _ => trivial) ((Below.refl _ w).alloc (Nat.le_refl _) _) (by simp) (by have := HL.out; simpa using this) ?_; intro v1 w1 hown hbel _ _)
    go_ret
    exact ⟨v1, rfl, by simpa using hown, hbel⟩

theorem idxF_nil (f : Value) (W : World) : Calls Try.prog 45 #[.slice none 0 0, f] W fun e w' => e = .returned (.int .i64 (-1)) ∧ w' = W := by
  go_enter Try.func45, Try.ntmps45
  go_wp2_with fail
  refine wp_loop_rounds 1 ?_
  rw [rounds_succ]
  go_wp2_with fail
  go_ret
  exact ⟨rfl, rfl⟩
theorem delF_nil (f : Value) (W : World) : Calls Try.prog 40 #[.slice none 0 0, f] W fun e w' => e = .returned (.slice none 0 0) ∧ w' = W := by
  go_enter Try.func40, Try.ntmps40
  go_wp2_with (go_at_call 45; refine (idxF_nil _ _).mono ?_; rintro e w' ⟨rfl, rfl⟩)
  go_ret
  exact ⟨rfl, rfl⟩

/-- The closure 'not chosen', behind its box. -/
theorem notP {g : Nat} {lb : Array Value} {p : S36 → Bool} (eg : ∀ args w, (callFunc g args).run Try.prog w = .ok (.enter g args) w) {w : World} (hp : PredB w.heap.size w g lb p) (t : Nat) :
    PredB (w.heap.size + 1) (w.alloc (.cells #[.func (.func g) #[] lb] t)) 42 #[.pointer (some ⟨w.heap.size, 0, none⟩)] (fun x => !p x) := by
  intro W x hB
  have hc : W.cell? ⟨w.heap.size, 0, none⟩ = some (.func (.func g) #[] lb) := (hB.cell (p := ⟨w.heap.size, 0, none⟩) (by simp)).trans (by simp)
  have hw : Below w.heap.size w W := ((Below.refl _ w).alloc (Nat.le_refl _) _).trans (hB.mono (by omega))
  exact cho1 x g lb p _ W hc eg (fun W1 h1 => hp W1 x (hw.trans (h1.mono hw.size)))

/-- ledger.chosen: the entries of which a function value says yes. -/
theorem chosenF {g : Nat} {lb : Array Value} {p : S36 → Bool} (eg : ∀ args w, (callFunc g args).run Try.prog w = .ok (.enter g args) w) (A0 : Option Addr) (c0 : Nat) (l0 : List S36) (w : World) (hp : PredB w.heap.size w g lb p) (hr0 : Kd.C k36 w A0 l0.length l0) (hc0 : l0.length ≤ c0) (hl : l0.length * 56 ≤ 140737488355328) :
    Calls Try.prog 29 #[.slice A0 l0.length c0, .func (.func g) #[] lb] w fun e w' => ∃ v0_ : Value, e = .returned (v0_) ∧ Kd.R k36 36 w' w.heap.size (fun _ => True) v0_ (l0.filter p) ∧ Below w.heap.size w w' := by
  have HC := Aside0.mk (fun o => cloneF A0 c0 l0 (w.alloc o) (Kd.C_below hr0 ((Below.refl _ w).alloc (Nat.le_refl _) o)) hc0 hl)
  have HP := Aside0.mk (fun t => notP eg hp t)
  have e42 : ∀ args w, (callFunc 42 args).run Try.prog w = .ok (.enter 42 args) w := enters_of Try.func42 (by kernel_rfl) rfl
  have E42 := Aside0.mk e42
  clear hr0 hp
  go_enter Try.func29, Try.ntmps29
  go_wp2_with fail
  go_at_call 41
  refine (HC.out _).mono ?_
  rintro e w1 ⟨v1, rfl, hR, hb⟩
  have HB := Aside0.mk hb
  have hBx : Below w.heap.size w w1 := ((Below.refl _ w).alloc (Nat.le_refl _) _).trans (hb.mono (by simp))
  have HBx := Aside0.mk hBx
  clear hb hBx
  rcases RowE.ofR hR with ⟨rfl, rfl⟩ | ⟨gr, cap, rfl, hgr, _, hrow⟩
  · clear hR
    go_wp2_with (go_at_call 40; refine (delF_nil _ _).mono ?_; rintro e w' ⟨rfl, rfl⟩)
    go_ret
    exact ⟨_, rfl, Kd.R_nil _ _ _ _ _, HBx.out⟩
  · have HG := Aside0.mk hgr
    have HD := Aside0.mk (delF E42.out (HP.out _) w1 (by simpa using HB.out) (by have := HB.out.size; simpa using this) gr cap (by simpa using hgr) l0 hrow)
    clear hR hgr hrow
    go_wp2_with (go_at_call 40; refine HD.out.mono ?_; rintro e w' ⟨rfl, hrow, hb⟩)
    go_ret
    have e1 : (l0.filter fun x => !!p x) = l0.filter p := by simp
    simp only [Bool.not_not] at hrow ⊢
    exact ⟨_, rfl, hrow.toR (by have := HG.out; simp at this; omega) trivial, HBx.out.trans (hb.mono (by omega))⟩

/-! ### litres -/
theorem litres_loop (l : List S36) (hl : l.length ≤ 35184372088832) (d : Nat) : ∀ (k : Nat) (o : List Int) (i : Int), 0 ≤ i → i + d = l.length → d < k → o.length = l.length → o.take i.toNat = (l.take i.toNat).map (·.f4) →
    ledger_litres.l0 k o l (l.length : Int) i = some (l.map (·.f4)) := by
  induction d with
  | zero =>
    intro k o i h0 hi hk ho hp
    obtain ⟨k, rfl⟩ : ∃ m, k = m + 1 := ⟨k - 1, by omega⟩
    simp only [ledger_litres.l0]
    rw [if_neg (by omega)]
    have e : i.toNat = l.length := by omega
    rw [e, ← ho, List.take_length] at hp
    rw [hp, ho, List.take_length]
  | succ d ih =>
    intro k o i h0 hi hk ho hp
    obtain ⟨k, rfl⟩ : ∃ m, k = m + 1 := ⟨k - 1, by omega⟩
    have hn : i.toNat < l.length := by omega
    have hw : wrap64 (i + 1) = i + 1 := by unfold wrap64; omega
    have e1 : (i + 1).toNat = i.toNat + 1 := by omega
    simp only [ledger_litres.l0]
    rw [if_pos (by omega), if_pos h0, if_pos (by omega), hw, if_pos (by omega)]
    refine ih k _ (i + 1) (by omega) (by omega) (by omega) (by simpa using ho) ?_
    rw [e1, List.take_succ_eq_append_getElem (by simpa [ho] using hn), List.take_succ_eq_append_getElem hn, List.map_append, List.take_set_of_le (Nat.le_refl _), hp]
    simp [rd_T36, List.getD_eq_getElem?_getD, List.getElem?_eq_getElem hn]
theorem litres_f (l : List S36) (hl : l.length ≤ 35184372088832) : ledger_litres.f (l.length + 1) l = some (l.map (·.f4)) := by
  unfold ledger_litres.f
  rw [if_pos (by omega), if_pos (by simpa using hl)]
  exact litres_loop l hl l.length (l.length + 1) _ 0 (by omega) (by omega) (by omega) (by simp) (by simp)

/-! ### Account -/
def i64E (l : List S36) : Bool := l.all fun x => i64B x.f4
def accountOf (l : List S36) (owner place day known : Int) : Int := (exactSum ((l.filter (accP owner place day known)).map (·.f4))).1
def ledger_Account.f (l0 : List S36) (a1 a2 a3 a4 : Int) : Option Int := if l0.length * 56 ≤ 140737488355328 then (if i64E l0 = true then some (accountOf l0 a1 a2 a3 a4) else none) else none

theorem all_filter_i64 {l : List S36} (h : i64E l = true) (p : S36 → Bool) : ((l.filter p).map (·.f4)).all i64B = true := by
  rw [List.all_eq_true]
  intro x hx
  obtain ⟨y, hy, rfl⟩ := List.mem_map.1 hx
  exact List.all_eq_true.1 h y (List.mem_filter.1 hy).1

theorem accPB {W4 : World} {p1 p2 p3 p4 : Addr} {owner place day known : Int} (h1 : W4.cell? p1 = some (.int .i64 day)) (h2 : W4.cell? p2 = some (.int .i64 known)) (h3 : W4.cell? p3 = some (.int .i64 owner)) (h4 : W4.cell? p4 = some (.int .i64 place)) :
    PredB W4.heap.size W4 30 #[.pointer (some p1), .pointer (some p2), .pointer (some p3), .pointer (some p4)] (accP owner place day known) := by
  intro W x hB
  exact acc1 x owner place day known p1 p2 p3 p4 W (pw_cell_below hB h1) (pw_cell_below hB h2) (pw_cell_below hB h3) (pw_cell_below hB h4)
theorem below4 (w : World) (o1 o2 o3 o4 : Obj) : Below w.heap.size w ((((w.alloc o1).alloc o2).alloc o3).alloc o4) :=
  ((((Below.refl _ w).alloc (Nat.le_refl _) _).alloc (by simp) _).alloc (by simp; omega) _).alloc (by simp; omega) _

def four (w : World) (a1 a2 a3 a4 : Int) : World := (((w.alloc (.cells #[.int .i64 a1] 3)).alloc (.cells #[.int .i64 a2] 3)).alloc (.cells #[.int .i64 a3] 3)).alloc (.cells #[.int .i64 a4] 3)
theorem new_cell (w : World) (v : Value) (t : Nat) : (w.alloc (.cells #[v] t)).cell? ⟨w.heap.size, 0, none⟩ = some v := by simp
theorem later_cell {w : World} {p : Addr} {v : Value} (h : w.cell? p = some v) (o : Obj) : (w.alloc o).cell? p = some v := pw_cell_below ((Below.refl _ w).alloc (Nat.le_refl _) o) h
theorem four_cells (w : World) (a1 a2 a3 a4 : Int) : (four w a1 a2 a3 a4).cell? ⟨w.heap.size, 0, none⟩ = some (.int .i64 a1) ∧ (four w a1 a2 a3 a4).cell? ⟨w.heap.size + 1, 0, none⟩ = some (.int .i64 a2) ∧ (four w a1 a2 a3 a4).cell? ⟨w.heap.size + 1 + 1, 0, none⟩ = some (.int .i64 a3) ∧ (four w a1 a2 a3 a4).cell? ⟨w.heap.size + 1 + 1 + 1, 0, none⟩ = some (.int .i64 a4) ∧ Below w.heap.size w (four w a1 a2 a3 a4) := by
  refine ⟨later_cell (later_cell (later_cell (new_cell w _ _) _) _) _, later_cell (later_cell ?_ _) _, later_cell ?_ _, ?_, below4 w _ _ _ _⟩
  · have := new_cell (w.alloc (.cells #[.int .i64 a1] 3)) (.int .i64 a2) 3
    simp
  · have := new_cell ((w.alloc (.cells #[.int .i64 a1] 3)).alloc (.cells #[.int .i64 a2] 3)) (.int .i64 a3) 3
    simpa using this
  · have := new_cell (((w.alloc (.cells #[.int .i64 a1] 3)).alloc (.cells #[.int .i64 a2] 3)).alloc (.cells #[.int .i64 a3] 3)) (.int .i64 a4) 3
    simpa [four] using this

set_option maxHeartbeats 400000 in
theorem ledger_Account.calls (A0 : Option Addr) (c0 : Nat) (l0 : List S36) (a1 : Int) (a2 : Int) (a3 : Int) (a4 : Int) (r : Int) (w : World) (hr0 : Kd.C k36 w A0 l0.length l0) (hc0 : l0.length ≤ c0) (h : ledger_Account.f l0 a1 a2 a3 a4 = some r) :
    Calls Try.prog 12 #[.slice A0 l0.length c0, .int .i64 a1, .int .i64 a2, .int .i64 a3, .int .i64 a4] w fun e w' => e = .returned (.int .i64 r) ∧ Below w.heap.size w w' := by
  unfold ledger_Account.f at h
  by_cases hl : l0.length * 56 ≤ 140737488355328
  case neg => rw [if_neg hl] at h; cases h
  rw [if_pos hl] at h
  by_cases hi : i64E l0 = true
  case neg => rw [if_neg hi] at h; cases h
  rw [if_pos hi] at h
  injection h with h
  have HR := Aside0.mk h
  have HI := Aside0.mk hi
  have HL := Aside0.mk hl
  have HR0 := Aside0.mk hr0
  have e30 : ∀ args w, (callFunc 30 args).run Try.prog w = .ok (.enter 30 args) w := enters_of Try.func30 (by kernel_rfl) rfl
  have E30 := Aside0.mk e30
  clear h hi hr0 hl e30
  go_enter Try.func12, Try.ntmps12
  go_wp2_with fail
  go_at_call 29
  obtain ⟨k1, k2, k3, k4, hb4⟩ := four_cells w a1 a2 a3 a4
  have HC4 := Aside0.mk (chosenF E30.out A0 c0 l0 (four w a1 a2 a3 a4) (accPB k3 k4 k1 k2) (Kd.C_below HR0.out hb4) hc0 HL.out)
  have HB4 := Aside0.mk hb4
  clear k1 k2 k3 k4 hb4
  unfold four at HC4 HB4
  refine HC4.out.mono ?_
  rintro e w1 ⟨v1, rfl, hR, hb⟩
  have HB := Aside0.mk (HB4.out.trans (hb.mono HB4.out.size))
  clear HC4 HB4
  obtain ⟨A1, c1, rfl, hc1, hC1⟩ := Kd.R_reads hR
  have HC1 := Aside0.mk hC1
  have hf := List.length_filter_le (accP a1 a2 a3 a4) l0
  have hlen : (l0.filter (accP a1 a2 a3 a4)).length ≤ 35184372088832 := by have := HL.out; omega
  have HF := Aside0.mk (litres_f _ hlen)
  have HSF : Aside0 (exact_Sum.f ((l0.filter (accP a1 a2 a3 a4)).map (·.f4)) = some (r, (exactSum ((l0.filter (accP a1 a2 a3 a4)).map (·.f4))).2)) := by
    refine ⟨?_⟩
    unfold exact_Sum.f
    rw [if_pos (all_filter_i64 HI.out _)]
    have := HR.out
    unfold accountOf at this
    rw [← this]
  clear hR hb hC1 hf hlen
  generalize l0.filter (accP a1 a2 a3 a4) = lf at hc1 HC1 HF HSF ⊢
  go_wp2_with fail
  go_at_call 28
  refine (ledger_litres.calls _ A1 c1 lf _ w1 HC1.out hc1 HF.out).mono ?_
  rintro e w2 ⟨v2, rfl, hR2, hb2⟩
  have HB2 := Aside0.mk (HB.out.trans (hb2.mono HB.out.size))
  obtain ⟨A2, c2, rfl, hc2, hC2⟩ := Kd.R_reads hR2
  have hS := exact_Sum.calls A2 c2 _ r _ w2 hC2 hc2 HSF.out
  rw [List.length_map] at hS
  have HS3 := Aside0.mk hS
  clear hR2 hb2 hC2 hS hc2
  rw [List.length_map]
  go_wp2_with fail
  go_at_call 27
  refine HS3.out.mono ?_
  rintro e w3 ⟨rfl, hd⟩
  have HB3 := Aside0.mk (HB2.out.trans (hd.below.mono HB2.out.size))
  clear hd
  go_wp2_with fail
  go_ret
  exact ⟨rfl, HB3.out⟩
end Go.Proofs.Ytlmjopodghikgaa.Print
