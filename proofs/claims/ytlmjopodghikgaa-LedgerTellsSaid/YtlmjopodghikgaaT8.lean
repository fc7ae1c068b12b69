/- Contracts and plain lemmas that the claim rests on: part 8 of 17 (joined, without what the theorem does not rest on). -/
import Derived.Test.YtlmjopodghikgaaT6
import Derived.Test.YtlmjopodghikgaaT7
import Derived.Lib.SliceRun
import Derived.Test.YtlmjopodghikgaaT4
section
/- slices.Clone at entries, ledger.chosen, ledger.Account: the exact sum of the litres of the entries of an account. -/
namespace Go.Proofs.Ytlmjopodghikgaa.Print
open Go.RowKit Go.Proofs.YtlmjopodghikgaaW.PrintWords
set_option linter.unusedVariables false
set_option linter.unusedSimpArgs false

theorem kE_KM {w W : World} {base : Nat} {ok : Nat → Prop} (x : S36) (cs : List Value) (h : k36.K w x cs) : k36.M W base ok x cs := by
  have := kE_openK h
  subst this
  exact k36_mkM _ _ _ _

/-- What slices.Clone leaves of entries. -/
theorem cloneF (A0 : Option Addr) (c0 : Nat) (l0 : List S36) (w : World) (hr0 : Kd.C k36 w A0 l0.length l0) (hc0 : l0.length ≤ c0) (hl : l0.length * 56 ≤ 140737488355328) :
    Calls Try.prog 41 #[.slice A0 l0.length c0] w fun e w' => ∃ v0_ : Value, e = .returned (v0_) ∧ Kd.R k36 36 w' w.heap.size (fun _ => True) v0_ l0 ∧ Below w.heap.size w w' := by
  have hnil := fun (W : World) (a : Option Addr) (n c : Nat) => Lib.run_eql_slice_nil (P := Try.prog) W 22 36 a n c 0 0 Try.underlying22
  have HR0 := Aside0.mk hr0
  have HL := Aside0.mk hl
  cases A0 with
  | none =>
    have h0 : l0 = [] := by
      rcases Nat.eq_zero_or_pos l0.length with h | h
      · exact List.length_eq_zero_iff.1 h
      · obtain ⟨ad, e, _⟩ := hr0.2.2 h
        cases e
    subst h0
    clear hr0 hc0 hl
    go_enter Try.func41, Try.ntmps41
    go_wp2_with fail
    go_ret
    exact ⟨_, rfl, Kd.R_nil _ _ _ _ _, Below.refl _ _⟩
  | some ad =>
    have HO : Aside0 (Kd.R k36 36 (w.alloc (.cells #[] 36)) w.heap.size (fun _ => True) (.slice (some ⟨w.heap.size, 0, none⟩) 0 0) []) :=
      ⟨fun _ _ => trivial, OwnRow.lit (ps := []) w w.heap.size (inner := []) (Reps.none _ _) (Nat.le_refl _) (by simp)⟩
    have HR1 := Aside0.mk (Kd.C_below hr0 ((Below.refl _ w).alloc (Nat.le_refl _) (.cells #[] 36)))
    clear hr0 hc0 hl
    go_enter Try.func41, Try.ntmps41
    go_wp2_with (at_builtin; refine Kd.R_append_rows k36 (w0 := w) w.heap.size rfl _ _ 22 36 _ 56 rfl Try.underlying22 info36 rfl (by decide) (by decide) _ [] l0 (some ad) l0.length _ (fun _ => True) (fun _ => False) rfl rfl HO.out HR1.out (fun x cs h => kE_KM x cs h) (fun _ h => h.elim) (fun _ _ => trivial) ((Below.refl _ w).alloc (Nat.le_refl _) _) (by simp) (by have := HL.out; simpa using this) ?_; intro v1 w1 hown hbel _ _)
    go_ret
    exact ⟨v1, rfl, by simpa using hown, hbel⟩

theorem idxF_nil (f : Value) (W : World) : Calls Try.prog 45 #[.slice none 0 0, f] W fun e w' => e = .returned (.int .i64 (-1)) ∧ w' = W := by
  go_enter Try.func45, Try.ntmps45
  go_wp2_with fail
  refine wp_loop_rounds 1 ?_
  rw [rounds_succ]
  go_wp2_with fail
  go_ret
  exact ⟨rfl, rfl⟩
theorem delF_nil (f : Value) (W : World) : Calls Try.prog 40 #[.slice none 0 0, f] W fun e w' => e = .returned (.slice none 0 0) ∧ w' = W := by
  go_enter Try.func40, Try.ntmps40
  go_wp2_with (go_at_call 45; refine (idxF_nil _ _).mono ?_; rintro e w' ⟨rfl, rfl⟩)
  go_ret
  exact ⟨rfl, rfl⟩

/-- The closure 'not chosen', behind its box. -/
theorem notP {g : Nat} {lb : Array Value} {p : S36 → Bool} (eg : ∀ args w, (callFunc g args).run Try.prog w = .ok (.enter g args) w) {w : World} (hp : PredB w.heap.size w g lb p) (t : Nat) :
    PredB (w.heap.size + 1) (w.alloc (.cells #[.func (.func g) #[] lb] t)) 42 #[.pointer (some ⟨w.heap.size, 0, none⟩)] (fun x => !p x) := by
  intro W x hB
  have hc : W.cell? ⟨w.heap.size, 0, none⟩ = some (.func (.func g) #[] lb) := (hB.cell (p := ⟨w.heap.size, 0, none⟩) (by simp)).trans (by simp)
  have hw : Below w.heap.size w W := ((Below.refl _ w).alloc (Nat.le_refl _) _).trans (hB.mono (by omega))
  exact cho1 x g lb p _ W hc eg (fun W1 h1 => hp W1 x (hw.trans (h1.mono hw.size)))

/-- ledger.chosen: the entries of which a function value says yes. -/
theorem chosenF {g : Nat} {lb : Array Value} {p : S36 → Bool} (eg : ∀ args w, (callFunc g args).run Try.prog w = .ok (.enter g args) w) (A0 : Option Addr) (c0 : Nat) (l0 : List S36) (w : World) (hp : PredB w.heap.size w g lb p) (hr0 : Kd.C k36 w A0 l0.length l0) (hc0 : l0.length ≤ c0) (hl : l0.length * 56 ≤ 140737488355328) :
    Calls Try.prog 29 #[.slice A0 l0.length c0, .func (.func g) #[] lb] w fun e w' => ∃ v0_ : Value, e = .returned (v0_) ∧ Kd.R k36 36 w' w.heap.size (fun _ => True) v0_ (l0.filter p) ∧ Below w.heap.size w w' := by
  have HC := Aside0.mk (fun o => cloneF A0 c0 l0 (w.alloc o) (Kd.C_below hr0 ((Below.refl _ w).alloc (Nat.le_refl _) o)) hc0 hl)
  have HP := Aside0.mk (fun t => notP eg hp t)
  have e42 : ∀ args w, (callFunc 42 args).run Try.prog w = .ok (.enter 42 args) w := enters_of Try.func42 (by kernel_rfl) rfl
  have E42 := Aside0.mk e42
  clear hr0 hp
  go_enter Try.func29, Try.ntmps29
  go_wp2_with fail
  go_at_call 41
  refine (HC.out _).mono ?_
  rintro e w1 ⟨v1, rfl, hR, hb⟩
  have HB := Aside0.mk hb
  have hBx : Below w.heap.size w w1 := ((Below.refl _ w).alloc (Nat.le_refl _) _).trans (hb.mono (by simp))
  have HBx := Aside0.mk hBx
  clear hb hBx
  rcases RowE.ofR hR with ⟨rfl, rfl⟩ | ⟨gr, cap, rfl, hgr, _, hrow⟩
  · clear hR
    go_wp2_with (go_at_call 40; refine (delF_nil _ _).mono ?_; rintro e w' ⟨rfl, rfl⟩)
    go_ret
    exact ⟨_, rfl, Kd.R_nil _ _ _ _ _, HBx.out⟩
  · have HG := Aside0.mk hgr
    have HD := Aside0.mk (delF E42.out (HP.out _) w1 (by simpa using HB.out) (by have := HB.out.size; simpa using this) gr cap (by simpa using hgr) l0 hrow)
    clear hR hgr hrow
    go_wp2_with (go_at_call 40; refine HD.out.mono ?_; rintro e w' ⟨rfl, hrow, hb⟩)
    go_ret
    have e1 : (l0.filter fun x => !!p x) = l0.filter p := by simp
    simp only [Bool.not_not] at hrow ⊢
    exact ⟨_, rfl, hrow.toR (by have := HG.out; simp at this; omega) trivial, HBx.out.trans (hb.mono (by omega))⟩

/-! ### litres -/
theorem litres_loop (l : List S36) (hl : l.length ≤ 35184372088832) (d : Nat) : ∀ (k : Nat) (o : List Int) (i : Int), 0 ≤ i → i + d = l.length → d < k → o.length = l.length → o.take i.toNat = (l.take i.toNat).map (·.f4) →
    ledger_litres.l0 k o l (l.length : Int) i = some (l.map (·.f4)) := by
  induction d with
  | zero =>
    intro k o i h0 hi hk ho hp
    obtain ⟨k, rfl⟩ : ∃ m, k = m + 1 := ⟨k - 1, by omega⟩
    simp only [ledger_litres.l0]
    rw [if_neg (by omega)]
    have e : i.toNat = l.length := by omega
    rw [e, ← ho, List.take_length] at hp
    rw [hp, ho, List.take_length]
  | succ d ih =>
    intro k o i h0 hi hk ho hp
    obtain ⟨k, rfl⟩ : ∃ m, k = m + 1 := ⟨k - 1, by omega⟩
    have hn : i.toNat < l.length := by omega
    have hw : wrap64 (i + 1) = i + 1 := by unfold wrap64; omega
    have e1 : (i + 1).toNat = i.toNat + 1 := by omega
    simp only [ledger_litres.l0]
    rw [if_pos (by omega), if_pos h0, if_pos (by omega), hw, if_pos (by omega)]
    refine ih k _ (i + 1) (by omega) (by omega) (by omega) (by simpa using ho) ?_
    rw [e1, List.take_succ_eq_append_getElem (by simpa [ho] using hn), List.take_succ_eq_append_getElem hn, List.map_append, List.take_set_of_le (Nat.le_refl _), hp]
    simp [rd_T36, List.getD_eq_getElem?_getD, List.getElem?_eq_getElem hn]
theorem litres_f (l : List S36) (hl : l.length ≤ 35184372088832) : ledger_litres.f (l.length + 1) l = some (l.map (·.f4)) := by
  unfold ledger_litres.f
  rw [if_pos (by omega), if_pos (by simpa using hl)]
  exact litres_loop l hl l.length (l.length + 1) _ 0 (by omega) (by omega) (by omega) (by simp) (by simp)

/-! ### Account -/
def i64E (l : List S36) : Bool := l.all fun x => i64B x.f4
def accountOf (l : List S36) (owner place day known : Int) : Int := (exactSum ((l.filter (accP owner place day known)).map (·.f4))).1
def ledger_Account.f (l0 : List S36) (a1 a2 a3 a4 : Int) : Option Int := if l0.length * 56 ≤ 140737488355328 then (if i64E l0 = true then some (accountOf l0 a1 a2 a3 a4) else none) else none

theorem all_filter_i64 {l : List S36} (h : i64E l = true) (p : S36 → Bool) : ((l.filter p).map (·.f4)).all i64B = true := by
  rw [List.all_eq_true]
  intro x hx
  obtain ⟨y, hy, rfl⟩ := List.mem_map.1 hx
  exact List.all_eq_true.1 h y (List.mem_filter.1 hy).1

theorem accPB {W4 : World} {p1 p2 p3 p4 : Addr} {owner place day known : Int} (h1 : W4.cell? p1 = some (.int .i64 day)) (h2 : W4.cell? p2 = some (.int .i64 known)) (h3 : W4.cell? p3 = some (.int .i64 owner)) (h4 : W4.cell? p4 = some (.int .i64 place)) :
    PredB W4.heap.size W4 30 #[.pointer (some p1), .pointer (some p2), .pointer (some p3), .pointer (some p4)] (accP owner place day known) := by
  intro W x hB
  exact acc1 x owner place day known p1 p2 p3 p4 W (pw_cell_below hB h1) (pw_cell_below hB h2) (pw_cell_below hB h3) (pw_cell_below hB h4)
theorem below4 (w : World) (o1 o2 o3 o4 : Obj) : Below w.heap.size w ((((w.alloc o1).alloc o2).alloc o3).alloc o4) :=
  ((((Below.refl _ w).alloc (Nat.le_refl _) _).alloc (by simp) _).alloc (by simp; omega) _).alloc (by simp; omega) _

def four (w : World) (a1 a2 a3 a4 : Int) : World := (((w.alloc (.cells #[.int .i64 a1] 3)).alloc (.cells #[.int .i64 a2] 3)).alloc (.cells #[.int .i64 a3] 3)).alloc (.cells #[.int .i64 a4] 3)
theorem new_cell (w : World) (v : Value) (t : Nat) : (w.alloc (.cells #[v] t)).cell? ⟨w.heap.size, 0, none⟩ = some v := by simp
theorem later_cell {w : World} {p : Addr} {v : Value} (h : w.cell? p = some v) (o : Obj) : (w.alloc o).cell? p = some v := pw_cell_below ((Below.refl _ w).alloc (Nat.le_refl _) o) h
theorem four_cells (w : World) (a1 a2 a3 a4 : Int) : (four w a1 a2 a3 a4).cell? ⟨w.heap.size, 0, none⟩ = some (.int .i64 a1) ∧ (four w a1 a2 a3 a4).cell? ⟨w.heap.size + 1, 0, none⟩ = some (.int .i64 a2) ∧ (four w a1 a2 a3 a4).cell? ⟨w.heap.size + 1 + 1, 0, none⟩ = some (.int .i64 a3) ∧ (four w a1 a2 a3 a4).cell? ⟨w.heap.size + 1 + 1 + 1, 0, none⟩ = some (.int .i64 a4) ∧ Below w.heap.size w (four w a1 a2 a3 a4) := by
  refine ⟨later_cell (later_cell (later_cell (new_cell w _ _) _) _) _, later_cell (later_cell ?_ _) _, later_cell ?_ _, ?_, below4 w _ _ _ _⟩
  · have := new_cell (w.alloc (.cells #[.int .i64 a1] 3)) (.int .i64 a2) 3
    simp
  · have := new_cell ((w.alloc (.cells #[.int .i64 a1] 3)).alloc (.cells #[.int .i64 a2] 3)) (.int .i64 a3) 3
    simpa using this
  · have := new_cell (((w.alloc (.cells #[.int .i64 a1] 3)).alloc (.cells #[.int .i64 a2] 3)).alloc (.cells #[.int .i64 a3] 3)) (.int .i64 a4) 3
    simpa [four] using this

set_option maxHeartbeats 400000 in
theorem ledger_Account.calls (A0 : Option Addr) (c0 : Nat) (l0 : List S36) (a1 : Int) (a2 : Int) (a3 : Int) (a4 : Int) (r : Int) (w : World) (hr0 : Kd.C k36 w A0 l0.length l0) (hc0 : l0.length ≤ c0) (h : ledger_Account.f l0 a1 a2 a3 a4 = some r) :
    Calls Try.prog 12 #[.slice A0 l0.length c0, .int .i64 a1, .int .i64 a2, .int .i64 a3, .int .i64 a4] w fun e w' => e = .returned (.int .i64 r) ∧ Below w.heap.size w w' := by
  unfold ledger_Account.f at h
  by_cases hl : l0.length * 56 ≤ 140737488355328
  case neg => rw [if_neg hl] at h; cases h
  rw [if_pos hl] at h
  by_cases hi : i64E l0 = true
  case neg => rw [if_neg hi] at h; cases h
  rw [if_pos hi] at h
  injection h with h
  have HR := Aside0.mk h
  have HI := Aside0.mk hi
  have HL := Aside0.mk hl
  have HR0 := Aside0.mk hr0
  have e30 : ∀ args w, (callFunc 30 args).run Try.prog w = .ok (.enter 30 args) w := enters_of Try.func30 (by kernel_rfl) rfl
  have E30 := Aside0.mk e30
  clear h hi hr0 hl e30
  go_enter Try.func12, Try.ntmps12
  go_wp2_with fail
  go_at_call 29
  obtain ⟨k1, k2, k3, k4, hb4⟩ := four_cells w a1 a2 a3 a4
  have HC4 := Aside0.mk (chosenF E30.out A0 c0 l0 (four w a1 a2 a3 a4) (accPB k3 k4 k1 k2) (Kd.C_below HR0.out hb4) hc0 HL.out)
  have HB4 := Aside0.mk hb4
  clear k1 k2 k3 k4 hb4
  unfold four at HC4 HB4
  refine HC4.out.mono ?_
  rintro e w1 ⟨v1, rfl, hR, hb⟩
  have HB := Aside0.mk (HB4.out.trans (hb.mono HB4.out.size))
  clear HC4 HB4
  obtain ⟨A1, c1, rfl, hc1, hC1⟩ := Kd.R_reads hR
  have HC1 := Aside0.mk hC1
  have hf := List.length_filter_le (accP a1 a2 a3 a4) l0
  have hlen : (l0.filter (accP a1 a2 a3 a4)).length ≤ 35184372088832 := by have := HL.out; omega
  have HF := Aside0.mk (litres_f _ hlen)
  have HSF : Aside0 (exact_Sum.f ((l0.filter (accP a1 a2 a3 a4)).map (·.f4)) = some (r, (exactSum ((l0.filter (accP a1 a2 a3 a4)).map (·.f4))).2)) := by
    refine ⟨?_⟩
    unfold exact_Sum.f
    rw [if_pos (all_filter_i64 HI.out _)]
    have := HR.out
    unfold accountOf at this
    rw [← this]
  clear hR hb hC1 hf hlen
  generalize l0.filter (accP a1 a2 a3 a4) = lf at hc1 HC1 HF HSF ⊢
  go_wp2_with fail
  go_at_call 28
  refine (ledger_litres.calls _ A1 c1 lf _ w1 HC1.out hc1 HF.out).mono ?_
  rintro e w2 ⟨v2, rfl, hR2, hb2⟩
  have HB2 := Aside0.mk (HB.out.trans (hb2.mono HB.out.size))
  obtain ⟨A2, c2, rfl, hc2, hC2⟩ := Kd.R_reads hR2
  have hS := exact_Sum.calls A2 c2 _ r _ w2 hC2 hc2 HSF.out
  rw [List.length_map] at hS
  have HS3 := Aside0.mk hS
  clear hR2 hb2 hC2 hS hc2
  rw [List.length_map]
  go_wp2_with fail
  go_at_call 27
  refine HS3.out.mono ?_
  rintro e w3 ⟨rfl, hd⟩
  have HB3 := Aside0.mk (HB2.out.trans (hd.below.mono HB2.out.size))
  clear hd
  go_wp2_with fail
  go_ret
  exact ⟨rfl, HB3.out⟩
end Go.Proofs.Ytlmjopodghikgaa.Print
end
section
/- ledger.full: whether the absolute values of the litres of lists are together more than 2^62. -/
namespace Go.Proofs.Ytlmjopodghikgaa.Print
open Go.RowKit Go.Proofs.YtlmjopodghikgaaW.PrintWords
set_option linter.unusedVariables false
set_option linter.unusedSimpArgs false

def absOf (l : List Int) : Int := (l.map fun n => if n < 0 then -n else n).sum
def absSum (l : List S36) : Int := absOf (l.map (·.f4))
def fullL (ls : List (List S36)) : Bool := decide ((ls.map absSum).sum > 4611686018427387904)

theorem absOf_nonneg : ∀ (l : List Int), 0 ≤ absOf l
  | [] => by simp [absOf]
  | x :: l => by
    have := absOf_nonneg l
    unfold absOf at this ⊢
    simp only [List.map_cons, List.sum_cons]
    split <;> omega
theorem absOf_append (l m : List Int) : absOf (l ++ m) = absOf l + absOf m := by simp [absOf]
theorem absOf_le (l : List Int) (i : Nat) : absOf (l.take i) ≤ absOf l := by
  have := absOf_append (l.take i) (l.drop i)
  rw [List.take_append_drop] at this
  have := absOf_nonneg (l.drop i)
  omega
theorem absOf_succ (l : List Int) (i : Int) (h0 : 0 ≤ i) (h1 : i < l.length) : absOf (l.take (i + 1).toNat) = absOf (l.take i.toNat) + if rd l i < 0 then -(rd l i) else rd l i := by
  have hl : i.toNat < l.length := by omega
  rw [show (i + 1).toNat = i.toNat + 1 by omega, List.take_succ_eq_append_getElem hl, absOf_append]
  simp [absOf, rd, List.getD_eq_getElem?_getD, List.getElem?_eq_getElem hl]
theorem sums_nonneg : ∀ (ls : List (List S36)), 0 ≤ (ls.map absSum).sum
  | [] => by simp
  | x :: l => by
    have := sums_nonneg l
    have := absOf_nonneg (x.map (·.f4))
    simp only [List.map_cons, List.sum_cons]
    unfold absSum at *
    omega
/-- What has been added when i lists and j numbers of the next are behind. -/
def soFar (ls : List (List S36)) (i : Nat) (l : List Int) (j : Nat) : Int := ((ls.take i).map absSum).sum + absOf (l.take j)
theorem soFar_le (ls : List (List S36)) (i j : Nat) (x : List S36) (hx : ls[i]? = some x) : soFar ls i (x.map (·.f4)) j ≤ (ls.map absSum).sum := by
  have hi := (List.getElem?_eq_some_iff.1 hx).1
  have e : ls = ls.take i ++ x :: ls.drop (i + 1) := by
    have h := List.getElem?_eq_getElem hi
    rw [hx] at h
    injection h with h
    rw [h, ← List.drop_eq_getElem_cons hi, List.take_append_drop]
  have h2 := absOf_le (x.map (·.f4)) j
  have h3 := sums_nonneg (ls.drop (i + 1))
  have h4 : (ls.map absSum).sum = ((ls.take i).map absSum).sum + (absSum x + ((ls.drop (i + 1)).map absSum).sum) := by
    conv => lhs; rw [e]
    rw [List.map_append, List.sum_append, List.map_cons, List.sum_cons]
  unfold soFar
  rw [h4]
  unfold absSum at *
  omega
theorem soFar_next (ls : List (List S36)) (i : Nat) (x : List S36) (hx : ls[i]? = some x) (y : List Int) : soFar ls (i + 1) y 0 = soFar ls i (x.map (·.f4)) x.length := by
  have hi := (List.getElem?_eq_some_iff.1 hx).1
  have h := List.getElem?_eq_getElem hi
  rw [hx] at h
  injection h with h
  unfold soFar
  rw [List.take_succ_eq_append_getElem hi, List.map_append, List.sum_append, ← h, List.take_of_length_le (by simp : (x.map (·.f4)).length ≤ x.length)]
  simp [absSum, absOf]

theorem u64_size (n : Int) (hn : -9223372036854775808 ≤ n ∧ n ≤ 9223372036854775807) : (n < 0 → IntKind.u64.wrap (-(IntKind.u64.wrap n)) = -n) ∧ (0 ≤ n → IntKind.u64.wrap n = n) := by
  simp only [u64_wrap]
  constructor <;> intro h <;> omega

set_option maxHeartbeats 1000000 in
theorem fullF (A0 : Option Addr) (c0 : Nat) (ls : List (List S36)) (w : World) (hr0 : Kd.C (Kd.slice 36 k36) w A0 ls.length ls) (hc0 : ls.length ≤ c0) (hl : ∀ l ∈ ls, l.length ≤ 35184372088832 ∧ i64E l = true) :
    Calls Try.prog 23 #[.slice A0 ls.length c0] w fun e w' => e = .returned (.bool (fullL ls)) ∧ Below w.heap.size w w' := by
  have hm := hr0.2.1
  have HR0 := Aside0.mk hr0
  have HL := Aside0.mk hl
  clear hr0 hl
  go_enter Try.func23, Try.ntmps23
  go_wp2_with fail
  go_loopg [3, 5, 7, 8, 9, 10, 13] ls.length (fun kq v3 _ _ _ _ _ v13 wr => ∃ (i s : Int), v13 = .int .i64 i ∧ v3 = .int .u64 s ∧ 0 ≤ i ∧ Aside0 (i + kq = ls.length) ∧ 0 ≤ s ∧ s ≤ 4611686018427387904 ∧ Aside0 (s = soFar ls i.toNat [] 0) ∧ Aside0 (Below w.heap.size w wr))
  case atStart => exact ⟨0, 0, rfl, rfl, by omega, ⟨by omega⟩, by omega, by omega, ⟨by simp [soFar, absOf]⟩, ⟨Below.refl _ _⟩⟩
  case round =>
    obtain ⟨i, s, rfl, rfl, h0, HK, hs0, hs1, HS, HW⟩ := hrel
    obtain ⟨ko, rfl⟩ : ∃ ko, ko = gk := ⟨_, rfl⟩
    by_cases c2 : i < ls.length
    · obtain ⟨ad, cc, e, hcl, hK, hcell⟩ := Kd.C_get (Kd.C_below HR0.out HW.out) [] i h0 c2
      cases e
      obtain ⟨A1, c1, rfl, hc1, hC1⟩ := hK
      have hx0 : wr.cell? (ad.add i.toNat) = some (.slice A1 (ls.getD i.toNat []).length c1) := by
        have := hcell 0 _ rfl
        simpa [show (Kd.slice 36 k36).sz = 1 from rfl] using this
      have hil : i.toNat < ls.length := by omega
      have hx : ls[i.toNat]? = some (ls.getD i.toNat []) := by rw [List.getD_eq_getElem?_getD, List.getElem?_eq_getElem hil]; rfl
      have hmem : ls.getD i.toNat [] ∈ ls := List.mem_of_getElem? hx
      have HX := Aside0.mk hx
      have HM := Aside0.mk (HL.out _ hmem)
      have HC1 := Aside0.mk hC1
      clear hcell hcl hC1 hmem hil hx
      generalize ls.getD i.toNat [] = x at hx0 HX HM HC1 hc1
      have HF := Aside0.mk (litres_f x HM.out.1)
      go_wp2_with fail
      go_at_call 28
      refine (ledger_litres.calls _ A1 c1 x _ wr HC1.out hc1 HF.out).mono ?_
      rintro e w2 ⟨v2, rfl, hR2, hb2⟩
      obtain ⟨A2, c3, rfl, hc2, hC2⟩ := Kd.R_reads hR2
      have HW2 := Aside0.mk (HW.out.trans (hb2.mono HW.out.size))
      have HI : Aside0 ((x.map (·.f4)).all i64B = true) := ⟨by
        have := HM.out.2
        unfold i64E at this
        simpa [List.all_map] using this⟩
      have HT := Aside0.mk (soFar_le ls i.toNat · x HX.out)
      have HN := Aside0.mk (soFar_next ls i.toNat x HX.out)
      have HXL : Aside0 (x.length = (x.map (·.f4)).length) := ⟨by simp⟩
      rw [← HXL.out] at hC2
      rw [← HXL.out]
      have HC2 := Aside0.mk hC2
      have hm2 := hC2.2.1
      clear hR2 hb2 hC2 hc2 hx0 hc1
      generalize x.map (·.f4) = y at HC2 HI HT HN HXL
      have HS0 : Aside0 (s = soFar ls i.toNat y 0) := ⟨by have := HS.out; unfold soFar at this ⊢; simpa using this⟩
      clear HS
      have HK' : Aside0 (i + ko = ls.length) := HK
      go_wp2_with fail
      go_loopg [3, 7, 8, 9, 10, 20] x.length (fun kr v3 _ _ _ _ v20 wq => ∃ (j t : Int), v20 = .int .i64 j ∧ v3 = .int .u64 t ∧ 0 ≤ j ∧ Aside0 (j + kr = x.length) ∧ 0 ≤ t ∧ t ≤ 4611686018427387904 ∧ Aside0 (t = soFar ls i.toNat y j.toNat) ∧ Drawn0 w2 wq)
      case atStart => exact ⟨0, s, rfl, rfl, by omega, ⟨by omega⟩, hs0, hs1, HS0, Drawn0.refl _⟩
      case round =>
        obtain ⟨j, t, rfl, rfl, j0, HJ, ht0, ht1, HTT, ⟨m2, rfl⟩⟩ := hrel
        have HWm : Aside0 (Below w.heap.size w (w2.drewN m2)) := ⟨HW2.out.trans ((Drawn0.mk ⟨m2, rfl⟩ : Drawn0 w2 (w2.drewN m2)).below.mono HW2.out.size)⟩
        by_cases c3 : j < x.length
        · obtain ⟨ad2, e2, hy0⟩ := Kd.at_int HC2.out j j0 c3
          cases e2
          have hrd := rd_i64 HI.out j j0 (by have := HXL.out; omega)
          obtain ⟨hneg, hpos⟩ := u64_size (rd y j) hrd
          have HSUC := Aside0.mk (absOf_succ y j j0 (by have := HXL.out; omega))
          have HJ' := Aside0.mk (HT.out (j + 1).toNat)
          have hstep : Aside0 (soFar ls i.toNat y (j + 1).toNat = t + if rd y j < 0 then -(rd y j) else rd y j) := ⟨by
            have h1 := HTT.out
            have h2 := HSUC.out
            unfold soFar at h1 ⊢
            rw [h2]
            omega⟩
          clear HSUC
          generalize rd y j = q at hy0 hrd hneg hpos hstep
          obtain ⟨q1, q2⟩ := hrd
          by_cases hq : q < 0
          · have hsz := hneg hq
            have hadd : ∀ W, (callFunc 38 #[.int .u64 t, .int .u64 (-q), .int .u64 0]).run Try.prog W = .ok (.value (.tuple #[.int .u64 (t + -q), .int .u64 0])) W := fun W => by
              have := add64_run t (-q) ht0 (by omega) (by omega) (by omega) W
              rwa [show (t + -q) % 18446744073709551616 = t + -q by omega, show (t + -q) / 18446744073709551616 = 0 by omega] at this
            rw [if_pos hq] at hstep
            clear hneg hpos
            by_cases hbig : 4611686018427387904 < t + -q
            · go_wp2_with fail
              go_ret
              refine ⟨?_, HWm.out⟩
              have h1 := HJ'.out
              rw [hstep.out] at h1
              rw [show fullL ls = true from by unfold fullL; exact decide_eq_true (by omega)]
              rfl
            · go_wp2_with fail
              go_roundg (gk - 1)
              case measure => have := HJ.out; omega
              case rel => exact ⟨j + 1, t + -q, rfl, rfl, by omega, ⟨by have := HJ.out; omega⟩, by omega, by omega, ⟨hstep.out.symm⟩, ⟨m2, rfl⟩⟩
          · have hsz := hpos (by omega)
            have hadd : ∀ W, (callFunc 38 #[.int .u64 t, .int .u64 q, .int .u64 0]).run Try.prog W = .ok (.value (.tuple #[.int .u64 (t + q), .int .u64 0])) W := fun W => by
              have := add64_run t q ht0 (by omega) (by omega) (by omega) W
              rwa [show (t + q) % 18446744073709551616 = t + q by omega, show (t + q) / 18446744073709551616 = 0 by omega] at this
            rw [if_neg hq] at hstep
            clear hneg hpos
            by_cases hbig : 4611686018427387904 < t + q
            · go_wp2_with fail
              go_ret
              refine ⟨?_, HWm.out⟩
              have h1 := HJ'.out
              rw [hstep.out] at h1
              rw [show fullL ls = true from by unfold fullL; exact decide_eq_true (by omega)]
              rfl
            · go_wp2_with fail
              go_roundg (gk - 1)
              case measure => have := HJ.out; omega
              case rel => exact ⟨j + 1, t + q, rfl, rfl, by omega, ⟨by have := HJ.out; omega⟩, by omega, by omega, ⟨hstep.out.symm⟩, ⟨m2, rfl⟩⟩
        · have hj : Aside0 (j.toNat = x.length) := ⟨by have := HJ.out; omega⟩
          go_wp2_with fail
          go_roundg (ko - 1)
          case measure => have := HK'.out; omega
          case rel => exact ⟨i + 1, t, rfl, rfl, by omega, ⟨by have := HK'.out; omega⟩, ht0, ht1, ⟨by
            rw [HTT.out, hj.out, show (i + 1).toNat = i.toNat + 1 by omega]
            exact (HN.out []).symm⟩, HWm⟩
    · have hil : Aside0 (i.toNat = ls.length) := ⟨by have := HK.out; omega⟩
      go_wp2_with fail
      go_ret
      refine ⟨?_, HW.out⟩
      have h1 := HS.out
      rw [hil.out] at h1
      have h2 : s = (ls.map absSum).sum := by rw [h1]; simp [soFar, absOf]
      rw [show fullL ls = false from by unfold fullL; exact decide_eq_false (by omega)]
      rfl
end Go.Proofs.Ytlmjopodghikgaa.Print
end
section
namespace Go.Proofs.Ytlmjopodghikgaa.Print
open Go.RowKit Go.Proofs.YtlmjopodghikgaaW.PrintWords Go.Proofs.YtlmjopodghikgaaW.PrintLast Go.Proofs.YtlmjopodghikgaaW.PrintMore
attribute [local go_sem] max2_int min2_int max_two min_two max_three min_three max_four min_four   -- for this text's walks alone
set_option linter.unusedVariables false
set_option linter.unusedSimpArgs false

/-! ### ledger_zero: function 21 -/
def ledger_zero.f (k : Nat) (l0 : List (S36)) : Option (Bool) := (ledger_litres.f k l0).bind fun t319 => ((exact_Sum.f t319).bind fun bt322 => (if bt322.2 = true then (some (bt322.1 == 0)) else (some false)))
set_option maxHeartbeats 8000000 in
set_option maxRecDepth 100000 in
theorem ledger_zero.calls (k : Nat) (A0 : Option Addr) (c0 : Nat) (l0 : List (S36)) (r : Bool) (w : World) (hr0 : Kd.C k36 w A0 l0.length l0) (hc0 : l0.length ≤ c0) (h : ledger_zero.f k l0 = some r) :
    Calls Try.prog 21 #[.slice A0 l0.length c0] w fun e w' => e = .returned (.bool r) ∧ Below w.heap.size w w' := by
  have HR0 := Aside0.mk hr0
  have HC0 := Aside0.mk hc0
  clear hr0 hc0
  have HB := Aside0.mk (Below.refl w.heap.size w)
  have H : ((ledger_litres.f k l0).bind fun t319 => ((exact_Sum.f t319).bind fun bt322 => (if bt322.2 = true then (some (bt322.1 == 0)) else (some false)))) = some r := h
  clear h
  replace H := Option.bind_eq_some_iff.mp H
  obtain ⟨t319, A20, H⟩ := H
  replace H : ((exact_Sum.f t319).bind fun bt322 => (if bt322.2 = true then (some (bt322.1 == 0)) else (some false))) = some r := H
  have A2 := Aside0.mk A20
  clear A20
  replace H := Option.bind_eq_some_iff.mp H
  obtain ⟨⟨t322, t323⟩, A30, H⟩ := H
  replace H : (if t323 = true then (some (t322 == 0)) else (some false)) = some r := H
  have A3 := Aside0.mk A30
  clear A30
  by_cases c4 : t323 = true
  · subst c4
    have H1 : (some (t322 == 0)) = some r := by rw [if_pos rfl] at H; exact H
    clear H
    have H := H1
    clear H1
    obtain rfl := Option.some.inj H
    go_enter Try.func21, Try.ntmps21
    go_wp2_with (first | ((with_reducible refine gate_callee (f := 28) rfl ?_); refine goesL_ (some 7) rfl rfl Try.func28 (by kernel_rfl) rfl #[.slice A0 l0.length c0] rfl (by (try simp only [List.map_toArray, List.map_cons, List.map_nil]); first | done | rfl | (simp only [List.length_drop, List.length_take]; rfl)) ?_; (with_reducible refine (ledger_litres.calls k _ _ l0 t319 _ ?side1 ?side2 A2.out).mono ?_); (case side1 => repeat (first | exact HR0.out | (with_reducible refine Kd.C_alloc ?_ _) | (with_reducible refine Kd.C_drewN ?_ _) | (with_reducible refine Kd.C_drew ?_))); (case side2 => exact HC0.out); rintro e w5 ⟨v320, rfl, ho0, hb⟩; refine ⟨_, rfl, ?_⟩; have n0_ := Aside0.mk (Kd.R_lower ho0 (below_size (by repeat (first | (with_reducible first | exact HB.out | apply below_alloc | apply pw_below_drewN | apply below_drew1) | exact HB.out)))); have n1_ := Aside0.mk (below_step (by repeat (first | (with_reducible first | exact HB.out | apply below_alloc | apply pw_below_drewN | apply below_drew1) | exact HB.out)) hb); clear HB; have HO321 := n0_; have HB := n1_; clear n0_ n1_; (try clear hb); (try clear hb2); (try clear hk); (try clear hi); (try clear ho0); obtain ⟨Ao6, co6, eo6⟩ := Kd.R_slice HO321.out; subst eo6) | ((with_reducible refine gate_callee (f := 27) rfl ?_); refine goesL_ (some 8) rfl rfl Try.func27 (by kernel_rfl) rfl #[.slice Ao6 t319.length co6] rfl (by (try simp only [List.map_toArray, List.map_cons, List.map_nil]); first | done | rfl | (simp only [List.length_drop, List.length_take]; rfl)) ?_; (with_reducible refine (exact_Sum.calls _ _ t319 t322 true _ ?side1 ?side2 A3.out).mono ?_); (case side1 => repeat (first | exact (Kd.R_reads' HO321.out).2.2 | (with_reducible refine Kd.C_alloc ?_ _) | (with_reducible refine Kd.C_drewN ?_ _) | (with_reducible refine Kd.C_drew ?_))); (case side2 => exact (Kd.R_reads' HO321.out).2.1); rintro e w' ⟨rfl, ⟨nd, rfl⟩⟩; refine ⟨_, rfl, ?_⟩))
    go_ret
    exact ⟨by first | rfl | (simp [errW_none, errW_some] <;> rfl) | (simp [*, errW_none, errW_some] <;> rfl), by repeat (first | (with_reducible first | exact HB.out | apply below_alloc | apply pw_below_drewN | apply below_drew1) | exact HB.out)⟩
  · replace c4 := Bool.eq_false_iff.mpr c4
    subst c4
    have H1 : (some false) = some r := by rw [if_neg (show ¬ (false = true) by decide)] at H; exact H
    clear H
    have H := H1
    clear H1
    obtain rfl := Option.some.inj H
    go_enter Try.func21, Try.ntmps21
    go_wp2_with (first | ((with_reducible refine gate_callee (f := 28) rfl ?_); refine goesL_ (some 7) rfl rfl Try.func28 (by kernel_rfl) rfl #[.slice A0 l0.length c0] rfl (by (try simp only [List.map_toArray, List.map_cons, List.map_nil]); first | done | rfl | (simp only [List.length_drop, List.length_take]; rfl)) ?_; (with_reducible refine (ledger_litres.calls k _ _ l0 t319 _ ?side1 ?side2 A2.out).mono ?_); (case side1 => repeat (first | exact HR0.out | (with_reducible refine Kd.C_alloc ?_ _) | (with_reducible refine Kd.C_drewN ?_ _) | (with_reducible refine Kd.C_drew ?_))); (case side2 => exact HC0.out); rintro e w7 ⟨v320, rfl, ho0, hb⟩; refine ⟨_, rfl, ?_⟩; have n0_ := Aside0.mk (Kd.R_lower ho0 (below_size (by repeat (first | (with_reducible first | exact HB.out | apply below_alloc | apply pw_below_drewN | apply below_drew1) | exact HB.out)))); have n1_ := Aside0.mk (below_step (by repeat (first | (with_reducible first | exact HB.out | apply below_alloc | apply pw_below_drewN | apply below_drew1) | exact HB.out)) hb); clear HB; have HO321 := n0_; have HB := n1_; clear n0_ n1_; (try clear hb); (try clear hb2); (try clear hk); (try clear hi); (try clear ho0); obtain ⟨Ao8, co8, eo8⟩ := Kd.R_slice HO321.out; subst eo8) | ((with_reducible refine gate_callee (f := 27) rfl ?_); refine goesL_ (some 8) rfl rfl Try.func27 (by kernel_rfl) rfl #[.slice Ao8 t319.length co8] rfl (by (try simp only [List.map_toArray, List.map_cons, List.map_nil]); first | done | rfl | (simp only [List.length_drop, List.length_take]; rfl)) ?_; (with_reducible refine (exact_Sum.calls _ _ t319 t322 false _ ?side1 ?side2 A3.out).mono ?_); (case side1 => repeat (first | exact (Kd.R_reads' HO321.out).2.2 | (with_reducible refine Kd.C_alloc ?_ _) | (with_reducible refine Kd.C_drewN ?_ _) | (with_reducible refine Kd.C_drew ?_))); (case side2 => exact (Kd.R_reads' HO321.out).2.1); rintro e w' ⟨rfl, ⟨nd, rfl⟩⟩; refine ⟨_, rfl, ?_⟩))
    go_ret
    exact ⟨by first | rfl | (simp [errW_none, errW_some] <;> rfl) | (simp [*, errW_none, errW_some] <;> rfl), by repeat (first | (with_reducible first | exact HB.out | apply below_alloc | apply pw_below_drewN | apply below_drew1) | exact HB.out)⟩

end Go.Proofs.Ytlmjopodghikgaa.Print
end
section
namespace Go.Proofs.Ytlmjopodghikgaa.Print
open Go.RowKit Go.Proofs.YtlmjopodghikgaaW.PrintWords Go.Proofs.YtlmjopodghikgaaW.PrintLast Go.Proofs.YtlmjopodghikgaaW.PrintMore
attribute [local go_sem] max2_int min2_int max_two min_two max_three min_three max_four min_four   -- for this text's walks alone
set_option linter.unusedVariables false
set_option linter.unusedSimpArgs false

/-! ### ledger_within: function 34 -/
def ledger_within.f (a0 : Int) (a1 : Int) (a2 : Int) : Option (Bool) := if a0 ≥ a1 then (some (decide (a0 ≤ a2))) else (some false)
set_option maxHeartbeats 8000000 in
set_option maxRecDepth 100000 in
theorem ledger_within.calls (a0 : Int) (a1 : Int) (a2 : Int) (r : Bool) (w : World) (h : ledger_within.f a0 a1 a2 = some r) :
    Calls Try.prog 34 #[.int .i64 a0, .int .i64 a1, .int .i64 a2] w fun e w' => e = .returned (.bool r) ∧ Drawn0 w w' := by
  have H : (if a0 ≥ a1 then (some (decide (a0 ≤ a2))) else (some false)) = some r := h
  clear h
  by_cases c4 : a0 ≥ a1
  · rw [if_pos c4] at H
    have c4b0 : decide (a1 ≤ a0) = true := decide_eq_true c4
    clear c4
    obtain rfl := Option.some.inj H
    go_enter Try.func34, Try.ntmps34
    go_wp2
    go_ret
    exact ⟨by first | rfl | (simp; done) | (simp [*]; done), by repeat (first | exact Drawn0.refl _ | apply Drawn0.step)⟩
  · rw [if_neg c4] at H
    have c4b0 : decide (a1 ≤ a0) = false := decide_eq_false c4
    clear c4
    obtain rfl := Option.some.inj H
    go_enter Try.func34, Try.ntmps34
    go_wp2
    go_ret
    exact ⟨by first | rfl | (simp; done) | (simp [*]; done), by repeat (first | exact Drawn0.refl _ | apply Drawn0.step)⟩

end Go.Proofs.Ytlmjopodghikgaa.Print
end
section
namespace Go.Proofs.Ytlmjopodghikgaa.Print
open Go.RowKit Go.Proofs.YtlmjopodghikgaaW.PrintWords Go.Proofs.YtlmjopodghikgaaW.PrintLast Go.Proofs.YtlmjopodghikgaaW.PrintMore
attribute [local go_sem] max2_int min2_int max_two min_two max_three min_three max_four min_four   -- for this text's walks alone
set_option linter.unusedVariables false
set_option linter.unusedSimpArgs false

/-! ### ledger_right: function 22 -/
def ledger_right.j0 : Nat → Bool → Int → Int → Int → Int → Int → Int → Int → Option (Bool)
  | 0, _, _, _, _, _, _, _, _ => none
  | k + 1, x3, x325000, x325001, x325002, x325003, x325004, x325005, x325006 => (ledger_within.f x325002 (-1) 15).bind fun t327 => (if t327 = true then ((ledger_within.f x325003 0 63).bind fun t328 => (if x3 = true then (if t328 = true then ((ledger_within.f x325004 (-1125899906842624) 1125899906842624).bind fun t329 => (if t329 = true then ((ledger_within.f x325005 0 3).bind fun t330 => (if t330 = true then (some (decide (x325006 ≥ 0))) else (some false))) else (some false))) else (some false)) else (some false))) else (if x3 = true then (some false) else (some false)))
def ledger_right.f (k : Nat) (a0_0 : Int) (a0_1 : Int) (a0_2 : Int) (a0_3 : Int) (a0_4 : Int) (a0_5 : Int) (a0_6 : Int) : Option (Bool) := (ledger_within.f a0_0 0 699050).bind fun t325 => (if t325 = true then ((ledger_within.f a0_1 0 16777216).bind fun t326 => (ledger_right.j0 k t326 a0_0 a0_1 a0_2 a0_3 a0_4 a0_5 a0_6)) else (ledger_right.j0 k false a0_0 a0_1 a0_2 a0_3 a0_4 a0_5 a0_6))
set_option maxHeartbeats 8000000 in
set_option maxRecDepth 100000 in
theorem ledger_right.calls (k : Nat) (a0_0 : Int) (a0_1 : Int) (a0_2 : Int) (a0_3 : Int) (a0_4 : Int) (a0_5 : Int) (a0_6 : Int) (r : Bool) (w : World) (h : ledger_right.f k a0_0 a0_1 a0_2 a0_3 a0_4 a0_5 a0_6 = some r) :
    Calls Try.prog 22 #[.agg #[.int .i64 a0_0, .int .i64 a0_1, .int .i64 a0_2, .int .i64 a0_3, .int .i64 a0_4, .int .i64 a0_5, .int .i64 a0_6]] w fun e w' => e = .returned (.bool r) ∧ Below w.heap.size w w' := by
  have hu36 := Try.underlying36
  have HB := Aside0.mk (Below.refl w.heap.size w)
  have H : ((ledger_within.f a0_0 0 699050).bind fun t325 => (if t325 = true then ((ledger_within.f a0_1 0 16777216).bind fun t326 => (ledger_right.j0 k t326 a0_0 a0_1 a0_2 a0_3 a0_4 a0_5 a0_6)) else (ledger_right.j0 k false a0_0 a0_1 a0_2 a0_3 a0_4 a0_5 a0_6))) = some r := h
  clear h
  have HC2 := Aside0.mk H
  clear H
  go_enter Try.func22, Try.ntmps22
  go_upto_region 1 with (first | ((with_reducible refine gate_dst (N := 1) rfl ?_); refine box_event ?hg (N := 1) ?hd (cs := #[.int .i64 a0_0, .int .i64 a0_1, .int .i64 a0_2, .int .i64 a0_3, .int .i64 a0_4, .int .i64 a0_5, .int .i64 a0_6]) (t := 36) ?hr ?_; (case hd => rfl); (case hg => rfl); (case hr => first | (go_simp; done) | (go_simp; rfl)); intro gb324 hg w3 hbox hb; have n0_ := Aside0.mk (below_step (by repeat (first | (with_reducible first | exact HB.out | apply below_alloc | apply pw_below_drewN | apply below_drew1) | exact HB.out)) hb); have n1_ := Aside0.mk (hbox); have n2_ := Aside0.mk ((by rw [hg]; exact (below_size (by repeat (first | (with_reducible first | exact HB.out | apply below_alloc | apply pw_below_drewN | apply below_drew1) | exact HB.out))) : w.heap.size ≤ gb324)); have n3_ := Aside0.mk ((by rw [hg]; exact (below_size (by repeat (first | (with_reducible first | exact HB.out | apply below_alloc | apply pw_below_drewN | apply below_drew1) | exact HB.out))) : w.heap.size ≤ gb324)); clear HB; have HB := n0_; have BK324 := n1_; have GW324 := n2_; have GE324 := n3_; clear n0_ n1_ n2_ n3_; clear hb hbox hg))
  (try simp only [Act.put, List.setIfInBounds_toArray, List.set_cons_zero, List.set_cons_succ])
  go_cut [3] (fun v3 wc => ∃ (kq : Nat) (x3_1 : Bool), v3 = .bool x3_1 ∧ Aside0 (ledger_right.j0 kq x3_1 a0_0 a0_1 a0_2 a0_3 a0_4 a0_5 a0_6 = some r) ∧ Aside0 (kq ≤ k) ∧ Aside0 (wc.heap[gb324]? = some (.cells #[.int .i64 a0_0, .int .i64 a0_1, .int .i64 a0_2, .int .i64 a0_3, .int .i64 a0_4, .int .i64 a0_5, .int .i64 a0_6] 36 (0, 0))) ∧ Aside0 (Below w.heap.size w wc))
  case first =>
    have H := HC2.out
    clear HC2
    replace H := Option.bind_eq_some_iff.mp H
    obtain ⟨t325, A40, H⟩ := H
    replace H : (if t325 = true then ((ledger_within.f a0_1 0 16777216).bind fun t326 => (ledger_right.j0 k t326 a0_0 a0_1 a0_2 a0_3 a0_4 a0_5 a0_6)) else (ledger_right.j0 k false a0_0 a0_1 a0_2 a0_3 a0_4 a0_5 a0_6)) = some r := H
    have A4 := Aside0.mk A40
    clear A40
    by_cases c5 : t325 = true
    · subst c5
      have H1 : ((ledger_within.f a0_1 0 16777216).bind fun t326 => (ledger_right.j0 k t326 a0_0 a0_1 a0_2 a0_3 a0_4 a0_5 a0_6)) = some r := by rw [if_pos rfl] at H; exact H
      clear H
      have H := H1
      clear H1
      replace H := Option.bind_eq_some_iff.mp H
      obtain ⟨t326, A60, H⟩ := H
      replace H : (ledger_right.j0 k t326 a0_0 a0_1 a0_2 a0_3 a0_4 a0_5 a0_6) = some r := H
      have A6 := Aside0.mk A60
      clear A60
      have H' := Aside0.mk H
      clear H
      have hcz7_0 : w3.cell? ⟨gb324, 0, none⟩ = some (.int .i64 a0_0) := (blk_cell BK324.out 0).trans rfl
      have hcz7_1 : w3.cell? ⟨gb324, 1, none⟩ = some (.int .i64 a0_1) := (blk_cell BK324.out 1).trans rfl
      have hcz7_2 : w3.cell? ⟨gb324, 2, none⟩ = some (.int .i64 a0_2) := (blk_cell BK324.out 2).trans rfl
      have hcz7_3 : w3.cell? ⟨gb324, 3, none⟩ = some (.int .i64 a0_3) := (blk_cell BK324.out 3).trans rfl
      have hcz7_4 : w3.cell? ⟨gb324, 4, none⟩ = some (.int .i64 a0_4) := (blk_cell BK324.out 4).trans rfl
      have hcz7_5 : w3.cell? ⟨gb324, 5, none⟩ = some (.int .i64 a0_5) := (blk_cell BK324.out 5).trans rfl
      have hcz7_6 : w3.cell? ⟨gb324, 6, none⟩ = some (.int .i64 a0_6) := (blk_cell BK324.out 6).trans rfl
      have hfz7_0 := blk_frozen BK324.out 0
      have hfz7_1 := blk_frozen BK324.out 1
      have hfz7_2 := blk_frozen BK324.out 2
      have hfz7_3 := blk_frozen BK324.out 3
      have hfz7_4 := blk_frozen BK324.out 4
      have hfz7_5 := blk_frozen BK324.out 5
      have hfz7_6 := blk_frozen BK324.out 6
      go_wp2_with (first | ((with_reducible refine gate_callee (f := 34) rfl ?_); refine goesL_ (some 7) rfl rfl Try.func34 (by kernel_rfl) rfl #[.int .i64 a0_0, .int .i64 0, .int .i64 699050] rfl (by (try simp only [List.map_toArray, List.map_cons, List.map_nil]); first | done | rfl | (simp only [List.length_drop, List.length_take]; rfl)) ?_; (with_reducible refine (ledger_within.calls a0_0 0 699050 true _ A4.out).mono ?_); rintro e w' ⟨rfl, ⟨nd, rfl⟩⟩; refine ⟨_, rfl, ?_⟩) | (go_at_call 34; (with_reducible refine (ledger_within.calls a0_1 0 16777216 t326 _ A6.out).mono ?_); rintro e w' ⟨rfl, ⟨nd, rfl⟩⟩))
      go_meet
      case rel => exact ⟨_, (t326), (by first | rfl | (simp; done) | (simp [*]; done)), H', ⟨by first | omega | exact Nat.le_refl _⟩, ⟨by (with_reducible repeat (first | refine blk_drewN ?_ _ | refine blk_drew ?_ | refine blk_alloc ?_ _)); exact BK324.out⟩, ⟨by repeat (first | (with_reducible first | exact HB.out | apply below_alloc | apply pw_below_drewN | apply below_drew1 | refine below_set ?_ GE324.out) | exact HB.out)⟩⟩
    · replace c5 := Bool.eq_false_iff.mpr c5
      subst c5
      have H1 : (ledger_right.j0 k false a0_0 a0_1 a0_2 a0_3 a0_4 a0_5 a0_6) = some r := by rw [if_neg (show ¬ (false = true) by decide)] at H; exact H
      clear H
      have H := H1
      clear H1
      have H' := Aside0.mk H
      clear H
      have hcz8_0 : w3.cell? ⟨gb324, 0, none⟩ = some (.int .i64 a0_0) := (blk_cell BK324.out 0).trans rfl
      have hcz8_1 : w3.cell? ⟨gb324, 1, none⟩ = some (.int .i64 a0_1) := (blk_cell BK324.out 1).trans rfl
      have hcz8_2 : w3.cell? ⟨gb324, 2, none⟩ = some (.int .i64 a0_2) := (blk_cell BK324.out 2).trans rfl
      have hcz8_3 : w3.cell? ⟨gb324, 3, none⟩ = some (.int .i64 a0_3) := (blk_cell BK324.out 3).trans rfl
      have hcz8_4 : w3.cell? ⟨gb324, 4, none⟩ = some (.int .i64 a0_4) := (blk_cell BK324.out 4).trans rfl
      have hcz8_5 : w3.cell? ⟨gb324, 5, none⟩ = some (.int .i64 a0_5) := (blk_cell BK324.out 5).trans rfl
      have hcz8_6 : w3.cell? ⟨gb324, 6, none⟩ = some (.int .i64 a0_6) := (blk_cell BK324.out 6).trans rfl
      have hfz8_0 := blk_frozen BK324.out 0
      have hfz8_1 := blk_frozen BK324.out 1
      have hfz8_2 := blk_frozen BK324.out 2
      have hfz8_3 := blk_frozen BK324.out 3
      have hfz8_4 := blk_frozen BK324.out 4
      have hfz8_5 := blk_frozen BK324.out 5
      have hfz8_6 := blk_frozen BK324.out 6
      go_wp2_with (first | ((with_reducible refine gate_callee (f := 34) rfl ?_); refine goesL_ (some 7) rfl rfl Try.func34 (by kernel_rfl) rfl #[.int .i64 a0_0, .int .i64 0, .int .i64 699050] rfl (by (try simp only [List.map_toArray, List.map_cons, List.map_nil]); first | done | rfl | (simp only [List.length_drop, List.length_take]; rfl)) ?_; (with_reducible refine (ledger_within.calls a0_0 0 699050 false _ A4.out).mono ?_); rintro e w' ⟨rfl, ⟨nd, rfl⟩⟩; refine ⟨_, rfl, ?_⟩))
      go_meet
      case rel => exact ⟨_, (false), (by first | rfl | (simp; done) | (simp [*]; done)), H', ⟨by first | omega | exact Nat.le_refl _⟩, ⟨by (with_reducible repeat (first | refine blk_drewN ?_ _ | refine blk_drew ?_ | refine blk_alloc ?_ _)); exact BK324.out⟩, ⟨by repeat (first | (with_reducible first | exact HB.out | apply below_alloc | apply pw_below_drewN | apply below_drew1 | refine below_set ?_ GE324.out) | exact HB.out)⟩⟩
  case rest =>
    clear HC2
    try clear c2
    try clear p2
    try clear c3
    try clear c5
    try clear hcz7_0
    try clear hcz7_1
    try clear hcz7_2
    try clear hcz7_3
    try clear hcz7_4
    try clear hcz7_5
    try clear hcz7_6
    try clear hcz8_0
    try clear hcz8_1
    try clear hcz8_2
    try clear hcz8_3
    try clear hcz8_4
    try clear hcz8_5
    try clear hcz8_6
    try clear hfz7_0
    try clear hfz7_1
    try clear hfz7_2
    try clear hfz7_3
    try clear hfz7_4
    try clear hfz7_5
    try clear hfz7_6
    try clear hfz8_0
    try clear hfz8_1
    try clear hfz8_2
    try clear hfz8_3
    try clear hfz8_4
    try clear hfz8_5
    try clear hfz8_6
    obtain ⟨kq, x3_1, rfl, HA, HJ1, BK324, HB⟩ := hcut
    cases kq with
    | zero => exact absurd HA.out (by simp [ledger_right.j0])
    | succ kj1 =>
      have H := HA.out
      clear HA
      simp only [ledger_right.j0] at H
      replace H := Option.bind_eq_some_iff.mp H
      obtain ⟨t327, A90, H⟩ := H
      replace H : (if t327 = true then ((ledger_within.f a0_3 0 63).bind fun t328 => (if x3_1 = true then (if t328 = true then ((ledger_within.f a0_4 (-1125899906842624) 1125899906842624).bind fun t329 => (if t329 = true then ((ledger_within.f a0_5 0 3).bind fun t330 => (if t330 = true then (some (decide (a0_6 ≥ 0))) else (some false))) else (some false))) else (some false)) else (some false))) else (if x3_1 = true then (some false) else (some false))) = some r := H
      have A9 := Aside0.mk A90
      clear A90
      by_cases c10 : t327 = true
      · subst c10
        have H1 : ((ledger_within.f a0_3 0 63).bind fun t328 => (if x3_1 = true then (if t328 = true then ((ledger_within.f a0_4 (-1125899906842624) 1125899906842624).bind fun t329 => (if t329 = true then ((ledger_within.f a0_5 0 3).bind fun t330 => (if t330 = true then (some (decide (a0_6 ≥ 0))) else (some false))) else (some false))) else (some false)) else (some false))) = some r := by rw [if_pos rfl] at H; exact H
        clear H
        have H := H1
        clear H1
        replace H := Option.bind_eq_some_iff.mp H
        obtain ⟨t328, A110, H⟩ := H
        replace H : (if x3_1 = true then (if t328 = true then ((ledger_within.f a0_4 (-1125899906842624) 1125899906842624).bind fun t329 => (if t329 = true then ((ledger_within.f a0_5 0 3).bind fun t330 => (if t330 = true then (some (decide (a0_6 ≥ 0))) else (some false))) else (some false))) else (some false)) else (some false)) = some r := H
        have A11 := Aside0.mk A110
        clear A110
        by_cases c12 : x3_1 = true
        · subst c12
          have H1 : (if t328 = true then ((ledger_within.f a0_4 (-1125899906842624) 1125899906842624).bind fun t329 => (if t329 = true then ((ledger_within.f a0_5 0 3).bind fun t330 => (if t330 = true then (some (decide (a0_6 ≥ 0))) else (some false))) else (some false))) else (some false)) = some r := by rw [if_pos rfl] at H; exact H
          clear H
          have H := H1
          clear H1
          by_cases c13 : t328 = true
          · subst c13
            have H1 : ((ledger_within.f a0_4 (-1125899906842624) 1125899906842624).bind fun t329 => (if t329 = true then ((ledger_within.f a0_5 0 3).bind fun t330 => (if t330 = true then (some (decide (a0_6 ≥ 0))) else (some false))) else (some false))) = some r := by rw [if_pos rfl] at H; exact H
            clear H
            have H := H1
            clear H1
            replace H := Option.bind_eq_some_iff.mp H
            obtain ⟨t329, A140, H⟩ := H
            replace H : (if t329 = true then ((ledger_within.f a0_5 0 3).bind fun t330 => (if t330 = true then (some (decide (a0_6 ≥ 0))) else (some false))) else (some false)) = some r := H
            have A14 := Aside0.mk A140
            clear A140
            by_cases c15 : t329 = true
            · subst c15
              have H1 : ((ledger_within.f a0_5 0 3).bind fun t330 => (if t330 = true then (some (decide (a0_6 ≥ 0))) else (some false))) = some r := by rw [if_pos rfl] at H; exact H
              clear H
              have H := H1
              clear H1
              replace H := Option.bind_eq_some_iff.mp H
              obtain ⟨t330, A160, H⟩ := H
              replace H : (if t330 = true then (some (decide (a0_6 ≥ 0))) else (some false)) = some r := H
              have A16 := Aside0.mk A160
              clear A160
              by_cases c17 : t330 = true
              · subst c17
                have H1 : (some (decide (a0_6 ≥ 0))) = some r := by rw [if_pos rfl] at H; exact H
                clear H
                have H := H1
                clear H1
                obtain rfl := Option.some.inj H
                have hcz18_0 : wc.cell? ⟨gb324, 0, none⟩ = some (.int .i64 a0_0) := (blk_cell BK324.out 0).trans rfl
                have hcz18_1 : wc.cell? ⟨gb324, 1, none⟩ = some (.int .i64 a0_1) := (blk_cell BK324.out 1).trans rfl
                have hcz18_2 : wc.cell? ⟨gb324, 2, none⟩ = some (.int .i64 a0_2) := (blk_cell BK324.out 2).trans rfl
                have hcz18_3 : wc.cell? ⟨gb324, 3, none⟩ = some (.int .i64 a0_3) := (blk_cell BK324.out 3).trans rfl
                have hcz18_4 : wc.cell? ⟨gb324, 4, none⟩ = some (.int .i64 a0_4) := (blk_cell BK324.out 4).trans rfl
                have hcz18_5 : wc.cell? ⟨gb324, 5, none⟩ = some (.int .i64 a0_5) := (blk_cell BK324.out 5).trans rfl
                have hcz18_6 : wc.cell? ⟨gb324, 6, none⟩ = some (.int .i64 a0_6) := (blk_cell BK324.out 6).trans rfl
                have hfz18_0 := blk_frozen BK324.out 0
                have hfz18_1 := blk_frozen BK324.out 1
                have hfz18_2 := blk_frozen BK324.out 2
                have hfz18_3 := blk_frozen BK324.out 3
                have hfz18_4 := blk_frozen BK324.out 4
                have hfz18_5 := blk_frozen BK324.out 5
                have hfz18_6 := blk_frozen BK324.out 6
                go_wp2_with (first | ((with_reducible refine gate_callee (f := 34) rfl ?_); refine goesL_ (some 15) rfl rfl Try.func34 (by kernel_rfl) rfl #[.int .i64 a0_2, .int .i64 (-1), .int .i64 15] rfl (by (try simp only [List.map_toArray, List.map_cons, List.map_nil]); first | done | rfl | (simp only [List.length_drop, List.length_take]; rfl)) ?_; (with_reducible refine (ledger_within.calls a0_2 (-1) 15 true _ A9.out).mono ?_); rintro e w' ⟨rfl, ⟨nd, rfl⟩⟩; refine ⟨_, rfl, ?_⟩) | (go_at_call 34; (with_reducible refine (ledger_within.calls a0_3 0 63 true _ A11.out).mono ?_); rintro e w' ⟨rfl, ⟨nd, rfl⟩⟩) | (go_at_call 34; (with_reducible refine (ledger_within.calls a0_4 (-1125899906842624) 1125899906842624 true _ A14.out).mono ?_); rintro e w' ⟨rfl, ⟨nd, rfl⟩⟩) | (go_at_call 34; (with_reducible refine (ledger_within.calls a0_5 0 3 true _ A16.out).mono ?_); rintro e w' ⟨rfl, ⟨nd, rfl⟩⟩))
                go_ret
                exact ⟨by first | rfl | (simp [errW_none, errW_some] <;> rfl) | (simp [*, errW_none, errW_some] <;> rfl), by repeat (first | (with_reducible first | exact HB.out | apply below_alloc | apply pw_below_drewN | apply below_drew1 | refine below_set ?_ GE324.out) | exact HB.out)⟩
              · replace c17 := Bool.eq_false_iff.mpr c17
                subst c17
                have H1 : (some false) = some r := by rw [if_neg (show ¬ (false = true) by decide)] at H; exact H
                clear H
                have H := H1
                clear H1
                obtain rfl := Option.some.inj H
                have hcz19_0 : wc.cell? ⟨gb324, 0, none⟩ = some (.int .i64 a0_0) := (blk_cell BK324.out 0).trans rfl
                have hcz19_1 : wc.cell? ⟨gb324, 1, none⟩ = some (.int .i64 a0_1) := (blk_cell BK324.out 1).trans rfl
                have hcz19_2 : wc.cell? ⟨gb324, 2, none⟩ = some (.int .i64 a0_2) := (blk_cell BK324.out 2).trans rfl
                have hcz19_3 : wc.cell? ⟨gb324, 3, none⟩ = some (.int .i64 a0_3) := (blk_cell BK324.out 3).trans rfl
                have hcz19_4 : wc.cell? ⟨gb324, 4, none⟩ = some (.int .i64 a0_4) := (blk_cell BK324.out 4).trans rfl
                have hcz19_5 : wc.cell? ⟨gb324, 5, none⟩ = some (.int .i64 a0_5) := (blk_cell BK324.out 5).trans rfl
                have hcz19_6 : wc.cell? ⟨gb324, 6, none⟩ = some (.int .i64 a0_6) := (blk_cell BK324.out 6).trans rfl
                have hfz19_0 := blk_frozen BK324.out 0
                have hfz19_1 := blk_frozen BK324.out 1
                have hfz19_2 := blk_frozen BK324.out 2
                have hfz19_3 := blk_frozen BK324.out 3
                have hfz19_4 := blk_frozen BK324.out 4
                have hfz19_5 := blk_frozen BK324.out 5
                have hfz19_6 := blk_frozen BK324.out 6
                go_wp2_with (first | ((with_reducible refine gate_callee (f := 34) rfl ?_); refine goesL_ (some 15) rfl rfl Try.func34 (by kernel_rfl) rfl #[.int .i64 a0_2, .int .i64 (-1), .int .i64 15] rfl (by (try simp only [List.map_toArray, List.map_cons, List.map_nil]); first | done | rfl | (simp only [List.length_drop, List.length_take]; rfl)) ?_; (with_reducible refine (ledger_within.calls a0_2 (-1) 15 true _ A9.out).mono ?_); rintro e w' ⟨rfl, ⟨nd, rfl⟩⟩; refine ⟨_, rfl, ?_⟩) | (go_at_call 34; (with_reducible refine (ledger_within.calls a0_3 0 63 true _ A11.out).mono ?_); rintro e w' ⟨rfl, ⟨nd, rfl⟩⟩) | (go_at_call 34; (with_reducible refine (ledger_within.calls a0_4 (-1125899906842624) 1125899906842624 true _ A14.out).mono ?_); rintro e w' ⟨rfl, ⟨nd, rfl⟩⟩) | (go_at_call 34; (with_reducible refine (ledger_within.calls a0_5 0 3 false _ A16.out).mono ?_); rintro e w' ⟨rfl, ⟨nd, rfl⟩⟩))
                go_ret
                exact ⟨by first | rfl | (simp [errW_none, errW_some] <;> rfl) | (simp [*, errW_none, errW_some] <;> rfl), by repeat (first | (with_reducible first | exact HB.out | apply below_alloc | apply pw_below_drewN | apply below_drew1 | refine below_set ?_ GE324.out) | exact HB.out)⟩
            · replace c15 := Bool.eq_false_iff.mpr c15
              subst c15
              have H1 : (some false) = some r := by rw [if_neg (show ¬ (false = true) by decide)] at H; exact H
              clear H
              have H := H1
              clear H1
              obtain rfl := Option.some.inj H
              have hcz20_0 : wc.cell? ⟨gb324, 0, none⟩ = some (.int .i64 a0_0) := (blk_cell BK324.out 0).trans rfl
              have hcz20_1 : wc.cell? ⟨gb324, 1, none⟩ = some (.int .i64 a0_1) := (blk_cell BK324.out 1).trans rfl
              have hcz20_2 : wc.cell? ⟨gb324, 2, none⟩ = some (.int .i64 a0_2) := (blk_cell BK324.out 2).trans rfl
              have hcz20_3 : wc.cell? ⟨gb324, 3, none⟩ = some (.int .i64 a0_3) := (blk_cell BK324.out 3).trans rfl
              have hcz20_4 : wc.cell? ⟨gb324, 4, none⟩ = some (.int .i64 a0_4) := (blk_cell BK324.out 4).trans rfl
              have hcz20_5 : wc.cell? ⟨gb324, 5, none⟩ = some (.int .i64 a0_5) := (blk_cell BK324.out 5).trans rfl
              have hcz20_6 : wc.cell? ⟨gb324, 6, none⟩ = some (.int .i64 a0_6) := (blk_cell BK324.out 6).trans rfl
              have hfz20_0 := blk_frozen BK324.out 0
              have hfz20_1 := blk_frozen BK324.out 1
              have hfz20_2 := blk_frozen BK324.out 2
              have hfz20_3 := blk_frozen BK324.out 3
              have hfz20_4 := blk_frozen BK324.out 4
              have hfz20_5 := blk_frozen BK324.out 5
              have hfz20_6 := blk_frozen BK324.out 6
              go_wp2_with (first | ((with_reducible refine gate_callee (f := 34) rfl ?_); refine goesL_ (some 15) rfl rfl Try.func34 (by kernel_rfl) rfl #[.int .i64 a0_2, .int .i64 (-1), .int .i64 15] rfl (by (try simp only [List.map_toArray, List.map_cons, List.map_nil]); first | done | rfl | (simp only [List.length_drop, List.length_take]; rfl)) ?_; (with_reducible refine (ledger_within.calls a0_2 (-1) 15 true _ A9.out).mono ?_); rintro e w' ⟨rfl, ⟨nd, rfl⟩⟩; refine ⟨_, rfl, ?_⟩) | (go_at_call 34; (with_reducible refine (ledger_within.calls a0_3 0 63 true _ A11.out).mono ?_); rintro e w' ⟨rfl, ⟨nd, rfl⟩⟩) | (go_at_call 34; (with_reducible refine (ledger_within.calls a0_4 (-1125899906842624) 1125899906842624 false _ A14.out).mono ?_); rintro e w' ⟨rfl, ⟨nd, rfl⟩⟩))
              go_ret
              exact ⟨by first | rfl | (simp [errW_none, errW_some] <;> rfl) | (simp [*, errW_none, errW_some] <;> rfl), by repeat (first | (with_reducible first | exact HB.out | apply below_alloc | apply pw_below_drewN | apply below_drew1 | refine below_set ?_ GE324.out) | exact HB.out)⟩
          · replace c13 := Bool.eq_false_iff.mpr c13
            subst c13
            have H1 : (some false) = some r := by rw [if_neg (show ¬ (false = true) by decide)] at H; exact H
            clear H
            have H := H1
            clear H1
            obtain rfl := Option.some.inj H
            have hcz21_0 : wc.cell? ⟨gb324, 0, none⟩ = some (.int .i64 a0_0) := (blk_cell BK324.out 0).trans rfl
            have hcz21_1 : wc.cell? ⟨gb324, 1, none⟩ = some (.int .i64 a0_1) := (blk_cell BK324.out 1).trans rfl
            have hcz21_2 : wc.cell? ⟨gb324, 2, none⟩ = some (.int .i64 a0_2) := (blk_cell BK324.out 2).trans rfl
            have hcz21_3 : wc.cell? ⟨gb324, 3, none⟩ = some (.int .i64 a0_3) := (blk_cell BK324.out 3).trans rfl
            have hcz21_4 : wc.cell? ⟨gb324, 4, none⟩ = some (.int .i64 a0_4) := (blk_cell BK324.out 4).trans rfl
            have hcz21_5 : wc.cell? ⟨gb324, 5, none⟩ = some (.int .i64 a0_5) := (blk_cell BK324.out 5).trans rfl
            have hcz21_6 : wc.cell? ⟨gb324, 6, none⟩ = some (.int .i64 a0_6) := (blk_cell BK324.out 6).trans rfl
            have hfz21_0 := blk_frozen BK324.out 0
            have hfz21_1 := blk_frozen BK324.out 1
            have hfz21_2 := blk_frozen BK324.out 2
            have hfz21_3 := blk_frozen BK324.out 3
            have hfz21_4 := blk_frozen BK324.out 4
            have hfz21_5 := blk_frozen BK324.out 5
            have hfz21_6 := blk_frozen BK324.out 6
            go_wp2_with (first | ((with_reducible refine gate_callee (f := 34) rfl ?_); refine goesL_ (some 15) rfl rfl Try.func34 (by kernel_rfl) rfl #[.int .i64 a0_2, .int .i64 (-1), .int .i64 15] rfl (by (try simp only [List.map_toArray, List.map_cons, List.map_nil]); first | done | rfl | (simp only [List.length_drop, List.length_take]; rfl)) ?_; (with_reducible refine (ledger_within.calls a0_2 (-1) 15 true _ A9.out).mono ?_); rintro e w' ⟨rfl, ⟨nd, rfl⟩⟩; refine ⟨_, rfl, ?_⟩) | (go_at_call 34; (with_reducible refine (ledger_within.calls a0_3 0 63 false _ A11.out).mono ?_); rintro e w' ⟨rfl, ⟨nd, rfl⟩⟩))
            go_ret
            exact ⟨by first | rfl | (simp [errW_none, errW_some] <;> rfl) | (simp [*, errW_none, errW_some] <;> rfl), by repeat (first | (with_reducible first | exact HB.out | apply below_alloc | apply pw_below_drewN | apply below_drew1 | refine below_set ?_ GE324.out) | exact HB.out)⟩
        · replace c12 := Bool.eq_false_iff.mpr c12
          subst c12
          have H1 : (some false) = some r := by rw [if_neg (show ¬ (false = true) by decide)] at H; exact H
          clear H
          have H := H1
          clear H1
          obtain rfl := Option.some.inj H
          have hcz22_0 : wc.cell? ⟨gb324, 0, none⟩ = some (.int .i64 a0_0) := (blk_cell BK324.out 0).trans rfl
          have hcz22_1 : wc.cell? ⟨gb324, 1, none⟩ = some (.int .i64 a0_1) := (blk_cell BK324.out 1).trans rfl
          have hcz22_2 : wc.cell? ⟨gb324, 2, none⟩ = some (.int .i64 a0_2) := (blk_cell BK324.out 2).trans rfl
          have hcz22_3 : wc.cell? ⟨gb324, 3, none⟩ = some (.int .i64 a0_3) := (blk_cell BK324.out 3).trans rfl
          have hcz22_4 : wc.cell? ⟨gb324, 4, none⟩ = some (.int .i64 a0_4) := (blk_cell BK324.out 4).trans rfl
          have hcz22_5 : wc.cell? ⟨gb324, 5, none⟩ = some (.int .i64 a0_5) := (blk_cell BK324.out 5).trans rfl
          have hcz22_6 : wc.cell? ⟨gb324, 6, none⟩ = some (.int .i64 a0_6) := (blk_cell BK324.out 6).trans rfl
          have hfz22_0 := blk_frozen BK324.out 0
          have hfz22_1 := blk_frozen BK324.out 1
          have hfz22_2 := blk_frozen BK324.out 2
          have hfz22_3 := blk_frozen BK324.out 3
          have hfz22_4 := blk_frozen BK324.out 4
          have hfz22_5 := blk_frozen BK324.out 5
          have hfz22_6 := blk_frozen BK324.out 6
          go_wp2_with (first | ((with_reducible refine gate_callee (f := 34) rfl ?_); refine goesL_ (some 15) rfl rfl Try.func34 (by kernel_rfl) rfl #[.int .i64 a0_2, .int .i64 (-1), .int .i64 15] rfl (by (try simp only [List.map_toArray, List.map_cons, List.map_nil]); first | done | rfl | (simp only [List.length_drop, List.length_take]; rfl)) ?_; (with_reducible refine (ledger_within.calls a0_2 (-1) 15 true _ A9.out).mono ?_); rintro e w' ⟨rfl, ⟨nd, rfl⟩⟩; refine ⟨_, rfl, ?_⟩) | (go_at_call 34; (with_reducible refine (ledger_within.calls a0_3 0 63 t328 _ A11.out).mono ?_); rintro e w' ⟨rfl, ⟨nd, rfl⟩⟩))
          go_ret
          exact ⟨by first | rfl | (simp [errW_none, errW_some] <;> rfl) | (simp [*, errW_none, errW_some] <;> rfl), by repeat (first | (with_reducible first | exact HB.out | apply below_alloc | apply pw_below_drewN | apply below_drew1 | refine below_set ?_ GE324.out) | exact HB.out)⟩
      · replace c10 := Bool.eq_false_iff.mpr c10
        subst c10
        have H1 : (if x3_1 = true then (some false) else (some false)) = some r := by rw [if_neg (show ¬ (false = true) by decide)] at H; exact H
        clear H
        have H := H1
        clear H1
        by_cases c23 : x3_1 = true
        · subst c23
          have H1 : (some false) = some r := by rw [if_pos rfl] at H; exact H
          clear H
          have H := H1
          clear H1
          obtain rfl := Option.some.inj H
          have hcz24_0 : wc.cell? ⟨gb324, 0, none⟩ = some (.int .i64 a0_0) := (blk_cell BK324.out 0).trans rfl
          have hcz24_1 : wc.cell? ⟨gb324, 1, none⟩ = some (.int .i64 a0_1) := (blk_cell BK324.out 1).trans rfl
          have hcz24_2 : wc.cell? ⟨gb324, 2, none⟩ = some (.int .i64 a0_2) := (blk_cell BK324.out 2).trans rfl
          have hcz24_3 : wc.cell? ⟨gb324, 3, none⟩ = some (.int .i64 a0_3) := (blk_cell BK324.out 3).trans rfl
          have hcz24_4 : wc.cell? ⟨gb324, 4, none⟩ = some (.int .i64 a0_4) := (blk_cell BK324.out 4).trans rfl
          have hcz24_5 : wc.cell? ⟨gb324, 5, none⟩ = some (.int .i64 a0_5) := (blk_cell BK324.out 5).trans rfl
          have hcz24_6 : wc.cell? ⟨gb324, 6, none⟩ = some (.int .i64 a0_6) := (blk_cell BK324.out 6).trans rfl
          have hfz24_0 := blk_frozen BK324.out 0
          have hfz24_1 := blk_frozen BK324.out 1
          have hfz24_2 := blk_frozen BK324.out 2
          have hfz24_3 := blk_frozen BK324.out 3
          have hfz24_4 := blk_frozen BK324.out 4
          have hfz24_5 := blk_frozen BK324.out 5
          have hfz24_6 := blk_frozen BK324.out 6
          go_wp2_with (first | ((with_reducible refine gate_callee (f := 34) rfl ?_); refine goesL_ (some 15) rfl rfl Try.func34 (by kernel_rfl) rfl #[.int .i64 a0_2, .int .i64 (-1), .int .i64 15] rfl (by (try simp only [List.map_toArray, List.map_cons, List.map_nil]); first | done | rfl | (simp only [List.length_drop, List.length_take]; rfl)) ?_; (with_reducible refine (ledger_within.calls a0_2 (-1) 15 false _ A9.out).mono ?_); rintro e w' ⟨rfl, ⟨nd, rfl⟩⟩; refine ⟨_, rfl, ?_⟩))
          go_ret
          exact ⟨by first | rfl | (simp [errW_none, errW_some] <;> rfl) | (simp [*, errW_none, errW_some] <;> rfl), by repeat (first | (with_reducible first | exact HB.out | apply below_alloc | apply pw_below_drewN | apply below_drew1 | refine below_set ?_ GE324.out) | exact HB.out)⟩
        · replace c23 := Bool.eq_false_iff.mpr c23
          subst c23
          have H1 : (some false) = some r := by rw [if_neg (show ¬ (false = true) by decide)] at H; exact H
          clear H
          have H := H1
          clear H1
          obtain rfl := Option.some.inj H
          have hcz25_0 : wc.cell? ⟨gb324, 0, none⟩ = some (.int .i64 a0_0) := (blk_cell BK324.out 0).trans rfl
          have hcz25_1 : wc.cell? ⟨gb324, 1, none⟩ = some (.int .i64 a0_1) := (blk_cell BK324.out 1).trans rfl
          have hcz25_2 : wc.cell? ⟨gb324, 2, none⟩ = some (.int .i64 a0_2) := (blk_cell BK324.out 2).trans rfl
          have hcz25_3 : wc.cell? ⟨gb324, 3, none⟩ = some (.int .i64 a0_3) := (blk_cell BK324.out 3).trans rfl
          have hcz25_4 : wc.cell? ⟨gb324, 4, none⟩ = some (.int .i64 a0_4) := (blk_cell BK324.out 4).trans rfl
          have hcz25_5 : wc.cell? ⟨gb324, 5, none⟩ = some (.int .i64 a0_5) := (blk_cell BK324.out 5).trans rfl
          have hcz25_6 : wc.cell? ⟨gb324, 6, none⟩ = some (.int .i64 a0_6) := (blk_cell BK324.out 6).trans rfl
          have hfz25_0 := blk_frozen BK324.out 0
          have hfz25_1 := blk_frozen BK324.out 1
          have hfz25_2 := blk_frozen BK324.out 2
          have hfz25_3 := blk_frozen BK324.out 3
          have hfz25_4 := blk_frozen BK324.out 4
          have hfz25_5 := blk_frozen BK324.out 5
          have hfz25_6 := blk_frozen BK324.out 6
          go_wp2_with (first | ((with_reducible refine gate_callee (f := 34) rfl ?_); refine goesL_ (some 15) rfl rfl Try.func34 (by kernel_rfl) rfl #[.int .i64 a0_2, .int .i64 (-1), .int .i64 15] rfl (by (try simp only [List.map_toArray, List.map_cons, List.map_nil]); first | done | rfl | (simp only [List.length_drop, List.length_take]; rfl)) ?_; (with_reducible refine (ledger_within.calls a0_2 (-1) 15 false _ A9.out).mono ?_); rintro e w' ⟨rfl, ⟨nd, rfl⟩⟩; refine ⟨_, rfl, ?_⟩))
          go_ret
          exact ⟨by first | rfl | (simp [errW_none, errW_some] <;> rfl) | (simp [*, errW_none, errW_some] <;> rfl), by repeat (first | (with_reducible first | exact HB.out | apply below_alloc | apply pw_below_drewN | apply below_drew1 | refine below_set ?_ GE324.out) | exact HB.out)⟩

end Go.Proofs.Ytlmjopodghikgaa.Print
end
