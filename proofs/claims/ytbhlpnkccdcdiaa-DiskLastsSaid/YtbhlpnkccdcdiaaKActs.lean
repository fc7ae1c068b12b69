/- bournelaw06: the operations that come in; pick, begins, torn, few. -/
import Derived.Test.YtbhlpnkccdcdiaaKLastsP
import Derived.Test.YtbhlpnkccdcdiaaKRowS
import Derived.Deep.QuietTactic
import Derived.BigQuiet
namespace Go.Proofs.Ytbhlpnkccdcdiaa.Dk
open Go.RowKit Go.Proofs.YtbhlpnkccdcdiaaW.PrintWords
set_option linter.unusedVariables false
set_option linter.unusedSimpArgs false

theorem pickF (n : Int) (w : World) : Calls Try.prog 25 #[.int .i64 n] w fun e w' => e = .returned (.int .i64 (n % 11)) ∧ w = w' := by
  have h1 : -10 ≤ n.tmod 11 ∧ n.tmod 11 ≤ 10 := by
    have := Int.tmod_lt_of_pos n (b := 11) (by decide)
    have h2 := Int.tmod_lt_of_pos (-n) (b := 11) (by decide)
    rw [Int.neg_tmod] at h2
    omega
  have h2 : n % 11 = if n.tmod 11 < 0 then n.tmod 11 + 11 else n.tmod 11 := by
    have := Int.emod_add_mul_ediv n 11
    have := Int.tmod_add_mul_tdiv n 11
    have := Int.emod_lt_of_pos n (b := 11) (by decide)
    have := Int.emod_nonneg n (b := 11) (by decide)
    split <;> omega
  rw [h2]
  clear h2
  have H3 : Aside0 (n.tmod 11 = n.tmod 11) := ⟨rfl⟩
  by_cases h0 : n.tmod 11 < 0
  · rw [if_pos h0]
    have h3 : decide (n.tmod 11 < 0) = true := decide_eq_true h0
    go_enter Try.func25, Try.ntmps25
    go_wp2_with fail
    go_ret
    exact ⟨rfl, rfl⟩
  · rw [if_neg h0]
    have h3 : decide (n.tmod 11 < 0) = false := decide_eq_false h0
    go_enter Try.func25, Try.ntmps25
    go_wp2_with fail
    go_ret
    exact ⟨rfl, rfl⟩
theorem beginsF {s t : ByteArray} (h1 : t.size ≤ s.size) (h2 : s.extract 0 t.size = t) (w : World) : Calls Try.prog 26 #[.string s, .string t] w fun e w' => e = .returned (.bool true) ∧ w = w' := by
  have h3 : ((s.extract 0 t.size).toList == t.toList) = true := by rw [h2]; exact beq_self_eq_true _
  clear h2
  go_enter Try.func26, Try.ntmps26
  go_wp2_with fail
  go_ret
  exact ⟨rfl, rfl⟩
def TornB (s t : ByteArray) : Prop := ∀ k (h : k < s.size), ∃ h2 : k < t.size, s[k] = t[k] ∨ s[k] = 0
theorem TornB.of {s t : ByteArray} (h : TornL s.data.toList t.data.toList) : TornB s t := by
  intro k hk
  have e : ∀ (s : ByteArray) (hk : k < s.size), s.data.toList[k]? = some s[k] := fun s hk => by rw [Array.getElem?_toList, Array.getElem?_eq_getElem hk]; rfl
  rcases h k _ (e s hk) with h | ⟨h1, h2⟩
  · have h1 := (List.getElem?_eq_some_iff.1 h).1
    have hk2 : k < t.size := by rw [size_toList] at h1; exact h1
    rw [e t hk2] at h
    exact ⟨hk2, .inl (by injection h with h; exact h.symm)⟩
  · rw [size_toList] at h1
    exact ⟨h1, .inr h2⟩
set_option maxRecDepth 100000 in
set_option maxHeartbeats 1000000 in
theorem tornF {s t : ByteArray} (h : TornB s t) (hs : s.size ≤ 16777216) (w : World) : Calls Try.prog 28 #[.string s, .string t] w fun e w' => e = .returned (.bool true) ∧ Drawn0 w w' := by
  have HT := Aside0.mk h
  clear h
  have HD0 := Drawn0.refl w
  go_enter Try.func28, Try.ntmps28
  go_wp2_with fail
  go_loopg [5] s.size (fun kq v5 wr => ∃ k : Nat, v5 = .int .i64 k ∧ Aside0 (k + kq = s.size) ∧ Drawn0 w wr)
  case atStart => exact ⟨0, rfl, ⟨Nat.zero_add _⟩, HD0⟩
  case round =>
    obtain ⟨k, rfl, HK, HW⟩ := hrel
    have hk : k ≤ s.size := by have := HK.out; omega
    by_cases hlt : k < s.size
    · obtain ⟨h2, h3⟩ := HT.out k hlt
      have g1 : decide (t.size ≤ k) = false := decide_eq_false (by omega)
      by_cases he : s[k] = t[k]
      · have g2 : (((s[k]'hlt).toNat : Int) != ((t[k]'h2).toNat : Int)) = false := by rw [he]; simp
        clear h3 he
        go_wp2_with fail
        go_quiet (fail)
        go_wp2_with fail
        go_roundg (gk - 1)
        case measure => have := HK.out; omega
        case rel => exact ⟨k + 1, by go_num, ⟨by have := HK.out; omega⟩, HW.step _⟩
      · have g2 : (((s[k]'hlt).toNat : Int) != ((t[k]'h2).toNat : Int)) = true := bne_iff_ne.2 fun e => he (UInt8.toNat_inj.1 (by omega))
        have g3 : (((s[k]'hlt).toNat : Int) != 0) = false := by
          rcases h3 with h3 | h3
          · exact absurd h3 he
          · rw [h3]; rfl
        clear h3 he
        go_wp2_with fail
        go_quiet (fail)
        go_wp2_with fail
        go_roundg (gk - 1)
        case measure => have := HK.out; omega
        case rel => exact ⟨k + 1, by go_num, ⟨by have := HK.out; omega⟩, HW.step _⟩
    · go_wp2_with fail
      go_ret
      exact ⟨rfl, HW⟩

/-! ### The operations in memory -/
def ActCells (w : World) (ad : Addr) (k : Nat) (x : Act6) : Prop :=
  ∃ A c, (∀ i u, [Value.int .i64 x.k, .int .i64 x.f, .int .i64 x.g, .int .i64 x.n, .string x.s, .slice A x.keep.length c][i]? = some u → w.cell? (ad.add (k * 6 + i)) = some u) ∧ Kd.C (Kd.int .i64) w A x.keep.length x.keep
def ActsAt (w : World) (A : Option Addr) (l : List Act6) : Prop := l.length ≤ 9223372036854775807 ∧ (0 < l.length → ∃ ad, A = some ad ∧ ∀ k x, l[k]? = some x → ActCells w ad k x)
theorem ActCells.below {w w1 : World} {ad : Addr} {k : Nat} {x : Act6} (h : ActCells w ad k x) (hb : Below w.heap.size w w1) : ActCells w1 ad k x := by
  obtain ⟨A, c, h1, h2⟩ := h
  exact ⟨A, c, fun i u hu => pw_cell_below hb (h1 i u hu), Kd.C_below h2 hb⟩
theorem ActsAt.below {w w1 : World} {A : Option Addr} {l : List Act6} (h : ActsAt w A l) (hb : Below w.heap.size w w1) : ActsAt w1 A l :=
  ⟨h.1, fun hp => by
    obtain ⟨ad, e, hc⟩ := h.2 hp
    exact ⟨ad, e, fun k x hx => (hc k x hx).below hb⟩⟩
theorem ActsAt.at_ {w : World} {A : Option Addr} {l : List Act6} (h : ActsAt w A l) {k : Nat} (hk : k < l.length) : ∃ ad A' c, A = some ad ∧
    w.cell? (ad.add (k * 6)) = some (.int .i64 l[k].k) ∧ w.cell? ⟨(ad.add (k * 6)).block, (ad.add (k * 6)).off + 1, none⟩ = some (.int .i64 l[k].f) ∧ w.cell? ⟨(ad.add (k * 6)).block, (ad.add (k * 6)).off + 2, none⟩ = some (.int .i64 l[k].g) ∧ w.cell? ⟨(ad.add (k * 6)).block, (ad.add (k * 6)).off + 3, none⟩ = some (.int .i64 l[k].n) ∧
    w.cell? ⟨(ad.add (k * 6)).block, (ad.add (k * 6)).off + 4, none⟩ = some (.string l[k].s) ∧ w.cell? ⟨(ad.add (k * 6)).block, (ad.add (k * 6)).off + 5, none⟩ = some (.slice A' l[k].keep.length c) ∧ Kd.C (Kd.int .i64) w A' l[k].keep.length l[k].keep := by
  obtain ⟨ad, e, hc⟩ := h.2 (by omega)
  obtain ⟨A', c, h1, h2⟩ := hc k l[k] (List.getElem?_eq_getElem hk)
  have h3 : ∀ i u, 0 < i → [Value.int .i64 l[k].k, .int .i64 l[k].f, .int .i64 l[k].g, .int .i64 l[k].n, .string l[k].s, .slice A' l[k].keep.length c][i]? = some u → w.cell? ⟨(ad.add (k * 6)).block, (ad.add (k * 6)).off + i, none⟩ = some u := by
    intro i u hi hu
    rw [← add_field _ _ i (by omega)]
    exact h1 i u hu
  exact ⟨ad, A', c, e, h1 0 _ rfl, h3 1 _ (by decide) rfl, h3 2 _ (by decide) rfl, h3 3 _ (by decide) rfl, h3 4 _ (by decide) rfl, h3 5 _ (by decide) rfl, h2⟩
def fewS (l : List Act6) : Nat → Int
  | 0 => 0
  | k + 1 => match l[k]? with
    | none => 0
    | some x => wrap64 (wrap64 (fewS l k + (x.s.size : Nat)) + (x.keep.length : Nat))
def fewB (l : List Act6) : Bool := decide (l.length ≤ 200) && decide (fewS l l.length ≤ 100000)
set_option maxRecDepth 100000 in
set_option maxHeartbeats 1000000 in
theorem fewF {w : World} {A : Option Addr} {l : List Act6} (h : ActsAt w A l) (c : Nat) : Calls Try.prog 22 #[.slice A l.length c] w fun e w' => e = .returned (.bool (fewB l)) ∧ Drawn0 w w' := by
  have hm := h.1
  have HA := Aside0.mk h
  clear h
  have HD0 := Drawn0.refl w
  go_enter Try.func22, Try.ntmps22
  go_wp2_with fail
  go_loopg [3, 4] l.length (fun kq v3 v4 wr => ∃ k : Nat, v4 = .int .i64 k ∧ v3 = .int .i64 (fewS l k) ∧ Aside0 (k + kq = l.length) ∧ Drawn0 w wr)
  case atStart => exact ⟨0, rfl, rfl, ⟨Nat.zero_add _⟩, HD0⟩
  case round =>
    obtain ⟨k, rfl, rfl, HK, HW⟩ := hrel
    have hk : k ≤ l.length := by have := HK.out; omega
    by_cases hlt : k < l.length
    · have HF := Aside0.mk (show fewS l (k + 1) = wrap64 (wrap64 (fewS l k + (l[k].s.size : Nat)) + (l[k].keep.length : Nat)) by rw [fewS, List.getElem?_eq_getElem hlt])
      obtain ⟨ad, A', c', rfl, _, _, _, _, h4, h5, _⟩ := (HA.out.below HW.below).at_ hlt
      generalize fewS l k = n at *
      go_wp2_with fail
      go_quiet (fail)
      go_wp2_with fail
      go_roundg (gk - 1)
      case measure => have := HK.out; omega
      case rel => exact ⟨k + 1, by go_num, by rw [HF.out], ⟨by have := HK.out; omega⟩, HW.step _⟩
    · obtain rfl : k = l.length := by omega
      have HFB : Aside0 (fewB l = (decide (l.length ≤ 200) && decide (fewS l l.length ≤ 100000))) := ⟨rfl⟩
      generalize fewS l l.length = n at *
      by_cases h2 : l.length ≤ 200
      · rw [decide_eq_true h2, Bool.true_and] at HFB
        have h3 : decide ((l.length : Int) ≤ 200) = true := decide_eq_true (by omega)
        go_wp2_with fail
        go_ret
        exact ⟨by rw [HFB.out]; rfl, HW⟩
      · rw [decide_eq_false h2, Bool.false_and] at HFB
        have h3 : decide ((l.length : Int) ≤ 200) = false := decide_eq_false (by omega)
        go_wp2_with fail
        go_ret
        exact ⟨by rw [HFB.out]; rfl, HW⟩
end Go.Proofs.Ytbhlpnkccdcdiaa.Dk
