/- exact.Sum returns the exact sum of a list of int64 numbers, or 0 and false where it is no int64. -/
import Derived.Test.YtlmjopodghikgaaPrint0
import Derived.Laws.Externs
namespace Go.Proofs.Ytlmjopodghikgaa.Print
open Go.RowKit Go.Proofs.YtlmjopodghikgaaW.PrintWords
set_option linter.unusedVariables false
set_option linter.unusedSimpArgs false

def i64B (x : Int) : Bool := decide (-9223372036854775808 ≤ x) && decide (x ≤ 9223372036854775807)
def exactSum (l : List Int) : Int × Bool := if i64B l.sum = true then (l.sum, true) else (0, false)
def exact_Sum.f (l0 : List Int) : Option (Int × Bool) := if l0.all i64B = true then some (exactSum l0) else none

theorem add64_run (x y : Int) (hx : 0 ≤ x) (hy : 0 ≤ y) (hx2 : x < 18446744073709551616) (hy2 : y < 18446744073709551616) (w : World) :
    (callFunc 38 #[.int .u64 x, .int .u64 y, .int .u64 0]).run Try.prog w =
      .ok (.value (.tuple #[.int .u64 ((x + y) % 18446744073709551616), .int .u64 ((x + y) / 18446744073709551616)])) w := by
  obtain ⟨a, rfl⟩ := Int.eq_ofNat_of_zero_le hx
  obtain ⟨b, rfl⟩ := Int.eq_ofNat_of_zero_le hy
  rw [run_callFunc_extern Try.func38 (by kernel_rfl) (by kernel_rfl) (by kernel_rfl) (e := add64Entry) (by kernel_rfl)]
  have h := run_add64 (P := Try.prog) (w := w) a b 0 (by omega) (by omega) (by omega) (by omega)
  simp only [Int.add_zero] at h
  rw [h]
  rfl

/-- The two halves of a sum in 128 bits, kept from the walk. -/
def loOf (s : Int) : Int := s % 18446744073709551616
def hiOf (s : Int) : Int := (s / 18446744073709551616) % 18446744073709551616

theorem all_i64 {l : List Int} (h : l.all i64B = true) {x : Int} (hx : x ∈ l) : -9223372036854775808 ≤ x ∧ x ≤ 9223372036854775807 := by
  have := List.all_eq_true.1 h x hx
  simpa [i64B] using this
theorem take_sum_succ (l : List Int) (i : Int) (h0 : 0 ≤ i) (h1 : i < l.length) : (l.take (i + 1).toNat).sum = (l.take i.toNat).sum + rd l i := by
  have e : (i + 1).toNat = i.toNat + 1 := by omega
  have hl : i.toNat < l.length := by omega
  rw [e, List.take_succ_eq_append_getElem hl, List.sum_append]
  simp [rd, List.getD_eq_getElem?_getD, List.getElem?_eq_getElem hl]
theorem rd_i64 {l : List Int} (h : l.all i64B = true) (i : Int) (h0 : 0 ≤ i) (h1 : i < l.length) : -9223372036854775808 ≤ rd l i ∧ rd l i ≤ 9223372036854775807 := by
  have hl : i.toNat < l.length := by omega
  have : rd l i = l[i.toNat] := by simp [rd, List.getD_eq_getElem?_getD, List.getElem?_eq_getElem hl]
  rw [this]
  exact all_i64 h (List.getElem_mem hl)
theorem u64_wrap (x : Int) : IntKind.u64.wrap x = x % 18446744073709551616 := by
  simp [IntKind.wrap, IntKind.signed, IntKind.bits]

theorem sum128_step (s n a b s1 c1 : Int) (ha : a = loOf s) (hb : b = hiOf s) (h1 : s1 = (a + n % 18446744073709551616) % 18446744073709551616) (h2 : c1 = (a + n % 18446744073709551616) / 18446744073709551616)
    (hn : -9223372036854775808 ≤ n ∧ n ≤ 9223372036854775807) :
    s1 = loOf (s + n) ∧ IntKind.u64.wrap (b + IntKind.u64.wrap (IntKind.u64.wrap (n / 9223372036854775808) + c1)) = hiOf (s + n) := by
  simp only [u64_wrap]
  unfold loOf hiOf at *
  obtain ⟨q, hq⟩ : ∃ q, s / 18446744073709551616 = q := ⟨_, rfl⟩
  obtain ⟨m, hm⟩ : ∃ m, n / 9223372036854775808 = m := ⟨_, rfl⟩
  have hr : s = 18446744073709551616 * q + a := by omega
  have hmm : n = 18446744073709551616 * m + n % 18446744073709551616 := by omega
  obtain ⟨nr, hnr⟩ : ∃ nr, n % 18446744073709551616 = nr := ⟨_, rfl⟩
  rw [hnr] at h1 h2 hmm
  rw [hq] at hb
  have ha0 : 0 ≤ a ∧ a < 18446744073709551616 := by omega
  have hn0 : 0 ≤ nr ∧ nr < 18446744073709551616 := by omega
  rw [hm]
  have hs : s + n = 18446744073709551616 * (q + m + c1) + s1 := by omega
  have hs1 : 0 ≤ s1 ∧ s1 < 18446744073709551616 := by omega
  have e1 : (s + n) % 18446744073709551616 = s1 := by omega
  have e2 : (s + n) / 18446744073709551616 = q + m + c1 := by omega
  refine ⟨e1.symm, ?_⟩
  rw [e2, hb]
  clear e1 e2 hs h1 h2 hb ha hq hm hr hmm hnr hn
  omega
theorem sum_bound : ∀ (l : List Int), l.all i64B = true → -9223372036854775808 * (l.length : Int) ≤ l.sum ∧ l.sum ≤ 9223372036854775807 * (l.length : Int)
  | [], _ => by simp
  | x :: l, h => by
    have hx := all_i64 h (List.mem_cons_self)
    have hl := sum_bound l (by simp only [List.all_cons, Bool.and_eq_true] at h; exact h.2)
    simp only [List.sum_cons, List.length_cons]
    omega
theorem sum128_end (s a b : Int) (ha : a = loOf s) (hb : b = hiOf s) (hs : -85070591730234615865843651857942052864 ≤ s ∧ s ≤ 85070591730234615865843651857942052864) :
    (b == IntKind.u64.wrap (wrap64 a / 9223372036854775808)) = i64B s ∧ (i64B s = true → wrap64 a = s) := by
  simp only [u64_wrap]
  unfold loOf at ha
  unfold hiOf at hb
  obtain ⟨q, hq⟩ : ∃ q, s / 18446744073709551616 = q := ⟨_, rfl⟩
  rw [hq] at hb
  have hr : s = 18446744073709551616 * q + a := by omega
  have ha0 : 0 ≤ a ∧ a < 18446744073709551616 := by omega
  have hq0 : -9223372036854775808 ≤ q ∧ q < 9223372036854775808 := by omega
  clear ha hq hs
  have hw : wrap64 a = if a < 9223372036854775808 then a else a - 18446744073709551616 := by
    unfold wrap64
    split <;> omega
  have hb' : b = if 0 ≤ q then q else q + 18446744073709551616 := by split <;> omega
  subst hr hb'
  rw [hw]
  clear hw hb
  unfold i64B
  constructor
  · rw [Bool.eq_iff_iff]
    simp only [beq_iff_eq, Bool.and_eq_true, decide_eq_true_eq]
    split <;> split <;> omega
  · simp only [Bool.and_eq_true, decide_eq_true_eq]
    split <;> omega

set_option maxHeartbeats 400000 in
theorem exact_Sum.calls (A0 : Option Addr) (c0 : Nat) (l0 : List Int) (r1 : Int) (r2 : Bool) (w : World) (hr0 : Kd.C (Kd.int .i64) w A0 l0.length l0) (hc0 : l0.length ≤ c0) (h : exact_Sum.f l0 = some (r1, r2)) :
    Calls Try.prog 27 #[.slice A0 l0.length c0] w fun e w' => e = .returned (.tuple #[.int .i64 r1, .bool r2]) ∧ Drawn0 w w' := by
  have HR0 := Aside0.mk hr0
  have hm := hr0.2.1
  unfold exact_Sum.f at h
  have hall : l0.all i64B = true := by
    split at h
    · assumption
    · cases h
  rw [if_pos hall] at h
  have HALL := Aside0.mk hall
  have H : Aside0 (exactSum l0 = (r1, r2)) := ⟨by injection h⟩
  clear hr0 hc0 h hall
  go_enter Try.func27, Try.ntmps27
  go_wp2_with fail
  go_loopg [4, 5, 12] l0.length (fun kq v4 v5 v12 w' => ∃ (i a b : Int), v12 = .int .i64 i ∧ v4 = .int .u64 b ∧ v5 = .int .u64 a ∧ Aside0 (a = loOf (l0.take i.toNat).sum ∧ b = hiOf (l0.take i.toNat).sum) ∧ 0 ≤ i ∧ Aside0 (i + kq = l0.length) ∧ Drawn0 w w')
  case atStart => exact ⟨0, 0, 0, rfl, rfl, rfl, ⟨rfl, rfl⟩, by omega, ⟨by omega⟩, Drawn0.refl _⟩
  case round =>
    obtain ⟨i, a, b, rfl, rfl, rfl, HS, h0, HH, ⟨m1, rfl⟩⟩ := hrel
    by_cases c2 : i < l0.length
    · obtain ⟨ad101, e101, hx101_0⟩ := Kd.at_int HR0.out i h0 c2
      cases e101
      obtain ⟨s1, c1, hadd, HA1⟩ : ∃ s1 c1 : Int, (∀ W, (callFunc 38 #[.int .u64 a, .int .u64 (IntKind.u64.wrap (rd l0 i)), .int .u64 0]).run Try.prog W = .ok (.value (.tuple #[.int .u64 s1, .int .u64 c1])) W) ∧ Aside0 (s1 = (a + (rd l0 i) % 18446744073709551616) % 18446744073709551616 ∧ c1 = (a + (rd l0 i) % 18446744073709551616) / 18446744073709551616) := by
        refine ⟨_, _, fun W => ?_, ⟨rfl, rfl⟩⟩
        rw [u64_wrap]
        have := HS.out.1
        unfold loOf at this
        exact add64_run a _ (by omega) (by omega) (by omega) (by omega) W
      have HST := Aside0.mk (sum128_step _ (rd l0 i) a b s1 c1 HS.out.1 HS.out.2 HA1.out.1 HA1.out.2 (rd_i64 HALL.out i h0 c2))
      have HT := Aside0.mk (take_sum_succ l0 i h0 c2)
      go_wp2_with fail
      go_roundg (gk - 1)
      case measure => have := HH.out; omega
      case rel => exact ⟨i + 1, _, _, rfl, rfl, rfl, ⟨by rw [HT.out]; exact HST.out⟩, by omega, ⟨by have := HH.out; omega⟩, ⟨m1, rfl⟩⟩
    · have hi : i = l0.length := by have := HH.out; omega
      have HE : Aside0 ((b == IntKind.u64.wrap (wrap64 a / 9223372036854775808)) = i64B l0.sum ∧ (i64B l0.sum = true → wrap64 a = l0.sum)) := by
        have e : l0.take i.toNat = l0 := List.take_of_length_le (by omega)
        have hs := HS.out
        rw [e] at hs
        have := sum_bound l0 HALL.out
        exact ⟨sum128_end _ _ _ hs.1 hs.2 (by omega)⟩
      clear hi
      cases hv : i64B l0.sum with
      | true =>
        have hb := HE.out.1.trans hv
        go_wp2_with fail
        go_ret2
        have h1 := H.out
        unfold exactSum at h1
        rw [if_pos hv] at h1
        injection h1 with h1 h2
        subst h1 h2
        exact ⟨by simp [HE.out.2 hv], ⟨m1, rfl⟩⟩
      | false =>
        have hb := HE.out.1.trans hv
        go_wp2_with fail
        go_ret2
        have h1 := H.out
        unfold exactSum at h1
        rw [if_neg (by rw [hv]; simp)] at h1
        injection h1 with h1 h2
        subst h1 h2
        exact ⟨rfl, ⟨m1, rfl⟩⟩
end Go.Proofs.Ytlmjopodghikgaa.Print
