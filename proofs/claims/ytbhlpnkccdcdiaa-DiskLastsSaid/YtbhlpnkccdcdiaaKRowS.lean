/- Rows of strings that come in as arguments of a law, each no longer than its weight allows. -/
import Derived.Test.YtbhlpnkccdcdiaaKRowK
namespace Go.Proofs.Ytbhlpnkccdcdiaa.Dk
open Go.RowKit Go.Proofs.YtbhlpnkccdcdiaaW.PrintWords
open Go.ChangeShapes Go.WideShapes Go.ChangeAt Go.Deep
set_option linter.unusedVariables false
set_option linter.unusedSimpArgs false
theorem weightsAll_mem {H : Type} {P : Program} {e : TypeId} : ∀ {l : List (DataW H)} {d : DataW H}, d ∈ l → ∀ n ∈ d.weights P e, n ∈ DataW.weightsAll P e l
  | x :: l, d, h, n, hn => by
    simp only [DataW.weightsAll, List.mem_append]
    rcases List.mem_cons.1 h with rfl | h
    · exact .inl hn
    · exact .inr (weightsAll_mem h n hn)
theorem weights_slice_mem {H : Type} {P : Program} {t e : TypeId} {xs ys : List (DataW H)} (hu : P.underlying t = some (.slice e)) {d : DataW H} (hd : d ∈ xs) {n : Nat} (hn : n ∈ d.weights P e) : n ∈ (DataW.slice xs ys).weights P t := by
  rw [DataW.weights, hu]
  exact List.mem_cons_of_mem _ (List.mem_append_left _ (weightsAll_mem hd n hn))
theorem weights_string {H : Type} {P : Program} {t : TypeId} (s : ByteArray) : s.size ∈ (DataW.lit (.string s.data.toList) : DataW H).weights P t := by
  rw [DataW.weights, size_toList]
  exact List.mem_singleton.2 rfl
theorem mem_strs {H : Type} {l : List ByteArray} {s : ByteArray} (h : s ∈ l) : (DataW.lit (.string s.data.toList) : DataW H) ∈ (strs l : List (DataW H)) := by
  unfold strs
  exact List.mem_map.2 ⟨s, h, rfl⟩
section
variable {H : Type} {enc : TypeId × Value → H} {w : World} {base : Nat} {spare : Nat → Bool} {held : Bool}
theorem openSW {fuel : Nat} {cs : List Value} {d : DataW H} {ps : List MemPlace} (h : DataW.trod enc Try.prog w base spare held fuel 38 cs = some (d, ps)) :
    ∃ (A : Option Addr) (len cap : Nat) (l : List ByteArray), cs = [.slice A len cap] ∧ len = l.length ∧ len ≤ cap ∧ Kd.C Kd.string w A l.length l ∧ ∀ s ∈ l, s.size ∈ d.weights Try.prog 38 := by
  rcases open_strings Try.underlying38 Try.underlying9 (by kernel_rfl) h with ⟨rfl, _⟩ | ⟨a, len, cap, zs, rfl, hb, hl, hm, hz, hd, hx, hw⟩
  · exact ⟨none, 0, 0, [], rfl, rfl, Nat.le_refl _, Kd.C_nil _ _, fun s hs => by cases hs⟩
  · have hlz : len ≤ zs.length := by rw [hz]; split <;> omega
    have hll : (zs.take len).length = len := by rw [List.length_take]; omega
    refine ⟨some a, len, cap, zs.take len, rfl, hll.symm, hl, ⟨rfl, by rw [hll]; simp only [maxLen] at hm; omega, fun _ => ⟨a, rfl, fun j p hj => ⟨[.string p], rfl, rfl, fun i u hu => ?_⟩⟩⟩, fun s hs => ?_⟩
    · have hi : i = 0 := by
        have := (List.getElem?_eq_some_iff.1 hu).1
        simpa using this
      subst hi
      have : u = .string p := by simpa using hu.symm
      subst this
      have hj2 : j < len := by
        have := (List.getElem?_eq_some_iff.1 hj).1
        omega
      have hsz : j * Kd.string.sz + 0 = j := by show j * 1 + 0 = j; omega
      rw [hsz, hx j (by omega)]
      rw [List.getElem?_take_of_lt hj2] at hj
      rw [List.getD_eq_getElem?_getD, hj]
      rfl
    · obtain ⟨rfl, _⟩ := Prod.mk.inj hd
      exact weights_slice_mem Try.underlying38 (mem_strs hs) (weights_string s)
end
theorem sizedW {H : Type} {P : Program} {ts : List TypeId} {ds : List (DataW H)} (h : (DataW.weightsEach P ts ds).all (· ≤ reachBytes) = true) {j : Nat} {t : TypeId} {d : DataW H} (ht : ts[j]? = some t) (hd : ds[j]? = some d) {n : Nat} (hn : n ∈ d.weights P t) : n ≤ 140737488355328 := by
  have := List.all_eq_true.1 h _ (DataW.weights_mem_each ht hd n hn)
  have h2 : n ≤ reachBytes := by simpa using this
  exact Nat.le_trans h2 (by decide)
end Go.Proofs.Ytbhlpnkccdcdiaa.Dk
