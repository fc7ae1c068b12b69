/- The disk: what its memory holds, and the methods that only read or write one field. -/
import Derived.Test.YtbhlpnkccdcdiaaKDel
namespace Go.Proofs.Ytbhlpnkccdcdiaa.Dk
open Go.RowKit Go.Proofs.YtbhlpnkccdcdiaaW.PrintWords
set_option linter.unusedVariables false
set_option linter.unusedSimpArgs false

/-- A file: its bytes, and how many of them are durable. -/
structure Fl where
  b : List UInt8
  n : Nat
/-- A disk. -/
structure DS where
  fs : List Fl
  q : List Pd
  lost : Nat
  down : Bool
  armed : Nat
  keep : List Int
def bs (l : List UInt8) : ByteArray := ⟨l.toArray⟩
theorem bs_size (l : List UInt8) : (bs l).size = l.length := by simp [bs, ByteArray.size]
theorem bs_toList (l : List UInt8) : (bs l).data.toList = l := by simp [bs]
theorem bs_of (s : ByteArray) : bs s.data.toList = s := by
  cases s
  simp [bs]
def DS.fl (D : DS) (f : Nat) : Fl := D.fs.getD f ⟨[], 0⟩
def fCells (fs : List Fl) : List Value := fs.flatMap fun x => [.string (bs x.b), .int .i64 x.n]
def DCells (D : DS) (qv kv : Value) : List Value := fCells D.fs ++ [qv, .int .i64 D.lost, .bool D.down, .int .i64 D.armed, kv]
theorem fCells_len : ∀ fs : List Fl, (fCells fs).length = fs.length * 2
  | [] => rfl
  | x :: fs => by
    have := fCells_len fs
    unfold fCells at *
    rw [List.flatMap_cons, List.length_append, this]
    simp only [List.length_cons, List.length_nil]
    omega
theorem fCells_at : ∀ (fs : List Fl) (f : Nat), f < fs.length → (fCells fs)[f * 2]? = some (.string (bs (fs.getD f ⟨[], 0⟩).b)) ∧ (fCells fs)[f * 2 + 1]? = some (.int .i64 (fs.getD f ⟨[], 0⟩).n)
  | x :: fs, 0, _ => ⟨rfl, rfl⟩
  | x :: fs, f + 1, h => by
    have := fCells_at fs f (by simpa using h)
    have e : fCells (x :: fs) = .string (bs x.b) :: .int .i64 x.n :: fCells fs := rfl
    rw [e, show (f + 1) * 2 = f * 2 + 1 + 1 by omega]
    simpa using this
theorem fCells_set : ∀ (fs : List Fl) (f : Nat) (x : Fl), f < fs.length → fCells (fs.set f x) = ((fCells fs).set (f * 2) (.string (bs x.b))).set (f * 2 + 1) (.int .i64 x.n)
  | y :: fs, 0, x, _ => rfl
  | y :: fs, f + 1, x, h => by
    have := fCells_set fs f x (by simpa using h)
    have e : ∀ z zs, fCells (z :: zs) = .string (bs z.b) :: .int .i64 z.n :: fCells zs := fun _ _ => rfl
    rw [List.set_cons_succ, e, e, this, show (f + 1) * 2 = f * 2 + 1 + 1 by omega, show f * 2 + 1 + 1 + 1 = f * 2 + 1 + 1 + 1 from rfl]
    simp only [List.set_cons_succ]
theorem set_same {α : Type} : ∀ (l : List α) (i : Nat) (a : α), l[i]? = some a → l.set i a = l
  | x :: l, 0, a, h => by
    have : x = a := by simpa using h
    rw [this]
    rfl
  | x :: l, i + 1, a, h => by
    rw [List.set_cons_succ, set_same l i a (by simpa using h)]
  | [], i, a, h => by simp at h
theorem fCells_setB (fs : List Fl) (f : Nat) (b : List UInt8) (h : f < fs.length) : fCells (fs.set f ⟨b, (fs.getD f ⟨[], 0⟩).n⟩) = (fCells fs).set (f * 2) (.string (bs b)) := by
  rw [fCells_set fs f _ h]
  refine set_same _ _ _ ?_
  rw [List.getElem?_set_ne (by omega)]
  exact (fCells_at fs f h).2
theorem fCells_setN (fs : List Fl) (f : Nat) (n : Nat) (h : f < fs.length) : fCells (fs.set f ⟨(fs.getD f ⟨[], 0⟩).b, n⟩) = (fCells fs).set (f * 2 + 1) (.int .i64 n) := by
  rw [fCells_set fs f _ h, set_same (fCells fs) (f * 2) _ (fCells_at fs f h).1]

/-- The queue's row. -/
def QAt (w : World) (v : Value) (q : List Pd) : Prop := (v = .slice none 0 0 ∧ q = []) ∨ ∃ g cap, v = .slice (some ⟨g, 0, none⟩) q.length cap ∧ RowE w g cap q
/-- The kept lengths' row. -/
def KAt (w : World) (v : Value) (l : List Int) : Prop := ∃ A c, v = .slice A l.length c ∧ l.length ≤ c ∧ (0 < l.length → ∃ ad cur, A = some ad ∧ w.heap[ad.block]? = some (.cells cur 3 (0, 0))) ∧ Kd.C (Kd.int .i64) w A l.length l
structure DAt (w : World) (b : Nat) (D : DS) (qv kv : Value) : Prop where
  len : D.fs.length = 8
  blk : w.heap[b]? = some (.cells (DCells D qv kv).toArray 88 (0, 0))
  que : QAt w qv D.q
  kep : KAt w kv D.keep

section
variable {w w1 : World} {b : Nat} {D : DS} {qv kv : Value}
theorem QAt.move {q : List Pd} {v : Value} (h : QAt w v q) (hm : ∀ k, v.ownBlock = some k → w1.heap[k]? = w.heap[k]?) : QAt w1 v q := by
  rcases h with ⟨rfl, rfl⟩ | ⟨g, cap, rfl, hr⟩
  · exact .inl ⟨rfl, rfl⟩
  · exact .inr ⟨g, cap, rfl, hr.move (hm g rfl)⟩
theorem QAt.typed {q : List Pd} {v : Value} (h : QAt w v q) {k : Nat} (hk : v.ownBlock = some k) : ∃ cur, w.heap[k]? = some (.cells cur 91 (0, 0)) := by
  rcases h with ⟨rfl, rfl⟩ | ⟨g, cap, rfl, hr⟩
  · simp [Value.ownBlock] at hk
  · have : g = k := by simpa [Value.ownBlock] using hk
    subst this
    obtain ⟨cur, hb, _⟩ := hr
    exact ⟨cur, hb⟩
theorem KAt.move {l : List Int} {v : Value} (h : KAt w v l) (hm : ∀ (k : Nat) (cur : Array Value), w.heap[k]? = some (Obj.cells cur 3 (0, 0)) → w1.heap[k]? = w.heap[k]?) : KAt w1 v l := by
  obtain ⟨A, c, rfl, hc, hb, h1, h2, h3⟩ := h
  refine ⟨A, c, rfl, hc, fun hp => ?_, h1, h2, fun hp => ?_⟩
  · obtain ⟨ad, cur, e, hh⟩ := hb hp
    exact ⟨ad, cur, e, (hm _ _ hh).trans hh⟩
  · obtain ⟨ad, cur, e, hh⟩ := hb hp
    obtain ⟨ad', e', hcell⟩ := h3 hp
    rw [e] at e'
    injection e' with e'
    subst e'
    refine ⟨ad, e, fun j p hj => ?_⟩
    obtain ⟨cs, hs, hK, hx⟩ := hcell j p hj
    refine ⟨cs, hs, hK, fun i u hu => ?_⟩
    have := hx i u hu
    rw [← this]
    refine World.cell?_of_block ?_
    rw [add_block]
    exact (hm _ _ hh)
end
end Go.Proofs.Ytbhlpnkccdcdiaa.Dk
