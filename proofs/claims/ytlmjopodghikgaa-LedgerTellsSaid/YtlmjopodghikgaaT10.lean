/- Contracts and plain lemmas that the claim rests on: part 10 of 17 (joined, without what the theorem does not rest on). -/
import Derived.Test.YtlmjopodghikgaaT9
import Derived.DeepKeys4
import Derived.Maps.RangeRun
section
/- A map from two integers to entries that a call makes: the relation, and its laws at the operations. -/
namespace Go.Proofs.Ytlmjopodghikgaa.Print
open Go.RowKit Go.Proofs.YtlmjopodghikgaaW.PrintWords
open Go.ChangeMaps (setBlock heap_setBlock_same heap_setBlock_other)
open Go.MapKept (Stamped stamped_push stamped_modify stamped_empty)
set_option linter.unusedVariables false
set_option linter.unusedSimpArgs false

/-! ### Keys -/
def keyV (a c : Int) : Value := .agg #[.int .i64 a, .int .i64 c]
theorem keyV_inj {a c a' c' : Int} (h : keyV a c = keyV a' c') : a = a' ∧ c = c' := by
  simpa [keyV] using h
theorem laidOut : laidOutB Try.prog = true := by kernel_rfl
theorem wideK : (match Try.prog.underlying 52 with | some (.array _ _) | some (.struct _) => true | _ => false) = true := by kernel_rfl
theorem rowK : (52 : TypeId) < Try.prog.types.size := of_decide_eq_true (by kernel_rfl)
theorem lawK : WideMaps.KeyLaw Try.prog 52 := deep_law_laid laidOut (m := 2) (by omega) rowK (by kernel_rfl) wideK
theorem ktK : Try.prog.keyType 52 = true := by kernel_rfl
theorem cellsK : Try.prog.cellsOf 52 = 2 := by kernel_rfl
theorem cells3 : Try.prog.cellsOf 3 = 1 := by kernel_rfl
theorem undK : ∃ f1 f2 : Field, Try.prog.underlying 52 = some (.struct #[f1, f2]) ∧ f1.type = 3 ∧ f2.type = 3 ∧ f1.offset = 0 ∧ f2.offset = 1 ∧ (f1.name != "_") = true ∧ (f2.name != "_") = true := by
  have h : (match Try.prog.underlying 52 with | some (.struct fs) => (match fs.toList with | [f1, f2] => f1.type == 3 && f2.type == 3 && f1.offset == 0 && f2.offset == 1 && f1.name != "_" && f2.name != "_" | _ => false) | _ => false) = true := by kernel_rfl
  split at h
  · rename_i fs hu
    split at h
    · rename_i f1 f2 hl
      simp only [Bool.and_eq_true, beq_iff_eq] at h
      obtain ⟨⟨⟨⟨⟨h1, h2⟩, h3⟩, h4⟩, h5⟩, h6⟩ := h
      have : fs = #[f1, f2] := by rw [← hl]
      exact ⟨f1, f2, by rw [hu, this], h1, h2, h3, h4, h5, h6⟩
    · cases h
  · cases h
theorem tyS : ∃ m, Try.prog.types.size = m + 1 := by
  have h : 0 < Try.prog.types.size := of_decide_eq_true (by kernel_rfl)
  exact ⟨Try.prog.types.size - 1, by omega⟩
theorem wf_i64B {a : Int} (h : i64B a = true) : (Lit.int .i64 a).wf = true := h
theorem key_reads {a c : Int} (ha : i64B a = true) (hc : i64B c = true) : ∃ kl, keyOf Try.prog 52 (keyV a c) = some kl := by
  have wa : (Lit.int .i64 a).wf = true := wf_i64B ha
  have wc : (Lit.int .i64 c).wf = true := wf_i64B hc
  obtain ⟨f1, f2, hu, t1, t2, o1, o2, n1, n2⟩ := undK
  obtain ⟨m, hm⟩ := tyS
  refine ⟨.string (keyBytes [.int .i64 a, .int .i64 c]), ?_⟩
  unfold keyOf
  simp only [hu]
  rw [if_pos (by simp [ktK, keyV, Value.formed, hu, cellsK]), hm]
  unfold Program.keyLits
  simp only [hu, keyV, Value.cells]
  rw [if_pos (by rw [cellsK]; simp [n1, n2]), List.mapM_cons, List.mapM_cons, List.mapM_nil]
  simp [t1, t2, o1, o2, cells3, Program.keyLits, Try.underlying3, wa, wc]

/-! ### The relation -/
def grp (p : List S36) (a c : Int) : List S36 := p.filter fun e => decide (e.f0 = a) && decide (e.f1 = c)
theorem grp_same (p : List S36) (x : S36) : grp (p ++ [x]) x.f0 x.f1 = grp p x.f0 x.f1 ++ [x] := by simp [grp, List.filter_append]
theorem grp_other (p : List S36) (x : S36) {a c : Int} (h : keyV a c ≠ keyV x.f0 x.f1) : grp (p ++ [x]) a c = grp p a c := by
  have : (decide (x.f0 = a) && decide (x.f1 = c)) = false := by
    rw [Bool.eq_false_iff]
    intro hh
    simp only [Bool.and_eq_true, decide_eq_true_eq] at hh
    exact h (by rw [hh.1, hh.2])
  simp [grp, List.filter_append, this]

/-- x's value is a slice of the call's own that holds the group l. -/
def OwnV (w : World) (base : Nat) (v : Value) (l : List S36) : Prop := ∃ g cap, v = .slice (some ⟨g, 0, none⟩) l.length cap ∧ base ≤ g ∧ RowE w g cap l

structure GInv (w : World) (b base : Nat) (p : List S36) (es : Array MapEntry) (clock : Nat) : Prop where
  blk : w.heap[b]? = some (.map es clock)
  st : Stamped es clock
  low : b < base
  ent : ∀ x ∈ es.toList, ∃ a c, x.key = keyV a c ∧ i64B a = true ∧ i64B c = true ∧ grp p a c ≠ [] ∧ OwnV w base x.val (grp p a c)
  all : ∀ e ∈ p, ∃ x ∈ es.toList, x.key = keyV e.f0 e.f1
  apart : ∀ x ∈ es.toList, ∀ y ∈ es.toList, x.key ≠ y.key → x.val.ownBlock ≠ y.val.ownBlock

namespace GInv
variable {w w1 : World} {b base : Nat} {p : List S36} {es : Array MapEntry} {clock : Nat}
theorem move (h : GInv w b base p es clock) (hm : ∀ k, k < w.heap.size → w1.heap[k]? = w.heap[k]?) : GInv w1 b base p es clock where
  blk := (hm b (Array.getElem?_eq_some_iff.1 h.blk).1).trans h.blk
  st := h.st
  low := h.low
  ent x hx := by
    obtain ⟨a, c, h1, h2, h3, h4, g, cap, h5, h6, h7⟩ := h.ent x hx
    exact ⟨a, c, h1, h2, h3, h4, g, cap, h5, h6, h7.move (hm g h7.lt)⟩
  all := h.all
  apart := h.apart
theorem keys (h : GInv w b base p es clock) : ∀ e ∈ es.toList, ∃ l, keyOf Try.prog 52 e.key = some l := fun e he => by
  obtain ⟨a, c, h1, h2, h3, _⟩ := h.ent e he
  rw [h1]
  exact key_reads h2 h3
theorem made (w : World) : GInv (w.alloc (.map #[] 0)) w.heap.size (w.heap.size + 1) [] #[] 0 where
  blk := (MapKept.heap_alloc w _).1
  st := stamped_empty 0
  low := Nat.lt_succ_self _
  ent x hx := by simp at hx
  all e he := by simp at he
  apart x hx := by simp at hx
end GInv

theorem zeroS (w : World) : (zeroValue 22).run Try.prog w = .ok (.slice none 0 0) w := by kernel_rfl

/-- The value at a key, and the way back. -/
theorem GInv.entry {w : World} {b base : Nat} {p : List S36} {es : Array MapEntry} {clock : Nat} (h : GInv w b base p es clock) (x : S36) (ha : i64B x.f0 = true) (hc : i64B x.f1 = true) (hbase : base ≤ w.heap.size) :
    ∃ (v : Value) (st : Nat) (es1 : Array MapEntry) (clock1 : Nat), (Instr.mapEntry 50 (.map (some b)) (keyV x.f0 x.f1)).run Try.prog w = .ok (.tuple #[v, goInt st]) (setBlock w b (.map es1 clock1)) ∧
      Kd.R k36 36 (setBlock w b (.map es1 clock1)) base (fun _ => True) v (grp p x.f0 x.f1) ∧
      ∀ (w2 : World) (v2 : Value), (setBlock w b (.map es1 clock1)).grownBy w2 v.ownBlock → Kd.R k36 36 w2 base (fun _ => True) v2 (grp p x.f0 x.f1 ++ [x]) → (v2.ownBlock = v.ownBlock ∨ ∃ g, v2.ownBlock = some g ∧ (setBlock w b (.map es1 clock1)).heap.size ≤ g) →
        ∃ es2 clock2, (Instr.entryStore 50 (.map (some b)) (goInt st) v2).run Try.prog w2 = .ok () (setBlock w2 b (.map es2 clock2)) ∧ GInv (setBlock w2 b (.map es2 clock2)) b base (p ++ [x]) es2 clock2 := by
  have ht : Try.prog.underlying 50 = some (.map 52 22) := by kernel_rfl
  obtain ⟨kl, hkey⟩ := key_reads ha hc
  obtain ⟨s1, s2, s3⟩ := h.st
  have hb := h.blk
  have hblt : b < w.heap.size := (Array.getElem?_eq_some_iff.1 hb).1
  have hsz : ∀ o, (setBlock w b o).heap.size = w.heap.size := fun o => by simp [setBlock]
  rcases lawK.find w hkey es.toList h.keys with ⟨h1, h2⟩ | ⟨j, e0, h1, h2, h3⟩
  · -- no entry yet
    have hgrp : grp p x.f0 x.f1 = [] := by
      rw [List.eq_nil_iff_forall_not_mem]
      intro e he
      simp only [grp, List.mem_filter, Bool.and_eq_true, decide_eq_true_eq] at he
      obtain ⟨y, hy, hk⟩ := h.all e he.1
      exact h2 y hy (by rw [hk, he.2.1, he.2.2])
    refine ⟨.slice none 0 0, clock, es.push ⟨keyV x.f0 x.f1, .slice none 0 0, clock⟩, clock + 1, ?_, by rw [hgrp]; exact Kd.R_nil _ _ _ _ _, ?_⟩
    · simp [Instr.mapEntry, run_underlying ht, MapKept.run_getObj_map hb, lawK.check w false hkey, h1, zeroS, MapKept.run_setObj_map _ hb, Result.andThen, setBlock]
    · intro w2 v2 hg hR hat
      have hb2 : w2.heap[b]? = some (.map (es.push ⟨keyV x.f0 x.f1, .slice none 0 0, clock⟩) (clock + 1)) := (hg.block b (by rw [hsz]; exact hblt) (by simp [Value.ownBlock])).trans (heap_setBlock_same hb _)
      refine ⟨es.push ⟨keyV x.f0 x.f1, v2, clock⟩, clock + 1, ?_, ?_⟩
      · have hidx : (es.push ⟨keyV x.f0 x.f1, .slice none 0 0, clock⟩).findIdx? (fun e => ((e.born : Nat) : Int) == ((clock : Nat) : Int)) = some es.size := by
          rw [Array.findIdx?_push]
          have : es.findIdx? (fun e => ((e.born : Nat) : Int) == ((clock : Nat) : Int)) = none := by
            rw [Array.findIdx?_eq_none_iff]
            intro y hy
            have := s1 y (by simpa using hy)
            simp only [beq_eq_false_iff_ne, ne_eq, Int.natCast_inj]
            omega
          rw [this]
          simp
        have hmod : (es.push ⟨keyV x.f0 x.f1, .slice none 0 0, clock⟩).modify es.size (fun e => { e with val := v2 }) = es.push ⟨keyV x.f0 x.f1, v2, clock⟩ := by
          apply Array.ext
          · simp
          · intro i h1 h2
            simp only [Array.getElem_modify, Array.getElem_push]
            by_cases hi : i = es.size
            · subst hi; simp
            · simp only [Array.size_modify, Array.size_push] at h1
              rw [if_neg (by omega), dif_pos (by omega), dif_pos (by omega)]
        simp [Instr.entryStore, MapKept.run_getObj_map hb2, asInt, asIntOf, goInt, hidx, hmod, MapKept.run_setObj_map _ hb2, Result.andThen, setBlock]
      · have hR' : OwnV w2 base v2 (grp (p ++ [x]) x.f0 x.f1) := by
          rw [grp_same]
          rcases RowE.ofR hR with ⟨_, e⟩ | ⟨g, cap, e, hg1, _, hr⟩
          · simp at e
          · exact ⟨g, cap, e, hg1, hr⟩
        have hb3 : ∀ k, k ≠ b → (setBlock w2 b (.map (es.push ⟨keyV x.f0 x.f1, v2, clock⟩) (clock + 1))).heap[k]? = w2.heap[k]? := fun k hk => heap_setBlock_other hb2 _ hk
        have hold : ∀ k, k < w.heap.size → k ≠ b → w2.heap[k]? = w.heap[k]? := fun k hk hne => (hg.block k (by rw [hsz]; exact hk) (by simp [Value.ownBlock])).trans (heap_setBlock_other hb _ hne)
        have hlow := h.low
        refine ⟨heap_setBlock_same hb2 _, stamped_push h.st h2, h.low, ?_, ?_, ?_⟩
        · intro y hy
          simp only [Array.toList_push, List.mem_append, List.mem_singleton] at hy
          rcases hy with hy | rfl
          · obtain ⟨a, c, k1, k2, k3, k4, g, cap, k5, k6, k7⟩ := h.ent y hy
            have hne : keyV a c ≠ keyV x.f0 x.f1 := by rw [← k1]; exact h2 y hy
            refine ⟨a, c, k1, k2, k3, by rw [grp_other p x hne]; exact k4, g, cap, by rw [grp_other p x hne]; exact k5, k6, ?_⟩
            rw [grp_other p x hne]
            exact k7.move ((hb3 g (by omega)).trans (hold g k7.lt (by omega)))
          · obtain ⟨g, cap, e, hg1, hr⟩ := hR'
            exact ⟨x.f0, x.f1, rfl, ha, hc, by rw [grp_same]; simp, g, cap, e, hg1, hr.move (hb3 g (by omega))⟩
        · intro e he
          simp only [Array.toList_push, List.mem_append, List.mem_singleton] at he ⊢
          rcases he with he | rfl
          · obtain ⟨y, hy, hk⟩ := h.all e he
            exact ⟨y, .inl hy, hk⟩
          · exact ⟨_, .inr rfl, rfl⟩
        · have key : ∀ y ∈ es.toList, y.val.ownBlock ≠ v2.ownBlock := by
            intro y hy e
            obtain ⟨a, c, _, _, _, _, g, cap, k5, k6, k7⟩ := h.ent y hy
            obtain ⟨g2, cap2, e2, _, hr2⟩ := hR'
            have hgg : g = g2 := by rw [k5, e2] at e; simpa [Value.ownBlock] using e
            rcases hat with h4 | ⟨g3, h4, h5⟩
            · rw [e2] at h4; simp [Value.ownBlock] at h4
            · rw [e2] at h4
              have : g2 = g3 := by simpa [Value.ownBlock] using h4
              rw [hsz] at h5
              have := k7.lt
              omega
          intro y hy z hz hne
          simp only [Array.toList_push, List.mem_append, List.mem_singleton] at hy hz
          rcases hy with hy | rfl <;> rcases hz with hz | rfl
          · exact h.apart y hy z hz hne
          · exact key y hy
          · exact fun e => key z hz e.symm
          · exact absurd rfl hne
  · -- an entry is there
    have hm0 : e0 ∈ es.toList := List.mem_of_getElem? h2
    have hjl : j < es.toList.length := (List.getElem?_eq_some_iff.1 h2).1
    have hj : es[j]? = some e0 := by simpa using h2
    obtain ⟨a, c, k1, k2, k3, k4, g, cap, k5, k6, k7⟩ := h.ent e0 hm0
    rw [h3] at k1
    obtain ⟨rfl, rfl⟩ := keyV_inj k1
    have hsame : es.modify j (fun e => { e with key := keyV x.f0 x.f1 }) = es := by
      apply Array.ext
      · simp
      · intro i i1 i2
        simp only [Array.getElem_modify]
        split
        · rename_i e
          subst e
          have : es[j] = e0 := by have := hj; rw [Array.getElem?_eq_getElem i2] at this; simpa using this
          rw [this, ← h3]
        · rfl
    have hset : ∀ o, es = o → setBlock w b (.map o clock) = setBlock w b (.map es clock) := fun o e => by rw [e]
    refine ⟨e0.val, e0.born, es, clock, ?_, ?_, ?_⟩
    · simp [Instr.mapEntry, run_underlying ht, MapKept.run_getObj_map hb, lawK.check w false hkey, h1, hj, h3, lawK.stays w hkey, hsame, MapKept.run_setObj_map _ hb, Result.andThen, setBlock]
    · rw [k5]
      exact RowE.toR (k7.move (heap_setBlock_other hb _ (by have := h.low; omega))) k6 trivial
    · intro w2 v2 hg hR hat
      have hlow := h.low
      have hvo : e0.val.ownBlock = some g := by rw [k5]; rfl
      have hb2 : w2.heap[b]? = some (.map es clock) := (hg.block b (by rw [hsz]; exact hblt) (by rw [hvo]; intro e; injection e; omega)).trans (heap_setBlock_same hb _)
      refine ⟨es.modify j (fun e => { e with val := v2 }), clock, ?_, ?_⟩
      · have hidx : es.findIdx? (fun e => ((e.born : Nat) : Int) == ((e0.born : Nat) : Int)) = some j := by
          rw [Array.findIdx?_eq_some_iff_getElem]
          have hjs : j < es.size := by simpa using hjl
          have hej : es[j] = e0 := by rw [Array.getElem?_eq_getElem hjs] at hj; simpa using hj
          refine ⟨hjs, by simp [hej], fun i hi => ?_⟩
          have hil : i < es.size := by omega
          simp only [beq_iff_eq, Int.natCast_inj]
          intro e
          have n1 : (es.toList.map (·.born))[i]'(by simpa using hil) = (es.toList.map (·.born))[j]'(by simpa using hjs) := by
            simp [hej, e]
          have := (List.getElem_inj s2).1 n1
          omega
        simp [Instr.entryStore, MapKept.run_getObj_map hb2, asInt, asIntOf, goInt, hidx, MapKept.run_setObj_map _ hb2, Result.andThen, setBlock]
      · have hR' : OwnV w2 base v2 (grp (p ++ [x]) x.f0 x.f1) := by
          rw [grp_same]
          rcases RowE.ofR hR with ⟨_, e⟩ | ⟨g', cap', e, hg1, _, hr⟩
          · simp at e
          · exact ⟨g', cap', e, hg1, hr⟩
        have hb3 : ∀ k, k ≠ b → (setBlock w2 b (.map (es.modify j (fun e => { e with val := v2 })) clock)).heap[k]? = w2.heap[k]? := fun k hk => heap_setBlock_other hb2 _ hk
        have hold : ∀ k, k < w.heap.size → k ≠ b → k ≠ g → w2.heap[k]? = w.heap[k]? := fun k hk hne hng => (hg.block k (by rw [hsz]; exact hk) (by rw [hvo]; intro e; injection e; omega)).trans (heap_setBlock_other hb _ hne)
        have hlist : (es.modify j (fun e => { e with val := v2 })).toList = es.toList.set j { e0 with val := v2 } := by
          apply List.ext_getElem?
          intro i
          rw [Array.getElem?_toList, Array.getElem?_modify, List.getElem?_set, Array.getElem?_toList]
          by_cases e : j = i
          · subst e
            rw [if_pos rfl, if_pos rfl, if_pos hjl, hj]
            rfl
          · rw [if_neg e, if_neg e]
        have who : ∀ y ∈ (es.modify j (fun e => { e with val := v2 })).toList, y = { e0 with val := v2 } ∨ (y ∈ es.toList ∧ y.key ≠ keyV x.f0 x.f1) := by
          intro y hy
          rw [hlist, List.mem_iff_getElem?] at hy
          obtain ⟨i, hi⟩ := hy
          rw [List.getElem?_set] at hi
          by_cases e : j = i
          · subst e
            rw [if_pos rfl, if_pos hjl] at hi
            exact .inl (by simpa using hi.symm)
          · rw [if_neg e] at hi
            refine .inr ⟨List.mem_of_getElem? hi, fun ek => e ?_⟩
            have hil : i < es.toList.length := (List.getElem?_eq_some_iff.1 hi).1
            have n1 : (es.toList.map (·.key))[j]'(by simpa using hjl) = (es.toList.map (·.key))[i]'(by simpa using hil) := by
              have e1 : es.toList[j] = e0 := by have := h2; rw [List.getElem?_eq_getElem hjl] at this; simpa using this
              have e2 : es.toList[i] = y := by have := hi; rw [List.getElem?_eq_getElem hil] at this; simpa using this
              simp only [List.getElem_map, e1, e2, h3, ek]
            exact (List.getElem_inj s3).1 n1
        have key : ∀ y ∈ es.toList, y.key ≠ keyV x.f0 x.f1 → y.val.ownBlock ≠ v2.ownBlock := by
          intro y hy hne e
          obtain ⟨a, c, _, _, _, _, gy, capy, m5, m6, m7⟩ := h.ent y hy
          obtain ⟨g2, cap2, e2, _, hr2⟩ := hR'
          rcases hat with h4 | ⟨g3, h4, h5⟩
          · exact h.apart y hy e0 hm0 (by rw [h3]; exact hne) (by rw [e, h4])
          · have : gy = g3 := by rw [h4, m5] at e; simpa [Value.ownBlock] using e
            rw [hsz] at h5
            have := m7.lt
            omega
        refine ⟨heap_setBlock_same hb2 _, stamped_modify h.st j _ (fun _ _ => rfl) (fun _ _ _ => rfl), h.low, ?_, ?_, ?_⟩
        · intro y hy
          rcases who y hy with rfl | ⟨hy, hne⟩
          · obtain ⟨g', cap', e, hg1, hr⟩ := hR'
            exact ⟨x.f0, x.f1, h3, ha, hc, by rw [grp_same]; simp, g', cap', e, hg1, hr.move (hb3 g' (by omega))⟩
          · obtain ⟨a, c, m1, m2, m3, m4, gy, capy, m5, m6, m7⟩ := h.ent y hy
            have hne' : keyV a c ≠ keyV x.f0 x.f1 := by rw [← m1]; exact hne
            refine ⟨a, c, m1, m2, m3, by rw [grp_other p x hne']; exact m4, gy, capy, by rw [grp_other p x hne']; exact m5, m6, ?_⟩
            rw [grp_other p x hne']
            have hgg : gy ≠ g := by
              intro e
              refine h.apart y hy e0 hm0 (by rw [h3]; exact hne) ?_
              rw [hvo, m5, e]
              rfl
            exact m7.move ((hb3 gy (by omega)).trans (hold gy m7.lt (by omega) hgg))
        · intro e he
          have hin : ∃ y ∈ es.toList, y.key = keyV e.f0 e.f1 := by
            simp only [List.mem_append, List.mem_singleton] at he
            rcases he with he | rfl
            · exact h.all e he
            · exact ⟨e0, hm0, h3⟩
          obtain ⟨y, hy, hk⟩ := hin
          obtain ⟨i, hi⟩ := List.mem_iff_getElem?.1 hy
          by_cases e' : j = i
          · subst e'
            have : e0 = y := by rw [h2] at hi; simpa using hi
            subst this
            exact ⟨{ e0 with val := v2 }, List.mem_iff_getElem?.2 ⟨j, by rw [hlist, List.getElem?_set, if_pos rfl, if_pos hjl]⟩, hk⟩
          · exact ⟨y, List.mem_iff_getElem?.2 ⟨i, by rw [hlist, List.getElem?_set, if_neg e', hi]⟩, hk⟩
        · intro y hy z hz hne
          rcases who y hy with rfl | ⟨hy, hny⟩ <;> rcases who z hz with rfl | ⟨hz, hnz⟩
          · exact absurd rfl hne
          · exact fun e => key z hz hnz e.symm
          · exact key y hy hny
          · exact h.apart y hy z hz hne
end Go.Proofs.Ytlmjopodghikgaa.Print
end
section
/- ledger.Balanced: every group of entries of one day and hour has the sum 0. -/
namespace Go.Proofs.Ytlmjopodghikgaa.Print
open Go.RowKit Go.Proofs.YtlmjopodghikgaaW.PrintWords
open Go.ChangeMaps (setBlock heap_setBlock_same heap_setBlock_other)
set_option linter.unusedVariables false
set_option linter.unusedSimpArgs false

section
variable {P : Program} {w : World} {ops : Array Oper} {rest : List Oper} {o : Oper} {a : Act} {Q : Exit → Act → World → Prop}
theorem wpList_map_entry (hg : o.guard = none) (t : TypeId) (m k : Operand) (hop : o.op = .mapEntry t m k) (mv kv : Value) (hm : a.eval m = mv) (hk : a.eval k = kv) {R : Value → Nat → World → Prop}
    (hrun : ∃ (v : Value) (st : Nat) (w1 : World), (Instr.mapEntry t mv kv).run P w = .ok (.tuple #[v, goInt (st : Nat)]) w1 ∧ R v st w1) (h : ∀ (v : Value) (st : Nat) (w1 : World), R v st w1 → wpList P ops Q rest (a.put o.dst (.tuple #[v, .int .i64 ((st : Nat) : Int)])) w1) : wpList P ops Q (o :: rest) a w := by
  refine wpList_plain hg fun K' hK' => ?_
  obtain ⟨v, st, w1, hr, hR⟩ := hrun
  unfold Oper.wp
  simp [execOp, hop, hm, hk, hr, Result.andThen]
  exact hK' _ _ (h v st w1 hR)
theorem wpList_entry_store (hg : o.guard = none) (t : TypeId) (m s x : Operand) (hop : o.op = .entryStore t m s x) (mv sv xv : Value) (hm : a.eval m = mv) (hs : a.eval s = sv) (hx : a.eval x = xv) {R : World → Prop}
    (hrun : ∃ w1, (Instr.entryStore t mv sv xv).run P w = .ok () w1 ∧ R w1) (h : ∀ w1, R w1 → wpList P ops Q rest (a.put o.dst undef) w1) : wpList P ops Q (o :: rest) a w := by
  refine wpList_plain hg fun K' hK' => ?_
  obtain ⟨w1, hr, hR⟩ := hrun
  unfold Oper.wp
  simp [execOp, hop, hm, hs, hx, hr, Result.andThen]
  exact hK' _ _ (h w1 hR)
theorem wpList_range_at (hg : o.guard = none) (t : TypeId) (m : Operand) (hop : o.op = Op.range t m) (k e : TypeId) (bm : Nat) (es : Array MapEntry) (clock : Nat) (ht : P.underlying t = some (.map k e)) (hb : w.heap[bm]? = some (.map es clock)) (hm : a.eval m = .map (some bm))
    (h : wpList P ops Q rest (a.put o.dst (.pointer (some ⟨w.heap.size, 0, none⟩))) (w.alloc (.mapIter (some bm) clock #[] clock))) : wpList P ops Q (o :: rest) a w := by
  refine wpList_plain hg fun K' hK' => ?_
  unfold Oper.wp
  simp [execOp, hop, hm, run_range_map w t k e bm es clock ht hb, Result.andThen]
  exact hK' _ _ h
theorem wpList_next_at (hg : o.guard = none) (it : Operand) (hop : o.op = Op.next it false) (r bm since c0 : Nat) (seen : Array Nat) (es : Array MapEntry) (clock : Nat) (hit : a.eval it = .pointer (some ⟨r, 0, none⟩))
    (hr : w.heap[r]? = some (.mapIter (some bm) since seen c0)) (hb : w.heap[bm]? = some (.map es clock)) (hold : ∀ x ∈ es.toList, x.born < since) (hsc : since ≤ c0)
    (hDone : (leftOf es seen).size = 0 → wpList P ops Q rest (a.put o.dst (.tuple #[.bool false])) w)
    (hMore : ∀ (e : MapEntry) (w1 : World), e ∈ (leftOf es seen).toList → (w1 = w ∨ w1 = w.drew) → wpList P ops Q rest (a.put o.dst (.tuple #[.bool true, e.key, e.val])) (setBlock w1 r (.mapIter (some bm) since (seen.push e.born) clock))) : wpList P ops Q (o :: rest) a w := by
  refine wpList_plain hg fun K' hK' => ?_
  unfold Oper.wp
  rcases run_next_at (P := P) w o.type r bm since c0 seen es clock hr hb hold hsc with ⟨h0, hrun⟩ | ⟨e, he, w1, hw1, hrun⟩
  · simp [execOp, hop, hit, hrun, Result.andThen]
    exact hK' _ _ (hDone h0)
  · simp [execOp, hop, hit, hrun, Result.andThen]
    exact hK' _ _ (hMore e w1 he hw1)
end

/-! ### What Balanced says -/
def i64T (l : List S36) : Bool := l.all fun x => i64B x.f0 && i64B x.f1
def upto (l : List S36) (known : Int) : List S36 := l.filter fun e => decide (e.f1 ≤ known)
def balOf (l : List S36) (known : Int) : Bool := (upto l known).all fun e => zeroE (grp (upto l known) e.f0 e.f1)
def ledger_Balanced.f (l0 : List S36) (a1 : Int) : Option Bool := if l0.length * 56 ≤ 140737488355328 then (if i64E l0 = true then (if i64T l0 = true then some (balOf l0 a1) else none) else none) else none

theorem upto_next (l : List S36) (known : Int) (i : Nat) (hi : i < l.length) : upto (l.take (i + 1)) known = if (rd_T36 l i).f1 ≤ known then upto (l.take i) known ++ [rd_T36 l i] else upto (l.take i) known := by
  have : rd_T36 l i = l[i] := by simp [rd_T36, List.getD_eq_getElem?_getD, List.getElem?_eq_getElem hi]
  rw [this, List.take_succ_eq_append_getElem hi]
  unfold upto
  rw [List.filter_append]
  by_cases h : l[i].f1 ≤ known
  · simp [h]
  · simp [h]

theorem below_setBlock {B : Nat} {w : World} {b : Nat} (hB : B ≤ b) (o : Obj) : Below B w (setBlock w b o) :=
  ⟨rfl, rfl, rfl, by simp [setBlock], fun k hk => by simp only [setBlock]; rw [Array.getElem?_setIfInBounds_ne (by omega)]⟩
theorem oneC {W : World} {g t : Nat} {fr : Nat × Nat} (y : S36) (h : W.heap[g]? = some (.cells #[.int .i64 y.f0, .int .i64 y.f1, .int .i64 y.f2, .int .i64 y.f3, .int .i64 y.f4, .int .i64 y.f5, .int .i64 y.f6] t fr)) : Kd.C k36 W (some ⟨g, 0, none⟩) 1 [y] := by
  refine ⟨rfl, by simp, fun _ => ⟨_, rfl, fun j p hj => ?_⟩⟩
  have hj0 : j = 0 := by have := (List.getElem?_eq_some_iff.1 hj).1; simp at this; exact this
  subst hj0
  have : y = p := by simpa using hj
  subst this
  refine ⟨cE y, rfl, k36.K_of_M (base := 0) (ok := fun _ => True) (k36_mkM _ _ _ _), fun i u hu => ?_⟩
  have e : (⟨g, 0, none⟩ : Addr).add (0 * k36.sz + i) = ⟨g, i, none⟩ := by
    simp [Addr.add]
    try (intro h; exact h.symm)
  rw [e]
  simp only [World.cell?, h]
  have : (#[Value.int .i64 y.f0, .int .i64 y.f1, .int .i64 y.f2, .int .i64 y.f3, .int .i64 y.f4, .int .i64 y.f5, .int .i64 y.f6] : Array Value)[i]? = (cE y)[i]? := by simp only [cE, List.getElem?_toArray]
  rw [this]
  exact hu
theorem balEntry {w wr : World} {p : List S36} {es : Array MapEntry} {clock : Nat} (hW : Below w.heap.size w wr) (h : GInv wr w.heap.size (w.heap.size + 1) p es clock) (y : S36) (ha : i64B y.f0 = true) (hc : i64B y.f1 = true) (o1 o2 : Obj) :
    ∃ (v : Value) (st : Nat) (w1 : World), (Instr.mapEntry 50 (.map (some w.heap.size)) (keyV y.f0 y.f1)).run Try.prog (((wr.alloc o1).alloc o2).alloc (.cells #[.int .i64 y.f0, .int .i64 y.f1, .int .i64 y.f2, .int .i64 y.f3, .int .i64 y.f4, .int .i64 y.f5, .int .i64 y.f6] 36)) = .ok (.tuple #[v, goInt st]) w1 ∧
      (Kd.R k36 36 w1 (w.heap.size + 1) (fun _ => True) v (grp p y.f0 y.f1) ∧ Kd.C k36 w1 (some ⟨wr.heap.size + 2, 0, none⟩) 1 [y] ∧ Below w.heap.size w w1 ∧ w.heap.size + 1 ≤ w1.heap.size ∧
      ∀ (w2 : World) (v2 : Value), w1.grownBy w2 v.ownBlock → Kd.R k36 36 w2 (w.heap.size + 1) (fun _ => True) v2 (grp p y.f0 y.f1 ++ [y]) → (v2.ownBlock = v.ownBlock ∨ ∃ g, v2.ownBlock = some g ∧ w1.heap.size ≤ g) →
        ∃ w3, (Instr.entryStore 50 (.map (some w.heap.size)) (.int .i64 st) v2).run Try.prog w2 = .ok () w3 ∧ (Below w.heap.size w2 w3 ∧ ∃ es2 clock2, GInv w3 w.heap.size (w.heap.size + 1) (p ++ [y]) es2 clock2)) := by
  have hblt : w.heap.size < wr.heap.size := (Array.getElem?_eq_some_iff.1 h.blk).1
  generalize hu : ((wr.alloc o1).alloc o2) = u
  have hus : u.heap.size = wr.heap.size + 2 := by rw [← hu]; simp
  have hB : Below wr.heap.size wr u := by
    rw [← hu]
    exact ((Below.refl _ wr).alloc (Nat.le_refl _) o1).alloc (by simp) o2
  have h1 : (u.alloc (.cells #[.int .i64 y.f0, .int .i64 y.f1, .int .i64 y.f2, .int .i64 y.f3, .int .i64 y.f4, .int .i64 y.f5, .int .i64 y.f6] 36)).heap[u.heap.size]? = some (.cells #[.int .i64 y.f0, .int .i64 y.f1, .int .i64 y.f2, .int .i64 y.f3, .int .i64 y.f4, .int .i64 y.f5, .int .i64 y.f6] 36 (0, 0)) := (MapKept.heap_alloc u _).1
  have hBu : Below u.heap.size u (u.alloc (.cells #[.int .i64 y.f0, .int .i64 y.f1, .int .i64 y.f2, .int .i64 y.f3, .int .i64 y.f4, .int .i64 y.f5, .int .i64 y.f6] 36)) := (Below.refl _ u).alloc (Nat.le_refl _) _
  rw [hus] at h1
  have hs : (u.alloc (.cells #[.int .i64 y.f0, .int .i64 y.f1, .int .i64 y.f2, .int .i64 y.f3, .int .i64 y.f4, .int .i64 y.f5, .int .i64 y.f6] 36)).heap.size = wr.heap.size + 3 := by simp [hus]
  generalize (u.alloc (.cells #[.int .i64 y.f0, .int .i64 y.f1, .int .i64 y.f2, .int .i64 y.f3, .int .i64 y.f4, .int .i64 y.f5, .int .i64 y.f6] 36)) = x at h1 hBu hs ⊢
  have hBx : Below wr.heap.size wr x := hB.trans (hBu.mono (by omega))
  have hGx := h.move (w1 := x) (fun k hk => hBx.block k hk)
  obtain ⟨v, st, es1, clock1, hrun, hR, hback⟩ := hGx.entry y ha hc (by omega)
  have hBw := below_setBlock (w := x) (Nat.le_refl w.heap.size) (.map es1 clock1)
  refine ⟨v, st, _, hrun, hR, ?_, (hW.trans (hBx.mono (by omega))).trans hBw, by simp [setBlock]; omega, ?_⟩
  · exact oneC y ((heap_setBlock_other hGx.blk _ (by omega)).trans h1)
  · intro w2 v2 hg hR2 hat
    obtain ⟨es2, clock2, hr2, hG2⟩ := hback w2 v2 hg hR2 hat
    exact ⟨_, hr2, below_setBlock (Nat.le_refl _) _, _, _, hG2⟩

theorem heap_setBlock_at {w : World} {r : Nat} {o1 : Obj} (h : w.heap[r]? = some o1) (o : Obj) : (setBlock w r o).heap[r]? = some o := by
  have hlt : r < w.heap.size := (Array.getElem?_eq_some_iff.1 h).1
  simp [setBlock, hlt]
theorem heap_setBlock_ne (w : World) (r : Nat) (o : Obj) {k : Nat} (hk : k ≠ r) : (setBlock w r o).heap[k]? = w.heap[k]? := by
  simp only [setBlock]
  rw [Array.getElem?_setIfInBounds_ne (fun e => hk e.symm)]
/-- One step of the loop over the map: nothing that the relation speaks of has turned. -/
theorem GInv.iter {w w1 : World} {b base r since c0 clock : Nat} {seen : Array Nat} {p : List S36} {es : Array MapEntry} (h : GInv w b base p es clock) (hw1 : w1 = w ∨ w1 = w.drew) (hr : w.heap[r]? = some (.mapIter (some b) since seen c0)) (o : Obj) : GInv (setBlock w1 r o) b base p es clock := by
  have hm : ∀ k, k ≠ r → (setBlock w1 r o).heap[k]? = w.heap[k]? := fun k hk => by
    rw [heap_setBlock_ne _ _ _ hk]
    rcases hw1 with rfl | rfl <;> rfl
  refine ⟨(hm b ?_).trans h.blk, h.st, h.low, ?_, h.all, h.apart⟩
  · intro e
    have := h.blk
    rw [e, hr] at this
    cases this
  · intro x hx
    obtain ⟨a, c, h1, h2, h3, h4, g, cap, h5, h6, h7⟩ := h.ent x hx
    refine ⟨a, c, h1, h2, h3, h4, g, cap, h5, h6, h7.move (hm g ?_)⟩
    intro e
    obtain ⟨cur, hb, _⟩ := h7
    rw [e, hr] at hb
    cases hb
theorem bal_all {l : List S36} {known : Int} {w : World} {b base clock : Nat} {es : Array MapEntry} (h : GInv w b base (upto l known) es clock) (hz : ∀ x ∈ es.toList, ∀ a c, x.key = keyV a c → zeroE (grp (upto l known) a c) = true) : balOf l known = true := by
  unfold balOf
  rw [List.all_eq_true]
  intro e he
  obtain ⟨x, hx, hk⟩ := h.all e he
  exact hz x hx _ _ hk
theorem bal_not {l : List S36} {known a c : Int} (hne : grp (upto l known) a c ≠ []) (hz : zeroE (grp (upto l known) a c) = false) : balOf l known = false := by
  obtain ⟨e, he⟩ := List.exists_mem_of_ne_nil _ hne
  simp only [grp, List.mem_filter, Bool.and_eq_true, decide_eq_true_eq] at he
  unfold balOf
  rw [Bool.eq_false_iff]
  intro h
  rw [List.all_eq_true] at h
  have := h e he.1
  rw [he.2.1, he.2.2, hz] at this
  cases this
theorem upto_i64 {l : List S36} (known a c : Int) (h : i64E l = true) : i64E (grp (upto l known) a c) = true := by
  unfold i64E at *
  rw [List.all_eq_true] at *
  intro x hx
  simp only [grp, upto, List.mem_filter] at hx
  exact h x hx.1.1
theorem upto_len (l : List S36) (known a c : Int) : (grp (upto l known) a c).length ≤ l.length :=
  Nat.le_trans (List.length_filter_le _ _) (List.length_filter_le _ _)

set_option maxHeartbeats 1000000 in
theorem ledger_Balanced.calls (A0 : Option Addr) (c0 : Nat) (l0 : List S36) (a1 : Int) (r : Bool) (w : World) (hr0 : Kd.C k36 w A0 l0.length l0) (hc0 : l0.length ≤ c0) (h : ledger_Balanced.f l0 a1 = some r) :
    Calls Try.prog 14 #[.slice A0 l0.length c0, .int .i64 a1] w fun e w' => e = .returned (.bool r) ∧ Below w.heap.size w w' := by
  unfold ledger_Balanced.f at h
  by_cases hl : l0.length * 56 ≤ 140737488355328
  case neg => rw [if_neg hl] at h; cases h
  rw [if_pos hl] at h
  by_cases hi : i64E l0 = true
  case neg => rw [if_neg hi] at h; cases h
  rw [if_pos hi] at h
  by_cases hit : i64T l0 = true
  case neg => rw [if_neg hit] at h; cases h
  rw [if_pos hit] at h
  injection h with h
  have H := Aside0.mk h
  have HR0 := Aside0.mk hr0
  have HL := Aside0.mk hl
  have HI := Aside0.mk hi
  have HT := Aside0.mk hit
  have hm0 := hr0.2.1
  have HG0 := Aside0.mk (GInv.made w)
  have hmm := @run_makeMap Try.prog
  clear h hr0 hl hi hit hc0
  go_enter Try.func14, Try.ntmps14
  go_wp2_with fail
  go_loopg [14] l0.length (fun kq v14 wr => ∃ i : Int, v14 = .int .i64 i ∧ 0 ≤ i ∧ Aside0 (i + kq = (l0.length : Int)) ∧ Aside0 (Below w.heap.size w wr) ∧ Aside0 (∃ es clock, GInv wr w.heap.size (w.heap.size + 1) (upto (l0.take i.toNat) a1) es clock))
  case atStart => exact ⟨0, rfl, by omega, ⟨by omega⟩, ⟨(Below.refl _ w).alloc (Nat.le_refl _) _⟩, ⟨_, _, by simpa [upto] using HG0.out⟩⟩
  case round =>
    obtain ⟨i, rfl, h0, HK, HW, HG⟩ := hrel
    obtain ⟨ko, rfl⟩ : ∃ ko, ko = gk := ⟨_, rfl⟩
    have HRw := Aside0.mk (Kd.C_below HR0.out HW.out)
    by_cases c2 : i < (l0.length : Int)
    · obtain ⟨ad, e, q0, q1, q2, q3, q4, q5, q6⟩ := at_T36 HRw.out i h0 c2
      cases e
      have HY := Aside0.mk (rd_mem l0 i h0 c2)
      have HU := Aside0.mk (upto_next l0 a1 i.toNat (by omega))
      rw [show ((i.toNat : Nat) : Int) = i by omega] at HU
      generalize rd_T36 l0 i = y at q0 q1 q2 q3 q4 q5 q6 HY HU
      by_cases ck : y.f1 ≤ a1
      · have HE : Aside0 _ := ⟨fun (o1 o2 : Obj) => HG.out.elim fun es h => h.elim fun clock h => balEntry HW.out h y (by have := HT.out; unfold i64T at this; have := List.all_eq_true.1 this y HY.out; simp only [Bool.and_eq_true] at this; exact this.1) (by have := HT.out; unfold i64T at this; have := List.all_eq_true.1 this y HY.out; simp only [Bool.and_eq_true] at this; exact this.2) o1 o2⟩
        have HLg : Aside0 (((grp (upto (l0.take i.toNat) a1) y.f0 y.f1).length + 1) * 56 ≤ 140737488355328) := ⟨by
          have h1 : (grp (upto (l0.take i.toNat) a1) y.f0 y.f1).length ≤ (upto (l0.take i.toNat) a1).length := List.length_filter_le _ _
          have h2 : (upto (l0.take i.toNat) a1).length ≤ (l0.take i.toNat).length := List.length_filter_le _ _
          rw [List.length_take] at h2
          have := HL.out
          omega⟩
        go_wp2_with (first | (refine wpList_map_entry rfl 50 _ _ rfl _ _ rfl rfl (HE.out _ _) ?_; rintro v st w1 ⟨hR, hC, hBw, hs1, hback⟩) | (at_builtin; refine Kd.R_append_rows k36 (w0 := w1) (w.heap.size + 1) rfl _ _ 22 36 _ 56 rfl Try.underlying22 info36 rfl (by decide) (by decide) v _ [y] _ 1 1 (fun _ => True) (fun _ => False) rfl rfl hR hC (fun x cs h => kE_KM x cs h) (fun _ h => h.elim) (fun _ _ => trivial) (Below.refl _ _) hs1 HLg.out ?_; intro v1 w2 hown hbel hgr hat) | (refine wpList_entry_store rfl 50 _ _ _ rfl _ _ _ rfl rfl rfl (hback _ _ hgr hown hat) ?_; rintro w3 ⟨hb3, hG3⟩) | fail)
        go_roundg (ko - 1)
        case measure => have := HK.out; omega
        case rel =>
          refine ⟨i + 1, by go_num, by omega, ⟨by have := HK.out; omega⟩, ⟨(hBw.trans (hbel.mono (by omega))).trans hb3⟩, ⟨?_⟩⟩
          rw [show (i + 1).toNat = i.toNat + 1 by omega, HU.out, if_pos ck]
          exact hG3
      · go_wp2_with fail
        go_roundg (ko - 1)
        case measure => have := HK.out; omega
        case rel =>
          refine ⟨i + 1, by go_num, by omega, ⟨by have := HK.out; omega⟩, ⟨HW.out.trans ((Below.refl _ wr).alloc HW.out.size _)⟩, ⟨?_⟩⟩
          rw [show (i + 1).toNat = i.toNat + 1 by omega, HU.out, if_neg (by omega)]
          obtain ⟨es, clock, hG⟩ := HG.out
          exact ⟨es, clock, hG.move (fun k hk => ((Below.refl _ wr).alloc (Nat.le_refl _) _).block k hk)⟩
    · have hlast : i.toNat = l0.length := by have := HK.out; omega
      have HGe : Aside0 (∃ es clock, GInv wr w.heap.size (w.heap.size + 1) (upto l0 a1) es clock) := ⟨by have := HG.out; rwa [List.take_of_length_le (by omega)] at this⟩
      clear HG hlast HRw
      obtain ⟨es, clock, hG⟩ := HGe.out
      have hblk := hG.blk
      have HGI := Aside0.mk hG
      clear hG HGe
      go_wp2_with (first | (refine wpList_range_at rfl 50 _ rfl 52 22 w.heap.size es clock (by kernel_rfl) hblk rfl ?_) | fail)
      have HB0 := Aside0.mk ((Below.refl _ wr).alloc (Nat.le_refl _) (.mapIter (some w.heap.size) clock #[] clock))
      have HI0 : Aside0 ((wr.alloc (.mapIter (some w.heap.size) clock #[] clock)).heap[wr.heap.size]? = some (.mapIter (some w.heap.size) clock #[] clock)) := ⟨(MapKept.heap_alloc wr _).1⟩
      obtain ⟨rr, hrr⟩ : ∃ rr, rr = wr.heap.size := ⟨_, rfl⟩
      rw [← hrr] at HI0
      rw [← hrr]
      clear hblk
      go_loopg [10] (leftOf es #[]).size (fun kq _ wq => ∃ (seen : Array Nat) (c1 : Nat), Aside0 (kq = (leftOf es seen).size) ∧ Aside0 (wq.heap[rr]? = some (.mapIter (some w.heap.size) clock seen c1)) ∧ Aside0 (clock ≤ c1) ∧ Aside0 (GInv wq w.heap.size (w.heap.size + 1) (upto l0 a1) es clock) ∧ Aside0 (Below w.heap.size w wq) ∧ Aside0 (∀ x ∈ es.toList, seen.contains x.born = true → ∀ a c, x.key = keyV a c → zeroE (grp (upto l0 a1) a c) = true))
      case atStart => exact ⟨#[], clock, ⟨rfl⟩, HI0, ⟨Nat.le_refl _⟩, ⟨HGI.out.move (fun k hk => HB0.out.block k hk)⟩, ⟨HW.out.trans (HB0.out.mono HW.out.size)⟩, ⟨fun x _ h => by simp at h⟩⟩
      case round =>
        obtain ⟨seen, c1, HK1, HI1, HC1, HG1, HW1, HZ1⟩ := hrel
        obtain ⟨ko, rfl⟩ : ∃ ko, ko = gk := ⟨_, rfl⟩
        go_wp2_with (first | (refine wpList_next_at rfl _ rfl rr w.heap.size clock c1 seen es clock rfl HI1.out HG1.out.blk HG1.out.st.1 HC1.out ?_ ?_) | fail)
        · intro hd
          go_wp2_with fail
          go_ret
          refine ⟨?_, HW1.out⟩
          rw [← H.out, bal_all HG1.out (fun x hx => HZ1.out x hx (all_seen es seen (by simp [hd]) x hx))]
          rfl
        · intro x w1 hx hw1
          subst hrr
          replace hx := Array.mem_toList_iff.2 hx
          have HX := Aside0.mk (mem_left hx)
          have HLs := Aside0.mk (left_shrinks es seen x hx)
          have hG2 := HG1.out.iter hw1 HI1.out (.mapIter (some w.heap.size) clock (seen.push x.born) clock)
          have hI2 := heap_setBlock_at (w := w1) (show w1.heap[_]? = _ by rcases hw1 with h | h <;> (subst h; exact HI1.out)) (.mapIter (some w.heap.size) clock (seen.push x.born) clock)
          have hb2 := below_setBlock (w := w1) HW.out.size (.mapIter (some w.heap.size) clock (seen.push x.born) clock)
          have hb1 : Below w.heap.size w w1 := by
            rcases hw1 with h | h
            · subst h; exact HW1.out
            · subst h; exact below_drew HW1.out
          have HBw := Aside0.mk (hb1.trans hb2)
          have hen := run_entry_at (P := Try.prog) _ _ w.heap.size clock seen es clock x hI2 hG2.blk HX.out.1 hG2.st.2.1
          obtain ⟨a, c, k1, k2, k3, k4, g, cap, k5, k6, k7⟩ := hG2.ent x HX.out.1
          rw [k5] at hen ⊢
          have HIw := Aside0.mk hI2
          have HGw := Aside0.mk hG2
          clear hI2 hG2 hb1 hb2 hx
          generalize (setBlock w1 _ (Obj.mapIter (some w.heap.size) clock (seen.push x.born) clock)) = W at hen k7 HIw HGw HBw ⊢
          obtain ⟨_, hcap, hC⟩ := Kd.R_reads' (RowE.toR k7 k6 (ok := fun _ => True) trivial)
          have HZc := Aside0.mk (ledger_zero.calls _ _ cap _ _ W hC hcap (zero_f _ (by have := upto_len l0 a1 a c; have := HL.out; omega) (upto_i64 a1 a c HI.out)))
          have HK5 := Aside0.mk (And.intro k1 k4)
          clear k1 k2 k3 k4 k5 k6 k7 hcap hC
          cases hz : zeroE (grp (upto l0 a1) a c) with
          | false =>
            have HN := Aside0.mk (bal_not HK5.out.2 hz)
            rw [hz] at HZc
            clear hz
            go_wp2_with (first | (go_at_call 21; refine HZc.out.mono ?_; rintro e w2 ⟨rfl, hb⟩) | fail)
            go_ret
            refine ⟨?_, HBw.out.trans (hb.mono HBw.out.size)⟩
            rw [← H.out, HN.out]
            rfl
          | true =>
            rw [hz] at HZc
            have HZT := Aside0.mk hz
            clear hz
            go_wp2_with (first | (go_at_call 21; refine HZc.out.mono ?_; rintro e w2 ⟨rfl, hb⟩) | fail)
            go_roundg (leftOf es (seen.push x.born)).size
            case measure => rw [HK1.out]; exact HLs.out
            case rel =>
              refine ⟨seen.push x.born, clock, ⟨rfl⟩, ⟨(hb.block _ (Array.getElem?_eq_some_iff.1 HIw.out).1).trans HIw.out⟩, ⟨Nat.le_refl _⟩, ⟨HGw.out.move (fun k hk => hb.block k hk)⟩, ⟨HBw.out.trans (hb.mono HBw.out.size)⟩, ⟨fun y hy hs a' c' hk => ?_⟩⟩
              rw [Array.contains_push] at hs
              cases hsy : seen.contains y.born with
              | true => exact HZ1.out y hy hsy a' c' hk
              | false =>
                rw [hsy, Bool.false_or, beq_iff_eq] at hs
                have hxy : y = x := by
                  have hn := HGw.out.st.2.1
                  obtain ⟨i1, e1⟩ := List.mem_iff_getElem?.1 hy
                  obtain ⟨i2, e2⟩ := List.mem_iff_getElem?.1 HX.out.1
                  have l1 := (List.getElem?_eq_some_iff.1 e1).1
                  have l2 := (List.getElem?_eq_some_iff.1 e2).1
                  have n1 : (es.toList.map (·.born))[i1]'(by simpa using l1) = (es.toList.map (·.born))[i2]'(by simpa using l2) := by
                    simp only [List.getElem_map, (List.getElem?_eq_some_iff.1 e1).2, (List.getElem?_eq_some_iff.1 e2).2, hs]
                  have := (List.getElem_inj hn).1 n1
                  subst this
                  rw [e1] at e2
                  injection e2
                subst hxy
                rw [hk] at HK5
                obtain ⟨rfl, rfl⟩ := keyV_inj HK5.out.1
                exact HZT.out
end Go.Proofs.Ytlmjopodghikgaa.Print
end
