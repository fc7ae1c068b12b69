/- A map from two integers to entries that a call makes: the relation, and its laws at the operations. -/
import Derived.Test.YtlmjopodghikgaaHPost
import Derived.DeepKeys4
import Derived.Maps.RangeRun
namespace Go.Proofs.Ytlmjopodghikgaa.Print
open Go.RowKit Go.Proofs.YtlmjopodghikgaaW.PrintWords
open Go.ChangeMaps (setBlock heap_setBlock_same heap_setBlock_other)
open Go.MapKept (Stamped stamped_push stamped_modify stamped_empty)
set_option linter.unusedVariables false
set_option linter.unusedSimpArgs false

/-! ### Keys -/
def keyV (a c : Int) : Value := .agg #[.int .i64 a, .int .i64 c]
theorem keyV_inj {a c a' c' : Int} (h : keyV a c = keyV a' c') : a = a' ∧ c = c' := by
  simpa [keyV] using h
theorem laidOut : laidOutB Try.prog = true := by kernel_rfl
theorem wideK : (match Try.prog.underlying 52 with | some (.array _ _) | some (.struct _) => true | _ => false) = true := by kernel_rfl
theorem rowK : (52 : TypeId) < Try.prog.types.size := of_decide_eq_true (by kernel_rfl)
theorem lawK : WideMaps.KeyLaw Try.prog 52 := deep_law_laid laidOut (m := 2) (by omega) rowK (by kernel_rfl) wideK
theorem ktK : Try.prog.keyType 52 = true := by kernel_rfl
theorem cellsK : Try.prog.cellsOf 52 = 2 := by kernel_rfl
theorem cells3 : Try.prog.cellsOf 3 = 1 := by kernel_rfl
theorem undK : ∃ f1 f2 : Field, Try.prog.underlying 52 = some (.struct #[f1, f2]) ∧ f1.type = 3 ∧ f2.type = 3 ∧ f1.offset = 0 ∧ f2.offset = 1 ∧ (f1.name != "_") = true ∧ (f2.name != "_") = true := by
  have h : (match Try.prog.underlying 52 with | some (.struct fs) => (match fs.toList with | [f1, f2] => f1.type == 3 && f2.type == 3 && f1.offset == 0 && f2.offset == 1 && f1.name != "_" && f2.name != "_" | _ => false) | _ => false) = true := by kernel_rfl
  split at h
  · rename_i fs hu
    split at h
    · rename_i f1 f2 hl
      simp only [Bool.and_eq_true, beq_iff_eq] at h
      obtain ⟨⟨⟨⟨⟨h1, h2⟩, h3⟩, h4⟩, h5⟩, h6⟩ := h
      have : fs = #[f1, f2] := by rw [← hl]
      exact ⟨f1, f2, by rw [hu, this], h1, h2, h3, h4, h5, h6⟩
    · cases h
  · cases h
theorem tyS : ∃ m, Try.prog.types.size = m + 1 := by
  have h : 0 < Try.prog.types.size := of_decide_eq_true (by kernel_rfl)
  exact ⟨Try.prog.types.size - 1, by omega⟩
theorem wf_i64B {a : Int} (h : i64B a = true) : (Lit.int .i64 a).wf = true := h
theorem key_reads {a c : Int} (ha : i64B a = true) (hc : i64B c = true) : ∃ kl, keyOf Try.prog 52 (keyV a c) = some kl := by
  have wa : (Lit.int .i64 a).wf = true := wf_i64B ha
  have wc : (Lit.int .i64 c).wf = true := wf_i64B hc
  obtain ⟨f1, f2, hu, t1, t2, o1, o2, n1, n2⟩ := undK
  obtain ⟨m, hm⟩ := tyS
  refine ⟨.string (keyBytes [.int .i64 a, .int .i64 c]), ?_⟩
  unfold keyOf
  simp only [hu]
  rw [if_pos (by simp [ktK, keyV, Value.formed, hu, cellsK]), hm]
  unfold Program.keyLits
  simp only [hu, keyV, Value.cells]
  rw [if_pos (by rw [cellsK]; simp [n1, n2]), List.mapM_cons, List.mapM_cons, List.mapM_nil]
  simp [t1, t2, o1, o2, cells3, Program.keyLits, Try.underlying3, wa, wc]

/-! ### The relation -/
def grp (p : List S36) (a c : Int) : List S36 := p.filter fun e => decide (e.f0 = a) && decide (e.f1 = c)
theorem grp_same (p : List S36) (x : S36) : grp (p ++ [x]) x.f0 x.f1 = grp p x.f0 x.f1 ++ [x] := by simp [grp, List.filter_append]
theorem grp_other (p : List S36) (x : S36) {a c : Int} (h : keyV a c ≠ keyV x.f0 x.f1) : grp (p ++ [x]) a c = grp p a c := by
  have : (decide (x.f0 = a) && decide (x.f1 = c)) = false := by
    rw [Bool.eq_false_iff]
    intro hh
    simp only [Bool.and_eq_true, decide_eq_true_eq] at hh
    exact h (by rw [hh.1, hh.2])
  simp [grp, List.filter_append, this]

/-- x's value is a slice of the call's own that holds the group l. -/
def OwnV (w : World) (base : Nat) (v : Value) (l : List S36) : Prop := ∃ g cap, v = .slice (some ⟨g, 0, none⟩) l.length cap ∧ base ≤ g ∧ RowE w g cap l

structure GInv (w : World) (b base : Nat) (p : List S36) (es : Array MapEntry) (clock : Nat) : Prop where
  blk : w.heap[b]? = some (.map es clock)
  st : Stamped es clock
  low : b < base
  ent : ∀ x ∈ es.toList, ∃ a c, x.key = keyV a c ∧ i64B a = true ∧ i64B c = true ∧ grp p a c ≠ [] ∧ OwnV w base x.val (grp p a c)
  all : ∀ e ∈ p, ∃ x ∈ es.toList, x.key = keyV e.f0 e.f1
  apart : ∀ x ∈ es.toList, ∀ y ∈ es.toList, x.key ≠ y.key → x.val.ownBlock ≠ y.val.ownBlock

namespace GInv
variable {w w1 : World} {b base : Nat} {p : List S36} {es : Array MapEntry} {clock : Nat}
theorem move (h : GInv w b base p es clock) (hm : ∀ k, k < w.heap.size → w1.heap[k]? = w.heap[k]?) : GInv w1 b base p es clock where
  blk := (hm b (Array.getElem?_eq_some_iff.1 h.blk).1).trans h.blk
  st := h.st
  low := h.low
  ent x hx := by
    obtain ⟨a, c, h1, h2, h3, h4, g, cap, h5, h6, h7⟩ := h.ent x hx
    exact ⟨a, c, h1, h2, h3, h4, g, cap, h5, h6, h7.move (hm g h7.lt)⟩
  all := h.all
  apart := h.apart
theorem keys (h : GInv w b base p es clock) : ∀ e ∈ es.toList, ∃ l, keyOf Try.prog 52 e.key = some l := fun e he => by
  obtain ⟨a, c, h1, h2, h3, _⟩ := h.ent e he
  rw [h1]
  exact key_reads h2 h3
theorem made (w : World) : GInv (w.alloc (.map #[] 0)) w.heap.size (w.heap.size + 1) [] #[] 0 where
  blk := (MapKept.heap_alloc w _).1
  st := stamped_empty 0
  low := Nat.lt_succ_self _
  ent x hx := by simp at hx
  all e he := by simp at he
  apart x hx := by simp at hx
end GInv

theorem zeroS (w : World) : (zeroValue 22).run Try.prog w = .ok (.slice none 0 0) w := by kernel_rfl

/-- The value at a key, and the way back. -/
theorem GInv.entry {w : World} {b base : Nat} {p : List S36} {es : Array MapEntry} {clock : Nat} (h : GInv w b base p es clock) (x : S36) (ha : i64B x.f0 = true) (hc : i64B x.f1 = true) (hbase : base ≤ w.heap.size) :
    ∃ (v : Value) (st : Nat) (es1 : Array MapEntry) (clock1 : Nat), (Instr.mapEntry 50 (.map (some b)) (keyV x.f0 x.f1)).run Try.prog w = .ok (.tuple #[v, goInt st]) (setBlock w b (.map es1 clock1)) ∧
      Kd.R k36 36 (setBlock w b (.map es1 clock1)) base (fun _ => True) v (grp p x.f0 x.f1) ∧
      ∀ (w2 : World) (v2 : Value), (setBlock w b (.map es1 clock1)).grownBy w2 v.ownBlock → Kd.R k36 36 w2 base (fun _ => True) v2 (grp p x.f0 x.f1 ++ [x]) → (v2.ownBlock = v.ownBlock ∨ ∃ g, v2.ownBlock = some g ∧ (setBlock w b (.map es1 clock1)).heap.size ≤ g) →
        ∃ es2 clock2, (Instr.entryStore 50 (.map (some b)) (goInt st) v2).run Try.prog w2 = .ok () (setBlock w2 b (.map es2 clock2)) ∧ GInv (setBlock w2 b (.map es2 clock2)) b base (p ++ [x]) es2 clock2 := by
  have ht : Try.prog.underlying 50 = some (.map 52 22) := by kernel_rfl
  obtain ⟨kl, hkey⟩ := key_reads ha hc
  obtain ⟨s1, s2, s3⟩ := h.st
  have hb := h.blk
  have hblt : b < w.heap.size := (Array.getElem?_eq_some_iff.1 hb).1
  have hsz : ∀ o, (setBlock w b o).heap.size = w.heap.size := fun o => by simp [setBlock]
  rcases lawK.find w hkey es.toList h.keys with ⟨h1, h2⟩ | ⟨j, e0, h1, h2, h3⟩
  · -- no entry yet
    have hgrp : grp p x.f0 x.f1 = [] := by
      rw [List.eq_nil_iff_forall_not_mem]
      intro e he
      simp only [grp, List.mem_filter, Bool.and_eq_true, decide_eq_true_eq] at he
      obtain ⟨y, hy, hk⟩ := h.all e he.1
      exact h2 y hy (by rw [hk, he.2.1, he.2.2])
    refine ⟨.slice none 0 0, clock, es.push ⟨keyV x.f0 x.f1, .slice none 0 0, clock⟩, clock + 1, ?_, by rw [hgrp]; exact Kd.R_nil _ _ _ _ _, ?_⟩
    · simp [Instr.mapEntry, run_underlying ht, MapKept.run_getObj_map hb, lawK.check w false hkey, h1, zeroS, MapKept.run_setObj_map _ hb, Result.andThen, setBlock]
    · intro w2 v2 hg hR hat
      have hb2 : w2.heap[b]? = some (.map (es.push ⟨keyV x.f0 x.f1, .slice none 0 0, clock⟩) (clock + 1)) := (hg.block b (by rw [hsz]; exact hblt) (by simp [Value.ownBlock])).trans (heap_setBlock_same hb _)
      refine ⟨es.push ⟨keyV x.f0 x.f1, v2, clock⟩, clock + 1, ?_, ?_⟩
      · have hidx : (es.push ⟨keyV x.f0 x.f1, .slice none 0 0, clock⟩).findIdx? (fun e => ((e.born : Nat) : Int) == ((clock : Nat) : Int)) = some es.size := by
          rw [Array.findIdx?_push]
          have : es.findIdx? (fun e => ((e.born : Nat) : Int) == ((clock : Nat) : Int)) = none := by
            rw [Array.findIdx?_eq_none_iff]
            intro y hy
            have := s1 y (by simpa using hy)
            simp only [beq_eq_false_iff_ne, ne_eq, Int.natCast_inj]
            omega
          rw [this]
          simp
        have hmod : (es.push ⟨keyV x.f0 x.f1, .slice none 0 0, clock⟩).modify es.size (fun e => { e with val := v2 }) = es.push ⟨keyV x.f0 x.f1, v2, clock⟩ := by
          apply Array.ext
          · simp
          · intro i h1 h2
            simp only [Array.getElem_modify, Array.getElem_push]
            by_cases hi : i = es.size
            · subst hi; simp
            · simp only [Array.size_modify, Array.size_push] at h1
              rw [if_neg (by omega), dif_pos (by omega), dif_pos (by omega)]
        simp [Instr.entryStore, MapKept.run_getObj_map hb2, asInt, asIntOf, goInt, hidx, hmod, MapKept.run_setObj_map _ hb2, Result.andThen, setBlock]
      · have hR' : OwnV w2 base v2 (grp (p ++ [x]) x.f0 x.f1) := by
          rw [grp_same]
          rcases RowE.ofR hR with ⟨_, e⟩ | ⟨g, cap, e, hg1, _, hr⟩
          · simp at e
          · exact ⟨g, cap, e, hg1, hr⟩
        have hb3 : ∀ k, k ≠ b → (setBlock w2 b (.map (es.push ⟨keyV x.f0 x.f1, v2, clock⟩) (clock + 1))).heap[k]? = w2.heap[k]? := fun k hk => heap_setBlock_other hb2 _ hk
        have hold : ∀ k, k < w.heap.size → k ≠ b → w2.heap[k]? = w.heap[k]? := fun k hk hne => (hg.block k (by rw [hsz]; exact hk) (by simp [Value.ownBlock])).trans (heap_setBlock_other hb _ hne)
        have hlow := h.low
        refine ⟨heap_setBlock_same hb2 _, stamped_push h.st h2, h.low, ?_, ?_, ?_⟩
        · intro y hy
          simp only [Array.toList_push, List.mem_append, List.mem_singleton] at hy
          rcases hy with hy | rfl
          · obtain ⟨a, c, k1, k2, k3, k4, g, cap, k5, k6, k7⟩ := h.ent y hy
            have hne : keyV a c ≠ keyV x.f0 x.f1 := by rw [← k1]; exact h2 y hy
            refine ⟨a, c, k1, k2, k3, by rw [grp_other p x hne]; exact k4, g, cap, by rw [grp_other p x hne]; exact k5, k6, ?_⟩
            rw [grp_other p x hne]
            exact k7.move ((hb3 g (by omega)).trans (hold g k7.lt (by omega)))
          · obtain ⟨g, cap, e, hg1, hr⟩ := hR'
            exact ⟨x.f0, x.f1, rfl, ha, hc, by rw [grp_same]; simp, g, cap, e, hg1, hr.move (hb3 g (by omega))⟩
        · intro e he
          simp only [Array.toList_push, List.mem_append, List.mem_singleton] at he ⊢
          rcases he with he | rfl
          · obtain ⟨y, hy, hk⟩ := h.all e he
            exact ⟨y, .inl hy, hk⟩
          · exact ⟨_, .inr rfl, rfl⟩
        · have key : ∀ y ∈ es.toList, y.val.ownBlock ≠ v2.ownBlock := by
            intro y hy e
            obtain ⟨a, c, _, _, _, _, g, cap, k5, k6, k7⟩ := h.ent y hy
            obtain ⟨g2, cap2, e2, _, hr2⟩ := hR'
            have hgg : g = g2 := by rw [k5, e2] at e; simpa [Value.ownBlock] using e
            rcases hat with h4 | ⟨g3, h4, h5⟩
            · rw [e2] at h4; simp [Value.ownBlock] at h4
            · rw [e2] at h4
              have : g2 = g3 := by simpa [Value.ownBlock] using h4
              rw [hsz] at h5
              have := k7.lt
              omega
          intro y hy z hz hne
          simp only [Array.toList_push, List.mem_append, List.mem_singleton] at hy hz
          rcases hy with hy | rfl <;> rcases hz with hz | rfl
          · exact h.apart y hy z hz hne
          · exact key y hy
          · exact fun e => key z hz e.symm
          · exact absurd rfl hne
  · -- an entry is there
    have hm0 : e0 ∈ es.toList := List.mem_of_getElem? h2
    have hjl : j < es.toList.length := (List.getElem?_eq_some_iff.1 h2).1
    have hj : es[j]? = some e0 := by simpa using h2
    obtain ⟨a, c, k1, k2, k3, k4, g, cap, k5, k6, k7⟩ := h.ent e0 hm0
    rw [h3] at k1
    obtain ⟨rfl, rfl⟩ := keyV_inj k1
    have hsame : es.modify j (fun e => { e with key := keyV x.f0 x.f1 }) = es := by
      apply Array.ext
      · simp
      · intro i i1 i2
        simp only [Array.getElem_modify]
        split
        · rename_i e
          subst e
          have : es[j] = e0 := by have := hj; rw [Array.getElem?_eq_getElem i2] at this; simpa using this
          rw [this, ← h3]
        · rfl
    have hset : ∀ o, es = o → setBlock w b (.map o clock) = setBlock w b (.map es clock) := fun o e => by rw [e]
    refine ⟨e0.val, e0.born, es, clock, ?_, ?_, ?_⟩
    · simp [Instr.mapEntry, run_underlying ht, MapKept.run_getObj_map hb, lawK.check w false hkey, h1, hj, h3, lawK.stays w hkey, hsame, MapKept.run_setObj_map _ hb, Result.andThen, setBlock]
    · rw [k5]
      exact RowE.toR (k7.move (heap_setBlock_other hb _ (by have := h.low; omega))) k6 trivial
    · intro w2 v2 hg hR hat
      have hlow := h.low
      have hvo : e0.val.ownBlock = some g := by rw [k5]; rfl
      have hb2 : w2.heap[b]? = some (.map es clock) := (hg.block b (by rw [hsz]; exact hblt) (by rw [hvo]; intro e; injection e; omega)).trans (heap_setBlock_same hb _)
      refine ⟨es.modify j (fun e => { e with val := v2 }), clock, ?_, ?_⟩
      · have hidx : es.findIdx? (fun e => ((e.born : Nat) : Int) == ((e0.born : Nat) : Int)) = some j := by
          rw [Array.findIdx?_eq_some_iff_getElem]
          have hjs : j < es.size := by simpa using hjl
          have hej : es[j] = e0 := by rw [Array.getElem?_eq_getElem hjs] at hj; simpa using hj
          refine ⟨hjs, by simp [hej], fun i hi => ?_⟩
          have hil : i < es.size := by omega
          simp only [beq_iff_eq, Int.natCast_inj]
          intro e
          have n1 : (es.toList.map (·.born))[i]'(by simpa using hil) = (es.toList.map (·.born))[j]'(by simpa using hjs) := by
            simp [hej, e]
          have := (List.getElem_inj s2).1 n1
          omega
        simp [Instr.entryStore, MapKept.run_getObj_map hb2, asInt, asIntOf, goInt, hidx, MapKept.run_setObj_map _ hb2, Result.andThen, setBlock]
      · have hR' : OwnV w2 base v2 (grp (p ++ [x]) x.f0 x.f1) := by
          rw [grp_same]
          rcases RowE.ofR hR with ⟨_, e⟩ | ⟨g', cap', e, hg1, _, hr⟩
          · simp at e
          · exact ⟨g', cap', e, hg1, hr⟩
        have hb3 : ∀ k, k ≠ b → (setBlock w2 b (.map (es.modify j (fun e => { e with val := v2 })) clock)).heap[k]? = w2.heap[k]? := fun k hk => heap_setBlock_other hb2 _ hk
        have hold : ∀ k, k < w.heap.size → k ≠ b → k ≠ g → w2.heap[k]? = w.heap[k]? := fun k hk hne hng => (hg.block k (by rw [hsz]; exact hk) (by rw [hvo]; intro e; injection e; omega)).trans (heap_setBlock_other hb _ hne)
        have hlist : (es.modify j (fun e => { e with val := v2 })).toList = es.toList.set j { e0 with val := v2 } := by
          apply List.ext_getElem?
          intro i
          rw [Array.getElem?_toList, Array.getElem?_modify, List.getElem?_set, Array.getElem?_toList]
          by_cases e : j = i
          · subst e
            rw [if_pos rfl, if_pos rfl, if_pos hjl, hj]
            rfl
          · rw [if_neg e, if_neg e]
        have who : ∀ y ∈ (es.modify j (fun e => { e with val := v2 })).toList, y = { e0 with val := v2 } ∨ (y ∈ es.toList ∧ y.key ≠ keyV x.f0 x.f1) := by
          intro y hy
          rw [hlist, List.mem_iff_getElem?] at hy
          obtain ⟨i, hi⟩ := hy
          rw [List.getElem?_set] at hi
          by_cases e : j = i
          · subst e
            rw [if_pos rfl, if_pos hjl] at hi
            exact .inl (by simpa using hi.symm)
          · rw [if_neg e] at hi
            refine .inr ⟨List.mem_of_getElem? hi, fun ek => e ?_⟩
            have hil : i < es.toList.length := (List.getElem?_eq_some_iff.1 hi).1
            have n1 : (es.toList.map (·.key))[j]'(by simpa using hjl) = (es.toList.map (·.key))[i]'(by simpa using hil) := by
              have e1 : es.toList[j] = e0 := by have := h2; rw [List.getElem?_eq_getElem hjl] at this; simpa using this
              have e2 : es.toList[i] = y := by have := hi; rw [List.getElem?_eq_getElem hil] at this; simpa using this
              simp only [List.getElem_map, e1, e2, h3, ek]
            exact (List.getElem_inj s3).1 n1
        have key : ∀ y ∈ es.toList, y.key ≠ keyV x.f0 x.f1 → y.val.ownBlock ≠ v2.ownBlock := by
          intro y hy hne e
          obtain ⟨a, c, _, _, _, _, gy, capy, m5, m6, m7⟩ := h.ent y hy
          obtain ⟨g2, cap2, e2, _, hr2⟩ := hR'
          rcases hat with h4 | ⟨g3, h4, h5⟩
          · exact h.apart y hy e0 hm0 (by rw [h3]; exact hne) (by rw [e, h4])
          · have : gy = g3 := by rw [h4, m5] at e; simpa [Value.ownBlock] using e
            rw [hsz] at h5
            have := m7.lt
            omega
        refine ⟨heap_setBlock_same hb2 _, stamped_modify h.st j _ (fun _ _ => rfl) (fun _ _ _ => rfl), h.low, ?_, ?_, ?_⟩
        · intro y hy
          rcases who y hy with rfl | ⟨hy, hne⟩
          · obtain ⟨g', cap', e, hg1, hr⟩ := hR'
            exact ⟨x.f0, x.f1, h3, ha, hc, by rw [grp_same]; simp, g', cap', e, hg1, hr.move (hb3 g' (by omega))⟩
          · obtain ⟨a, c, m1, m2, m3, m4, gy, capy, m5, m6, m7⟩ := h.ent y hy
            have hne' : keyV a c ≠ keyV x.f0 x.f1 := by rw [← m1]; exact hne
            refine ⟨a, c, m1, m2, m3, by rw [grp_other p x hne']; exact m4, gy, capy, by rw [grp_other p x hne']; exact m5, m6, ?_⟩
            rw [grp_other p x hne']
            have hgg : gy ≠ g := by
              intro e
              refine h.apart y hy e0 hm0 (by rw [h3]; exact hne) ?_
              rw [hvo, m5, e]
              rfl
            exact m7.move ((hb3 gy (by omega)).trans (hold gy m7.lt (by omega) hgg))
        · intro e he
          have hin : ∃ y ∈ es.toList, y.key = keyV e.f0 e.f1 := by
            simp only [List.mem_append, List.mem_singleton] at he
            rcases he with he | rfl
            · exact h.all e he
            · exact ⟨e0, hm0, h3⟩
          obtain ⟨y, hy, hk⟩ := hin
          obtain ⟨i, hi⟩ := List.mem_iff_getElem?.1 hy
          by_cases e' : j = i
          · subst e'
            have : e0 = y := by rw [h2] at hi; simpa using hi
            subst this
            exact ⟨{ e0 with val := v2 }, List.mem_iff_getElem?.2 ⟨j, by rw [hlist, List.getElem?_set, if_pos rfl, if_pos hjl]⟩, hk⟩
          · exact ⟨y, List.mem_iff_getElem?.2 ⟨i, by rw [hlist, List.getElem?_set, if_neg e', hi]⟩, hk⟩
        · intro y hy z hz hne
          rcases who y hy with rfl | ⟨hy, hny⟩ <;> rcases who z hz with rfl | ⟨hz, hnz⟩
          · exact absurd rfl hne
          · exact fun e => key z hz hnz e.symm
          · exact key y hy hny
          · exact h.apart y hy z hz hne
end Go.Proofs.Ytlmjopodghikgaa.Print
