/-
  The model's small steps, as far as the plain machine needs them.
-/
import Derived.Test.YtfcglkajekohiaaAmC
set_option linter.unusedSimpArgs false
set_option linter.unusedVariables false
namespace Go.Proofs.Ytfcglkajekohiaa.AM
open Go

section types
variable {P : Program} {w : World} {t : TypeId}

theorem run_underlying {d : TypeDesc} (h : P.underlying t = some d) : (underlying t).run P w = .ok d w := by simp [underlying, h]

theorem run_isAgg {g : Bool} (h : aggT P t = some g) : (isAgg t).run P w = .ok g w := by
  unfold aggT at h
  unfold isAgg
  cases hd : P.underlying t with
  | none => simp [hd] at h
  | some d =>
    simp only [Sem.run_bind, run_underlying hd, Result.andThen_ok]
    cases d <;> simp [hd] at h <;> subst h <;> rfl

theorem run_typeInfo {i : TypeInfo} (h : P.info? t = some i) : (typeInfo t).run P w = .ok i w := by simp [typeInfo, h]

theorem run_sizeOf {s : Nat} (h : sizeT P t = some s) : (sizeOf t).run P w = .ok s w := by
  unfold sizeT at h
  cases hi : P.info? t with
  | none => simp [hi] at h
  | some i => simp [hi] at h; simp [sizeOf, run_typeInfo hi, h]

theorem zeroT_parts {s : Nat} {z : List Value} (h : zeroT P t = some (s, z)) :
    ∃ i v, P.info? t = some i ∧ i.zero = some v ∧ v.cells.toList = z ∧ z.length = s ∧ (∀ x ∈ z, simpleCell x = true) ∧ i.size = s := by
  unfold zeroT at h
  cases hi : P.info? t with
  | none => simp [hi] at h
  | some i =>
    cases hz : i.zero with
    | none => simp [hi, hz] at h
    | some v =>
      simp only [hi, hz] at h
      split at h
      · rename_i hc
        simp only [Option.some.injEq, Prod.mk.injEq] at h
        obtain ⟨rfl, rfl⟩ := h
        exact ⟨i, v, rfl, hz, rfl, by simpa using hc.1, fun x hx => List.all_eq_true.mp hc.2 x hx, rfl⟩
      · simp at h

theorem run_zero {s : Nat} {z : List Value} (h : zeroT P t = some (s, z)) : ∃ v, (zeroValue t).run P w = .ok v w ∧ v.cells.toList = z := by
  obtain ⟨i, v, hi, hz, hc, _⟩ := zeroT_parts h
  exact ⟨v, by simp [zeroValue, run_typeInfo hi, hz], hc⟩

theorem zeroT_size {s : Nat} {z : List Value} (h : zeroT P t = some (s, z)) : sizeT P t = some s := by
  obtain ⟨i, v, hi, hz, hc, _, _, hs⟩ := zeroT_parts h
  simp [sizeT, hi, hs]
end types

theorem simple_CR {φ : Inj} {v : Value} (h : simpleCell v = true) : CR φ v v := by
  unfold simpleCell at h
  split at h
  · exact .int _ _
  · exact .bool _
  · exact .string _
  · exact .pnil
  · exact .nilIface
  · exact .nilFunc
  · simp at h; obtain ⟨rfl, rfl⟩ := h; exact .snil 0
  · simp at h

theorem simple_Each {φ : Inj} {l : List Value} (h : ∀ x ∈ l, simpleCell x = true) : Each (CR φ) l l :=
  ⟨rfl, fun i a b ha hb => by rw [ha] at hb; cases hb; exact simple_CR (h a (List.mem_of_getElem? ha))⟩

theorem simple_VR {φ : Inj} {v : Value} (h : simpleVal v = true) : VR φ v v := by
  unfold simpleVal at h
  split at h
  · exact .one (.agg _ _ (simple_Each (fun x hx => List.all_eq_true.mp h x hx)))
  · exact .of_cell (simple_CR h)

/-! ### loading and storing -/

theorem add_spot (a : Addr) (n : Nat) (h : a.spot = none) : a.add n = ⟨a.block, a.off + n, none⟩ := by
  obtain ⟨b, o, s⟩ := a
  simp at h; subst h
  unfold Addr.add
  split
  · rename_i h0; subst h0; rfl
  · rfl

theorem add_none (b o n : Nat) : (Addr.mk b o none).add n = ⟨b, o + n, none⟩ := add_spot _ n rfl

theorem cell_block {w : World} {b o : Nat} {c : Array Value} {el : TypeId} {fr : Nat × Nat} (h : w.heap[b]? = some (.cells c el fr)) :
    w.cell? ⟨b, o, none⟩ = c[o]? := by simp [World.cell?, h]

theorem frozen_block {w : World} {b o : Nat} {c : Array Value} {el : TypeId} {fr : Nat × Nat} (h : w.heap[b]? = some (.cells c el fr)) :
    w.frozen? ⟨b, o, none⟩ = (decide (fr.1 ≤ o) && decide (o < fr.2)) := by simp [World.frozen?, h]

theorem run_loadCellsFrom {P : Program} {w : World} {b o : Nat} {c : Array Value} {el : TypeId} {fr : Nat × Nat} (h : w.heap[b]? = some (.cells c el fr)) :
    ∀ (n i : Nat) (acc : Array Value), o + i + n ≤ c.size → (loadCellsFrom ⟨b, o, none⟩ i n acc).run P w = .ok (acc ++ c.extract (o + i) (o + i + n)) w := by
  intro n
  induction n with
  | zero => intro i acc _; simp [loadCellsFrom]; omega
  | succ n ih =>
    intro i acc hb
    have hi : o + i < c.size := by omega
    simp only [loadCellsFrom, Sem.run_bind, run_load, add_none, cell_block h, Array.getElem?_eq_getElem hi, Result.andThen_ok]
    rw [ih (i + 1) (acc.push c[o + i]) (by omega)]
    congr 1
    apply Array.ext'
    simp only [Array.toList_append, Array.toList_push, Array.toList_extract, List.append_assoc]
    congr 1
    have e1 : o + (i + 1) = o + i + 1 := by omega
    have e2 : o + (i + 1) + n = o + i + (n + 1) := by omega
    rw [e2, e1]
    simp only [List.extract_eq_take_drop]
    have hl : o + i < c.toList.length := by simpa using hi
    rw [List.drop_eq_getElem_cons hl]
    have e3 : o + i + (n + 1) - (o + i) = n + 1 := by omega
    have e4 : o + i + (n + 1) - (o + i + 1) = n := by omega
    rw [e3, e4, List.take_succ_cons]
    simp

theorem run_loadCells {P : Program} {w : World} {b o n : Nat} {c : Array Value} {el : TypeId} {fr : Nat × Nat} (h : w.heap[b]? = some (.cells c el fr)) (hb : o + n ≤ c.size) :
    (loadCells ⟨b, o, none⟩ n).run P w = .ok (c.extract o (o + n)) w := by
  unfold loadCells
  rw [run_loadCellsFrom h n 0 #[] (by omega)]
  simp

/-- Nothing but the cells of one block has turned. -/
structure SameBut (w w' : World) (b : Nat) : Prop where
  os : w'.os = w.os
  tape : w'.tape = w.tape
  output : w'.output = w.output
  size : w'.heap.size = w.heap.size
  block : ∀ k, k ≠ b → w'.heap[k]? = w.heap[k]?

theorem SameBut.refl (w : World) (b : Nat) : SameBut w w b := ⟨rfl, rfl, rfl, rfl, fun _ _ => rfl⟩
theorem SameBut.trans {a b c : World} {k : Nat} (h : SameBut a b k) (g : SameBut b c k) : SameBut a c k :=
  ⟨g.os.trans h.os, g.tape.trans h.tape, g.output.trans h.output, g.size.trans h.size, fun i hi => (g.block i hi).trans (h.block i hi)⟩

theorem setCell_same (w : World) (a : Addr) (v : Value) : SameBut w (w.setCell a v) a.block :=
  ⟨rfl, rfl, rfl, by simp, fun k hk => RowKit.Below.heap_setCell _ _ _ _ hk⟩

theorem setCell_block {w : World} {b o : Nat} {c : Array Value} {el : TypeId} {fr : Nat × Nat} {v : Value} (h : w.heap[b]? = some (.cells c el fr)) :
    (w.setCell ⟨b, o, none⟩ v).heap[b]? = some (.cells (c.setIfInBounds o v) el fr) := by
  simp [World.setCell, Array.getElem?_modify, h]

theorem run_storeCells {P : Program} {b o : Nat} {el : TypeId} {fr : Nat × Nat} :
    ∀ (vs : List Value) (i : Nat) (w : World) (c : Array Value), w.heap[b]? = some (.cells c el fr) → o + i + vs.length ≤ c.size →
      (∀ k, k < c.size → ¬ (fr.1 ≤ k ∧ k < fr.2)) → (∀ v ∈ vs, v.oneCell' = true) →
      ∃ w' c', (storeCells ⟨b, o, none⟩ vs i).run P w = .ok () w' ∧ w'.heap[b]? = some (.cells c' el fr) ∧ c'.size = c.size ∧
        (∀ k, c'[k]? = if o + i ≤ k ∧ k < o + i + vs.length then vs[k - (o + i)]? else c[k]?) ∧ SameBut w w' b := by
  intro vs
  induction vs with
  | nil =>
    intro i w c h _ _ _
    refine ⟨w, c, rfl, h, rfl, fun k => ?_, SameBut.refl _ _⟩
    rw [if_neg]; simp only [List.length_nil]; omega
  | cons v vs ih =>
    intro i w c h hb hf hv
    have hi : o + i < c.size := by simp at hb; omega
    have hfz : w.frozen? ⟨b, o + i, none⟩ = false := by
      rw [frozen_block h]
      have := hf (o + i) hi
      simp only [Bool.and_eq_false_iff, decide_eq_false_iff_not]
      omega
    have h1 := setCell_block (o := o + i) (v := v) h
    obtain ⟨w', c', hr, hh, hs, hk, hsb⟩ := ih (i + 1) (w.setCell ⟨b, o + i, none⟩ v) (c.setIfInBounds (o + i) v) h1 (by simp at hb ⊢; omega) (by simpa using hf) (fun x hx => hv x (by simp [hx]))
    refine ⟨w', c', ?_, hh, by simpa using hs, fun k => ?_, (setCell_same w ⟨b, o + i, none⟩ v).trans hsb⟩
    · simp only [storeCells, Sem.run_bind, add_none, run_store P w _ v .plain (hv v (by simp)), cell_block h, Array.getElem?_eq_getElem hi, hfz]
      simpa using hr
    · rw [hk k]
      by_cases e : k = o + i
      · subst e
        rw [if_neg (by omega), if_pos (by simp)]
        simp [hi]
      · by_cases hin : o + (i + 1) ≤ k ∧ k < o + (i + 1) + vs.length
        · rw [if_pos hin, if_pos (by simp; omega)]
          have e1 : k - (o + i) = (k - (o + (i + 1))) + 1 := by omega
          rw [e1, List.getElem?_cons_succ]
        · rw [if_neg hin, if_neg (by simp; omega)]
          rw [Array.getElem?_setIfInBounds, if_neg (by omega)]

/-! ### the relation's steps -/

section rel
variable {φ : Inj} {w0 w w' : World} {H : AHeap}

theorem Rel.sub {H' : AHeap} (h : Rel φ w0 w H) (hs : ∀ i o, get H' i = some o → get H i = some o) : Rel φ w0 w H' where
  base := h.base
  live i o ho := h.live i o (hs i o ho)
  inj i j oi oj ei ej hi hj := h.inj i j oi oj ei ej (hs _ _ hi) (hs _ _ hj)

theorem get_cons (k : Nat) (o : Option AObj) (H : AHeap) (i : Nat) : get ((k, o) :: H) i = if k = i then o else get H i := by
  simp only [get, find]; split <;> simp

theorem Rel.kill (h : Rel φ w0 w H) (k : Nat) : Rel φ w0 w ((k, none) :: H) := h.sub fun i o ho => by
  rw [get_cons] at ho; split at ho
  · simp at ho
  · exact ho

theorem Rel.drew (h : Rel φ w0 w H) : Rel φ w0 w.drew H where
  base := h.base.drew
  live := h.live
  inj := h.inj

theorem Rel.lt (h : Rel φ w0 w H) {i : Nat} {o : AObj} {e : Ext} (ho : get H i = some o) (he : φ i = some e) : e.blk < w.heap.size := by
  obtain ⟨e', c, el, fr, h1, _, h3, _⟩ := h.live i o ho
  rw [he] at h1; cases h1
  rcases Nat.lt_or_ge e.blk w.heap.size with h | h
  · exact h
  · simp [Array.getElem?_eq_none h] at h3

theorem below_sameBut {w0 w w' : World} {b : Nat} (h : RowKit.Below w0.heap.size w0 w) (hs : SameBut w w' b) (hb : w0.heap.size ≤ b) : RowKit.Below w0.heap.size w0 w' where
  os := hs.os.trans h.os
  tape := hs.tape.trans h.tape
  output := hs.output.trans h.output
  size := by rw [hs.size]; exact h.size
  block k hk := (hs.block k (by omega)).trans (h.block k hk)

/-- A block of the machine's own is written. -/
theorem Rel.write (h : Rel φ w0 w H) {i : Nat} {o o' : AObj} {e : Ext} {c c' : Array Value} {el : TypeId} {fr : Nat × Nat} (ho : get H i = some o) (hro : o.ro = false) (he : φ i = some e)
    (hs : SameBut w w' e.blk) (hc : w.heap[e.blk]? = some (.cells c el fr)) (hc' : w'.heap[e.blk]? = some (.cells c' el fr)) (hsz : c'.size = c.size)
    (hes : o'.es = o.es) (hlen : e.base + o'.cells.length ≤ e.size)
    (hcells : ∀ (j : Nat) v, o'.cells[j]? = some v → ∃ v', c'[e.base + j]? = some v' ∧ CR φ v v') : Rel φ w0 w' ((i, some o') :: H) := by
  obtain ⟨e1, c1, el1, fr1, h1, h2, h3, h4, h5, h6, h7⟩ := h.live i o ho
  rw [he] at h1; cases h1
  rw [hc] at h3; cases h3
  have hfr := h6 hro
  refine ⟨below_sameBut h.base hs hfr.1, ?_, ?_⟩
  · intro j oj hj
    rw [get_cons] at hj
    by_cases hij : i = j
    · subst hij
      rw [if_pos rfl] at hj; cases hj
      exact ⟨e, c', el, fr, he, by rw [hes, h2], hc', by rw [hsz, h4], hlen, fun _ => ⟨hfr.1, hfr.2⟩, hcells⟩
    · rw [if_neg hij] at hj
      obtain ⟨e2, c2, el2, fr2, g1, g2, g3, g4, g5, g6, g7⟩ := h.live j oj hj
      have hne : e2.blk ≠ e.blk := fun hb => hij (h.inj i j o oj e e2 ho hj he g1 hb.symm)
      exact ⟨e2, c2, el2, fr2, g1, g2, by rw [hs.block _ hne]; exact g3, g4, g5, g6, g7⟩
  · intro a b oa ob ea eb ha hb hea heb hblk
    have key : ∀ x ox, get ((i, some o') :: H) x = some ox → ∃ oy, get H x = some oy := by
      intro x ox hx
      rw [get_cons] at hx
      split at hx
      · rename_i hxi; subst hxi; exact ⟨o, ho⟩
      · exact ⟨ox, hx⟩
    obtain ⟨oa', ha'⟩ := key a oa ha
    obtain ⟨ob', hb'⟩ := key b ob hb
    exact h.inj a b oa' ob' ea eb ha' hb' hea heb hblk

def Inj.set (φ : Inj) (c : Nat) (e : Ext) : Inj := fun i => if i = c then some e else φ i

theorem Inj.set_ext {φ : Inj} {c : Nat} {e : Ext} (h : φ c = none) : ExtBy φ (φ.set c e) c (c + 1) := by
  refine ⟨fun i e' hi => ?_, fun i hi => ?_⟩
  · unfold Inj.set; split
    · rename_i hc; subst hc; rw [h] at hi; simp at hi
    · exact hi
  · unfold Inj.set at hi; split at hi
    · omega
    · exact absurd rfl hi

theorem Inj.set_same (φ : Inj) (c : Nat) (e : Ext) : φ.set c e c = some e := by simp [Inj.set]

theorem alloc_at (w : World) (o : Obj) : (w.alloc o).heap[w.heap.size]? = some o := by
  show (w.heap.push o)[w.heap.size]? = some o
  simp

/-- A new block. -/
theorem Rel.alloc (h : Rel φ w0 w H) {c : Nat} (hφ : φ c = none) {cs : Array Value} {el : TypeId} {fr : Nat × Nat} {o : AObj}
    (hfr : ∀ k, k < cs.size → ¬ (fr.1 ≤ k ∧ k < fr.2)) (hlen : o.cells.length ≤ cs.size)
    (hcells : ∀ (j : Nat) v, o.cells[j]? = some v → ∃ v', cs[j]? = some v' ∧ CR φ v v') :
    Rel (φ.set c ⟨w.heap.size, 0, cs.size, o.es⟩) w0 (w.alloc (.cells cs el fr)) ((c, some o) :: H) := by
  have hle := (Inj.set_ext (e := ⟨w.heap.size, 0, cs.size, o.es⟩) hφ).1
  refine ⟨h.base.alloc h.base.size _, ?_, ?_⟩
  · intro i oi hi
    rw [get_cons] at hi
    by_cases hic : c = i
    · subst hic
      rw [if_pos rfl] at hi; cases hi
      refine ⟨_, cs, el, fr, Inj.set_same _ _ _, rfl, alloc_at _ _, rfl, by simpa using hlen, fun _ => ⟨h.base.size, hfr⟩, fun j v hv => ?_⟩
      obtain ⟨v', h1, h2⟩ := hcells j v hv
      exact ⟨v', by simpa using h1, h2.mono hle⟩
    · rw [if_neg hic] at hi
      obtain ⟨e, c1, el1, fr1, h1, h2, h3, h4, h5, h6, h7⟩ := h.live i oi hi
      refine ⟨e, c1, el1, fr1, hle _ _ h1, h2, ?_, h4, h5, h6, fun j v hv => ?_⟩
      · rw [RowKit.Below.heap_alloc _ _ _ (h.lt hi h1)]; exact h3
      · obtain ⟨v', a, b⟩ := h7 j v hv; exact ⟨v', a, b.mono hle⟩
  · have key : ∀ x ox ex, get ((c, some o) :: H) x = some ox → (φ.set c ⟨w.heap.size, 0, cs.size, o.es⟩) x = some ex →
        (x = c ∧ ex.blk = w.heap.size) ∨ (x ≠ c ∧ get H x = some ox ∧ φ x = some ex ∧ ex.blk < w.heap.size) := by
      intro x ox ex hx hex
      by_cases hxc : x = c
      · subst hxc; rw [Inj.set_same] at hex; cases hex; exact .inl ⟨rfl, rfl⟩
      · rw [get_cons, if_neg (fun e => hxc e.symm)] at hx
        unfold Inj.set at hex; rw [if_neg hxc] at hex
        exact .inr ⟨hxc, hx, hex, h.lt hx hex⟩
    intro i j oi oj ei ej hi hj hei hej hb
    rcases key i oi ei hi hei with ⟨a1, a2⟩ | ⟨a1, a2, a3, a4⟩ <;> rcases key j oj ej hj hej with ⟨b1, b2⟩ | ⟨b1, b2, b3, b4⟩
    · omega
    · omega
    · omega
    · exact h.inj i j oi oj ei ej a2 b2 a3 b3 hb
end rel

end Go.Proofs.Ytfcglkajekohiaa.AM
