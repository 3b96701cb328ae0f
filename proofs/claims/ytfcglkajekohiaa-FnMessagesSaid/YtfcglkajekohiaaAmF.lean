/-
  What each operation without a call does in the model, the rest: structs, slices, conversions, append.
-/
import Derived.Test.YtfcglkajekohiaaAmE
set_option linter.unusedSimpArgs false
set_option linter.unusedVariables false
namespace Go.Proofs.Ytfcglkajekohiaa.AM
open Go

section
variable {φ : Inj} {w0 w : World} {H : AHeap} {P : Program}

theorem s_un {op : UnOp} {v v' r : Value} (hv : VR φ v v') (h : unA op v = some r) : ∃ r', (Op.unary op v').run P w = .ok r' w ∧ VR φ r r' := by
  unfold unA at h
  split at h
  · rename_i k n
    have := hv.int_inv; subst this
    split at h
    · simp at h; subst h; exact ⟨_, by simp [Op.unary, Op.intArith], .of_cell (.int _ _)⟩
    · simp [bitsI] at h; subst h; exact ⟨_, by simp [Op.unary, Op.intBits], .of_cell (.int _ _)⟩
    · simp at h
  · rename_i b
    have := hv.bool_inv; subst this
    split at h
    · simp at h; subst h; exact ⟨_, by simp [Op.unary], .of_cell (.bool _)⟩
    · simp at h
  · simp at h

/-! #### structs by value -/

theorem run_places {fs : Array Field} (h : ∀ f ∈ fs.toList, (sizeT P f.type).isSome = true) :
    (fs.mapM fun f => do pure (f.offset, ← sizeOf f.type) : Sem (Array (Nat × Nat))).run P w = .ok (fs.map fun f => (f.offset, P.cellsOf f.type)) w := by
  have key : ∀ l : List Field, (∀ f ∈ l, (sizeT P f.type).isSome = true) →
      (l.mapM fun f => do pure (f.offset, ← sizeOf f.type) : Sem (List (Nat × Nat))).run P w = .ok (l.map fun f => (f.offset, P.cellsOf f.type)) w := by
    intro l
    induction l with
    | nil => intro _; simp
    | cons f l ih =>
      intro hl
      have h1 := hl f (by simp)
      obtain ⟨s, hs⟩ := Option.isSome_iff_exists.mp h1
      have hc : P.cellsOf f.type = s := by
        unfold sizeT at hs; unfold Program.cellsOf; rw [hs]; rfl
      have ih' := ih fun g hg => hl g (by simp [hg])
      simp only [List.mapM_cons, Sem.run_bind, run_sizeOf hs, Result.andThen_ok, Sem.run_pure, List.map_cons, hc]
      rw [ih']
      simp
  rw [Array.mapM_eq_mapM_toList]
  rw [Sem.run_map, key _ h]
  simp only [Result.andThen_ok]
  congr 1
  apply Array.ext'
  simp

theorem foldl_put : ∀ (l : List Value) (off k : Nat) (cs : Array Value), off + k + l.length ≤ cs.size →
    (((l.zipIdx k).foldl (fun cs (x : Value × Nat) => cs.setIfInBounds (off + x.2) x.1) cs).size = cs.size) ∧
    ∀ i, ((l.zipIdx k).foldl (fun cs (x : Value × Nat) => cs.setIfInBounds (off + x.2) x.1) cs)[i]? = if off + k ≤ i ∧ i < off + k + l.length then l[i - (off + k)]? else cs[i]? := by
  intro l
  induction l with
  | nil => intro off k cs _; refine ⟨rfl, fun i => ?_⟩; rw [if_neg (by simp only [List.length_nil]; omega)]; rfl
  | cons v l ih =>
    intro off k cs h
    simp only [List.length_cons] at h
    simp only [List.zipIdx_cons, List.foldl_cons]
    obtain ⟨h1, h2⟩ := ih off (k + 1) (cs.setIfInBounds (off + k) v) (by simp; omega)
    refine ⟨by rw [h1]; simp, fun i => ?_⟩
    rw [h2]
    by_cases e : i = off + k
    · subst e
      rw [if_neg (by omega), if_pos (by simp only [List.length_cons]; omega)]
      simp [show off + k < cs.size by omega]
    · by_cases hin : off + (k + 1) ≤ i ∧ i < off + (k + 1) + l.length
      · rw [if_pos hin, if_pos (by simp only [List.length_cons]; omega)]
        have e1 : i - (off + k) = (i - (off + (k + 1))) + 1 := by omega
        rw [e1, List.getElem?_cons_succ]
      · rw [if_neg hin, if_neg (by simp only [List.length_cons]; omega)]
        rw [Array.getElem?_setIfInBounds, if_neg (by omega)]

theorem fill_step (v : Value) (off : Nat) (cs : Array Value) (h : off + v.cells.size ≤ cs.size) :
    (v.cells.zipIdx.foldl (fun cs (c, j) => cs.setIfInBounds (off + j) c) cs).toList = cs.toList.take off ++ v.cells.toList ++ cs.toList.drop (off + v.cells.size) := by
  have h' : off + 0 + v.cells.toList.length ≤ cs.size := by simpa using h
  obtain ⟨h1, h2⟩ := foldl_put v.cells.toList off 0 cs h'
  have e : v.cells.zipIdx.foldl (fun cs (c, j) => cs.setIfInBounds (off + j) c) cs = (v.cells.toList.zipIdx 0).foldl (fun cs (x : Value × Nat) => cs.setIfInBounds (off + x.2) x.1) cs := by
    rw [← Array.foldl_toList, Array.toList_zipIdx]
  rw [e]
  apply List.ext_getElem?
  intro i
  rw [Array.getElem?_toList, h2]
  simp only [List.append_assoc, List.getElem?_append, List.length_take, List.getElem?_take, List.getElem?_drop, Array.length_toList, Nat.add_zero]
  have hm : min off cs.size = off := by omega
  rw [hm]
  by_cases h3 : i < off
  · rw [if_neg (by omega), if_pos h3, if_pos h3, Array.getElem?_toList]
  · rw [if_neg h3]
    by_cases h4 : i - off < v.cells.size
    · rw [if_pos (by omega), if_pos h4]
    · rw [if_neg (by omega), if_neg h4, Array.getElem?_toList]
      congr 1; omega

theorem fill_rel {place : Nat → Option (Nat × Nat)} {n : Nat} {ts : TS} {a : Act} (hT : TR φ n ts a.tmps) :
    ∀ {parts : List (Nat × Operand)} {ap : List (Nat × Nat × Opnd)} {cs r : List Value} {ds : Array Value}, lowParts n place parts = some ap → Each (CR φ) cs ds.toList →
      fillA cs (ap.map fun p => (p.1, p.2.1, ev ts p.2.2)) = some r →
      ∃ ds', Instr.fill place ds (parts.map fun p => (p.1, a.eval p.2)) = some ds' ∧ Each (CR φ) r ds'.toList := by
  intro parts
  induction parts with
  | nil =>
    intro ap cs r ds hl hcs hf
    simp [lowParts] at hl; subst hl
    simp [fillA] at hf; subst hf
    exact ⟨ds, rfl, hcs⟩
  | cons p parts ih =>
    intro ap cs r ds hl hcs hf
    obtain ⟨i, x⟩ := p
    unfold lowParts at hl
    split at hl
    · rename_i pl o l hpl ho hl'
      simp at hl; subst hl
      simp only [List.map_cons, fillA] at hf
      split at hf
      · rename_i hc
        have hv := hT.opnd ho
        have hav : AR φ (ev ts o) (a.eval x) := hv.ar hc.2.2
        have hcl := VR.cells hav
        have hsz : (a.eval x).cells.size = pl.2 := by have := hcl.1; simp at this hc; omega
        have hds : ds.size = cs.length := by have := hcs.1; simpa using this.symm
        obtain ⟨ds', hd1, hd2⟩ := ih (ds := (a.eval x).cells.zipIdx.foldl (fun cs (c, j) => cs.setIfInBounds (pl.1 + j) c) ds) hl' (by
            rw [fill_step _ _ _ (by omega)]
            have e2 : (a.eval x).cells.size = pl.2 := hsz
            rw [e2]
            exact Each.append (Each.append (hcs.take _) hcl) (hcs.drop _)) hf
        refine ⟨ds', ?_, hd2⟩
        simp only [List.map_cons, Instr.fill, hpl]
        rw [if_neg (by simp [hsz]; omega)]
        exact hd1
      · simp at hf
    · simp at hl

theorem s_build {t : TypeId} {fs : Array Field} {z : Nat × List Value} (ht : P.underlying t = some (.struct fs)) (hz : zeroT P t = some z) (hall : ∀ f ∈ fs.toList, (sizeT P f.type).isSome = true)
    {n : Nat} {ts : TS} {a : Act} (hT : TR φ n ts a.tmps) {parts : Array (Nat × Operand)} {ap : List (Nat × Nat × Opnd)} (hl : lowParts n (placeOf P fs) parts.toList = some ap)
    {r : List Value} (hf : fillA z.2 (ap.map fun p => (p.1, p.2.1, ev ts p.2.2)) = some r) :
    ∃ r', (Instr.build t (parts.map fun (i, x) => (i, a.eval x))).run P w = .ok r' w ∧ VR φ (.agg r.toArray) r' := by
  obtain ⟨s, zz⟩ := z
  obtain ⟨v, hv, hvz⟩ := run_zero (w := w) hz
  obtain ⟨_, _, _, _, _, _, hsimple, _⟩ := zeroT_parts hz
  have hpl : placeOf P fs = fun i => (fs.map fun f => (f.offset, P.cellsOf f.type))[i]? := by
    funext i
    unfold placeOf
    rw [Array.getElem?_map]
    cases hi : fs[i]? with
    | none => rfl
    | some f =>
      have hm : f ∈ fs.toList := by
        have := Array.mem_of_getElem? hi; simpa using this
      obtain ⟨s1, hs1⟩ := Option.isSome_iff_exists.mp (hall f hm)
      have hc : P.cellsOf f.type = s1 := by unfold sizeT at hs1; unfold Program.cellsOf; rw [hs1]; rfl
      simp [hs1, hc]
  rw [hpl] at hl
  obtain ⟨ds, hd1, hd2⟩ := fill_rel (φ := φ) (ds := v.cells) hT hl (by rw [hvz]; exact simple_Each hsimple) hf
  have hd1' : Instr.fill (fun i => (fs.map fun f => (f.offset, P.cellsOf f.type))[i]?) v.cells (parts.map fun (i, x) => (i, a.eval x)).toList = some ds := by
    rw [Array.toList_map]; exact hd1
  refine ⟨.agg ds, ?_, .one (.agg _ _ (by simpa using hd2))⟩
  simp only [Instr.build, Sem.run_bind, hv, Result.andThen_ok, run_underlying ht, run_places hall, Sem.run_pure]
  rw [hd1']
  rfl

theorem rows_get {zero : List Value} (hz : 0 < zero.length) : ∀ (n : Nat), rows zero n = (List.range (n * zero.length)).map (fun i => zero[i % zero.length]!) := by
  intro n
  induction n with
  | zero => simp [rows]
  | succ n ih =>
    have e : (n + 1) * zero.length = zero.length + n * zero.length := by rw [Nat.add_mul]; omega
    rw [rows, ih, e, List.range_add, List.map_append]
    congr 1
    · apply List.ext_getElem?
      intro i
      simp only [List.getElem?_map]
      rcases Nat.lt_or_ge i zero.length with h | h
      · rw [List.getElem?_range h, List.getElem?_eq_getElem h]
        simp [Nat.mod_eq_of_lt h, h]
      · rw [List.getElem?_eq_none h, List.getElem?_eq_none (by simpa using h)]; rfl
    · rw [List.map_map]
      apply List.map_congr_left
      intro i _
      simp

theorem rows_length {zero : List Value} : ∀ (n : Nat), (rows zero n).length = n * zero.length := by
  intro n
  induction n with
  | zero => simp [rows]
  | succ n ih => simp [rows, ih, Nat.add_mul]; omega

theorem rows_simple {zero : List Value} (h : ∀ x ∈ zero, simpleCell x = true) : ∀ (n : Nat), ∀ x ∈ rows zero n, simpleCell x = true := by
  intro n
  induction n with
  | zero => simp [rows]
  | succ n ih => intro x hx; simp [rows] at hx; rcases hx with hx | hx; exact h x hx; exact ih x hx

theorem zeros_eq {v : Value} {z : List Value} (hv : v.cells.toList = z) (hz : 0 < z.length) (n : Nat) :
    ((Array.range (n * z.length)).map (v.cells[· % v.cells.size]!)).toList = rows z n := by
  rw [rows_get hz, Array.toList_map, Array.toList_range]
  have hs : v.cells.size = z.length := by rw [← hv]; simp
  apply List.map_congr_left
  intro i _
  have hi : i % z.length < z.length := Nat.mod_lt _ hz
  rw [hs]
  subst hv
  have h1 : i % v.cells.toList.length < v.cells.size := by simpa using hi
  rw [getElem!_pos v.cells _ h1, getElem!_pos v.cells.toList _ (by simpa using h1)]
  simp

/-! #### slices -/

def OptR (φ : Inj) : Option Value → Option Value → Prop
  | none, none => True
  | some v, some v' => VR φ v v'
  | _, _ => False

theorem run_bound {y : Nat} {k : IntKind} {n : Int} {code : BoundsCode} (a : 0 ≤ n) (b : n ≤ y) : (Instr.sliceBound (.int k n) y code).run P w = .ok n.toNat w := by
  simp [Instr.sliceBound, asIntOf, a, b]

theorem optInt_someF {d : Nat} {v : Value} {l : Int} (h : optInt d (some v) = some l) : ∃ k, v = .int k l := by
  unfold optInt at h
  split at h
  · rename_i h0; simp at h0
  · rename_i k n h0; simp at h0; subst h0; simp at h; subst h; exact ⟨k, rfl⟩
  · simp at h

theorem s_bounds {b : Bool} {len cap : Nat} (hc : len ≤ cap) {lo hi lo' hi' : Option Value} (hlo : OptR φ lo lo') (hhi : OptR φ hi hi') {l h : Int} (h1 : optInt 0 lo = some l) (h2 : optInt len hi = some h)
    (h3 : 0 ≤ l) (h4 : l ≤ h) (h5 : h ≤ len) : (Instr.sliceBounds b len cap lo' hi' none).run P w = .ok (l.toNat, h.toNat, cap) w := by
  cases lo with
  | none =>
    cases lo' with
    | some _ => exact hlo.elim
    | none =>
      simp [optInt] at h1; subst h1
      cases hi with
      | none =>
        cases hi' with
        | some _ => exact hhi.elim
        | none => simp [optInt] at h2; subst h2; simp [Instr.sliceBounds]
      | some v =>
        cases hi' with
        | none => exact hhi.elim
        | some v' =>
          obtain ⟨k, rfl⟩ := optInt_someF h2
          have := VR.int_inv hhi; subst this
          simp only [Instr.sliceBounds, Sem.run_bind, Sem.run_pure, Result.andThen_ok]
          rw [run_bound (by omega) (by omega)]; rfl
  | some u =>
    cases lo' with
    | none => exact hlo.elim
    | some u' =>
      obtain ⟨ku, rfl⟩ := optInt_someF h1
      have := VR.int_inv hlo; subst this
      cases hi with
      | none =>
        cases hi' with
        | some _ => exact hhi.elim
        | none =>
          simp [optInt] at h2; subst h2
          simp only [Instr.sliceBounds, Sem.run_bind, Sem.run_pure, Result.andThen_ok]
          rw [run_bound h3 (by omega)]; rfl
      | some v =>
        cases hi' with
        | none => exact hhi.elim
        | some v' =>
          obtain ⟨k, rfl⟩ := optInt_someF h2
          have := VR.int_inv hhi; subst this
          simp only [Instr.sliceBounds, Sem.run_bind, Sem.run_pure, Result.andThen_ok]
          rw [run_bound (by omega) (by omega)]
          simp only [Result.andThen_ok]
          rw [run_bound h3 (by omega)]; rfl

theorem s_sliceA {t e : TypeId} (ht : P.underlying t = some (.slice e)) {es : Nat} (hs : sizeT P e = some es) {a : Option Addr} {n c : Nat} {x' : Value} (hx : VR φ (.slice a n c) x')
    {lo hi lo' hi' : Option Value} (hlo : OptR φ lo lo') (hhi : OptR φ hi hi') {l h : Int} (h1 : optInt 0 lo = some l) (h2 : optInt n hi = some h)
    (h3 : 0 ≤ l) (h4 : l ≤ h) (h5 : h ≤ n) (hes : a = none ∨ c = es) :
    ∃ r', (Instr.sliceAt t x' lo' hi' none).run P w = .ok r' w ∧ VR φ (.slice (a.map fun p => ⟨p.block, p.off + l.toNat * es, none⟩) (h.toNat - l.toNat) c) r' := by
  cases a with
  | none =>
    obtain ⟨rfl, rfl⟩ := hx.snil_inv
    have hl0 : l = 0 := by omega
    have hh0 : h = 0 := by omega
    subst hl0; subst hh0
    refine ⟨.slice none 0 0, ?_, .of_cell (.snil c)⟩
    simp only [Instr.sliceAt, Sem.run_bind, run_underlying ht, Result.andThen_ok, Instr.slice, s_bounds (Nat.le_refl 0) hlo hhi h1 h2 (by omega) (by omega) (by omega), run_sizeOf hs, Sem.run_pure]
    simp
  | some p =>
    obtain ⟨b, c', ex, hsp, he, hce, hl, hcc, rfl⟩ := hx.slice_inv
    have hce' : c = es := hes.resolve_left (by simp)
    refine ⟨.slice (if c' = l.toNat then some b else some (b.add (l.toNat * es))) (h.toNat - l.toNat) (c' - l.toNat), ?_, .of_cell ?_⟩
    · simp only [Instr.sliceAt, Sem.run_bind, run_underlying ht, Result.andThen_ok, Instr.slice, s_bounds hl hlo hhi h1 h2 h3 h4 h5, run_sizeOf hs, Sem.run_pure, Option.map_some]
    · simp only [Option.map_some]
      by_cases hcl : c' = l.toNat
      · rw [if_pos hcl]
        exact .slice _ _ _ _ _ ex rfl he hce (by omega) (.inl (by omega))
      · rw [if_neg hcl]
        refine .slice _ _ _ _ _ ex rfl he hce (by omega) (.inr ⟨?_, ?_⟩)
        · rcases hcc with h0 | ⟨rfl, _⟩
          · omega
          · rw [add_none]; simp [Nat.add_assoc]
        · rcases hcc with h0 | ⟨rfl, hsz⟩
          · omega
          · have hex : ex.es = es := by omega
            rw [hex] at hsz ⊢
            have : l.toNat * es + (c' - l.toNat) * es = c' * es := by rw [← Nat.add_mul]; congr 1; omega
            simp only; omega

theorem s_idxAddr {t e : TypeId} (ht : P.underlying t = some (.slice e)) {es : Nat} (hs : sizeT P e = some es) {a : Addr} {n c : Nat} {x' : Value} (hx : VR φ (.slice (some a) n c) x')
    {k : IntKind} {i : Int} (h0 : 0 ≤ i) (h1 : i < n) :
    ∃ r', (Instr.indexAt t x' (.int k i)).run P w = .ok r' w ∧ VR φ (.pointer (some ⟨a.block, a.off + i.toNat * es, none⟩)) r' := by
  obtain ⟨b, c', ex, hsp, he, hce, hl, hcc, rfl⟩ := hx.slice_inv
  rcases hcc with h | ⟨rfl, _⟩
  · omega
  · refine ⟨.pointer (some ⟨ex.blk, ex.base + (a.off + i.toNat * es), none⟩), ?_, .of_cell (.ptr ⟨a.block, a.off + i.toNat * es, none⟩ ex rfl he)⟩
    simp only [Instr.indexAt, asIntOf, Sem.run_bind, Sem.run_pure, Result.andThen_ok, run_underlying ht]
    simp [h0, h1, run_sizeOf hs, add_none, Nat.add_assoc]

/-! #### new blocks -/

theorem run_newVar {t : TypeId} {v : Value} : (newVar t v).run P w = .ok ⟨w.heap.size, 0, none⟩ (w.alloc (.cells v.cells t)) := by
  simp [newVar, newRow]

theorem s_new (hR : Rel φ w0 w H) {c : Nat} (hc : φ c = none) {cs : List Value} {v : Value} (hv : Each (CR φ) cs v.cells.toList) {t : TypeId} :
    Rel (φ.set c ⟨w.heap.size, 0, v.cells.size, 0⟩) w0 (w.alloc (.cells v.cells t)) ((c, some ⟨cs, 0, false⟩) :: H) ∧
      VR (φ.set c ⟨w.heap.size, 0, v.cells.size, 0⟩) (.pointer (some ⟨c, 0, none⟩)) (.pointer (some ⟨w.heap.size, 0, none⟩)) := by
  refine ⟨?_, .of_cell ?_⟩
  · refine hR.alloc (o := ⟨cs, 0, false⟩) hc ?_ ?_ ?_
    · intro k hk; simp
    · have := hv.1; simp at this; simp [this]
    · intro j x hx
      obtain ⟨y, hy, hxy⟩ := hv.get hx
      exact ⟨y, by simpa using hy, hxy⟩
  · exact .ptr ⟨c, 0, none⟩ _ rfl (Inj.set_same _ _ _)

/-- A new array, of which some cells may be spare. -/
theorem s_newArr (hR : Rel φ w0 w H) {c : Nat} (hc : φ c = none) {cs : List Value} {ds : Array Value} (es : Nat) (hl : cs.length ≤ ds.size) (hv : ∀ (j : Nat) v, cs[j]? = some v → ∃ v', ds[j]? = some v' ∧ CR φ v v')
    {t : TypeId} {fr : Nat × Nat} (hfr : ∀ k, k < ds.size → ¬ (fr.1 ≤ k ∧ k < fr.2)) {l cap : Nat} (hcap : l ≤ cap) (hsz : cap * es ≤ ds.size) :
    Rel (φ.set c ⟨w.heap.size, 0, ds.size, es⟩) w0 (w.alloc (.cells ds t fr)) ((c, some ⟨cs, es, false⟩) :: H) ∧
      VR (φ.set c ⟨w.heap.size, 0, ds.size, es⟩) (.slice (some ⟨c, 0, none⟩) l es) (.slice (some ⟨w.heap.size, 0, none⟩) l cap) := by
  refine ⟨hR.alloc (o := ⟨cs, es, false⟩) hc hfr hl hv, .of_cell ?_⟩
  exact .slice ⟨c, 0, none⟩ _ l es cap ⟨w.heap.size, 0, ds.size, es⟩ rfl (Inj.set_same _ _ _) rfl hcap (.inr ⟨rfl, by simpa using hsz⟩)

end
end Go.Proofs.Ytfcglkajekohiaa.AM
