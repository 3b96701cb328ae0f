/-
  What each operation without a call does in the model, where the plain machine does it.
-/
import Derived.Test.YtfcglkajekohiaaAmD
import Derived.Laws.StructEq
import Derived.Laws.BytesArg
import Derived.Laws.BytesString
set_option linter.unusedSimpArgs false
set_option linter.unusedVariables false
namespace Go.Proofs.Ytfcglkajekohiaa.AM
open Go

theorem numsOf_eq : ∀ {l : List Value} {ns : List Int}, numsOf l = some ns → l = ns.map (Value.int .u8) := by
  intro l
  induction l with
  | nil => intro ns h; simp [numsOf] at h; subst h; rfl
  | cons v l ih =>
    intro ns h
    unfold numsOf at h
    split at h
    · rename_i h0; simp at h0
    · rename_i n r hv
      simp only [List.cons.injEq] at hv
      obtain ⟨rfl, rfl⟩ := hv
      simp only [Option.map_eq_some_iff] at h
      obtain ⟨ns', h1, rfl⟩ := h
      rw [ih h1]; rfl
    · simp at h

theorem Each.eq_ints {φ : Inj} : ∀ {ns : List Int} {k : IntKind} {l' : List Value}, Each (CR φ) (ns.map (Value.int k)) l' → l' = ns.map (Value.int k) := by
  intro ns
  induction ns with
  | nil => intro k l' h; exact h.nil_left
  | cons n ns ih =>
    intro k l' h
    obtain ⟨b, r, rfl, hb, hr⟩ := h.cons_left
    cases hb
    rw [ih hr]; rfl

section
variable {φ : Inj} {w0 w : World} {H : AHeap} {P : Program}

theorem TR.opnd {n : Nat} {ts : TS} {a : Act} (hT : TR φ n ts a.tmps) {x : Operand} {y : Opnd} (h : lowOpnd n x = some y) : VR φ (ev ts y) (a.eval x) := by
  cases x with
  | tmp t =>
    simp only [lowOpnd] at h
    split at h
    · simp at h; subst h; exact hT.2 t (by assumption)
    · simp at h
  | const v =>
    simp only [lowOpnd] at h
    split at h
    · simp at h; subst h; exact simple_VR (by assumption)
    · simp at h
  | global g => simp [lowOpnd] at h
  | func f => simp [lowOpnd] at h

theorem TR.list {n : Nat} {ts : TS} {a : Act} (hT : TR φ n ts a.tmps) : ∀ {l : List Operand} {l' : List Opnd}, lowList n l = some l' → Each (VR φ) (l'.map (ev ts)) (l.map a.eval) := by
  intro l
  induction l with
  | nil => intro l' h; simp [lowList] at h; subst h; exact Each.nil
  | cons x l ih =>
    intro l' h
    unfold lowList at h
    split at h
    · rename_i y r hy hr
      simp at h; subst h
      exact Each.cons (hT.opnd hy) (ih hr)
    · simp at h

/-- Loading. -/
theorem s_load (hR : Rel φ w0 w H) {t : TypeId} {g : Bool} {s : Nat} (hg : aggT P t = some g) (hs : sizeT P t = some s) (hgs : (g || s == 1) = true)
    {a : Addr} {o : AObj} (ho : get H a.block = some o) (hsp : a.spot = none) (hb : a.off + s ≤ o.cells.length) {x' : Value} (hx : VR φ (.pointer (some a)) x')
    {v : Value} (hv : (if g then some (.agg ((o.cells.drop a.off).take s).toArray) else o.cells[a.off]?) = some v) :
    ∃ v', (Instr.loadAt t x').run P w = .ok v' w ∧ VR φ v v' := by
  obtain ⟨e, _, he, rfl⟩ := hx.ptr_inv
  obtain ⟨e1, c, el, fr, h1, h2, h3, h4, h5, h6, h7⟩ := hR.live _ _ ho
  rw [he] at h1; cases h1
  simp only [Instr.loadAt, Instr.sureAddr, Sem.run_bind, Sem.run_pure, Result.andThen_ok, loadVar, run_isAgg hg]
  cases g with
  | true =>
    simp only [if_true] at hv ⊢
    simp at hv; subst hv
    refine ⟨_, by simp only [Sem.run_bind, run_sizeOf hs, Result.andThen_ok]; rw [run_loadCells h3 (by omega)]; rfl, .one (.agg _ _ ⟨?_, fun i x y hx hy => ?_⟩)⟩
    · simp; omega
    · rw [List.getElem?_take] at hx
      split at hx
      · rename_i hi
        rw [List.getElem?_drop] at hx
        obtain ⟨y', hy', hxy⟩ := h7 _ _ hx
        have : y = y' := by
          have e2 : (c.extract (e.base + a.off) (e.base + a.off + s)).toList[i]? = c[e.base + (a.off + i)]? := by
            rw [Array.getElem?_toList, Array.getElem?_extract]
            rw [if_pos (by omega)]
            congr 1; omega
          rw [e2, hy'] at hy; exact (Option.some.inj hy).symm
        subst this; exact hxy
      · simp at hx
  | false =>
    simp at hgs; subst hgs
    simp only [Bool.false_eq_true, if_false] at hv ⊢
    obtain ⟨v', hv', hvv⟩ := h7 _ _ hv
    refine ⟨v', ?_, .of_cell hvv⟩
    rw [show e.base + a.off = e.base + a.off from rfl] at hv'
    simp only [run_load, cell_block h3, hv']

/-- Storing. -/
theorem s_store (hR : Rel φ w0 w H) {t : TypeId} {s : Nat} (hs : sizeT P t = some s)
    {a : Addr} {o : AObj} (ho : get H a.block = some o) (hro : o.ro = false) (hb : a.off + s ≤ o.cells.length) {x' v v' : Value} (hx : VR φ (.pointer (some a)) x')
    (hv : AR φ v v') (hl : v.cells.toList.length = s) :
    ∃ w', (Instr.storeAt t x' v').run P w = .ok () w' ∧
      Rel φ w0 w' ((a.block, some { o with cells := o.cells.take a.off ++ v.cells.toList ++ o.cells.drop (a.off + s) }) :: H) := by
  obtain ⟨e, _, he, rfl⟩ := hx.ptr_inv
  obtain ⟨e1, c, el, fr, h1, h2, h3, h4, h5, h6, h7⟩ := hR.live _ _ ho
  rw [he] at h1; cases h1
  have hcs := VR.cells hv
  have hl' : v'.cells.toList.length = s := by rw [← hcs.1]; exact hl
  have hone : ∀ x ∈ v'.cells.toList, x.oneCell' = true := by
    intro x hx
    obtain ⟨i, hi⟩ := List.getElem?_of_mem hx
    have hi2 : i < v.cells.toList.length := by
      rw [hcs.1]
      rcases Nat.lt_or_ge i v'.cells.toList.length with h | h
      · exact h
      · simp [List.getElem?_eq_none h] at hi
    exact (hcs.2 i _ x (List.getElem?_eq_getElem hi2) hi).isCell.2
  obtain ⟨w', c', hr, hh, hsz, hk, hsb⟩ := run_storeCells (P := P) (b := e.blk) (o := e.base + a.off) v'.cells.toList 0 w c h3 (by omega) (by rw [h4]; exact (h6 hro).2) hone
  refine ⟨w', ?_, ?_⟩
  · simp only [Instr.storeAt, Instr.sureAddr, Sem.run_bind, Sem.run_pure, Result.andThen_ok, storeVar, run_sizeOf hs]
    rw [Sem.run_ite, if_neg (by simp at hl'; simp [hl'])]
    simpa using hr
  · refine hR.write ho hro he hsb h3 hh hsz rfl ?_ ?_
    · simp only [List.length_append, List.length_take, List.length_drop]; omega
    · intro j x hx
      rw [hk]
      simp only [List.append_assoc, List.getElem?_append, List.length_take] at hx
      have hm : min a.off o.cells.length = a.off := by omega
      rw [hm] at hx
      by_cases h_1 : j < a.off
      · rw [if_pos h_1, List.getElem?_take, if_pos h_1] at hx
        rw [if_neg (by omega)]
        exact h7 j x hx
      · rw [if_neg h_1] at hx
        by_cases h_2 : j - a.off < v.cells.toList.length
        · rw [if_pos h_2] at hx
          rw [if_pos (by omega)]
          have e1 : e.base + j - (e.base + a.off + 0) = j - a.off := by omega
          rw [e1]
          obtain ⟨y, hy, hxy⟩ := hcs.get hx
          exact ⟨y, hy, hxy⟩
        · rw [if_neg h_2, List.getElem?_drop] at hx
          rw [if_neg (by omega)]
          have e2 : a.off + s + (j - a.off - v.cells.toList.length) = j := by omega
          rw [e2] at hx
          exact h7 j x hx

/-- A slice's cells. -/
theorem s_cells (hR : Rel φ w0 w H) {es : Nat} {v v' : Value} (hv : VR φ v v') {cs : List Value} (hc : sliceCells H es v = some cs) :
    ∃ a l c' ds, v' = .slice a l c' ∧ lenA v = some l ∧ (∀ n, n = l → (Builtin.firstCells es n v').run P w = .ok ds w) ∧ Each (CR φ) cs ds.toList := by
  unfold sliceCells at hc
  split at hc
  · rename_i l c
    simp at hc; subst hc
    obtain ⟨rfl, rfl⟩ := hv.snil_inv
    exact ⟨none, 0, 0, #[], rfl, rfl, fun n hn => by simp [Builtin.firstCells], Each.nil⟩
  · rename_i a l c
    obtain ⟨b, c', e, hs, he, hce, hl, hcc, rfl⟩ := hv.slice_inv
    split at hc
    · rename_i h0; subst h0
      simp at hc; subst hc
      exact ⟨some b, 0, c', #[], rfl, rfl, fun n hn => by subst hn; simp [Builtin.firstCells, loadCells, loadCellsFrom], Each.nil⟩
    · rename_i hl0
      split at hc
      · rename_i o ho
        split at hc
        · rename_i hcond
          obtain ⟨hes, hb, _⟩ := hcond
          simp at hc; subst hc
          obtain ⟨e1, c1, el, fr, h1, h2, h3, h4, h5, h6, h7⟩ := hR.live _ _ ho
          rw [he] at h1; cases h1
          rcases hcc with rfl | ⟨rfl, hsz⟩
          · omega
          · refine ⟨_, l, c', _, rfl, rfl, fun n hn => by subst hn; simp only [Builtin.firstCells]; exact run_loadCells h3 (by omega), ?_, fun i x y hx hy => ?_⟩
            · simp; omega
            · rw [List.getElem?_take] at hx
              split at hx
              · rename_i hi
                rw [List.getElem?_drop] at hx
                obtain ⟨y', hy', hxy⟩ := h7 _ _ hx
                have e2 : (c1.extract (e.base + a.off) (e.base + a.off + l * es)).toList[i]? = c1[e.base + (a.off + i)]? := by
                  rw [Array.getElem?_toList, Array.getElem?_extract]
                  rw [if_pos (by omega)]
                  congr 1; omega
                rw [e2, hy'] at hy; cases hy; exact hxy
              · simp at hx
        · simp at hc
      · simp at hc
  · simp at hc
end

/-! ### operations on values alone -/

theorem eqCell_rel {φ : Inj} {f : FK} {a b a' b' : Value} (ha : CR φ a a') (hb : CR φ b b') {r : Bool} (h : eqCell f a b = some r) : eqCell f a' b' = some r := by
  cases f <;> cases ha <;> cases hb <;> simp [eqCell] at h ⊢ <;> exact h

theorem eqCells_rel {φ : Inj} : ∀ {fs : List FK} {x y x' y' : List Value} {r : Bool}, Each (CR φ) x x' → Each (CR φ) y y' → eqCells fs x y = some r → eqCells fs x' y' = some r := by
  intro fs
  induction fs with
  | nil =>
    intro x y x' y' r hx hy h
    cases x with
    | nil => cases y with
      | nil => rw [hx.nil_left, hy.nil_left]; exact h
      | cons => simp [eqCells] at h
    | cons => simp [eqCells] at h
  | cons f fs ih =>
    intro x y x' y' r hx hy h
    cases x with
    | nil => simp [eqCells] at h
    | cons a x =>
      cases y with
      | nil => simp [eqCells] at h
      | cons b y =>
        obtain ⟨a', x'', rfl, ha, hx'⟩ := hx.cons_left
        obtain ⟨b', y'', rfl, hb, hy'⟩ := hy.cons_left
        simp only [eqCells] at h ⊢
        split at h
        · rename_i h1; rw [eqCell_rel ha hb h1]; exact ih hx' hy' h
        · rename_i h1; rw [eqCell_rel ha hb h1]; exact h
        · simp at h

theorem run_equalIn_cell {P : Program} {w : World} {d : Nat} {t : TypeId} {f : FK} (ht : kindOf P t = some f) {a b : Value} {r : Bool} (h : eqCell f a b = some r) :
    (Op.equalIn (d + 1) t a b).run P w = .ok r w := by
  unfold kindOf at ht
  split at ht
  · rename_i k1 h1
    simp at ht; subst ht
    unfold eqCell at h
    split at h
    · split at h
      · rename_i hk; subst hk; simp at h; subst h; simp [Op.equalIn, run_underlying h1]
      · simp at h
    · rename_i h0; cases h0
    · rename_i h0; cases h0
    · simp at h
  · rename_i h1
    simp at ht; subst ht
    unfold eqCell at h
    split at h
    · rename_i h0; cases h0
    · simp at h; subst h; simp [Op.equalIn, run_underlying h1]
    · rename_i h0; cases h0
    · simp at h
  · rename_i h1
    simp at ht; subst ht
    unfold eqCell at h
    split at h
    · rename_i h0; cases h0
    · rename_i h0; cases h0
    · simp at h; subst h; simp [Op.equalIn, run_underlying h1]
    · simp at h
  · simp at ht

theorem kindOf_notAgg {P : Program} {w : World} {t : TypeId} {f : FK} (ht : kindOf P t = some f) : (isAgg t).run P w = .ok false w := by
  apply run_isAgg
  unfold kindOf at ht; unfold aggT
  split at ht <;> simp_all

theorem run_eqFields {P : Program} {w : World} {d : Nat} {xs ys : Array Value} : ∀ {l : List Field} {k : Nat} {fs : List FK} {r : Bool}, flatFrom P k l = some fs →
    eqCells fs (xs.toList.drop k) (ys.toList.drop k) = some r → (Op.eqFields (d + 1) xs ys l).run P w = .ok r w := by
  intro l
  induction l with
  | nil =>
    intro k fs r hf h
    simp [flatFrom] at hf; subst hf
    generalize xs.toList.drop k = a at h
    generalize ys.toList.drop k = b at h
    cases a <;> cases b <;> simp [eqCells] at h
    subst h; rfl
  | cons f l ih =>
    intro k fs r hf h
    unfold flatFrom at hf
    split at hf
    · rename_i hc
      split at hf
      · rename_i a b hka hfb
        simp at hf; subst hf
        have hx : ∀ zs : Array Value, zs.toList.drop k = match zs[k]? with | some v => v :: zs.toList.drop (k + 1) | none => [] := by
          intro zs
          rcases Nat.lt_or_ge k zs.size with hk | hk
          · rw [Array.getElem?_eq_getElem hk, List.drop_eq_getElem_cons (by simpa using hk)]; simp
          · rw [Array.getElem?_eq_none hk, List.drop_eq_nil_of_le (by simpa using hk)]
        rw [hx xs, hx ys] at h
        cases hxk : xs[k]? with
        | none => rw [hxk] at h; simp [eqCells] at h
        | some x =>
          cases hyk : ys[k]? with
          | none => rw [hxk, hyk] at h; simp [eqCells] at h
          | some y =>
            rw [hxk, hyk] at h
            simp only [eqCells] at h
            have hp : ∀ (zs : Array Value) z, zs[k]? = some z → (part f.type zs f.offset).run P w = .ok z w := by
              intro zs z hz
              simp [part, kindOf_notAgg hka, hc.2, hz]
            simp only [Op.eqFields, if_pos hc.1, Sem.run_bind, hp xs x hxk, hp ys y hyk, Result.andThen_ok]
            split at h
            · rename_i h1
              simp only [run_equalIn_cell hka h1, Result.andThen_ok, Sem.run_ite, Bool.not_true, Bool.false_eq_true, if_false]
              exact ih hfb h
            · rename_i h1
              simp at h; subst h
              simp [run_equalIn_cell hka h1]
            · simp at h
      · simp at hf
    · simp at hf

theorem flatFrom_self {P : Program} : ∀ {l : List Field} {k : Nat} {fs : List FK}, flatFrom P k l = some fs → FK.self ∉ fs := by
  intro l
  induction l with
  | nil => intro k fs h; simp [flatFrom] at h; subst h; simp
  | cons f l ih =>
    intro k fs h
    unfold flatFrom at h
    split at h
    · split at h
      · rename_i a b hka hfb
        simp at h; subst h
        have h1 := ih hfb
        have h2 : a ≠ .self := by
          intro e; subst e
          unfold kindOf at hka
          split at hka <;> simp at hka
        simp only [List.mem_cons, not_or]
        exact ⟨fun e => h2 e.symm, h1⟩
      · simp at h
    · simp at h

theorem flatStruct_self {P : Program} {t : TypeId} (h : flatStruct P t = some [.self]) : P.underlying t = some .bool := by
  unfold flatStruct at h
  split at h
  · split at h
    · exact absurd (flatFrom_self h) (by simp)
    · simp at h
  · assumption
  · simp at h

theorem run_equal_bool {P : Program} {w : World} {t : TypeId} (hb : P.underlying t = some .bool) (a b : Bool) : (Op.equal t (.bool a) (.bool b)).run P w = .ok (a == b) w := by
  unfold Op.equal
  rw [show Op.maxDepth = 9999 + 1 from rfl]
  exact run_equalIn_bool' w 9999 t a b hb

theorem run_eql_bool {P : Program} {w : World} {t : TypeId} (hb : P.underlying t = some .bool) (a b : Bool) : (binOp .eql t (.bool a) (.bool b)).run P w = .ok (.bool (a == b)) w := by
  have e : binOp .eql t (.bool a) (.bool b) = (do pure (.bool (← Op.equal t (.bool a) (.bool b))) : Sem Value) := by simp only [binOp]
  rw [e, Sem.run_bind, run_equal_bool hb]; rfl

theorem run_neq_bool {P : Program} {w : World} {t : TypeId} (hb : P.underlying t = some .bool) (a b : Bool) : (binOp .neq t (.bool a) (.bool b)).run P w = .ok (.bool !(a == b)) w := by
  have e : binOp .neq t (.bool a) (.bool b) = (do pure (.bool (!(← Op.equal t (.bool a) (.bool b)))) : Sem Value) := by simp only [binOp]
  rw [e, Sem.run_bind, run_equal_bool hb]; rfl

theorem s_bin {φ : Inj} {w : World} {P : Program} {op : BinOp} {t : TypeId} {x y : Operand} {v v' u u' r : Value} (hv : VR φ v v') (hu : VR φ u u') (h : binA op (flatStruct P t) v u = some r) :
    ∃ r', (do eqGuard op t x y v' u'; binOp op t v' u' : Sem Value).run P w = .ok r' w ∧ VR φ r r' := by
  unfold binA at h
  split at h
  · rename_i k a k' b
    have := hv.int_inv; subst this
    have := hu.int_inv; subst this
    have hg : (eqGuard op t x y (.int k a) (.int k' b)).run P w = .ok () w := by
      cases op <;> simp [eqGuard]
    simp only [Sem.run_bind, hg, Result.andThen_ok]
    split at h
    · unfold shiftI at h
      split at h
      · simp at h
      · rename_i hb
        simp at h; subst h
        exact ⟨_, by simp [binOp, Op.shift, hb], .of_cell (.int _ _)⟩
    · unfold shiftI at h
      split at h
      · simp at h
      · rename_i hb
        simp at h; subst h
        exact ⟨_, by simp [binOp, Op.shift, hb], .of_cell (.int _ _)⟩
    · split at h
      · rename_i hk; subst hk
        unfold arithI at h
        split at h <;> first
          | (simp at h; subst h; exact ⟨_, by simp [binOp, Op.intArith], .of_cell (.int _ _)⟩)
          | (split at h
             · simp at h
             · rename_i hb; simp at h; subst h; exact ⟨_, by simp [binOp, Op.intDiv, hb], .of_cell (.int _ _)⟩)
          | (simp [bitsI] at h; subst h; exact ⟨_, by simp [binOp, Op.intBits], .of_cell (.int _ _)⟩)
          | skip
        unfold cmpI at h
        split at h <;> first
          | (simp at h; subst h; exact ⟨_, by simp [binOp, Op.intCmp], .of_cell (.bool _)⟩)
          | (simp at h)
      · simp at h
  · rename_i a b
    have := hv.string_inv; subst this
    have := hu.string_inv; subst this
    have hg : (eqGuard op t x y (.string a) (.string b)).run P w = .ok () w := by
      cases op <;> simp [eqGuard]
    simp only [Sem.run_bind, hg, Result.andThen_ok]
    unfold binS at h
    split at h <;> first
      | (split at h
         · simp at h
         · rename_i hb; simp at h; subst h; exact ⟨_, by simp only [binOp, Op.stringOp, Sem.run_ite]; rw [if_neg hb]; rfl, .of_cell (.string _)⟩)
      | (simp at h; subst h; exact ⟨_, by simp [binOp, Op.stringOp], .of_cell (.bool _)⟩)
      | (simp at h)
  · rename_i a b
    have := hv.bool_inv; subst this
    have := hu.bool_inv; subst this
    have hg : (eqGuard op t x y (.bool a) (.bool b)).run P w = .ok () w := by
      cases op <;> simp [eqGuard]
    simp only [Sem.run_bind, hg, Result.andThen_ok]
    split at h
    · rename_i hf
      have hb := flatStruct_self hf
      simp at h; subst h
      exact ⟨_, run_eql_bool hb a b, .of_cell (.bool _)⟩
    · rename_i hf
      have hb := flatStruct_self hf
      simp at h; subst h
      exact ⟨_, run_neq_bool hb a b, .of_cell (.bool _)⟩
    · simp at h
  · rename_i a b
    obtain ⟨a', rfl, ha⟩ := hv.agg_inv
    obtain ⟨b', rfl, hb⟩ := hu.agg_inv
    split at h
    · rename_i fs hfs
      unfold flatStruct at hfs
      split at hfs
      · rename_i fl hfl
        split at hfs
        · rename_i hc
          have hpf : P.underlying t = some (.struct (P.fieldsOf t)) := by simp [Program.fieldsOf, hfl]
          have hfo : P.fieldsOf t = fl := by rw [hfl] at hpf; simpa using hpf.symm
          have hg : (eqGuard op t x y (.agg a') (.agg b')).run P w = .ok () w := run_eqGuard_agg w op t x y a' b' hc.2
          have key : ∀ r, eqCells fs a.toList b.toList = some r → (Op.equalIn 10000 t (.agg a') (.agg b')).run P w = .ok r w := by
            intro r hr
            rw [show (10000 : Nat) = 9998 + 1 + 1 from rfl, run_equalIn_struct w (9998 + 1) t a' b' hpf hc.1, hfo]
            exact run_eqFields (k := 0) hfs (by simpa using eqCells_rel ha hb hr)
          simp only [Sem.run_bind, hg, Result.andThen_ok]
          split at h
          · simp only [Option.map_eq_some_iff] at h
            obtain ⟨r0, h0, rfl⟩ := h
            exact ⟨_, by rw [run_eql_struct, key r0 h0]; rfl, .of_cell (.bool _)⟩
          · simp only [Option.map_eq_some_iff] at h
            obtain ⟨r0, h0, rfl⟩ := h
            exact ⟨_, by rw [run_neq_struct, key r0 h0]; rfl, .of_cell (.bool _)⟩
          · simp at h
        · simp at hfs
      · simp at hfs; subst hfs
        split at h
        · generalize a.toList = a0 at h; generalize b.toList = b0 at h
          cases a0 <;> cases b0 <;> simp [eqCells, eqCell] at h
        · generalize a.toList = a0 at h; generalize b.toList = b0 at h
          cases a0 <;> cases b0 <;> simp [eqCells, eqCell] at h
        · simp at h
      · simp at hfs
    · simp at h
  · simp at h

end Go.Proofs.Ytfcglkajekohiaa.AM
