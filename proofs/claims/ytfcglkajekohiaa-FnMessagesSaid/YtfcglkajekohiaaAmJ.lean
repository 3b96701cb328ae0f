/-
  An operation of the plain machine is the model's.
-/
import Derived.Test.YtfcglkajekohiaaAmI
import Derived.Calls
set_option linter.unusedSimpArgs false
set_option linter.unusedVariables false
namespace Go.Proofs.Ytfcglkajekohiaa.AM
open Go

/-- What is called does in the model what it does in the plain machine. -/
def CallOk (P : Program) (w0 : World) (cf : CallF) : Prop :=
  ∀ f args H c v d c', cf f args H c = some (v, d, c') → c ≤ c' ∧ (∃ fn, P.funcs[f]? = some fn ∧ fn.body.isNone = false ∧ (fn.name == "runtime.NumGoroutine") = false) ∧
    ∀ φ w, Rel φ w0 w H → Fresh φ c c' → ∀ args', Each (VR φ) args args' →
      Calls P f args'.toArray w fun e w' => ∃ φ' v', e = .returned v' ∧ VR φ' v v' ∧ Rel φ' w0 w' (d ++ H) ∧ ExtBy φ φ' c c'

theorem lowOpt_rel {φ : Inj} {n : Nat} {ts : TS} {a : Act} (hT : TR φ n ts a.tmps) {x : Option Operand} {y : Option Opnd} (h : lowOpt n x = some y) : OptR φ (y.map (ev ts)) (x.map a.eval) := by
  cases x with
  | none => simp [lowOpt] at h; subst h; trivial
  | some x =>
    simp only [lowOpt, Option.map_eq_some_iff] at h
    obtain ⟨z, hz, rfl⟩ := h
    exact hT.opnd hz

theorem placeOf_some {P : Program} {fs : Array Field} {i : Nat} {p : Nat × Nat} (h : placeOf P fs i = some p) : ∃ f, fs[i]? = some f ∧ f.offset = p.1 ∧ sizeT P f.type = some p.2 := by
  unfold placeOf at h
  split at h
  · rename_i f hf
    simp only [Option.map_eq_some_iff] at h
    obtain ⟨s, hs, rfl⟩ := h
    exact ⟨f, hf, rfl, hs⟩
  · simp at h

theorem isU8_eq {P : Program} {e : TypeId} (h : isU8 P e = true) : P.underlying e = some (.int .u8) := by
  unfold isU8 at h
  split at h
  · assumption
  · simp at h

theorem run_len_s {P : Program} {w : World} {argTypes : Array TypeId} {ty : TypeId} (ht : (argTypes[0]?).bind P.underlying = some .string) (s : ByteArray) :
    (Builtin.len_ argTypes ty #[.string s]).run P w = .ok (.int .i64 s.size) w := by
  obtain ⟨t, ht0, htu⟩ := Option.bind_eq_some_iff.mp ht
  simp [Builtin.len_, ht0, run_underlying htu, goInt]

theorem run_len_a {P : Program} {w : World} {argTypes : Array TypeId} {ty e : TypeId} (ht : (argTypes[0]?).bind P.underlying = some (.slice e)) {φ : Inj} {a : Option Addr} {n c : Nat} {v' : Value} (hv : VR φ (.slice a n c) v') :
    (Builtin.len_ argTypes ty #[v']).run P w = .ok (.int .i64 n) w := by
  obtain ⟨t, ht0, htu⟩ := Option.bind_eq_some_iff.mp ht
  cases a with
  | none =>
    obtain ⟨rfl, rfl⟩ := hv.snil_inv
    simp [Builtin.len_, ht0, run_underlying htu, goInt]
  | some a =>
    obtain ⟨b, c', ex, _, _, _, _, _, rfl⟩ := hv.slice_inv
    simp [Builtin.len_, ht0, run_underlying htu, goInt]

theorem map_two {α β : Type} (f : α → β) {l : Array α} {a b : α} (h : l.toList = [a, b]) : l.map f = #[f a, f b] := by
  apply Array.ext'
  simp [h]

theorem map_one {α β : Type} (f : α → β) {l : Array α} {a : α} (h : l.toList = [a]) : l.map f = #[f a] := by
  apply Array.ext'
  simp [h]

theorem s_append0 {P : Program} {w : World} {φ : Inj} {t0 t1 e : TypeId} {d1 : TypeDesc} (ht0 : P.underlying t0 = some (.slice e)) (ht1 : P.underlying t1 = some d1) (hd1 : (∃ k, d1 = .slice k) ∨ d1 = .string)
    {z : Nat × List Value} (hz : zeroT P e = some z) {argTypes : Array TypeId} (ha0 : argTypes[0]? = some t0) (ha1 : argTypes[1]? = some t1) {ty : TypeId}
    {b : Option Addr} {l cp : Nat} {s' x x' : Value} (hs : VR φ (.slice b l cp) s') (hx : VR φ x x') (hn : lenA x = some 0) :
    (Builtin.append_ argTypes ty #[s', x']).run P w = .ok s' w := by
  obtain ⟨es, zz⟩ := z
  have hsz := zeroT_size hz
  obtain ⟨sb, scap, rfl, hle⟩ : ∃ sb scap, s' = .slice sb l scap ∧ l ≤ scap := by
    cases b with
    | none => obtain ⟨rfl, rfl⟩ := hs.snil_inv; exact ⟨none, 0, rfl, Nat.le_refl _⟩
    | some a => obtain ⟨b, c', ex, _, _, _, hl, _, rfl⟩ := hs.slice_inv; exact ⟨some b, c', rfl, hl⟩
  obtain ⟨hxl, hxf⟩ : (Builtin.lenOf x').run P w = .ok 0 w ∧ (Builtin.firstCells es 0 x').run P w = .ok #[] w := by
    unfold lenA at hn
    split at hn
    · rename_i a n c
      simp at hn; subst hn
      cases a with
      | none => obtain ⟨_, rfl⟩ := hx.snil_inv; simp [Builtin.lenOf, Builtin.firstCells]
      | some a => obtain ⟨b, c', ex, _, _, _, _, _, rfl⟩ := hx.slice_inv; simp [Builtin.lenOf, Builtin.firstCells, loadCells, loadCellsFrom]
    · rename_i s
      simp at hn
      have := hx.string_inv; subst this
      refine ⟨by simp [Builtin.lenOf, hn], ?_⟩
      have : (s.extract 0 0).data = #[] := by rw [ByteArray.data_extract]; simp
      simp [Builtin.firstCells]
    · simp at hn
  unfold Builtin.append_
  rcases hd1 with ⟨k1, rfl⟩ | rfl
  all_goals
    simp only [ha0, ha1, List.getElem?_toArray, List.getElem?_cons_zero, List.getElem?_cons_succ, Sem.run_bind, run_underlying ht0, run_underlying ht1, Result.andThen_ok, run_sizeOf hsz, Sem.run_pure, Bool.false_eq_true, if_false, hxl, Bool.not_false, if_true, Nat.add_zero, Sem.run_ite, if_pos hle, hxf]
    cases sb <;> simp [storeCells]

section
variable {P : Program} {w0 : World} {cf : CallF}

theorem op_sound (hcf : CallOk P w0 cf) {n : Nat} {o : Oper} {aop : AOp} (hlow : lowOp P n o.op = some aop) {ts : TS} {H : AHeap} {c : Nat} {v : Value} {d : AHeap} {c' : Nat}
    (hop : opA cf ts H c aop = some (v, d, c')) {φ : Inj} {w : World} {a : Act} (hR : Rel φ w0 w H) (hT : TR φ n ts a.tmps) (hF : Fresh φ c c')
    {next : Act → World → Prop} {Q : Exit → Act → World → Prop} (hk : ∀ φ' w' v', VR φ' v v' → Rel φ' w0 w' (d ++ H) → ExtBy φ φ' c c' → next (a.put o.dst v') w') : o.wp P a w next Q := by
  have hval : ∀ v' w', (execOp a.eval o).run P w = .ok (.value v') w' → next (a.put o.dst v') w' → o.wp P a w next Q := by
    intro v' w' h1 h2
    unfold Oper.wp; rw [h1]; exact h2
  have hskip : ∀ w', (execOp a.eval o).run P w = .ok .skip w' → next (a.put o.dst undef) w' → o.wp P a w next Q := by
    intro w' h1 h2
    unfold Oper.wp; rw [h1]; exact h2
  unfold lowOp at hlow
  split at hlow
  · -- move
    rename_i x heq
    simp only [Option.map_eq_some_iff] at hlow
    obtain ⟨y, hy, rfl⟩ := hlow
    simp only [opA, Option.some.injEq, Prod.mk.injEq] at hop
    obtain ⟨rfl, rfl, rfl⟩ := hop
    exact hval _ _ (by simp only [execOp, heq]; rfl) (hk φ w _ (hT.opnd hy) (by simpa using hR) (ExtBy.refl _ _ _))
  · -- assign
    rename_i x heq
    simp only [Option.map_eq_some_iff] at hlow
    obtain ⟨y, hy, rfl⟩ := hlow
    simp only [opA, Option.some.injEq, Prod.mk.injEq] at hop
    obtain ⟨rfl, rfl, rfl⟩ := hop
    exact hval _ _ (by simp only [execOp, heq]; rfl) (hk φ w _ (hT.opnd hy) (by simpa using hR) (ExtBy.refl _ _ _))
  · -- pick
    rename_i x y z heq
    split at hlow
    · rename_i x' y' z' hx hy hz
      simp only [Option.some.injEq] at hlow; subst hlow
      simp only [opA] at hop
      split at hop
      · rename_i t ht
        simp only [Option.some.injEq, Prod.mk.injEq] at hop
        obtain ⟨rfl, rfl, rfl⟩ := hop
        have h1 := hT.opnd hx
        rw [ht] at h1
        have h2 := h1.bool_inv
        refine hval (if t then a.eval y else a.eval z) w (by simp only [execOp, heq, h2]; cases t <;> rfl) (hk φ w _ ?_ (by simpa using hR) (ExtBy.refl _ _ _))
        cases t
        · exact hT.opnd hz
        · exact hT.opnd hy
      · simp at hop
    · simp at hlow
  · -- alloc
    rename_i e heq
    simp only [Option.map_eq_some_iff] at hlow
    obtain ⟨z, hz, rfl⟩ := hlow
    simp only [opA, Option.some.injEq, Prod.mk.injEq] at hop
    obtain ⟨rfl, rfl, rfl⟩ := hop
    obtain ⟨s, zz⟩ := z
    obtain ⟨zv, hzv, hzvz⟩ := run_zero (w := w) hz
    obtain ⟨_, _, _, _, _, _, hsimple, _⟩ := zeroT_parts hz
    have hc := hF c (Nat.le_refl _) (by omega)
    have key := s_new (t := e) hR hc (cs := zz) (v := zv) (by rw [hzvz]; exact simple_Each hsimple)
    exact hval _ _ (by simp only [execOp, heq, Instr.alloc, Sem.run_bind, hzv, Result.andThen_ok, run_newVar]; rfl) (hk _ _ _ key.2 key.1 (Inj.set_ext hc))
  · -- box
    rename_i e x heq
    simp only [Option.map_eq_some_iff] at hlow
    obtain ⟨y, hy, rfl⟩ := hlow
    simp only [opA] at hop
    split at hop
    · rename_i hcell
      simp only [Option.some.injEq, Prod.mk.injEq] at hop
      obtain ⟨rfl, rfl, rfl⟩ := hop
      have hc := hF c (Nat.le_refl _) (by omega)
      have key := s_new (t := e) hR hc (VR.cells ((hT.opnd hy).ar hcell))
      exact hval _ _ (by simp only [execOp, heq, Instr.box, Sem.run_bind, Result.andThen_ok, run_newVar]; rfl) (hk _ _ _ key.2 key.1 (Inj.set_ext hc))
    · simp at hop
  · -- build
    rename_i t parts heq
    split at hlow
    · rename_i fs z hfs hz
      split at hlow
      · rename_i hall
        simp only [Option.map_eq_some_iff] at hlow
        obtain ⟨ap, hap, rfl⟩ := hlow
        simp only [opA] at hop
        split at hop
        · rename_i cs hcs
          simp only [Option.some.injEq, Prod.mk.injEq] at hop
          obtain ⟨rfl, rfl, rfl⟩ := hop
          obtain ⟨r', h1, h2⟩ := s_build (w := w) hfs hz (fun f hf => List.all_eq_true.mp hall f hf) hT hap hcs
          exact hval r' w (by simp only [execOp, heq, Sem.run_bind, h1]; rfl) (hk φ w _ h2 (by simpa using hR) (ExtBy.refl _ _ _))
        · simp at hop
      · simp at hlow
    · simp at hlow
  · -- buildSlice
    rename_i t len parts heq
    split at hlow
    · rename_i e he
      split at hlow
      · rename_i z hz
        split at hlow
        · rename_i hcond
          simp only [Option.map_eq_some_iff] at hlow
          obtain ⟨ap, hap, rfl⟩ := hlow
          simp only [opA] at hop
          split at hop
          · rename_i cs hcs
            simp only [Option.some.injEq, Prod.mk.injEq] at hop
            obtain ⟨rfl, rfl, rfl⟩ := hop
            have hc := hF c (Nat.le_refl _) (by omega)
            obtain ⟨w', φ', r', h1, h2, h3, h4⟩ := s_arr hR hc he hz hcond.1 hcond.2 hT hap hcs
            exact hval r' w' (by simp only [execOp, heq, Sem.run_bind, h1]; rfl) (hk φ' w' _ h2 h3 h4)
          · simp at hop
        · simp at hlow
      · simp at hlow
    · simp at hlow
  · -- load
    rename_i t x heq
    split at hlow
    · rename_i g s y hg hs hy
      split at hlow
      · rename_i hgs
        simp only [Option.some.injEq] at hlow; subst hlow
        simp only [opA] at hop
        split at hop
        · rename_i p hp
          split at hop
          · rename_i ob hob
            split at hop
            · rename_i hcond
              have h1 := hT.opnd hy
              rw [hp] at h1
              cases g with
              | true =>
                simp only [if_true, Option.some.injEq, Prod.mk.injEq] at hop
                obtain ⟨rfl, rfl, rfl⟩ := hop
                obtain ⟨v', h2, h3⟩ := s_load (P := P) hR hg hs hgs hob hcond.1 hcond.2 h1 (by simp only [if_true]; rfl)
                exact hval v' w (by simp only [execOp, heq, Sem.run_bind, h2]; rfl) (hk φ w _ h3 (by simpa using hR) (ExtBy.refl _ _ _))
              | false =>
                simp only [Bool.false_eq_true, if_false] at hop
                split at hop
                · rename_i v0 hv0
                  simp only [Option.some.injEq, Prod.mk.injEq] at hop
                  obtain ⟨rfl, rfl, rfl⟩ := hop
                  obtain ⟨v', h2, h3⟩ := s_load (P := P) hR hg hs hgs hob hcond.1 hcond.2 h1 (by simp only [Bool.false_eq_true, if_false]; exact hv0)
                  exact hval v' w (by simp only [execOp, heq, Sem.run_bind, h2]; rfl) (hk φ w _ h3 (by simpa using hR) (ExtBy.refl _ _ _))
                · simp at hop
            · simp at hop
          · simp at hop
        · simp at hop
      · simp at hlow
    · simp at hlow
  · -- store
    rename_i t x z heq
    split at hlow
    · rename_i s y u hs hy hu
      simp only [Option.some.injEq] at hlow; subst hlow
      simp only [opA] at hop
      split at hop
      · rename_i p hp
        split at hop
        · rename_i ob hob
          split at hop
          · rename_i hcond
            simp only [Option.some.injEq, Prod.mk.injEq] at hop
            obtain ⟨rfl, rfl, rfl⟩ := hop
            have h1 := hT.opnd hy
            rw [hp] at h1
            obtain ⟨w', h2, h3⟩ := s_store (P := P) hR hs hob hcond.2.1 hcond.2.2.1 h1 ((hT.opnd hu).ar hcond.2.2.2.2) hcond.2.2.2.1
            exact hskip w' (by simp only [execOp, heq, Sem.run_bind, h2]; rfl) (hk φ w' _ (.tuple _ _ Each.nil) h3 (ExtBy.refl _ _ _))
          · simp at hop
        · simp at hop
      · simp at hop
    · simp at hlow
  · -- nilCheck
    rename_i x heq
    simp only [Option.map_eq_some_iff] at hlow
    obtain ⟨y, hy, rfl⟩ := hlow
    simp only [opA] at hop
    split at hop
    · rename_i p hp
      simp only [Option.some.injEq, Prod.mk.injEq] at hop
      obtain ⟨rfl, rfl, rfl⟩ := hop
      have h1 := hT.opnd hy
      rw [hp] at h1
      obtain ⟨e, _, _, h2⟩ := h1.ptr_inv
      exact hval (a.eval x) w (by simp only [execOp, heq, h2]; rfl) (hk φ w _ h1 (by simpa using hR) (ExtBy.refl _ _ _))
    · simp at hop
  · -- binOp
    rename_i op t x y ty heq
    split at hlow
    · rename_i x' y' hx hy
      simp only [Option.some.injEq] at hlow; subst hlow
      simp only [opA, Option.map_eq_some_iff] at hop
      obtain ⟨r, hr, hop⟩ := hop
      simp only [Prod.mk.injEq] at hop
      obtain ⟨rfl, rfl, rfl⟩ := hop
      obtain ⟨r', h1, h2⟩ := s_bin (w := w) (x := x) (y := y) (hT.opnd hx) (hT.opnd hy) hr
      refine hval r' w ?_ (hk φ w _ h2 (by simpa using hR) (ExtBy.refl _ _ _))
      simp only [execOp, heq]
      rw [Sem.run_bind, h1]; rfl
    · simp at hlow
  · -- unOp
    rename_i op t x heq
    simp only [Option.map_eq_some_iff] at hlow
    obtain ⟨y, hy, rfl⟩ := hlow
    simp only [opA, Option.map_eq_some_iff] at hop
    obtain ⟨r, hr, hop⟩ := hop
    simp only [Prod.mk.injEq] at hop
    obtain ⟨rfl, rfl, rfl⟩ := hop
    obtain ⟨r', h1, h2⟩ := s_un (P := P) (w := w) (hT.opnd hy) hr
    exact hval r' w (by simp only [execOp, heq, Sem.run_bind, h1]; rfl) (hk φ w _ h2 (by simpa using hR) (ExtBy.refl _ _ _))
  · -- convert
    rename_i src dst x heq
    split at hlow
    · rename_i ks k y hs hd hy
      simp only [Option.some.injEq] at hlow; subst hlow
      simp only [opA] at hop
      split at hop
      · rename_i k0 m hm
        simp only [Option.some.injEq, Prod.mk.injEq] at hop
        obtain ⟨rfl, rfl, rfl⟩ := hop
        have h1 := hT.opnd hy
        rw [hm] at h1
        have h2 := h1.int_inv
        exact hval _ w (by simp only [execOp, heq, h2, convert, Sem.run_bind, run_underlying hs, run_underlying hd, Result.andThen_ok, Conv.intToInt]; rfl) (hk φ w _ (.of_cell (.int _ _)) (by simpa using hR) (ExtBy.refl _ _ _))
      · simp at hop
    · rename_i y hs hd hy
      simp only [Option.some.injEq] at hlow; subst hlow
      simp only [opA] at hop
      split at hop
      · rename_i s hm
        simp only [Option.some.injEq, Prod.mk.injEq] at hop
        obtain ⟨rfl, rfl, rfl⟩ := hop
        have h1 := hT.opnd hy
        rw [hm] at h1
        have h2 := h1.string_inv
        exact hval _ w (by simp only [execOp, heq, h2, convert, Sem.run_bind, run_underlying hs, run_underlying hd, Result.andThen_ok]; rfl) (hk φ w _ (.of_cell (.string _)) (by simpa using hR) (ExtBy.refl _ _ _))
      · simp at hop
    · rename_i e y hs hd hy
      split at hlow
      · rename_i h8
        simp only [Option.some.injEq] at hlow; subst hlow
        simp only [opA] at hop
        split at hop
        · rename_i s hm
          simp only [Option.some.injEq, Prod.mk.injEq] at hop
          obtain ⟨rfl, rfl, rfl⟩ := hop
          have h1 := hT.opnd hy
          rw [hm] at h1
          have h2 := h1.string_inv
          have hc := hF c (Nat.le_refl _) (by omega)
          obtain ⟨w', φ', r', h3, h4, h5, h6⟩ := s_S2B (P := P) hR hc hs hd (isU8_eq h8) s
          exact hval r' w' (by simp only [execOp, heq, h2, Sem.run_bind, h3]; rfl) (hk φ' w' _ h4 h5 h6)
        · simp at hop
      · simp at hlow
    · rename_i e y hs hd hy
      split at hlow
      · rename_i h8
        simp only [Option.some.injEq] at hlow; subst hlow
        simp only [opA] at hop
        split at hop
        · rename_i s hm
          simp only [Option.some.injEq, Prod.mk.injEq] at hop
          obtain ⟨rfl, rfl, rfl⟩ := hop
          obtain ⟨cs, hcs, hbs⟩ := Option.bind_eq_some_iff.mp hm
          have h3 := s_B2S (P := P) hR hs hd (isU8_eq h8) (hT.opnd hy) hcs hbs
          exact hval _ w (by simp only [execOp, heq, Sem.run_bind, h3]; rfl) (hk φ w _ (.of_cell (.string _)) (by simpa using hR) (ExtBy.refl _ _ _))
        · simp at hop
      · simp at hlow
    · simp at hlow
  · -- makeSlice
    rename_i t l cp heq
    split at hlow
    · rename_i e l' cp' he hl hcp
      split at hlow
      · rename_i z hz
        split at hlow
        · rename_i hz0
          simp only [Option.some.injEq] at hlow; subst hlow
          simp only [opA] at hop
          split at hop
          · rename_i m m2 hm hm2
            split at hop
            · rename_i hcond
              obtain ⟨c1, rfl, c2, c3⟩ := hcond
              simp only [Option.some.injEq, Prod.mk.injEq] at hop
              obtain ⟨rfl, rfl, rfl⟩ := hop
              have h1 := hT.opnd hl
              rw [hm] at h1
              have h1' := h1.int_inv
              have h2 := hT.opnd hcp
              rw [hm2] at h2
              have h2' := h2.int_inv
              have hc := hF c (Nat.le_refl _) (by omega)
              obtain ⟨w', φ', r', h3, h4, h5, h6⟩ := s_mkSlice (P := P) hR hc he hz hz0 c1 c2 c3
              exact hval r' w' (by simp only [execOp, heq, h1', h2', Sem.run_bind, h3]; rfl) (hk φ' w' _ h4 h5 h6)
            · simp at hop
          · simp at hop
        · simp at hlow
      · simp at hlow
    · simp at hlow
  · -- slice
    rename_i t x lo hi mx heq
    split at hlow
    · rename_i y lo' hi' ht hy hlo hhi
      simp only [Option.some.injEq] at hlow; subst hlow
      simp only [opA] at hop
      split at hop
      · rename_i s hs
        split at hop
        · rename_i l h hl hh
          split at hop
          · rename_i hcond
            simp only [Option.some.injEq, Prod.mk.injEq] at hop
            obtain ⟨rfl, rfl, rfl⟩ := hop
            have h1 := hT.opnd hy
            rw [hs] at h1
            have h2 := h1.string_inv
            have h3 := s_bounds (P := P) (w := w) (b := false) (Nat.le_refl s.size) (lowOpt_rel hT hlo) (lowOpt_rel hT hhi) hl hh hcond.1 hcond.2.1 hcond.2.2
            refine hval _ w ?_ (hk φ w _ (.of_cell (.string _)) (by simpa using hR) (ExtBy.refl _ _ _))
            simp only [execOp, heq, h2, Instr.sliceAt, Instr.slice, Option.map_none, Sem.run_bind, run_underlying ht, Result.andThen_ok, Option.isSome_none, Bool.false_eq_true, if_false, h3]
            rfl
          · simp at hop
        · simp at hop
      · simp at hop
    · rename_i e y lo' hi' ht hy hlo hhi
      simp only [Option.map_eq_some_iff] at hlow
      obtain ⟨s, hs, rfl⟩ := hlow
      simp only [opA] at hop
      split at hop
      · rename_i b l0 c0 hb
        split at hop
        · rename_i l h hl hh
          split at hop
          · rename_i hcond
            simp only [Option.some.injEq, Prod.mk.injEq] at hop
            obtain ⟨rfl, rfl, rfl⟩ := hop
            have h1 := hT.opnd hy
            rw [hb] at h1
            obtain ⟨r', h2, h3⟩ := s_sliceA (P := P) (w := w) ht hs h1 (lowOpt_rel hT hlo) (lowOpt_rel hT hhi) hl hh hcond.1 hcond.2.1 hcond.2.2.1 hcond.2.2.2
            exact hval r' w (by simp only [execOp, heq, Option.map_none, Sem.run_bind, h2]; rfl) (hk φ w _ h3 (by simpa using hR) (ExtBy.refl _ _ _))
          · simp at hop
        · simp at hop
      · simp at hop
    · simp at hlow
  · -- fieldAddr
    rename_i s x f heq
    split at hlow
    · rename_i fs y hfs hy
      split at hlow
      · rename_i p hp
        split at hlow
        · simp at hlow
        · rename_i hp0
          simp only [Option.some.injEq] at hlow; subst hlow
          simp only [opA] at hop
          split at hop
          · rename_i q hq
            simp only [Option.some.injEq, Prod.mk.injEq] at hop
            obtain ⟨rfl, rfl, rfl⟩ := hop
            have h1 := hT.opnd hy
            rw [hq] at h1
            obtain ⟨ex, hsp, hex, h2⟩ := h1.ptr_inv
            obtain ⟨fd, hfd, hoff, hsz⟩ := placeOf_some hp
            refine hval (.pointer (some ⟨ex.blk, ex.base + (q.off + p.1), none⟩)) w ?_ (hk φ w _ (.of_cell (.ptr ⟨q.block, q.off + p.1, none⟩ ex rfl hex)) (by simpa using hR) (ExtBy.refl _ _ _))
            simp only [execOp, heq, h2, Instr.fieldAt, Sem.run_bind, run_underlying hfs, Result.andThen_ok, hfd, Instr.sureAddr, Sem.run_pure, fieldPlace, run_sizeOf hsz, Sem.run_ite, if_neg hp0, add_none, hoff, Nat.add_assoc]
          · simp at hop
      · simp at hlow
    · simp at hlow
  · -- field
    rename_i t x f heq
    split at hlow
    · rename_i fs y hfs hy
      split at hlow
      · rename_i fd hfd
        split at hlow
        · rename_i g s hg hs
          split at hlow
          · rename_i hgs
            simp only [Option.some.injEq] at hlow; subst hlow
            simp only [opA] at hop
            split at hop
            · rename_i cs hcs
              split at hop
              · have h1 := hT.opnd hy
                rw [hcs] at h1
                cases g with
                | true =>
                  simp only [if_true, Option.some.injEq, Prod.mk.injEq] at hop
                  obtain ⟨rfl, rfl, rfl⟩ := hop
                  obtain ⟨v', h2, h3⟩ := s_field (P := P) (w := w) hfs hfd hg hs hgs h1 (by simp only [if_true]; rfl)
                  exact hval v' w (by simp only [execOp, heq, Sem.run_bind, h2]; rfl) (hk φ w _ h3 (by simpa using hR) (ExtBy.refl _ _ _))
                | false =>
                  simp only [Bool.false_eq_true, if_false] at hop
                  split at hop
                  · rename_i v0 hv0
                    simp only [Option.some.injEq, Prod.mk.injEq] at hop
                    obtain ⟨rfl, rfl, rfl⟩ := hop
                    obtain ⟨v', h2, h3⟩ := s_field (P := P) (w := w) hfs hfd hg hs hgs h1 (by simp only [Bool.false_eq_true, if_false]; exact hv0)
                    exact hval v' w (by simp only [execOp, heq, Sem.run_bind, h2]; rfl) (hk φ w _ h3 (by simpa using hR) (ExtBy.refl _ _ _))
                  · simp at hop
              · simp at hop
            · simp at hop
          · simp at hlow
        · simp at hlow
      · simp at hlow
    · simp at hlow
  · -- indexAddr
    rename_i t x i heq
    split at hlow
    · rename_i e y j ht hy hj
      simp only [Option.map_eq_some_iff] at hlow
      obtain ⟨s, hs, rfl⟩ := hlow
      simp only [opA] at hop
      split at hop
      · rename_i b l0 c0 k i0 hb hi0
        split at hop
        · rename_i hcond
          simp only [Option.some.injEq, Prod.mk.injEq] at hop
          obtain ⟨rfl, rfl, rfl⟩ := hop
          have h1 := hT.opnd hy
          rw [hb] at h1
          have h2 := hT.opnd hj
          rw [hi0] at h2
          have h2' := h2.int_inv
          obtain ⟨r', h3, h4⟩ := s_idxAddr (P := P) (w := w) ht hs h1 (k := k) hcond.1 hcond.2
          exact hval r' w (by simp only [execOp, heq, h2', Sem.run_bind, h3]; rfl) (hk φ w _ h4 (by simpa using hR) (ExtBy.refl _ _ _))
        · simp at hop
      · simp at hop
    · simp at hlow
  · -- index
    rename_i t x i heq
    split at hlow
    · rename_i y j ht hy hj
      simp only [Option.some.injEq] at hlow; subst hlow
      simp only [opA] at hop
      split at hop
      · rename_i s k i0 hs hi0
        split at hop
        · rename_i b hb
          simp only [Option.some.injEq, Prod.mk.injEq] at hop
          obtain ⟨rfl, rfl, rfl⟩ := hop
          have h1 := hT.opnd hy
          rw [hs] at h1
          have h1' := h1.string_inv
          have h2 := hT.opnd hj
          rw [hi0] at h2
          have h2' := h2.int_inv
          refine hval _ w ?_ (hk φ w _ (.of_cell (.int _ _)) (by simpa using hR) (ExtBy.refl _ _ _))
          simp only [execOp, heq, h1', h2', Instr.index, asIntOf, Sem.run_bind, Sem.run_pure, Result.andThen_ok, run_underlying ht, hb]
        · simp at hop
      · simp at hop
    · simp at hlow
  · -- extract
    rename_i x i heq
    simp only [Option.map_eq_some_iff] at hlow
    obtain ⟨y, hy, rfl⟩ := hlow
    simp only [opA] at hop
    split at hop
    · rename_i vs hvs
      split at hop
      · rename_i v0 hv0
        simp only [Option.some.injEq, Prod.mk.injEq] at hop
        obtain ⟨rfl, rfl, rfl⟩ := hop
        have h1 := hT.opnd hy
        rw [hvs] at h1
        obtain ⟨v', h2, h3⟩ := s_extract (P := P) (w := w) h1 hv0
        exact hval v' w (by simp only [execOp, heq, Sem.run_bind, h2]; rfl) (hk φ w _ h3 (by simpa using hR) (ExtBy.refl _ _ _))
      · simp at hop
    · simp at hop
  · -- call
    rename_i cl heq
    split at hlow
    · -- a function
      rename_i f hf
      simp only [Option.map_eq_some_iff] at hlow
      obtain ⟨args, hargs, rfl⟩ := hlow
      simp only [opA] at hop
      obtain ⟨hcc, ⟨fn, hfn, hbody, hname⟩, hcall⟩ := hcf _ _ _ _ _ _ _ hop
      have hrel := hcall φ w hR hF _ (hT.list hargs)
      have hrun : (execOp a.eval o).run P w = .ok (.enter f (cl.args.toList.map a.eval).toArray) w := by
        simp only [execOp, heq, Sem.run_bind, resolve, hf, Act.eval, Deferred.ofValue, Sem.run_pure, Result.andThen_ok, invoke, callFunc, run_program, hfn, hname, Bool.false_eq_true, if_false, hbody, Sem.run_ite]
        congr 2
        apply Array.ext'
        simp
      unfold Oper.wp
      rw [hrun]
      refine Calls.mono hrel ?_
      rintro e w' ⟨φ', v', rfl, h1, h2, h3⟩
      exact hk φ' w' v' h1 h2 h3
    · -- len
      rename_i hf
      split at hlow
      · rename_i x hx ht
        simp only [Option.map_eq_some_iff] at hlow
        obtain ⟨z, hz, rfl⟩ := hlow
        simp only [opA] at hop
        split at hop
        · rename_i s hs
          simp only [Option.some.injEq, Prod.mk.injEq] at hop
          obtain ⟨rfl, rfl, rfl⟩ := hop
          have h1 := hT.opnd hz
          rw [hs] at h1
          have h2 := h1.string_inv
          refine hval _ w ?_ (hk φ w _ (.of_cell (.int _ _)) (by simpa using hR) (ExtBy.refl _ _ _))
          simp only [execOp, heq, Sem.run_bind, resolve, hf, Sem.run_pure, Result.andThen_ok, invoke, builtin, map_one _ hx, h2, run_len_s ht]
        · contradiction
        · simp at hop
      · rename_i x e hx ht
        simp only [Option.map_eq_some_iff] at hlow
        obtain ⟨z, hz, rfl⟩ := hlow
        simp only [opA] at hop
        split at hop
        · contradiction
        · rename_i b m k hs
          simp only [Option.some.injEq, Prod.mk.injEq] at hop
          obtain ⟨rfl, rfl, rfl⟩ := hop
          have h1 := hT.opnd hz
          rw [hs] at h1
          refine hval _ w ?_ (hk φ w _ (.of_cell (.int _ _)) (by simpa using hR) (ExtBy.refl _ _ _))
          simp only [execOp, heq, Sem.run_bind, resolve, hf, Sem.run_pure, Result.andThen_ok, invoke, builtin, map_one _ hx, run_len_a ht h1]
        · simp at hop
      · simp at hlow
    · -- append
      rename_i hf
      split at hlow
      · rename_i s x e t1 hsx ht0 ht1
        obtain ⟨t0, ht00, ht0u⟩ := Option.bind_eq_some_iff.mp ht0
        have main : ∀ (z : Nat × List Value) (s' x' : Opnd) (d1 : TypeDesc), zeroT P e = some z → lowOpnd n s = some s' → lowOpnd n x = some x' → P.underlying t1 = some d1 → ((∃ k, d1 = .slice k) ∨ d1 = .string) → 0 < z.1 →
            aop = .append z.1 (P.bytesOf e) z.2 s' x' → o.wp P a w next Q := by
          rintro z s' x' d1 hz hs' hx' hd1 hd1' hz0 rfl
          have hS := hT.opnd hs'
          have hX := hT.opnd hx'
          simp only [opA] at hop
          split at hop
          · rename_i m b l cp hm hsv
            rw [hsv] at hS
            split at hop
            · rename_i hm0
              simp only [Option.some.injEq, Prod.mk.injEq] at hop
              obtain ⟨rfl, rfl, rfl⟩ := hop
              subst hm0
              have h3 := s_append0 (P := P) (w := w) (ty := o.type) ht0u hd1 hd1' hz ht00 ht1 hS hX hm
              refine hval _ w ?_ (hk φ w _ hS (by simpa using hR) (ExtBy.refl _ _ _))
              simp only [execOp, heq, Sem.run_bind, resolve, hf, Sem.run_pure, Result.andThen_ok, invoke, builtin, map_two _ hsx, h3]
            · rename_i hm0
              split at hop
              · rename_i old new kill hold hnew hkill
                split at hop
                · rename_i hcond
                  simp only [Option.some.injEq, Prod.mk.injEq] at hop
                  obtain ⟨rfl, rfl, rfl⟩ := hop
                  have hc := hF c (Nat.le_refl _) (by omega)
                  obtain ⟨w', φ', r', h3, h4, h5, h6⟩ := s_append (P := P) hR hc ht0u hd1 hd1' hz hz0 ht00 ht1 (ty := o.type) hS hX hm hm0 hold hnew hkill hcond.1 hcond.2.1 hcond.2.2.1 hcond.2.2.2.1 hcond.2.2.2.2
                  refine hval r' w' ?_ (hk φ' w' _ h4 (by simpa using h5) h6)
                  simp only [execOp, heq, Sem.run_bind, resolve, hf, Sem.run_pure, Result.andThen_ok, invoke, builtin, map_two _ hsx, h3]
                · simp at hop
              · simp at hop
          · simp at hop
        split at hlow
        · rename_i z s' x' k hz hs' hx' hd
          split at hlow
          · rename_i hz0
            simp only [Option.some.injEq] at hlow
            exact main z s' x' _ hz hs' hx' hd (.inl ⟨_, rfl⟩) hz0 hlow.symm
          · simp at hlow
        · rename_i z s' x' hz hs' hx' hd
          split at hlow
          · rename_i hz0
            simp only [Option.some.injEq] at hlow
            exact main z s' x' _ hz hs' hx' hd (.inr rfl) hz0 hlow.symm
          · simp at hlow
        · simp at hlow
      · simp at hlow
    · -- max
      rename_i hf
      split at hlow
      · rename_i x r hxr
        split at hlow
        · rename_i x' r' hx hr
          simp only [Option.some.injEq] at hlow; subst hlow
          simp only [opA, Option.map_eq_some_iff] at hop
          obtain ⟨r0, hr0, hop⟩ := hop
          simp only [Prod.mk.injEq] at hop
          obtain ⟨rfl, rfl, rfl⟩ := hop
          obtain ⟨r1, h1, h2⟩ := minmax_run (P := P) (w := w) (mx := true) (hT.opnd hx) (hT.list hr) hr0
          refine hval r1 w ?_ (hk φ w _ h2 (by simpa using hR) (ExtBy.refl _ _ _))
          simp only [execOp, heq, Sem.run_bind, resolve, hf, Sem.run_pure, Result.andThen_ok, invoke, builtin, Builtin.max_, Array.toList_map, hxr, List.map_cons]
          simp only [if_true] at h1
          rw [h1]; rfl
        · simp at hlow
      · simp at hlow
    · -- min
      rename_i hf
      split at hlow
      · rename_i x r hxr
        split at hlow
        · rename_i x' r' hx hr
          simp only [Option.some.injEq] at hlow; subst hlow
          simp only [opA, Option.map_eq_some_iff] at hop
          obtain ⟨r0, hr0, hop⟩ := hop
          simp only [Prod.mk.injEq] at hop
          obtain ⟨rfl, rfl, rfl⟩ := hop
          obtain ⟨r1, h1, h2⟩ := minmax_run (P := P) (w := w) (mx := false) (hT.opnd hx) (hT.list hr) hr0
          refine hval r1 w ?_ (hk φ w _ h2 (by simpa using hR) (ExtBy.refl _ _ _))
          simp only [execOp, heq, Sem.run_bind, resolve, hf, Sem.run_pure, Result.andThen_ok, invoke, builtin, Builtin.min_, Array.toList_map, hxr, List.map_cons]
          simp only [Bool.false_eq_true, if_false] at h1
          rw [h1]; rfl
        · simp at hlow
      · simp at hlow
    · simp at hlow
  · simp at hlow

end
end Go.Proofs.Ytfcglkajekohiaa.AM
