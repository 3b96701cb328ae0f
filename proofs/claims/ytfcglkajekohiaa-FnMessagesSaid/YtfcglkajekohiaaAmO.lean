/-
  What the plain machine does, the model does.
-/
import Derived.Test.YtfcglkajekohiaaAmN
import Derived.LoopN
import Derived.Tactics
set_option linter.unusedSimpArgs false
set_option linter.unusedVariables false
namespace Go.Proofs.Ytfcglkajekohiaa.AM
open Go

def exitOf : AExit → Exit
  | .normal => .normal
  | .exit id => .exit id
  | .ret => .ret

/-- The functions of the table are the program's. -/
def TableOk (P : Program) (A : Table) : Prop := ∀ f fd, A.fn f = some fd → lowFn P f = some fd

/-- The plain answers are true. -/
def PrimOk (P : Program) (w0 : World) (A : Table) : Prop :=
  ∀ f args v, A.fn f = none → A.prim f args = some v → (∃ fn, P.funcs[f]? = some fn ∧ fn.body.isNone = false ∧ (fn.name == "runtime.NumGoroutine") = false) ∧
    ∀ φ w, RowKit.Below w0.heap.size w0 w → ∀ args', Each (VR φ) args args' → Calls P f args'.toArray w fun e w' => ∃ v', e = .returned v' ∧ VR φ v v' ∧ RowKit.Below w.heap.size w w'

theorem Rel.below {φ : Inj} {w0 w w' : World} {H : AHeap} (h : Rel φ w0 w H) (hb : RowKit.Below w.heap.size w w') : Rel φ w0 w' H where
  base := h.base.trans (hb.mono h.base.size)
  live i o ho := by
    obtain ⟨e, c, el, fr, h1, h2, h3, h4⟩ := h.live i o ho
    exact ⟨e, c, el, fr, h1, h2, by rw [hb.block _ (h.lt ho h1)]; exact h3, h4⟩
  inj := h.inj

section
variable {P : Program} {w0 : World}

/-- A run of the plain machine is one of the model. -/
def RunOk (P : Program) (w0 : World) (ex : AHeap → AC → St → Res) : Prop :=
  ∀ {n : Nat} {C : Code} {code : AC} {H : AHeap} {s : St} {e : AExit} {s' : St}, lowCode P n C = some code → ex H code s = some (e, s') →
    ∀ {φ : Inj} {w : World} {a : Act} {Q : Exit → Act → World → Prop}, Rel φ w0 w (s.u ++ H) → TR φ n s.ts a.tmps → a.defers = [] → Fresh φ s.c s'.c →
      (∀ φ' a' w', Rel φ' w0 w' (s'.u ++ H) → TR φ' n s'.ts a'.tmps → a'.defers = [] → ExtBy φ φ' s.c s'.c → Q (exitOf e) a' w') → C.wp P Q a w

def LoopOk (P : Program) (w0 : World) (ex : AHeap → AC → St → Res) (m : Nat) : Prop :=
  ∀ {n : Nat} {C : Code} {code : AC} {H : AHeap} {s : St} {e : AExit} {s' : St}, lowCode P n C = some code → ex H (.loop code) s = some (e, s') →
    ∀ {φ : Inj} {w : World} {a : Act} {Q : Exit → Act → World → Prop}, Rel φ w0 w (s.u ++ H) → TR φ n s.ts a.tmps → a.defers = [] → Fresh φ s.c s'.c →
      (∀ φ' a' w', Rel φ' w0 w' (s'.u ++ H) → TR φ' n s'.ts a'.tmps → a'.defers = [] → ExtBy φ φ' s.c s'.c → Q (exitOf e) a' w') → Code.rounds P C Q m a w

theorem code_sound (hmix : P.follows .mixedOrders = true) {cf : CallF} (hcf : CallOk P w0 cf) (hn : CallNice cf) {lf : AHeap → AC → St → Res} (hln : RunNice lf) {m : Nat}
    (hl : ∀ {n : Nat} {C : Code} {code : AC} {H : AHeap} {s : St} {e : AExit} {s' : St}, lowCode P n C = some code → lf H code s = some (e, s') →
      ∀ {φ : Inj} {w : World} {a : Act} {Q : Exit → Act → World → Prop}, Rel φ w0 w (s.u ++ H) → TR φ n s.ts a.tmps → a.defers = [] → Fresh φ s.c s'.c →
        (∀ φ' a' w', Rel φ' w0 w' (s'.u ++ H) → TR φ' n s'.ts a'.tmps → a'.defers = [] → ExtBy φ φ' s.c s'.c → Q (exitOf e) a' w') → Code.rounds P C Q m a w) :
    RunOk P w0 (fun H code s => runCode cf (lf H) H code s) := by
  intro n C
  induction C with
  | skip =>
    intro code H s e s' hlow hr φ w a Q hR hT hd hF hK
    simp [lowCode] at hlow; subst hlow
    simp [runCode] at hr; obtain ⟨rfl, rfl⟩ := hr
    exact wp_skip (hK φ a w hR hT hd (ExtBy.refl _ _ _))
  | region id ops d =>
    intro code H s e s' hlow hr φ w a Q hR hT hd hF hK
    simp only [lowCode] at hlow
    split at hlow
    · rename_i al hal
      cases d with
      | false =>
        simp only [Bool.false_eq_true, if_false, Option.some.injEq] at hlow; subst hlow
        simp only [runCode, Option.map_eq_some_iff, Prod.mk.injEq] at hr
        obtain ⟨s1, h1, rfl, rfl⟩ := hr
        exact wp_region_list (ops_sound hcf hn hal h1 hR hT hd hF hK)
      | true =>
        simp only [if_true] at hlow
        split at hlow
        · rename_i hok
          simp only [Option.some.injEq] at hlow; subst hlow
          simp only [runCode, Option.map_eq_some_iff, Prod.mk.injEq] at hr
          obtain ⟨s1, h1, rfl, rfl⟩ := hr
          refine wp_region_any hmix ?_
          refine draw_sound hcf hn (drawOk_facts hal (by simp) hok) h1 rfl (φ0 := φ) hR.drew hT hd hF ?_
          intro φ' a' w' h2 h3 h4 h5
          exact hK φ' a' w' (by simpa using h2) h3 h4 h5
        · simp at hlow
    · simp at hlow
  | seq x y ihx ihy =>
    intro code H s e s' hlow hr φ w a Q hR hT hd hF hK
    simp only [lowCode] at hlow
    split at hlow
    · rename_i cx cy hx hy
      simp at hlow; subst hlow
      simp only [runCode] at hr
      refine wp_seq ?_
      split at hr
      · rename_i s1 h1
        have g1 := (runCode_nice hn hln).went h1
        have g2 := (runCode_nice hn hln).went hr
        refine ihx hx h1 hR hT hd (hF.before g2.1) ?_
        intro φ' a' w' a1 a2 a3 a4
        show y.wp P Q a' w'
        refine ihy hy hr a1 a2 a3 (hF.after a4 g1.1) ?_
        intro φ2 a2' w2 b1 b2 b3 b4
        exact hK φ2 a2' w2 b1 b2 b3 (a4.trans b4 g1.1 g2.1)
      · rename_i hne
        refine ihx hx hr hR hT hd hF ?_
        intro φ' a' w' a1 a2 a3 a4
        have := hK φ' a' w' a1 a2 a3 a4
        cases e with
        | normal => exact absurd hr (hne s')
        | exit id => exact this
        | ret => exact this
    · simp at hlow
  | cond c x y ihx ihy =>
    intro code H s e s' hlow hr φ w a Q hR hT hd hF hK
    simp only [lowCode] at hlow
    split at hlow
    · rename_i cc cx cy hc hx hy
      simp at hlow; subst hlow
      simp only [runCode] at hr
      split at hr
      · rename_i t ht
        have hv := hT.opnd hc
        rw [ht] at hv
        have hv' := hv.bool_inv
        refine wp_cond hv' ?_
        split at hr
        · rename_i h1; rw [if_pos h1]; exact ihx hx hr hR hT hd hF hK
        · rename_i h1; rw [if_neg h1]; exact ihy hy hr hR hT hd hF hK
      · simp at hr
    · simp at hlow
  | block id x ihx =>
    intro code H s e s' hlow hr φ w a Q hR hT hd hF hK
    simp only [lowCode, Option.map_eq_some_iff] at hlow
    obtain ⟨cx, hx, rfl⟩ := hlow
    simp only [runCode] at hr
    refine wp_block ?_
    split at hr
    · rename_i id' s1 h1
      split at hr
      · rename_i hid
        simp only [Option.some.injEq, Prod.mk.injEq] at hr
        obtain ⟨rfl, rfl⟩ := hr
        refine ihx hx h1 hR hT hd hF ?_
        intro φ' a' w' a1 a2 a3 a4
        have := hK φ' a' w' a1 a2 a3 a4
        simp only [exitOf, Exit.inBlock, hid, if_true]
        exact this
      · rename_i hid
        simp only [Option.some.injEq, Prod.mk.injEq] at hr
        obtain ⟨rfl, rfl⟩ := hr
        refine ihx hx h1 hR hT hd hF ?_
        intro φ' a' w' a1 a2 a3 a4
        have := hK φ' a' w' a1 a2 a3 a4
        simp only [exitOf, Exit.inBlock, if_neg hid]
        exact this
    · rename_i hne
      refine ihx hx hr hR hT hd hF ?_
      intro φ' a' w' a1 a2 a3 a4
      have := hK φ' a' w' a1 a2 a3 a4
      cases e with
      | normal => exact this
      | exit id' => exact absurd hr (hne id' s')
      | ret => exact this
  | loop x ihx =>
    intro code H s e s' hlow hr φ w a Q hR hT hd hF hK
    simp only [lowCode, Option.map_eq_some_iff] at hlow
    obtain ⟨cx, hx, rfl⟩ := hlow
    simp only [runCode] at hr
    exact wp_loop_rounds m (hl hx hr hR hT hd hF hK)
  | exit id =>
    intro code H s e s' hlow hr φ w a Q hR hT hd hF hK
    simp [lowCode] at hlow; subst hlow
    simp [runCode] at hr; obtain ⟨rfl, rfl⟩ := hr
    exact wp_exit (hK φ a w hR hT hd (ExtBy.refl _ _ _))
  | ret =>
    intro code H s e s' hlow hr φ w a Q hR hT hd hF hK
    simp [lowCode] at hlow; subst hlow
    simp [runCode] at hr; obtain ⟨rfl, rfl⟩ := hr
    exact wp_ret (hK φ a w hR hT hd (ExtBy.refl _ _ _))
  | _ => intro code H s e s' hlow; simp [lowCode] at hlow

/-! ### results -/

theorem result_sound {n : Nat} {φ : Inj} {w : World} {H : AHeap} (hR : Rel φ w0 w H) {ts : TS} {t : Array Value} (hT : TR φ n ts t) {rv : ResultVar} {r : RV} (hl : lowRV P n rv = some r) {v : Value} (hv : resultA H ts r = some v) :
    ∃ v', (match rv with
      | .tmp x => (pure (t.getD x undef) : Sem Value)
      | .cell a ty => do loadVar ty (← asAddr (t.getD a undef))).run P w = .ok v' w ∧ AR φ v v' := by
  cases rv with
  | tmp x =>
    simp only [lowRV] at hl
    split at hl
    · rename_i hx
      simp at hl; subst hl
      simp only [resultA] at hv
      split at hv
      · rename_i hc
        simp at hv; subst hv
        exact ⟨_, rfl, (hT.2 x hx).ar hc⟩
      · simp at hv
    · simp at hl
  | cell a ty =>
    simp only [lowRV] at hl
    split at hl
    · rename_i g s hg hs
      split at hl
      · rename_i hc
        simp at hl; subst hl
        simp only [resultA] at hv
        split at hv
        · rename_i v1 d c hop
          simp at hv; subst hv
          simp only [opA] at hop
          split at hop
          · rename_i p hp
            split at hop
            · rename_i o ho
              split at hop
              · rename_i hcond
                have h1 := hT.2 a hc.1
                have hp' : ts a = .pointer (some p) := hp
                rw [hp'] at h1
                have hld : ∀ {v1 : Value}, (if g then some (.agg ((o.cells.drop p.off).take s).toArray) else o.cells[p.off]?) = some v1 → ∃ v', (do loadVar ty (← asAddr (t.getD a undef)) : Sem Value).run P w = .ok v' w ∧ VR φ v1 v' := by
                  intro v1 hv1
                  obtain ⟨v', h2, h3⟩ := s_load (P := P) hR hg hs hc.2 ho hcond.1 hcond.2 h1 hv1
                  refine ⟨v', ?_, h3⟩
                  obtain ⟨ex, _, _, h4⟩ := h1.ptr_inv
                  rw [h4] at h2 ⊢
                  simpa [Instr.loadAt, Instr.sureAddr, asAddr] using h2
                cases g with
                | true =>
                  simp only [if_true, Option.some.injEq, Prod.mk.injEq] at hop
                  obtain ⟨rfl, _, _⟩ := hop
                  obtain ⟨v', h2, h3⟩ := hld (by simp only [if_true]; rfl)
                  refine ⟨v', h2, ?_⟩
                  cases h3 with
                  | one h => exact h
                | false =>
                  simp only [Bool.false_eq_true, if_false] at hop
                  split at hop
                  · rename_i v0 hv0
                    simp only [Option.some.injEq, Prod.mk.injEq] at hop
                    obtain ⟨rfl, _, _⟩ := hop
                    obtain ⟨v', h2, h3⟩ := hld (by simp only [Bool.false_eq_true, if_false]; exact hv0)
                    refine ⟨v', h2, ?_⟩
                    obtain ⟨e, c1, el, fr, g1, g2, g3, g4, g5, g6, g7⟩ := hR.live _ _ ho
                    obtain ⟨y, _, hy⟩ := g7 _ _ hv0
                    cases h3 with
                    | one h => exact h
                    | tuple => cases hy
                  · simp at hop
              · simp at hop
            · simp at hop
          · simp at hop
        · simp at hv
      · simp at hl
    · simp at hl

theorem results_sound {n : Nat} {φ : Inj} {w : World} {H : AHeap} (hR : Rel φ w0 w H) {ts : TS} {t : Array Value} (hT : TR φ n ts t) : ∀ {rvs : List ResultVar} {rs : List RV} {vs : List Value}, lowRVs P n rvs = some rs → resultsA H ts rs = some vs →
    ∃ vs', (rvs.mapM fun (rv : ResultVar) => match rv with
      | .tmp x => (pure (t.getD x undef) : Sem Value)
      | .cell a ty => do loadVar ty (← asAddr (t.getD a undef))).run P w = .ok vs' w ∧ Each (AR φ) vs vs' := by
  intro rvs
  induction rvs with
  | nil =>
    intro rs vs hl hv
    simp [lowRVs] at hl; subst hl
    simp [resultsA] at hv; subst hv
    exact ⟨[], by simp, Each.nil⟩
  | cons rv rvs ih =>
    intro rs vs hl hv
    simp only [lowRVs] at hl
    split at hl
    · rename_i r rs' hr hrs
      simp at hl; subst hl
      simp only [resultsA] at hv
      split at hv
      · rename_i v vs1 h1 h2
        simp at hv; subst hv
        obtain ⟨v', g1, g2⟩ := result_sound (P := P) hR hT hr h1
        obtain ⟨vs', g3, g4⟩ := ih hrs h2
        refine ⟨v' :: vs', ?_, Each.cons g2 g4⟩
        rw [List.mapM_cons, Sem.run_bind, g1]
        simp only [Result.andThen_ok, Sem.run_bind]
        rw [g3]
        simp
      · simp at hv
    · simp at hl

theorem fn_results {n : Nat} {φ : Inj} {w : World} {H : AHeap} (hR : Rel φ w0 w H) {ts : TS} {t : Array Value} (hT : TR φ n ts t) {fn : Func} {rs : List RV} {vs : List Value} (hl : lowRVs P n fn.results.toList = some rs) (hv : resultsA H ts rs = some vs) :
    ∃ v', (results fn t).run P w = .ok v' w ∧ VR φ (oneOf vs) v' := by
  obtain ⟨vs', h1, h2⟩ := results_sound (P := P) hR hT hl hv
  have hm : (fn.results.mapM fun (rv : ResultVar) => match rv with
      | .tmp x => (pure (t.getD x undef) : Sem Value)
      | .cell a ty => do loadVar ty (← asAddr (t.getD a undef))).run P w = .ok vs'.toArray w := by
    rw [Array.mapM_eq_mapM_toList, Sem.run_map, h1]; rfl
  refine ⟨if h : vs'.toArray.size = 1 then vs'.toArray[0] else .tuple vs'.toArray, ?_, ?_⟩
  · unfold results
    rw [Sem.run_bind]
    exact (congrArg (fun r => Result.andThen r _) hm).trans rfl
  · cases vs with
    | nil =>
      have := h2.nil_left; subst this
      exact .tuple _ _ Each.nil
    | cons v vs =>
      obtain ⟨v', r, rfl, h3, h4⟩ := h2.cons_left
      cases vs with
      | nil =>
        have := h4.nil_left; subst this
        simp only [oneOf]
        rw [dif_pos (by simp)]
        exact .one h3
      | cons u us =>
        obtain ⟨u', r', rfl, h5, h6⟩ := h4.cons_left
        simp only [oneOf]
        rw [dif_neg (by simp)]
        exact .tuple _ _ (by simpa using h2)

theorem init_TR {φ : Inj} {n : Nat} {args args' : List Value} (h : Each (VR φ) args args') (hn : args.length ≤ n) : TR φ n (initTS args) (args'.toArray ++ Array.replicate (n - args'.toArray.size) undef) := by
  have hl := h.1
  refine ⟨by simp; omega, fun j hj => ?_⟩
  unfold initTS
  rw [Array.getD_eq_getD_getElem?]
  by_cases h1 : j < args.length
  · rw [Array.getElem?_append_left (by simp; omega)]
    obtain ⟨b, hb, hab⟩ := h.get (List.getElem?_eq_getElem h1)
    have e1 : args.getD j undefA = args[j] := by simp [List.getD, List.getElem?_eq_getElem h1]
    have e2 : args'.toArray[j]? = some b := by simpa using hb
    rw [e1, e2]; exact hab
  · rw [Array.getElem?_append_right (by simp; omega)]
    have e1 : args.getD j undefA = undefA := by simp [List.getD, List.getElem?_eq_none (by omega : args.length ≤ j)]
    rw [e1, Array.getElem?_replicate]
    split <;> exact undef_VR

theorem call_sound {A : Table} (hA : TableOk P A) (hP : PrimOk P w0 A) {ex : AHeap → AC → St → Res} (hx : RunOk P w0 ex) (hxn : RunNice ex) : CallOk P w0 (callWith A ex) := by
  intro f args H c v d c' h
  refine ⟨(callWith_nice A hxn).le h, ?_⟩
  unfold callWith at h
  split at h
  · rename_i fd hfd
    have hlow := hA f fd hfd
    unfold lowFn at hlow
    split at hlow
    · rename_i fn hfn
      split at hlow
      · rename_i code hcode
        split at hlow
        · simp at hlow
        · rename_i hname
          split at hlow
          · rename_i ac rs hac hrs
            simp at hlow; subst hlow
            refine ⟨⟨fn, hfn, by rw [hcode]; rfl, by simpa using hname⟩, ?_⟩
            intro φ w hR hF args' hargs
            split at h
            · rename_i hlen
              split at h
              · rename_i e s hs
                split at h
                · rename_i he
                  split at h
                  · rename_i vs hvs
                    simp only [Option.some.injEq, Prod.mk.injEq] at h
                    obtain ⟨rfl, rfl, rfl⟩ := h
                    refine calls_of_wp hfn hcode ?_
                    refine hx hac hs (by simpa using hR) (init_TR hargs hlen) rfl hF ?_
                    intro φ' a' w' h1 h2 h3 h4
                    obtain ⟨v', g1, g2⟩ := fn_results (P := P) h1 h2 hrs hvs
                    rcases he with rfl | rfl
                    · exact ⟨h3, v', g1, φ', v', rfl, g2, h1, h4⟩
                    · exact ⟨h3, v', g1, φ', v', rfl, g2, h1, h4⟩
                  · simp at h
                · simp at h
              · simp at h
            · simp at h
          · simp at hlow
      · simp at hlow
    · simp at hlow
  · rename_i hnone
    split at h
    · rename_i v0 hv0
      simp only [Option.some.injEq, Prod.mk.injEq] at h
      obtain ⟨rfl, rfl, rfl⟩ := h
      obtain ⟨h1, h2⟩ := hP f args v0 hnone hv0
      refine ⟨h1, ?_⟩
      intro φ w hR hF args' hargs
      refine Calls.mono (h2 φ w hR.base args' hargs) ?_
      rintro e w' ⟨v', rfl, h3, h4⟩
      exact ⟨φ, v', rfl, h3, by simpa using hR.below h4, ExtBy.refl _ _ _⟩
    · simp at h

theorem exec_sound (hmix : P.follows .mixedOrders = true) {A : Table} (hA : TableOk P A) (hP : PrimOk P w0 A) : ∀ m, RunOk P w0 (exec A m) ∧ LoopOk P w0 (exec A m) m := by
  intro m
  induction m with
  | zero =>
    constructor
    · intro n C code H s e s' _ hr; simp [exec] at hr
    · intro n C code H s e s' _ hr; simp [exec] at hr
  | succ m ih =>
    have hcall := call_sound hA hP ih.1 (exec_nice A m)
    have hcn := callWith_nice A (exec_nice A m)
    obtain ⟨lf, hlf⟩ : ∃ lf : AHeap → AC → St → Res, lf = fun H body s => match exec A m H body s with
        | some (.normal, s') => exec A m H (.loop body) s'
        | r => r := ⟨_, rfl⟩
    have hln : RunNice lf := by
      subst hlf
      constructor
      · intro H code s e s' h
        split at h
        · rename_i s1 h1; exact ((exec_nice A m).went h1).trans ((exec_nice A m).went h)
        · exact (exec_nice A m).went h
      · intro H K code s r hs h
        split at h
        · rename_i s1 h1; rw [(exec_nice A m).mono hs h1]; exact (exec_nice A m).mono hs h
        · rename_i h1
          rw [(exec_nice A m).mono hs h]
          split
          · rename_i s1 h2; exact absurd (h.trans h2) (h1 s1)
          · rfl
    have hl : ∀ {n : Nat} {C : Code} {code : AC} {H : AHeap} {s : St} {e : AExit} {s' : St}, lowCode P n C = some code → lf H code s = some (e, s') →
      ∀ {φ : Inj} {w : World} {a : Act} {Q : Exit → Act → World → Prop}, Rel φ w0 w (s.u ++ H) → TR φ n s.ts a.tmps → a.defers = [] → Fresh φ s.c s'.c →
        (∀ φ' a' w', Rel φ' w0 w' (s'.u ++ H) → TR φ' n s'.ts a'.tmps → a'.defers = [] → ExtBy φ φ' s.c s'.c → Q (exitOf e) a' w') → Code.rounds P C Q (m + 1) a w := by
      intro n C code H s e s' hlow hr φ w a Q hR hT hd hF hK
      rw [rounds_succ]
      subst hlf
      dsimp only at hr
      split at hr
      · rename_i s1 h1
        have g1 := (exec_nice A m).went h1
        have g2 := (exec_nice A m).went hr
        refine ih.1 hlow h1 hR hT hd (hF.before g2.1) ?_
        intro φ' a' w' a1 a2 a3 a4
        show Code.rounds P C Q m a' w'
        refine ih.2 hlow hr a1 a2 a3 (hF.after a4 g1.1) ?_
        intro φ2 a2' w2 b1 b2 b3 b4
        exact hK φ2 a2' w2 b1 b2 b3 (a4.trans b4 g1.1 g2.1)
      · rename_i hne
        refine ih.1 hlow hr hR hT hd hF ?_
        intro φ' a' w' a1 a2 a3 a4
        have := hK φ' a' w' a1 a2 a3 a4
        cases e with
        | normal => exact absurd hr (hne s')
        | exit id => exact this
        | ret => exact this
    have hrun : RunOk P w0 (exec A (m + 1)) := by
      intro n C code H s e s' hlow hr φ w a Q hR hT hd hF hK
      exact code_sound hmix hcall hcn hln hl hlow (by subst hlf; exact hr) hR hT hd hF hK
    refine ⟨hrun, ?_⟩
    intro n C code H s e s' hlow hr φ w a Q hR hT hd hF hK
    have hr' : lf H code s = some (e, s') := by subst hlf; exact hr
    exact hl hlow hr' hR hT hd hF hK

/-- WHAT THE PLAIN MACHINE DOES, THE MODEL DOES: whatever the tape. -/
theorem callA_sound (hmix : P.follows .mixedOrders = true) {A : Table} (hA : TableOk P A) (hP : PrimOk P w0 A) (m : Nat) : CallOk P w0 (callA A m) :=
  call_sound hA hP (exec_sound hmix hA hP m).1 (exec_nice A m)

end
end Go.Proofs.Ytfcglkajekohiaa.AM
