/-
  Regions of the plain machine are the model's.
-/
import Derived.Test.YtfcglkajekohiaaAmM
set_option linter.unusedSimpArgs false
set_option linter.unusedVariables false
namespace Go.Proofs.Ytfcglkajekohiaa.AM
open Go

theorem VR.bool_of {φ : Inj} {v : Value} {b : Bool} (h : VR φ v (.bool b)) : v = .bool b := by
  cases h with
  | one h => cases h with | cell h => cases h; rfl

section
variable {P : Program} {n : Nat} {ops : Array Oper} {φ : Inj}

theorem getD_some {t : Array Value} {j : Nat} (h : j < t.size) : t[j]? = some (t.getD j undef) := by
  rw [Array.getElem?_eq_getElem h, Array.getD_eq_getD_getElem?, Array.getElem?_eq_getElem h]; rfl

theorem wanted_eq {o : Oper} {ao : AOper} (hlow : lowOper P n ops o = some ao) {ts : TS} {a : Act} (hT : TR φ n ts a.tmps) : Region.wanted o (yielded ops a.tmps) = wanted ao ts := by
  unfold lowOper at hlow
  split at hlow
  · split at hlow
    · split at hlow
      · rename_i hg
        simp only [Option.some.injEq] at hlow; subst hlow
        simp [Region.wanted, hg, wanted]
      · rename_i j b hg
        split at hlow
        · rename_i t ht
          split at hlow
          · rename_i htn
            simp only [Option.some.injEq] at hlow; subst hlow
            simp only [Region.wanted, hg, wanted, yielded, ht, Option.bind_some]
            rw [getD_some (by rw [hT.1]; exact htn)]
            have hv := hT.2 t htn
            generalize a.tmps.getD t undef = x at hv
            cases hts : ts t with
            | bool r =>
              rw [hts] at hv
              have := hv.bool_inv; subst this
              simp
            | _ =>
              simp only
              have hx : ∀ r, x ≠ .bool r := by
                rintro r rfl
                have := hv.bool_of
                rw [hts] at this; cases this
              cases x <;> first | rfl | exact absurd rfl (hx _)
          · simp at hlow
        · simp at hlow
    · simp at hlow
  · simp at hlow

theorem lowOper_op {o : Oper} {ao : AOper} (hlow : lowOper P n ops o = some ao) : lowOp P n o.op = some ao.op ∧ ao.dst = o.dst ∧ ∀ t, o.dst = some t → t < n := by
  unfold lowOper at hlow
  split at hlow
  · rename_i op hop
    split at hlow
    · rename_i hd
      have hd' : ∀ t, o.dst = some t → t < n := by
        intro t ht
        rw [ht] at hd; simpa [dstOk] using hd
      split at hlow
      · simp only [Option.some.injEq] at hlow; subst hlow; exact ⟨hop, rfl, hd'⟩
      · split at hlow
        · split at hlow
          · simp only [Option.some.injEq] at hlow; subst hlow; exact ⟨hop, rfl, hd'⟩
          · simp at hlow
        · simp at hlow
    · simp at hlow
  · simp at hlow

theorem TR.put {ts : TS} {a : Act} (hT : TR φ n ts a.tmps) {d : Option Nat} (hd : ∀ t, d = some t → t < n) {v v' : Value} (hv : VR φ v v') : TR φ n (ts.put d v) (a.put d v').tmps := by
  cases d with
  | none => exact hT
  | some d =>
    have hdn := hd d rfl
    refine ⟨by simp [Act.put, hT.1], fun j hj => ?_⟩
    simp only [Act.put, TS.put, TS.set, Array.getD_eq_getD_getElem?]
    by_cases h : j = d
    · subst h
      rw [if_pos rfl]
      simp [hT.1, hdn, hv]
    · rw [if_neg h]
      rw [Array.getElem?_setIfInBounds_ne (fun e => h e.symm)]
      have := hT.2 j hj
      rwa [Array.getD_eq_getD_getElem?] at this

theorem put_defers (a : Act) (d : Option Nat) (v : Value) : (a.put d v).defers = a.defers := by
  cases d <;> rfl

theorem undef_VR : VR φ undefA undef := .tuple _ _ Each.nil
end

section
variable {P : Program} {w0 : World} {cf : CallF} {n : Nat} {ops : Array Oper}

/-- A region whose order is the text's. -/
theorem ops_sound (hcf : CallOk P w0 cf) (hn : CallNice cf) {H : AHeap} {Q : Exit → Act → World → Prop} : ∀ {l : List Oper} {al : List AOper} {s s' : St} {φ : Inj} {w : World} {a : Act}, lowOpers P n ops l = some al → opsA cf H al s = some s' →
    Rel φ w0 w (s.u ++ H) → TR φ n s.ts a.tmps → a.defers = [] → Fresh φ s.c s'.c →
    (∀ φ' a' w', Rel φ' w0 w' (s'.u ++ H) → TR φ' n s'.ts a'.tmps → a'.defers = [] → ExtBy φ φ' s.c s'.c → Q .normal a' w') → wpList P ops Q l a w := by
  intro l
  induction l with
  | nil =>
    intro al s s' φ w a hl hr hR hT hd hF hK
    simp [lowOpers] at hl; subst hl
    simp [opsA] at hr; subst hr
    exact hK φ a w hR hT hd (ExtBy.refl _ _ _)
  | cons o l ih =>
    intro al s s' φ w a hl hr hR hT hd hF hK
    simp only [lowOpers] at hl
    split at hl
    · rename_i ao al' hao hal'
      simp at hl; subst hl
      simp only [opsA] at hr
      split at hr
      · simp at hr
      · rename_i s1 hs1
        obtain ⟨hop, hdst, hdn⟩ := lowOper_op hao
        have hw := wanted_eq hao hT
        have hwent := opsA_nice hn hr
        have hstep := stepA_nice hn hs1
        unfold stepA at hs1
        simp only [wpList]
        rw [hw]
        split at hs1
        · rename_i hwf
          simp only [Option.some.injEq] at hs1; subst hs1
          rw [if_neg (by rw [hwf]; simp)]
          refine ih hal' hr hR ?_ (by rw [put_defers]; exact hd) hF hK
          rw [hdst]; exact hT.put hdn undef_VR
        · rename_i hwt
          rw [if_pos hwt]
          split at hs1
          · simp at hs1
          · rename_i v d c' hopA
            simp only [Option.some.injEq] at hs1; subst hs1
            left
            have hcc : s.c ≤ c' := hstep.1
            have hcc' : c' ≤ s'.c := hwent.1
            refine op_sound hcf hop hopA hR hT (hF.before hcc') ?_
            intro φ' w' v' hv hR' hE
            refine ih hal' hr (by simpa using hR') ?_ (by rw [put_defers]; exact hd) (hF.after hE hcc) ?_
            · rw [hdst]; exact (hT.mono hE.1).put hdn hv
            · intro φ2 a2 w2 h1 h2 h3 h4
              exact hK φ2 a2 w2 h1 h2 h3 (hE.trans h4 hcc hcc')
    · simp at hl

theorem cleF {N : Nat} {C : Nat → Nat} (h : ∀ k, k < N → C k ≤ C (k + 1)) : ∀ {i j : Nat}, i ≤ j → j ≤ N → C i ≤ C j := by
  intro i j hij
  induction j with
  | zero => intro _; rw [Nat.le_zero.mp hij]; exact Nat.le_refl _
  | succ j ih =>
    intro hj
    by_cases e : i = j + 1
    · rw [e]; exact Nat.le_refl _
    · exact Nat.le_trans (ih (by omega) (by omega)) (h j (by omega))

theorem own_unique {N : Nat} {C : Nat → Nat} (h : ∀ k, k < N → C k ≤ C (k + 1)) {k m i : Nat} (hk : k < N) (hm : m < N) (h1 : C k ≤ i) (h2 : i < C (k + 1)) (h3 : C m ≤ i) (h4 : i < C (m + 1)) : k = m := by
  rcases Nat.lt_trichotomy k m with hl | hl | hl
  · have := cleF h (show k + 1 ≤ m by omega) (by omega); omega
  · exact hl
  · have := cleF h (show m + 1 ≤ k by omega) (by omega); omega

theorem apart_spec {a b : Did} (h : apart a b = true) {k : Nat} (hk : k ∈ keys a.d) : (a.lo ≤ k ∧ k < a.hi) ∨ ∃ l, b.r = some l ∧ k ∉ l := by
  unfold apart at h
  have h1 := List.all_eq_true.mp h k hk
  simp only [Bool.or_eq_true, Bool.and_eq_true, decide_eq_true_eq] at h1
  rcases h1 with h1 | h1
  · exact .inl h1
  · split at h1
    · simp at h1
    · rename_i l hl; exact .inr ⟨l, hl, by simpa using h1⟩

theorem wanted_congr {o : AOper} {ts ts' : TS} (h : ∀ t ∈ operTmps o, ts t = ts' t) : wanted o ts = wanted o ts' := by
  unfold wanted
  split
  · rfl
  · rename_i t b hg
    rw [h t (by simp [operTmps, hg])]

/-- A region whose order is drawn. -/
theorem draw_sound (hcf : CallOk P w0 cf) (hn : CallNice cf) {l : List (AOper × List Nat)} (F : DrawFacts P n ops l) {H : AHeap} {s s' : St} (hrun : drawA cf H l s [] = some s') (hu : s.u = [])
    {φ0 : Inj} {w : World} {a : Act} (hR : Rel φ0 w0 w H) (hT : TR φ0 n s.ts a.tmps) (hdef : a.defers = []) (hF : Fresh φ0 s.c s'.c) {Q : Exit → Act → World → Prop}
    (hK : ∀ φ' a' w', Rel φ' w0 w' (s'.u ++ H) → TR φ' n s'.ts a'.tmps → a'.defers = [] → ExtBy φ0 φ' s.c s'.c → Q .normal a' w') :
    wpAny P .any ops Q ops.size (Array.replicate ops.size false) a w := by
  obtain ⟨S, E, V, hS0, hSN, hstep⟩ := draw_states hrun
  obtain ⟨N, hN⟩ : ∃ N, N = l.length := ⟨_, rfl⟩
  rw [← hN] at hSN
  obtain ⟨C, hC⟩ : ∃ C : Nat → Nat, C = fun k => (S k).c := ⟨_, rfl⟩
  obtain ⟨dst, hdst⟩ : ∃ dst : Nat → Option Nat, dst = fun k => match l[k]? with | some (o, _) => o.dst | none => none := ⟨_, rfl⟩
  obtain ⟨ps, hps⟩ : ∃ ps : Nat → List Nat, ps = fun k => match l[k]? with | some (_, p) => p | none => [] := ⟨_, rfl⟩
  have hget : ∀ k, k < N → ∃ ao, l[k]? = some (ao, ps k) ∧ dst k = ao.dst := by
    intro k hk
    have h1 : k < l.length := by omega
    refine ⟨l[k].1, ?_, ?_⟩
    · rw [List.getElem?_eq_getElem h1, hps]; simp [List.getElem?_eq_getElem h1]
    · rw [hdst]; simp [List.getElem?_eq_getElem h1]
  have hpslt : ∀ k, k < N → ∀ p ∈ ps k, p < k := by
    intro k hk p hp
    obtain ⟨ao, h1, _⟩ := hget k hk
    exact F.lt k ao _ h1 p hp
  have hclosed : ∀ k, k < N → ∀ p ∈ ps k, ∀ q ∈ ps p, q ∈ ps k := by
    intro k hk p hp q hq
    obtain ⟨ao, h1, _⟩ := hget k hk
    obtain ⟨bo, h2, _⟩ := hget p (by have := hpslt k hk p hp; omega)
    exact F.closed k ao _ h1 p hp bo _ h2 q hq
  have hdrop : ∀ k, k < N → ∃ ao, l[k]? = some (ao, ps k) ∧ drawStep cf H ao (ps k) (S k) ((List.range k).map E) = some (V k, E k, C (k + 1)) ∧ S (k + 1) = ⟨(S k).ts.put (dst k) (V k), (E k).d ++ (S k).u, C (k + 1)⟩ := by
    intro k hk
    obtain ⟨ao, h1, h2⟩ := hget k hk
    obtain ⟨h3, h4⟩ := hstep k ao _ h1
    refine ⟨ao, h1, ?_, ?_⟩
    · rw [hC]; simpa using h3
    · rw [h2, hC]; exact h4
  -- numbers
  have hCstep : ∀ k, k < N → C k ≤ C (k + 1) ∧ (E k).lo = C k ∧ (E k).hi = C (k + 1) := by
    intro k hk
    obtain ⟨ao, _, h2, _⟩ := hdrop k hk
    obtain ⟨g1, g2, g3, _⟩ := drawStep_nice hn h2
    rw [hC] at *
    exact ⟨g1, g2, g3⟩
  have hCm : ∀ k, k < N → C k ≤ C (k + 1) := fun k hk => (hCstep k hk).1
  have hC0 : C 0 = s.c := by rw [hC]; simp [hS0]
  have hCN : C N = s'.c := by rw [hC]; simp [hSN]
  -- the heap of what must be ahead
  have hHk : ∀ k, k < N → predDeltas ((List.range k).map E) (ps k) ++ H = SF H E (fun i => (ps k).contains i) N := by
    intro k hk
    obtain ⟨ao, h1, _⟩ := hget k hk
    have h2 := F.falls k ao _ h1
    rw [← hN] at h2
    have h3 := predDeltas_SF (H := H) (E := E) (f := fun i => (ps k).contains i) (j := k) (N := N) (fun i _ hi => hpslt k hk i (by simpa using hi))
    rw [← h3]
    congr 2
  have hkeys : ∀ k, k < N → ∀ i ∈ keys (E k).d, (C k ≤ i ∧ i < C (k + 1)) ∨ ((∃ o, get (SF H E (fun i => (ps k).contains i) N) i = some o) ∧ Looks (E k).r i) := by
    intro k hk i hi
    obtain ⟨ao, _, h2, _⟩ := hdrop k hk
    obtain ⟨_, _, _, g4⟩ := drawStep_nice hn h2
    rcases g4 i hi with h | h
    · left; rw [hC] at *; exact h
    · right; rw [← hHk k hk]; exact h
  have hapart : ∀ j, j < N → ∀ i, i < j → i ∉ ps j → apart (E j) (E i) = true ∧ apart (E i) (E j) = true := by
    intro j hj i hi hip
    obtain ⟨ao, _, h2, _⟩ := hdrop j hj
    unfold drawStep at h2
    split at h2
    · simp only [Option.some.injEq, Prod.mk.injEq] at h2
      obtain ⟨_, h3, _⟩ := h2
      rw [← h3]
      refine ⟨by simp [apart, keys], ?_⟩
      simp [apart]
    · split at h2
      · simp at h2
      · split at h2
        · rename_i hall
          simp only [Option.some.injEq, Prod.mk.injEq] at h2
          obtain ⟨_, h3, _⟩ := h2
          have h4 := List.all_eq_true.mp hall i (others_mem.mpr ⟨by simpa using hi, hip⟩)
          rw [List.getElem?_map, List.getElem?_range hi] at h4
          simp only [Option.map_some, Bool.and_eq_true] at h4
          rw [← h3]; exact h4
        · simp at h2
  have hbase : ∀ i, C 0 ≤ i → i < C N → get H i = none := by
    intro i h1 h2
    cases hg : get H i with
    | none => rfl
    | some o =>
      obtain ⟨e, _, _, _, he, _⟩ := hR.live i o hg
      rw [hF i (by omega) (by omega)] at he; simp at he
  -- what an operation made itself is not there for those that need not come behind it
  have hown : ∀ j, j < N → ∀ k, k < N → k ∉ ps j → ∀ i, C k ≤ i → i < C (k + 1) → get (SF H E (fun i => (ps j).contains i) N) i = none := by
    intro j
    induction j using Nat.strongRecOn with
    | _ j ih =>
      intro hj k hk hkj i h1 h2
      rw [SF_none]
      · have a1 := cleF hCm (Nat.zero_le k) (by omega)
        have a2 := cleF hCm (show k + 1 ≤ N by omega) (Nat.le_refl _)
        exact hbase i (by omega) (by omega)
      · intro m hm hmp hmi
        have hmp' : m ∈ ps j := by simpa using hmp
        have hmj := hpslt j hj m hmp'
        rcases hkeys m hm i hmi with ⟨b1, b2⟩ | ⟨⟨o, ho⟩, _⟩
        · have := own_unique hCm hk hm h1 h2 b1 b2
          subst this; exact hkj hmp'
        · have := ih m hmj hm k hk (fun hkm => hkj (hclosed j hj m hmp' k hkm)) i h1 h2
          rw [this] at ho; simp at ho
  -- the states in the text's order
  have htsAll : ∀ k, k ≤ N → (S k).ts = tsF s.ts dst V (fun _ => true) k := by
    intro k
    induction k with
    | zero => intro _; simp [tsF, hS0]
    | succ k ih =>
      intro hk
      obtain ⟨ao, _, _, h3⟩ := hdrop k (by omega)
      rw [h3]
      simp only [tsF, if_true]
      rw [ih (by omega)]
  have huAll : ∀ k, k ≤ N → (S k).u ++ H = SF H E (fun _ => true) k := by
    intro k
    induction k with
    | zero => intro _; simp [SF, hS0, hu]
    | succ k ih =>
      intro hk
      obtain ⟨ao, _, _, h3⟩ := hdrop k (by omega)
      rw [h3]
      simp only [SF, if_true, List.append_assoc]
      rw [ih (by omega)]
  have hNops : N = ops.size := by rw [hN]; exact F.len
  -- the invariant
  have main : ∀ (fuel : Nat) (listed : Array Bool) (a : Act) (w : World) (φ : Inj), listed.size = N → cnt (fun k => listed.getD k false) N ≤ fuel →
      (∀ k, k < N → listed.getD k false = true → ∀ p ∈ ps k, listed.getD p false = true) →
      Rel φ w0 w (SF H E (fun k => listed.getD k false) N) → TR φ n (tsF s.ts dst V (fun k => listed.getD k false) N) a.tmps → a.defers = [] →
      ExtBy φ0 φ s.c s'.c → (∀ k, k < N → listed.getD k false = false → Fresh φ (C k) (C (k + 1))) → wpAny P .any ops Q fuel listed a w := by
    have hdone : ∀ (listed : Array Bool) (a : Act) (w : World) (φ : Inj), (∀ k, k < N → listed.getD k false = true) →
        Rel φ w0 w (SF H E (fun k => listed.getD k false) N) → TR φ n (tsF s.ts dst V (fun k => listed.getD k false) N) a.tmps → a.defers = [] → ExtBy φ0 φ s.c s'.c → Q .normal a w := by
      intro listed a w φ hall hR hT hd hE
      refine hK φ a w ?_ ?_ hd hE
      · rw [← hSN, huAll N (Nat.le_refl _)]
        rwa [SF_congr (R := fun _ => true) (fun k hk => hall k hk)] at hR
      · rw [← hSN, htsAll N (Nat.le_refl _)]
        rwa [tsF_congr (R := fun _ => true) (fun k hk => hall k hk)] at hT
    intro fuel
    induction fuel with
    | zero =>
      intro listed a w φ hsz hcnt hcl hR hT hd hE hFr
      have hall := cnt_zero (Nat.le_zero.mp hcnt)
      refine ⟨?_, hdone listed a w φ hall hR hT hd hE⟩
      cases hr : Region.ready .any ops listed with
      | nil => rfl
      | cons j rs =>
        have hj : j ∈ Region.ready .any ops listed := by rw [hr]; simp
        obtain ⟨h1, o, ho, _⟩ := mem_ready.mp hj
        have hjN : j < N := by rw [hNops]; exact (Array.getElem?_eq_some_iff.1 ho).1
        have := hall j hjN
        rw [Array.getD_eq_getD_getElem?] at h1 this
        rw [Array.getElem?_eq_getElem (show j < listed.size by omega)] at h1 this
        simp at h1 this; rw [h1] at this; simp at this
    | succ fuel ih =>
      intro listed a w φ hsz hcnt hcl hR hT hd hE hFr
      refine ⟨fun hnil => ?_, fun j hj => ?_⟩
      · -- none is ready: all are done
        refine hdone listed a w φ (fun k hk => ?_) hR hT hd hE
        apply Classical.byContradiction
        intro hnot
        -- the least that is not done is ready
        have hex : ∃ k, k < N ∧ listed.getD k false = false := ⟨k, hk, by simpa using hnot⟩
        have hleast : ∃ k, (k < N ∧ listed.getD k false = false) ∧ ∀ m, m < k → ¬ (m < N ∧ listed.getD m false = false) := by
          obtain ⟨k, hk⟩ := hex
          induction k using Nat.strongRecOn with
          | _ k ihk =>
            by_cases h : ∃ m, m < k ∧ (m < N ∧ listed.getD m false = false)
            · obtain ⟨m, hm, hm2⟩ := h; exact ihk m hm hm2
            · exact ⟨k, hk, fun m hm hm2 => h ⟨m, hm, hm2⟩⟩
        obtain ⟨k, ⟨hkN, hkf⟩, hkl⟩ := hleast
        have hko : k < ops.size := by omega
        have hmem : k ∈ Region.ready .any ops listed := by
          refine mem_ready.mpr ⟨?_, ops[k], Array.getElem?_eq_getElem hko, fun e he hb => ?_⟩
          · rw [Array.getD_eq_getD_getElem?] at hkf ⊢
            rw [Array.getElem?_eq_getElem (show k < listed.size by omega)] at hkf ⊢
            simpa using hkf
          · obtain ⟨ao, h1, _⟩ := hget k hkN
            have h2 := F.edges k _ ao _ (Array.getElem?_eq_getElem hko) h1 e he hb
            have h3 := hpslt k hkN e.on h2
            apply Classical.byContradiction
            intro h4
            exact hkl e.on h3 ⟨by omega, by simpa using h4⟩
        rw [hnil] at hmem; simp at hmem
      · -- one that is ready
        obtain ⟨h1, o, ho, hafter⟩ := mem_ready.mp hj
        have hjo : j < ops.size := (Array.getElem?_eq_some_iff.1 ho).1
        have hjN : j < N := by omega
        have hDj : listed.getD j false = false := by
          rw [Array.getD_eq_getD_getElem?] at h1 ⊢
          rw [Array.getElem?_eq_getElem (show j < listed.size by omega)] at h1 ⊢
          simpa using h1
        obtain ⟨ao, hlj, hdraw, hSj⟩ := hdrop j hjN
        obtain ⟨ao2, ps2, hlj2, hlow⟩ := F.low j o ho
        rw [hlj] at hlj2
        simp only [Option.some.injEq, Prod.mk.injEq] at hlj2
        obtain ⟨rfl, rfl⟩ := hlj2
        have hdj : dst j = ao.dst := by
          obtain ⟨ao3, h3, h4⟩ := hget j hjN
          rw [hlj] at h3; simp only [Option.some.injEq, Prod.mk.injEq] at h3; rw [h4, h3.1]
        -- what must be ahead is done
        have hpsD : ∀ p ∈ ps j, listed.getD p false = true := by
          intro p hp
          obtain ⟨e, he, hb, h3⟩ := F.cover j o ao _ ho hlj p hp
          have he2 := hafter e he hb
          rcases h3 with rfl | ⟨bo, qs, hq, hpq⟩
          · exact he2
          · have heN : e.on < N := by
              have := F.edges j o ao _ ho hlj e he hb
              have := hpslt j hjN e.on this; omega
            refine hcl e.on heN he2 p ?_
            obtain ⟨bo2, h4, _⟩ := hget e.on heN
            rw [hq] at h4; simp only [Option.some.injEq, Prod.mk.injEq] at h4; rw [← h4.2]; exact hpq
        have hnotps : ∀ k, k < N → listed.getD k false = true → j ∉ ps k := by
          intro k hk hkD hjk
          have := hcl k hk hkD j hjk
          rw [hDj] at this; simp at this
        have hkj : ∀ k, listed.getD k false = true → k ≠ j := by
          rintro k hk rfl; rw [hDj] at hk; simp at hk
        -- those that are done and need not be: apart from this one
        have hap : ∀ k, k < N → listed.getD k false = true → k ∉ ps j → apart (E k) (E j) = true ∧ apart (E j) (E k) = true ∧ ∃ bo qs, l[k]? = some (bo, qs) ∧ tmpsApart bo ao = true ∧ tmpsApart ao bo = true := by
          intro k hk hkD hkp
          rcases Nat.lt_or_ge k j with hlt | hge
          · have h3 := hapart j hjN k hlt hkp
            obtain ⟨bo, qs, h4, h5, h6⟩ := F.tmps j ao _ hlj k hlt hkp
            exact ⟨h3.2, h3.1, bo, qs, h4, h6, h5⟩
          · have hne := hkj k hkD
            have hgt : j < k := by omega
            have h3 := hapart k hk j hgt (hnotps k hk hkD)
            obtain ⟨bo, h4, _⟩ := hget k hk
            obtain ⟨co, qs, h5, h6, h7⟩ := F.tmps k bo _ h4 j hgt (hnotps k hk hkD)
            rw [hlj] at h5; simp only [Option.some.injEq, Prod.mk.injEq] at h5
            obtain ⟨rfl, _⟩ := h5
            exact ⟨h3.1, h3.2, bo, _, h4, h6, h7⟩
        have htmp : ∀ k, k < N → listed.getD k false = true → k ∉ ps j → ∀ t, dst k = some t → t ∉ operTmps ao ∧ ao.dst ≠ some t := by
          intro k hk hkD hkp t ht
          obtain ⟨_, _, bo, qs, h4, h5, _⟩ := hap k hk hkD hkp
          obtain ⟨bo2, h6, h7⟩ := hget k hk
          rw [h4] at h6; simp only [Option.some.injEq, Prod.mk.injEq] at h6
          rw [h7, ← h6.1] at ht
          unfold tmpsApart at h5
          rw [ht] at h5
          simp only [Bool.and_eq_true, Bool.not_eq_true', bne_iff_ne, ne_eq] at h5
          refine ⟨?_, h5.2⟩
          intro hm; have := h5.1; simp [hm] at this
        -- the temporaries that it looks at
        have hts : ∀ t ∈ operTmps ao, (S j).ts t = tsF s.ts dst V (fun k => listed.getD k false) N t := by
          intro t ht
          rw [htsAll j (by omega)]
          have part1 : ∀ m, m ≤ j → tsF s.ts dst V (fun _ => true) m t = tsF s.ts dst V (fun k => listed.getD k false) m t := by
            intro m
            induction m with
            | zero => intro _; rfl
            | succ m ihm =>
              intro hm
              have ihm' := ihm (by omega)
              show (tsF s.ts dst V (fun _ => true) m).put (dst m) (V m) t = (if listed.getD m false = true then (tsF s.ts dst V (fun k => listed.getD k false) m).put (dst m) (V m) else tsF s.ts dst V (fun k => listed.getD k false) m) t
              by_cases hDm : listed.getD m false = true
              case neg =>
                -- not done: it need not be ahead
                rw [if_neg hDm]
                have hmp : m ∉ ps j := fun h => hDm (hpsD m h)
                obtain ⟨bo, qs, h4, h5, h6⟩ := F.tmps j ao _ hlj m (by omega) hmp
                obtain ⟨bo2, h7, h8⟩ := hget m (by omega)
                rw [h4] at h7; simp only [Option.some.injEq, Prod.mk.injEq] at h7
                rw [← ihm']
                cases hdm : dst m with
                | none => rfl
                | some t2 =>
                  simp only [TS.put, TS.set]
                  rw [if_neg]
                  rintro rfl
                  unfold tmpsApart at h6
                  rw [h8, ← h7.1] at hdm
                  rw [hdm] at h6
                  simp [ht] at h6
              case pos =>
                rw [if_pos hDm]
                cases hdm : dst m with
                | none => exact ihm'
                | some t2 =>
                  simp only [TS.put, TS.set]
                  split
                  · rfl
                  · exact ihm'
          have part2 : ∀ m, j ≤ m → m ≤ N → tsF s.ts dst V (fun k => listed.getD k false) m t = tsF s.ts dst V (fun k => listed.getD k false) j t := by
            intro m
            induction m with
            | zero => intro h _; have : j = 0 := by omega
                      subst this; rfl
            | succ m ihm =>
              intro hm hmN
              by_cases hjm : j = m + 1
              · rw [hjm]
              · have ihm' := ihm (by omega) (by omega)
                show (if listed.getD m false = true then (tsF s.ts dst V (fun k => listed.getD k false) m).put (dst m) (V m) else tsF s.ts dst V (fun k => listed.getD k false) m) t = _
                by_cases hDm : listed.getD m false = true
                case neg => rw [if_neg hDm]; exact ihm'
                case pos =>
                  rw [if_pos hDm]
                  rw [← ihm']
                  cases hdm : dst m with
                  | none => rfl
                  | some t2 =>
                    simp only [TS.put, TS.set]
                    rw [if_neg]
                    rintro rfl
                    have hmp : m ∉ ps j := fun h => by have := hpslt j hjN m h; omega
                    exact (htmp m (by omega) hDm hmp t hdm).1 ht
          rw [part1 j (Nat.le_refl _), part2 N (by omega) (Nat.le_refl _)]
        -- the blocks that it looks at
        have hblk : ∀ i o', Looks (E j).r i → get (SF H E (fun i => (ps j).contains i) N) i = some o' → get (SF H E (fun k => listed.getD k false) N) i = some o' := by
          intro i o' hlk hi
          rw [← hi]
          refine SF_agree (fun k hk hkp => hpsD k (by simpa using hkp)) (fun k hk hkD hkp hik => ?_)
          have hkp' : k ∉ ps j := by simpa using hkp
          obtain ⟨h3, _, _⟩ := hap k hk hkD hkp'
          rcases apart_spec h3 hik with ⟨h4, h5⟩ | ⟨l', h4, h5⟩
          · rw [(hCstep k hk).2.1] at h4
            rw [(hCstep k hk).2.2] at h5
            rw [hown j hjN k hk hkp' i h4 h5] at hi; simp at hi
          · exact h5 (hlk l' h4)
        -- behind it
        have hkeysDisj : ∀ i k, j < k → k < N → listed.getD k false = true → ¬ (i ∈ keys (E k).d ∧ i ∈ keys (E j).d) := by
          rintro i k hjk hk hkD ⟨hik, hij⟩
          have hjk' := hnotps k hk hkD
          have hkp' : k ∉ ps j := fun h => by have := hpslt j hjN k h; omega
          rcases hkeys j hjN i hij with ⟨b1, b2⟩ | ⟨⟨o1, ho1⟩, hl1⟩
          · rcases hkeys k hk i hik with ⟨c1, c2⟩ | ⟨⟨o2, ho2⟩, _⟩
            · have := own_unique hCm hjN hk b1 b2 c1 c2; omega
            · rw [hown k hk j hjN hjk' i b1 b2] at ho2; simp at ho2
          · rcases hkeys k hk i hik with ⟨c1, c2⟩ | ⟨⟨o2, ho2⟩, hl2⟩
            · rw [hown j hjN k hk hkp' i c1 c2] at ho1; simp at ho1
            · obtain ⟨_, h3, _⟩ := hap k hk hkD hkp'
              rcases apart_spec h3 hij with ⟨h4, h5⟩ | ⟨l', h4, h5⟩
              · rw [(hCstep j hjN).2.1] at h4
                rw [(hCstep j hjN).2.2] at h5
                rw [hown k hk j hjN hjk' i h4 h5] at ho2; simp at ho2
              · exact h5 (hl2 l' h4)
        have hD' : (fun k => (listed.setIfInBounds j true).getD k false) = addTo (fun k => listed.getD k false) j := by
          funext k
          by_cases hkj : k = j
          · subst hkj
            simp [addTo, show k < listed.size by omega]
          · rw [getD_set_ne false (fun e => hkj e.symm)]
            simp [addTo, hkj]
        have hnext : ∀ (φ' : Inj) (a' : Act) (w' : World), Rel φ' w0 w' ((E j).d ++ SF H E (fun k => listed.getD k false) N) →
            TR φ' n ((tsF s.ts dst V (fun k => listed.getD k false) N).put (dst j) (V j)) a'.tmps → a'.defers = [] → ExtBy φ φ' (C j) (C (j + 1)) →
            wpAny P .any ops Q fuel (listed.setIfInBounds j true) a' w' := by
          intro φ' a' w' hR' hT' hd' hE'
          have hcntj := cnt_add (D := fun k => listed.getD k false) hDj (N := N)
          rw [if_pos hjN] at hcntj
          refine ih _ a' w' φ' (by simp [hsz]) ?_ ?_ ?_ ?_ hd' ?_ ?_
          · rw [hD']; omega
          · intro k hk hkD p hp
            have hkD' : addTo (fun k => listed.getD k false) j k = true := by rw [← hD']; exact hkD
            simp only [addTo, Bool.or_eq_true, decide_eq_true_eq] at hkD'
            rcases hkD' with rfl | hkD'
            · exact getD_set_true (hpsD p hp)
            · exact getD_set_true (hcl k hk hkD' p hp)
          · rw [hD']
            refine hR'.sub fun i o' hi => ?_
            rw [SF_set hDj (fun k h1 h2 h3 => hkeysDisj i k h1 h2 h3), if_pos hjN] at hi
            exact hi
          · rw [hD', tsF_set hDj, if_pos hjN]
            · exact hT'
            · intro k h1 h2 h3 t ht hkt
              have hkp' : k ∉ ps j := fun h => by have := hpslt j hjN k h; omega
              exact (htmp k h2 h3 hkp' t hkt).2 (by rw [← hdj]; exact ht)
          · refine ⟨Inj.le_trans hE.1 hE'.1, fun i hi => ?_⟩
            by_cases hb : φ i = φ0 i
            · have := hE'.2 i (by rw [hb]; exact hi)
              have a1 := cleF hCm (Nat.zero_le j) (by omega)
              have a2 := cleF hCm (show j + 1 ≤ N by omega) (Nat.le_refl _)
              omega
            · exact hE.2 i hb
          · intro k hk hkD i h1 h2
            have hkD' : addTo (fun k => listed.getD k false) j k = false := by rw [← hD']; exact hkD
            simp only [addTo, Bool.or_eq_false_iff, decide_eq_false_iff_not] at hkD'
            by_cases hb : φ' i = φ i
            · rw [hb]; exact hFr k hk hkD'.2 i h1 h2
            · have := hE'.2 i hb
              exact absurd (own_unique hCm hk hjN h1 h2 this.1 this.2) hkD'.1
        -- the operation itself
        unfold wpOp
        rw [ho]
        simp only
        obtain ⟨hop, hdsto, hdn⟩ := lowOper_op hlow
        have hw := wanted_eq hlow hT
        have hw2 : wanted ao (tsF s.ts dst V (fun k => listed.getD k false) N) = wanted ao (S j).ts := (wanted_congr fun t ht => hts t ht).symm
        unfold drawStep at hdraw
        rw [hw, hw2]
        split at hdraw
        · rename_i hwf
          simp only [Option.some.injEq, Prod.mk.injEq] at hdraw
          obtain ⟨hv, he, hc⟩ := hdraw
          rw [if_neg (by rw [hwf]; simp)]
          refine hnext φ _ w ?_ ?_ (by rw [put_defers]; exact hd) (ExtBy.refl _ _ _)
          · rw [← he]; simpa using hR
          · rw [hdj, hdsto, ← hv]; exact hT.put hdn undef_VR
        · rename_i hwt
          rw [if_pos hwt]
          split at hdraw
          · simp at hdraw
          · rename_i v d c' hopA
            split at hdraw
            · simp only [Option.some.injEq, Prod.mk.injEq] at hdraw
              obtain ⟨hv, he, hc⟩ := hdraw
              left
              rw [hHk j hjN] at hopA
              have hr : reads (S j).ts ao.op = (E j).r := by rw [← he]
              have hdE : d = (E j).d := by rw [← he]
              have hcc : (S j).c = C j := by rw [hC]
              have hopts : ∀ t ∈ opndTmps (opOpnds ao.op), (S j).ts t = tsF s.ts dst V (fun k => listed.getD k false) N t := fun t ht => hts t (by simp [operTmps, ht])
              have hA2 := opA_mono hn (fun i o' hlk hi => hblk i o' (by rw [hr] at hlk; exact hlk) hi) hopA
              rw [(opA_congr (cf := cf) hopts _ _).1] at hA2
              rw [hcc] at hA2
              refine op_sound hcf hop hA2 hR hT (by rw [hc]; exact hFr j hjN hDj) ?_
              intro φ' w' v' hv' hR' hE'
              refine hnext φ' _ w' (by rw [← hdE]; exact hR') ?_ (by rw [put_defers]; exact hd) (by rw [← hc]; exact hE')
              rw [hdj, hdsto, ← hv]; exact (hT.mono hE'.1).put hdn hv'
            · simp at hdraw
  have hrep : ∀ k, (Array.replicate ops.size false).getD k false = false := by
    intro k
    rw [Array.getD_eq_getD_getElem?, Array.getElem?_replicate]
    split <;> rfl
  refine main ops.size _ a w φ0 (by simp [hNops]) (by rw [← hNops]; exact cnt_le) (fun k _ hk => by rw [hrep] at hk; simp at hk) ?_ ?_ hdef (ExtBy.refl _ _ _) ?_
  · have : (fun k => (Array.replicate ops.size false).getD k false) = fun _ => false := funext hrep
    rw [this]
    have h2 : ∀ m, SF H E (fun _ => false) m = H := by
      intro m; induction m with
      | zero => rfl
      | succ m ih => simp [SF, ih]
    rw [h2]; exact hR
  · have : (fun k => (Array.replicate ops.size false).getD k false) = fun _ => false := funext hrep
    rw [this]
    have h2 : ∀ m, tsF s.ts dst V (fun _ => false) m = s.ts := by
      intro m; induction m with
      | zero => rfl
      | succ m ih => simp [tsF, ih]
    rw [h2]; exact hT
  · intro k hk _ i h1 h2
    have a1 := cleF hCm (Nat.zero_le k) (by omega)
    have a2 := cleF hCm (show k + 1 ≤ N by omega) (Nat.le_refl _)
    exact hF i (by omega) (by omega)

end
end Go.Proofs.Ytfcglkajekohiaa.AM
