/- Contracts: the program's reader of messages, its loops. -/
import Derived.Test.YtfcglkajekohiaaC16
set_option linter.unusedSimpArgs false
set_option linter.unusedVariables false
set_option maxRecDepth 20000
namespace Go.Proofs.Ytfcglkajekohiaa
open Go Go.Proofs.Ytfcglkajekohiaa.AM

def decLI (t : List UInt8) : Nat → Cur → Option (List Ent × Cur)
  | 0, s => some ([], s)
  | k + 1, s => match readI (cShortI t s).1 with
    | some (i, e) => if i = 1 then (decLI t k (cShortI t s).2).map fun q => (e :: q.1, q.2) else none
    | none => none

theorem cShortI_len {t : List UInt8} {s : Cur} : (cShortI t s).1.length ≤ t.length := by
  unfold cShortI
  split
  · simp
  · split
    · split
      · simp
      · simp; omega
    · simp
theorem readI_len {t : List UInt8} {i : Nat} {e : Ent} (h : readI t = some (i, e)) : e.data.length ≤ t.length := by
  unfold readI at h
  simp only at h
  split at h
  · simp only [Option.some.injEq, Prod.mk.injEq] at h
    rw [← h.2]
    simp only [cRest]
    split <;> simp
  · simp at h
theorem decLI_le {t : List UInt8} {k : Nat} {s : Cur} {es : List Ent} {s' : Cur} (h : s.1 ≤ t.length) (hd : decLI t k s = some (es, s')) : s'.1 ≤ t.length ∧ es.length = k ∧ ∀ e ∈ es, e.data.length ≤ t.length := by
  induction k generalizing s es with
  | zero =>
    simp only [decLI, Option.some.injEq, Prod.mk.injEq] at hd
    obtain ⟨rfl, rfl⟩ := hd
    exact ⟨h, rfl, by simp⟩
  | succ k ih =>
    unfold decLI at hd
    split at hd
    · rename_i i e hr
      split at hd
      · rw [Option.map_eq_some_iff] at hd
        obtain ⟨⟨es1, s1⟩, h1, h2⟩ := hd
        simp only [Prod.mk.injEq] at h2
        obtain ⟨rfl, rfl⟩ := h2
        obtain ⟨h3, h4, h5⟩ := ih (cShortI_le h) h1
        refine ⟨h3, by simp [h4], fun x hx => ?_⟩
        simp only [List.mem_cons] at hx
        rcases hx with rfl | hx
        · exact Nat.le_trans (readI_len hr) cShortI_len
        · exact h5 x hx
      · simp at hd
    · simp at hd

section
variable {prim : Nat → List Value → Option Value} {H : AHeap} {c : Nat} {Q : Value → AHeap → Nat → Prop}

theorem impl_Decode_L0_ok (t : List UInt8) (ht : t.length ≤ 100000000) (N : Nat) (hN : N ≤ 4) (m : Msg) (bc bm : Nat) (hbc : c < bc) (hbm : c < bm) (hne : bc ≠ bm) (s0 : Cur) (hs0 : s0.1 ≤ t.length) {K : List AM.Frame} {R : AExit → St → Prop} {ts : TS} {u : AHeap} {c1 : Nat}
    (h2 : ts 2 = P c 0) (h4 : ts 4 = P bc 0) (h5 : ts 5 = P bm 0) (h6 : ts 46 = I N) (h7 : ts 47 = I 0) (hgc : get (u ++ H) bc = some (curV t s0)) (hgm : get (u ++ H) bm = some ⟨msgC m (.slice none 0 0) (.slice none 0 0), 0, false⟩)
    (hg2 : get (u ++ H) c = some ⟨msgC msg0 (.slice none 0 0) (.slice none 0 0), 0, false⟩) (ho : Own [] u c c1) (hbc1 : bc < c1) (hbm1 : bm < c1)
    (hT : ∀ es s', decLI t N s0 = some (es, s') → ∀ ts u c1 ve oe, ts 2 = P c 0 → ts 4 = P bc 0 → ts 5 = P bm 0 → get (u ++ H) bc = some (curV t s') → get (u ++ H) bm = some ⟨msgC m ve (.slice none 0 0), 0, false⟩ → get (u ++ H) c = some ⟨msgC msg0 (.slice none 0 0) (.slice none 0 0), 0, false⟩ →
      SlR (u ++ H) 3 ve (entsC es) oe → (∀ b, oe = some b → c < b ∧ b < c1 ∧ b ≠ bc ∧ b ≠ bm) → Own [] u c c1 → bc < c1 → bm < c1 → post (tbl prim) H K R (.exit 0) ⟨ts, u, c1⟩)
    (hF : decLI t N s0 = none → ∀ ts u c1, ts 2 = P c 0 → ts 3 = .bool false → get (u ++ H) c = some ⟨msgC msg0 (.slice none 0 0) (.slice none 0 0), 0, false⟩ → Own [] u c c1 → post (tbl prim) H K R .ret ⟨ts, u, c1⟩) : Wloop (tbl prim) H g_impl_Decode_L0 K ⟨ts, u, c1⟩ R := by
  refine Wloop.of (fun k s => ∃ (i : Nat) (es : List Ent) (q : Cur) (ve : Value) (oe : Option Nat), s.ts 2 = P c 0 ∧ s.ts 4 = P bc 0 ∧ s.ts 5 = P bm 0 ∧ s.ts 46 = I N ∧ s.ts 47 = I i ∧ k = N - i ∧ i ≤ N ∧ get (s.u ++ H) bc = some (curV t q) ∧ q.1 ≤ t.length ∧
    get (s.u ++ H) bm = some ⟨msgC m ve (.slice none 0 0), 0, false⟩ ∧ get (s.u ++ H) c = some ⟨msgC msg0 (.slice none 0 0) (.slice none 0 0), 0, false⟩ ∧ SlR (s.u ++ H) 3 ve (entsC es) oe ∧ es.length = i ∧ (∀ b, oe = some b → c < b ∧ b < s.c ∧ b ≠ bc ∧ b ≠ bm) ∧ Own [] s.u c s.c ∧ bc < s.c ∧ bm < s.c ∧
    (decLI t (N - i) q).map (fun r => (es ++ r.1, r.2)) = decLI t N s0)
    ?_ (n := N) ⟨0, [], s0, .slice none 0 0, none, h2, h4, h5, h6, by simpa using h7, rfl, by omega, hgc, hs0, hgm, hg2, .nil 0, rfl, by simp, ho, hbc1, hbm1, by simp⟩
  clear h2 h4 h5 h6 h7 hgc hgm hg2 ho hbc1 hbm1
  rintro k ⟨ts, u, c1⟩ ⟨i, es, q, ve, oe, h2, h4, h5, h6, h7, rfl, hi, hgc, hq, hgm, hg2, hve, hes, hoe, ho, hbc1, hbm1, hd⟩ R hR hE
  simp only at h2 h4 h5 h6 h7 hgc hgm hg2 hve hoe ho hbc1 hbm1
  by_cases hin : i < N
  · have h1 : ((i : Int) < N) = True := eq_true (by omega)
    obtain ⟨k, hk⟩ : ∃ k, N - i = k + 1 := ⟨N - i - 1, by omega⟩
    rw [hk, decLI] at hd
    have hc2 := cShortI_len (t := t) (s := q)
    repeat (first | simp only [RS0, RS1, RS2, RS3, RS4, reduceIte, Nat.reduceEqDiff, Nat.reduceAdd, Nat.reduceLeDiff, Nat.reduceLT, Nat.reduceMul, Int.reduceToNat, Int.reduceLT, Int.reduceLE, Int.reduceAdd, Int.reduceSub, Int.reduceMul, Int.reduceEq, Int.reduceNe, Nat.reduceSub, reduceCtorEq, boxF, if_true, if_false, forall_const, implies_true, ne_eq, g_impl_Decode_L0, h2, h4, h5, h6, h7, h1, spec_l01In_rw, impl_within_rw, impl_isNode_rw, impl_isTerm_rw, impl_isIndex_rw, spec_l17Flag_rw] | simp (disch := first | assumption | omega | (simp only [LS] <;> omega) | (simp only [List.not_mem_nil, List.mem_cons, or_false, not_false_eq_true, not_or] <;> omega)) only [CS, g_impl_Decode_L0, h2, h4, h5, h6, h7, h1] | simp only [condK_B, guardK_Bt, guardK_Bf])
    refine EvK.of (impl_scan_short_ok bc t q (by omega) hgc hbc1 hq fun d2 c2 ho2 hd2 => ?_)
    have ho2_le := ho2.le
    repeat (first | simp only [RS0, RS1, RS2, RS3, RS4, reduceIte, Nat.reduceEqDiff, Nat.reduceAdd, Nat.reduceLeDiff, Nat.reduceLT, Nat.reduceMul, Int.reduceToNat, Int.reduceLT, Int.reduceLE, Int.reduceAdd, Int.reduceSub, Int.reduceMul, Int.reduceEq, Int.reduceNe, Nat.reduceSub, reduceCtorEq, boxF, if_true, if_false, forall_const, implies_true, ne_eq, spec_l01In_rw, impl_within_rw, impl_isNode_rw, impl_isTerm_rw, impl_isIndex_rw, spec_l17Flag_rw] | simp (disch := first | assumption | omega | (simp only [LS] <;> omega) | (simp only [List.not_mem_nil, List.mem_cons, or_false, not_false_eq_true, not_or] <;> omega)) only [CS] | simp only [condK_B, guardK_Bt, guardK_Bf])
    refine EvK.of (impl_ReadEntry_ok (cShortI t q).1 (by omega) fun d3 c3 ho3 => ?_)
    have ho3_le := ho3.le
    simp only [msgC] at hgm
    have hg2' := hg2
    simp only [msgC, msg0] at hg2'
    cases hr : readI (cShortI t q).1 with
    | none =>
      rw [hr] at hd
      simp only [Option.map_none] at hd
      repeat (first | simp only [RS0, RS1, RS2, RS3, RS4, reduceIte, Nat.reduceEqDiff, Nat.reduceAdd, Nat.reduceLeDiff, Nat.reduceLT, Nat.reduceMul, Int.reduceToNat, Int.reduceLT, Int.reduceLE, Int.reduceAdd, Int.reduceSub, Int.reduceMul, Int.reduceEq, Int.reduceNe, Nat.reduceSub, reduceCtorEq, boxF, if_true, if_false, forall_const, implies_true, ne_eq, readEV, h2, hg2', spec_l01In_rw, impl_within_rw, impl_isNode_rw, impl_isTerm_rw, impl_isIndex_rw, spec_l17Flag_rw] | simp (disch := first | assumption | omega | (simp only [LS] <;> omega) | (simp only [List.not_mem_nil, List.mem_cons, or_false, not_false_eq_true, not_or] <;> omega)) only [CS, readEV, h2, hg2'] | simp only [condK_B, guardK_Bt, guardK_Bf])
      exact hE _ _ (by decide) (hF hd.symm _ _ _ (by simp [h2]) (by simp) (by simp (disch := first | assumption | omega | (simp only [LS] <;> omega) | (simp only [List.not_mem_nil, List.mem_cons, or_false, not_false_eq_true, not_or] <;> omega)) only [CS, RS3, RS4]; rfl) (by ((try dsimp only); refine Own.of (by omega) ?_; repeat (first | exact OwnK.nil | refine OwnK.cons (.inl (by omega)) ?_ | refine OwnK.kill (fun b hb => .inl (by have := hoe b hb; omega)) ?_ | refine OwnK.cons (.inr (by simp)) ?_ | exact OwnK.one (by assumption) (by omega) (by omega) (by simp <;> omega) | refine OwnK.app (by assumption) (by omega) (by omega) (by simp <;> omega) ?_))))
    | some p =>
      obtain ⟨j, e⟩ := p
      rw [hr] at hd
      simp only at hd
      repeat (first | simp only [RS0, RS1, RS2, RS3, RS4, reduceIte, Nat.reduceEqDiff, Nat.reduceAdd, Nat.reduceLeDiff, Nat.reduceLT, Nat.reduceMul, Int.reduceToNat, Int.reduceLT, Int.reduceLE, Int.reduceAdd, Int.reduceSub, Int.reduceMul, Int.reduceEq, Int.reduceNe, Nat.reduceSub, reduceCtorEq, boxF, if_true, if_false, forall_const, implies_true, ne_eq, readEV, h2, hg2', entC, spec_l01In_rw, impl_within_rw, impl_isNode_rw, impl_isTerm_rw, impl_isIndex_rw, spec_l17Flag_rw] | simp (disch := first | assumption | omega | (simp only [LS] <;> omega) | (simp only [List.not_mem_nil, List.mem_cons, or_false, not_false_eq_true, not_or] <;> omega)) only [CS, readEV, h2, hg2', entC] | simp only [condK_B, guardK_Bt, guardK_Bf])
      refine ⟨fun hj => ?_, fun hj => ?_⟩
      · rw [if_pos (by omega)] at hd
        have hl : (entsC es).length = i * 3 := by rw [ents_len, hes]
        repeat (first | simp only [RS0, RS1, RS2, RS3, RS4, reduceIte, Nat.reduceEqDiff, Nat.reduceAdd, Nat.reduceLeDiff, Nat.reduceLT, Nat.reduceMul, Int.reduceToNat, Int.reduceLT, Int.reduceLE, Int.reduceAdd, Int.reduceSub, Int.reduceMul, Int.reduceEq, Int.reduceNe, Nat.reduceSub, reduceCtorEq, boxF, if_true, if_false, forall_const, implies_true, ne_eq, entC, hgm, h5, spec_l01In_rw, impl_within_rw, impl_isNode_rw, impl_isTerm_rw, impl_isIndex_rw, spec_l17Flag_rw] | simp (disch := first | assumption | omega | (simp only [LS] <;> omega) | (simp only [List.not_mem_nil, List.mem_cons, or_false, not_false_eq_true, not_or] <;> omega)) only [CS, entC, hgm, h5] | simp only [condK_B, guardK_Bt, guardK_Bf])
        rw [SlR.app1 (hve.of_get ?ga) ?gb hl (by omega) rfl rfl (by unfold maxBytes; omega) (by unfold maxBytes; omega)]
        case ga => intro b hb; have := hoe b hb; simp (disch := first | assumption | omega | (simp only [LS] <;> omega) | (simp only [List.not_mem_nil, List.mem_cons, or_false, not_false_eq_true, not_or] <;> omega)) only [CS, RS3, RS4]
        case gb => intro b hb; have := hoe b hb; omega
        have kc : ∀ b, oe = some b → b ≠ bc := fun b hb => (hoe b hb).2.2.1
        have km : ∀ b, oe = some b → b ≠ bm := fun b hb => (hoe b hb).2.2.2
        have k2 : ∀ b, oe = some b → b ≠ c := fun b hb => by have := hoe b hb; omega
        repeat (first | simp only [RS0, RS1, RS2, RS3, RS4, reduceIte, Nat.reduceEqDiff, Nat.reduceAdd, Nat.reduceLeDiff, Nat.reduceLT, Nat.reduceMul, Int.reduceToNat, Int.reduceLT, Int.reduceLE, Int.reduceAdd, Int.reduceSub, Int.reduceMul, Int.reduceEq, Int.reduceNe, Nat.reduceSub, reduceCtorEq, boxF, if_true, if_false, forall_const, implies_true, ne_eq, h5, hgm, get_kill kc, get_kill km, h7, spec_l01In_rw, impl_within_rw, impl_isNode_rw, impl_isTerm_rw, impl_isIndex_rw, spec_l17Flag_rw] | simp (disch := first | assumption | omega | (simp only [LS] <;> omega) | (simp only [List.not_mem_nil, List.mem_cons, or_false, not_false_eq_true, not_or] <;> omega)) only [CS, h5, hgm, get_kill kc, get_kill km, h7] | simp only [condK_B, guardK_Bt, guardK_Bf])
        refine hR (N - (i + 1)) _ (by omega) ⟨i + 1, es ++ [e], (cShortI t q).2, Sl (c3 + 1 + 1) (i + 1) 3, some (c3 + 1 + 1), by simp [h2], by simp [h4], by simp [h5], by simp [h6], by simp, rfl, by omega, by simp (disch := first | assumption | omega | (simp only [LS] <;> omega) | (simp only [List.not_mem_nil, List.mem_cons, or_false, not_false_eq_true, not_or] <;> omega)) only [CS, get_kill kc, hd2, RS3, RS4], cShortI_le hq, by simp (disch := first | assumption | omega | (simp only [LS] <;> omega) | (simp only [List.not_mem_nil, List.mem_cons, or_false, not_false_eq_true, not_or] <;> omega)) only [CS, RS3, RS4]; rfl, by simp (disch := first | assumption | omega | (simp only [LS] <;> omega) | (simp only [List.not_mem_nil, List.mem_cons, or_false, not_false_eq_true, not_or] <;> omega)) only [CS, get_kill k2, hg2, RS3, RS4], ?_, by simp [hes], ?_, ?_, by (try dsimp only); omega, by (try dsimp only); omega, ?_⟩
        · refine .blk (by rw [ents_snoc]; simp (disch := first | assumption | omega | (simp only [LS] <;> omega) | (simp only [List.not_mem_nil, List.mem_cons, or_false, not_false_eq_true, not_or] <;> omega)) only [CS, RS3, RS4]; rfl) ?_
          rw [ents_len]; simp [hes]
        · intro b hb
          simp only [Option.some.injEq] at hb
          subst hb
          refine ⟨by omega, by (try dsimp only); omega, by omega, by omega⟩
        · ((try dsimp only); refine Own.of (by omega) ?_; repeat (first | exact OwnK.nil | refine OwnK.cons (.inl (by omega)) ?_ | refine OwnK.kill (fun b hb => .inl (by have := hoe b hb; omega)) ?_ | refine OwnK.cons (.inr (by simp)) ?_ | exact OwnK.one (by assumption) (by omega) (by omega) (by simp <;> omega) | refine OwnK.app (by assumption) (by omega) (by omega) (by simp <;> omega) ?_))
        · rw [← hd, show N - (i + 1) = k by omega, Option.map_map]
          congr 1
          funext r; simp
      · rw [if_neg (by omega)] at hd
        repeat (first | simp only [RS0, RS1, RS2, RS3, RS4, reduceIte, Nat.reduceEqDiff, Nat.reduceAdd, Nat.reduceLeDiff, Nat.reduceLT, Nat.reduceMul, Int.reduceToNat, Int.reduceLT, Int.reduceLE, Int.reduceAdd, Int.reduceSub, Int.reduceMul, Int.reduceEq, Int.reduceNe, Nat.reduceSub, reduceCtorEq, boxF, if_true, if_false, forall_const, implies_true, ne_eq, h2, hg2', spec_l01In_rw, impl_within_rw, impl_isNode_rw, impl_isTerm_rw, impl_isIndex_rw, spec_l17Flag_rw] | simp (disch := first | assumption | omega | (simp only [LS] <;> omega) | (simp only [List.not_mem_nil, List.mem_cons, or_false, not_false_eq_true, not_or] <;> omega)) only [CS, h2, hg2'] | simp only [condK_B, guardK_Bt, guardK_Bf])
        exact hE _ _ (by decide) (hF hd.symm _ _ _ (by simp [h2]) (by simp) (by simp (disch := first | assumption | omega | (simp only [LS] <;> omega) | (simp only [List.not_mem_nil, List.mem_cons, or_false, not_false_eq_true, not_or] <;> omega)) only [CS, RS3, RS4]; rfl) (by ((try dsimp only); refine Own.of (by omega) ?_; repeat (first | exact OwnK.nil | refine OwnK.cons (.inl (by omega)) ?_ | refine OwnK.kill (fun b hb => .inl (by have := hoe b hb; omega)) ?_ | refine OwnK.cons (.inr (by simp)) ?_ | exact OwnK.one (by assumption) (by omega) (by omega) (by simp <;> omega) | refine OwnK.app (by assumption) (by omega) (by omega) (by simp <;> omega) ?_))))
  · have hk : N - i = 0 := by omega
    have h1 : ((i : Int) < N) = False := eq_false (by omega)
    rw [hk, decLI] at hd
    simp only [Option.map_some, List.append_nil] at hd
    repeat (first | simp only [RS0, RS1, RS2, RS3, RS4, reduceIte, Nat.reduceEqDiff, Nat.reduceAdd, Nat.reduceLeDiff, Nat.reduceLT, Nat.reduceMul, Int.reduceToNat, Int.reduceLT, Int.reduceLE, Int.reduceAdd, Int.reduceSub, Int.reduceMul, Int.reduceEq, Int.reduceNe, Nat.reduceSub, reduceCtorEq, boxF, if_true, if_false, forall_const, implies_true, ne_eq, g_impl_Decode_L0, h4, h5, h6, h7, h1, spec_l01In_rw, impl_within_rw, impl_isNode_rw, impl_isTerm_rw, impl_isIndex_rw, spec_l17Flag_rw] | simp (disch := first | assumption | omega | (simp only [LS] <;> omega) | (simp only [List.not_mem_nil, List.mem_cons, or_false, not_false_eq_true, not_or] <;> omega)) only [CS, g_impl_Decode_L0, h4, h5, h6, h7, h1] | simp only [condK_B, guardK_Bt, guardK_Bf])
    exact hE _ _ (by decide) (hT es q hd.symm _ _ _ ve oe (by simp [h2]) (by simp [h4]) (by simp [h5]) hgc hgm hg2 hve hoe ho hbc1 hbm1)

theorem impl_Decode_L1_ok (t : List UInt8) (ht : t.length ≤ 100000000) (m : Msg) (ve : Value) (bc bm : Nat) {K : List AM.Frame} {R : AExit → St → Prop} {ts : TS} {u : AHeap} {c1 : Nat} (hcm : bm < c1)
    (h2 : ts 2 = P c 0) (h4 : ts 4 = P bc 0) (h5 : ts 5 = P bm 0) (h11 : ts 11 = T t) (h12 : ts 12 = I 0) (hgm : get (u ++ H) bm = some ⟨msgC m ve (.slice none 0 0), 0, false⟩)
    (hT : ∀ ts u' c2 vc oc, ts 2 = P c 0 → ts 4 = P bc 0 → ts 5 = P bm 0 → Own [bm] u' c1 c2 → get (u' ++ (u ++ H)) bm = some ⟨msgC m ve vc, 0, false⟩ → SlR (u' ++ (u ++ H)) 1 vc ((ints t).map I) oc → (∀ b, oc = some b → c1 ≤ b ∧ b < c2) → post (tbl prim) H K R (.exit 2) ⟨ts, u' ++ u, c2⟩) :
    Wloop (tbl prim) H g_impl_Decode_L1 K ⟨ts, u, c1⟩ R := by
  refine Wloop.of (fun k s => ∃ (i : Nat) (u' : AHeap) (vc : Value) (oc : Option Nat), s.ts 2 = P c 0 ∧ s.ts 4 = P bc 0 ∧ s.ts 5 = P bm 0 ∧ s.ts 11 = T t ∧ s.ts 12 = I i ∧ k = t.length - i ∧ i ≤ t.length ∧ s.u = u' ++ u ∧ Own [bm] u' c1 s.c ∧ get (u' ++ (u ++ H)) bm = some ⟨msgC m ve vc, 0, false⟩ ∧
    SlR (u' ++ (u ++ H)) 1 vc ((ints (t.take i)).map I) oc ∧ (∀ b, oc = some b → c1 ≤ b ∧ b < s.c)) ?_ (n := t.length) ⟨0, [], .slice none 0 0, none, h2, h4, h5, h11, by simpa using h12, rfl, by omega, rfl, Own.nil c1, hgm, .nil 0, by simp⟩
  clear h2 h4 h5 h11 h12 hgm
  rintro k ⟨ts, w, c2⟩ ⟨i, u', vc, oc, h2, h4, h5, h11, h12, rfl, hi, hw, ho, hgm, hvc, hoe⟩ R hR hE
  simp only at h2 h4 h5 h11 h12 hw ho hoe
  subst hw
  have hgm' := hgm
  simp only [msgC] at hgm'
  have ho_le := ho.le
  by_cases hin : i < t.length
  · have h1 : ((i : Int) < t.length) = True := eq_true (by omega)
    have h3 : (0 ≤ (i : Int) ∧ (i : Int) < t.length) = True := eq_true (by omega)
    have hl : ((ints (t.take i)).map I).length = i * 1 := by simp [ints]; omega
    have hcell : (ints (t.take i)).map I ++ [I ((t.getD i 0).toNat : Int)] = (ints (t.take (i + 1))).map I := by
      rw [ints_snoc, List.getD_eq_getElem?_getD, List.getElem?_eq_getElem hin]
      simp [List.take_append_getElem]
    repeat (first | simp only [RS0, RS1, RS2, RS3, RS4, reduceIte, Nat.reduceEqDiff, Nat.reduceAdd, Nat.reduceLeDiff, Nat.reduceLT, Nat.reduceMul, Int.reduceToNat, Int.reduceLT, Int.reduceLE, Int.reduceAdd, Int.reduceSub, Int.reduceMul, Int.reduceEq, Int.reduceNe, Nat.reduceSub, reduceCtorEq, boxF, if_true, if_false, forall_const, implies_true, ne_eq, g_impl_Decode_L1, h2, h4, h5, h11, h12, hgm', h1, h3, spec_l01In_rw, impl_within_rw, impl_isNode_rw, impl_isTerm_rw, impl_isIndex_rw, spec_l17Flag_rw] | simp (disch := first | assumption | omega | (simp only [LS] <;> omega) | (simp only [List.not_mem_nil, List.mem_cons, or_false, not_false_eq_true, not_or] <;> omega)) only [CS, g_impl_Decode_L1, h2, h4, h5, h11, h12, hgm', h1, h3] | simp only [condK_B, guardK_Bt, guardK_Bf])
    rw [SlR.app1 (hvc.of_get ?ga) ?gb hl (by omega) rfl rfl (by unfold maxBytes; omega) (by unfold maxBytes; omega)]
    case ga => intro b hb; have := hoe b hb; simp (disch := first | assumption | omega | (simp only [LS] <;> omega) | (simp only [List.not_mem_nil, List.mem_cons, or_false, not_false_eq_true, not_or] <;> omega)) only [CS, RS3, RS4]
    case gb => intro b hb; have := hoe b hb; omega
    have km : ∀ b, oc = some b → b ≠ bm := fun b hb => by have := hoe b hb; omega
    repeat (first | simp only [RS0, RS1, RS2, RS3, RS4, reduceIte, Nat.reduceEqDiff, Nat.reduceAdd, Nat.reduceLeDiff, Nat.reduceLT, Nat.reduceMul, Int.reduceToNat, Int.reduceLT, Int.reduceLE, Int.reduceAdd, Int.reduceSub, Int.reduceMul, Int.reduceEq, Int.reduceNe, Nat.reduceSub, reduceCtorEq, boxF, if_true, if_false, forall_const, implies_true, ne_eq, h5, hgm', get_kill km, h12, spec_l01In_rw, impl_within_rw, impl_isNode_rw, impl_isTerm_rw, impl_isIndex_rw, spec_l17Flag_rw] | simp (disch := first | assumption | omega | (simp only [LS] <;> omega) | (simp only [List.not_mem_nil, List.mem_cons, or_false, not_false_eq_true, not_or] <;> omega)) only [CS, h5, hgm', get_kill km, h12] | simp only [condK_B, guardK_Bt, guardK_Bf])
    refine ⟨by omega, ?_⟩
    refine hR (t.length - (i + 1)) _ (by omega) ⟨i + 1, (bm, some ⟨msgC m ve (Sl (c2 + 1) (i + 1) 1), 0, false⟩) :: (c2 + 1, some ⟨(ints (t.take i)).map I ++ [I ((t.getD i 0).toNat : Int)], 1, false⟩) :: (killL oc ++ (c2, some ⟨[I ((t.getD i 0).toNat : Int)], 1, false⟩) :: u'),
      Sl (c2 + 1) (i + 1) 1, some (c2 + 1), by simp [h2], by simp [h4], by simp [h5], by simp [h11], by simp, rfl, by omega, by simp [msgC], ?_, by simp (disch := first | assumption | omega | (simp only [LS] <;> omega) | (simp only [List.not_mem_nil, List.mem_cons, or_false, not_false_eq_true, not_or] <;> omega)) only [CS, RS3, RS4], ?_, ?_⟩
    · ((try dsimp only); refine Own.of (by omega) ?_; repeat (first | exact OwnK.nil | refine OwnK.cons (.inl (by omega)) ?_ | refine OwnK.kill (fun b hb => .inl (by have := hoe b hb; omega)) ?_ | refine OwnK.cons (.inr (by simp)) ?_ | exact OwnK.one (by assumption) (by omega) (by omega) (by simp <;> omega) | refine OwnK.app (by assumption) (by omega) (by omega) (by simp <;> omega) ?_))
    · rw [hcell]
      refine .blk (by simp (disch := first | assumption | omega | (simp only [LS] <;> omega) | (simp only [List.not_mem_nil, List.mem_cons, or_false, not_false_eq_true, not_or] <;> omega)) only [CS, RS3, RS4]) ?_
      simp [ints]; omega
    · intro b hb
      simp only [Option.some.injEq] at hb
      subst hb
      refine ⟨by omega, by (try dsimp only); omega⟩
  · have h1 : ((i : Int) < t.length) = False := eq_false (by omega)
    rw [List.take_of_length_le (by omega)] at hvc
    repeat (first | simp only [RS0, RS1, RS2, RS3, RS4, reduceIte, Nat.reduceEqDiff, Nat.reduceAdd, Nat.reduceLeDiff, Nat.reduceLT, Nat.reduceMul, Int.reduceToNat, Int.reduceLT, Int.reduceLE, Int.reduceAdd, Int.reduceSub, Int.reduceMul, Int.reduceEq, Int.reduceNe, Nat.reduceSub, reduceCtorEq, boxF, if_true, if_false, forall_const, implies_true, ne_eq, g_impl_Decode_L1, h2, h4, h5, h11, h12, hgm', h1, spec_l01In_rw, impl_within_rw, impl_isNode_rw, impl_isTerm_rw, impl_isIndex_rw, spec_l17Flag_rw] | simp (disch := first | assumption | omega | (simp only [LS] <;> omega) | (simp only [List.not_mem_nil, List.mem_cons, or_false, not_false_eq_true, not_or] <;> omega)) only [CS, g_impl_Decode_L1, h2, h4, h5, h11, h12, hgm', h1] | simp only [condK_B, guardK_Bt, guardK_Bf])
    exact hE _ _ (by decide) (hT _ u' c2 vc oc (by simp [h2]) (by simp [h4]) (by simp [h5]) ho hgm hvc hoe)
end
end Go.Proofs.Ytfcglkajekohiaa
