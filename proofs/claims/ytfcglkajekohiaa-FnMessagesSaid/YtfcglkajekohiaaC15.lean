/- Contracts: the reference's reader of messages. -/
import Derived.Test.YtfcglkajekohiaaC14
set_option linter.unusedSimpArgs false
set_option linter.unusedVariables false
set_option maxRecDepth 20000
namespace Go.Proofs.Ytfcglkajekohiaa
open Go Go.Proofs.Ytfcglkajekohiaa.AM

theorem ents_snoc (l : List Ent) (e : Ent) : entsC (l ++ [e]) = entsC l ++ entC e := by simp [entsC]
def ent0 : Ent := ⟨0, 0, []⟩
def rdE (t : List UInt8) : Ent := match readE t with | some (_, e) => e | none => ent0
def decL (t : List UInt8) : Nat → Cur → List Ent × Cur
  | 0, s => ([], s)
  | k + 1, s => if s.2 = true then ([], s) else (rdE (cShort t s).1 :: (decL t k (cShort t s).2).1, (decL t k (cShort t s).2).2)

theorem rdE_len (t : List UInt8) : (rdE t).data.length ≤ t.length := by
  unfold rdE readE
  split
  · rename_i i e h
    split at h
    · simp at h
    · split at h
      · simp only [Option.some.injEq] at h
        have h2 : (readES t).2.2 = e := by rw [h]
        rw [← h2]; simp [readES]
      · simp at h
  · simp [ent0]
theorem cShort_le {t : List UInt8} {s : Cur} (h : s.1 ≤ t.length) : (cShort t s).2.1 ≤ t.length ∧ (cShort t s).1.length ≤ t.length := by
  refine ⟨cTake_le (cVar_le h).1, ?_⟩
  unfold cShort cTake
  split
  · simp
  · simp; omega
theorem readEV_eq (t : List UInt8) : ∃ i b, readEV (readE t) = .tuple ⟨[I i, ag (entC (rdE t)), B b]⟩ := by
  unfold rdE
  cases readE t with
  | none => exact ⟨0, false, rfl⟩
  | some p => obtain ⟨i, e⟩ := p; exact ⟨i, true, rfl⟩
theorem decL_le {t : List UInt8} {k : Nat} {s : Cur} (h : s.1 ≤ t.length) : (decL t k s).2.1 ≤ t.length ∧ (decL t k s).1.length ≤ k ∧ ∀ e ∈ (decL t k s).1, e.data.length ≤ t.length := by
  induction k generalizing s with
  | zero => exact ⟨h, by simp [decL], by simp [decL]⟩
  | succ k ih =>
    unfold decL
    split
    · exact ⟨h, by simp, by simp⟩
    · obtain ⟨h1, h2⟩ := cShort_le h
      obtain ⟨h3, h4, h5⟩ := ih h1
      refine ⟨h3, by simpa using h4, fun e he => ?_⟩
      simp only [List.mem_cons] at he
      rcases he with rfl | he
      · exact Nat.le_trans (rdE_len _) h2
      · exact h5 e he

section
variable {prim : Nat → List Value → Option Value} {H : AHeap} {c : Nat} {Q : Value → AHeap → Nat → Prop}

theorem spec_Decode_L0_ok (t : List UInt8) (ht : t.length ≤ 100000000) (N : Nat) (hN : N ≤ 1000000000) (m : Msg) (bc bm : Nat) (hbc : c ≤ bc) (hbm : c ≤ bm) (hne : bc ≠ bm) (s0 : Cur) (hs0 : s0.1 ≤ t.length) {K : List AM.Frame} {R : AExit → St → Prop} {ts : TS} {u : AHeap} {c1 : Nat}
    (h4 : ts 4 = P bc 0) (h6 : ts 6 = P bm 0) (h7 : ts 7 = I N) (h8 : ts 8 = I 0) (hgc : get (u ++ H) bc = some (curV t s0)) (hgm : get (u ++ H) bm = some ⟨msgC m (.slice none 0 0) (.slice none 0 0), 0, false⟩) (ho : Own [] u c c1) (hbc1 : bc < c1) (hbm1 : bm < c1) (h0 : ts 0 = T t) (h2 : ts 2 = P c 0)
    (hg2 : ∃ o, get (u ++ H) c = some ⟨o, 0, false⟩ ∧ o.length = 12) (hcc : c < bc) (hcm : c < bm)
    (hT : ∀ ts u c1 ve oe, ts 0 = T t → ts 2 = P c 0 → (∃ o, get (u ++ H) c = some ⟨o, 0, false⟩ ∧ o.length = 12) → ts 4 = P bc 0 → ts 6 = P bm 0 → get (u ++ H) bc = some (curV t (decL t (min N 5) s0).2) → get (u ++ H) bm = some ⟨msgC m ve (.slice none 0 0), 0, false⟩ → SlR (u ++ H) 3 ve (entsC (decL t (min N 5) s0).1) oe →
      (∀ b, oe = some b → c < b ∧ b < c1 ∧ b ≠ bc ∧ b ≠ bm) → Own [] u c c1 → bc < c1 → bm < c1 → post (tbl prim) H K R (.exit 0) ⟨ts, u, c1⟩) : Wloop (tbl prim) H g_spec_Decode_L0 K ⟨ts, u, c1⟩ R := by
  refine Wloop.of (fun k s => ∃ (i : Nat) (es : List Ent) (q : Cur) (ve : Value) (oe : Option Nat), s.ts 0 = T t ∧ s.ts 2 = P c 0 ∧ (∃ o, get (s.u ++ H) c = some ⟨o, 0, false⟩ ∧ o.length = 12) ∧ s.ts 4 = P bc 0 ∧ s.ts 6 = P bm 0 ∧ s.ts 7 = I N ∧ s.ts 8 = I i ∧ k = min N 5 - i ∧ i ≤ min N 5 ∧ get (s.u ++ H) bc = some (curV t q) ∧ q.1 ≤ t.length ∧
    get (s.u ++ H) bm = some ⟨msgC m ve (.slice none 0 0), 0, false⟩ ∧ SlR (s.u ++ H) 3 ve (entsC es) oe ∧ es.length = i ∧ (∀ b, oe = some b → c < b ∧ b < s.c ∧ b ≠ bc ∧ b ≠ bm) ∧ Own [] s.u c s.c ∧ bc < s.c ∧ bm < s.c ∧
    (es ++ (decL t (min N 5 - i) q).1, (decL t (min N 5 - i) q).2) = decL t (min N 5) s0)
    ?_ (n := min N 5) ⟨0, [], s0, .slice none 0 0, none, h0, h2, hg2, h4, h6, h7, by simpa using h8, rfl, by omega, hgc, hs0, hgm, .nil 0, rfl, by simp, ho, hbc1, hbm1, by simp⟩
  clear h4 h6 h7 h8 hgc hgm ho hbc1 hbm1 h0 h2 hg2
  rintro k ⟨ts, u, c1⟩ ⟨i, es, q, ve, oe, h0, h2, ⟨o, hgo, hlo⟩, h4, h6, h7, h8, rfl, hi, hgc, hq, hgm, hve, hes, hoe, ho, hbc1, hbm1, hd⟩ R hR hE
  simp only at h0 h2 hgo h4 h6 h7 h8 hgc hgm hve hoe ho hbc1 hbm1
  by_cases hin : i < min N 5
  · by_cases hbad : q.2 = true
    · have hgc' := hgc
      simp only [curV, hbad] at hgc'
      have h1 : ((i : Int) < N) = True := eq_true (by omega)
      repeat (first | simp only [RS0, RS1, RS2, RS3, RS4, reduceIte, Nat.reduceEqDiff, Nat.reduceAdd, Nat.reduceLeDiff, Nat.reduceLT, Nat.reduceMul, Int.reduceToNat, Int.reduceLT, Int.reduceLE, Int.reduceAdd, Int.reduceSub, Int.reduceMul, Int.reduceEq, Int.reduceNe, Nat.reduceSub, reduceCtorEq, boxF, if_true, if_false, forall_const, implies_true, ne_eq, g_spec_Decode_L0, h4, h6, h7, h8, hgc', h1, spec_l01In_rw, impl_within_rw, impl_isNode_rw, impl_isTerm_rw, impl_isIndex_rw, spec_l17Flag_rw] | simp (disch := first | assumption | omega | (simp only [LS] <;> omega) | (simp only [List.not_mem_nil, List.mem_cons, or_false, not_false_eq_true, not_or] <;> omega)) only [CS, g_spec_Decode_L0, h4, h6, h7, h8, hgc', h1] | simp only [condK_B, guardK_Bt, guardK_Bf])
      obtain ⟨k, hk⟩ : ∃ k, min N 5 - i = k + 1 := ⟨min N 5 - i - 1, by omega⟩
      rw [hk, decL, if_pos hbad, List.append_nil] at hd
      refine hE _ _ (by decide) (hT _ _ _ ve oe (by simp [h0]) (by simp [h2]) ⟨o, hgo, hlo⟩ (by simp [h4]) (by simp [h6]) (by rw [← hd]; exact hgc) hgm (by rw [← hd]; exact hve) hoe ho hbc1 hbm1)
    · have hbad' : q.2 = false := by simpa using hbad
      have hgc' := hgc
      simp only [curV, hbad'] at hgc'
      have h1 : ((i : Int) < N) = True := eq_true (by omega)
      have h3 : ((i : Int) ≤ 4) = True := eq_true (by omega)
      obtain ⟨k, hk⟩ : ∃ k, min N 5 - i = k + 1 := ⟨min N 5 - i - 1, by omega⟩
      rw [hk, decL, if_neg hbad] at hd
      repeat (first | simp only [RS0, RS1, RS2, RS3, RS4, reduceIte, Nat.reduceEqDiff, Nat.reduceAdd, Nat.reduceLeDiff, Nat.reduceLT, Nat.reduceMul, Int.reduceToNat, Int.reduceLT, Int.reduceLE, Int.reduceAdd, Int.reduceSub, Int.reduceMul, Int.reduceEq, Int.reduceNe, Nat.reduceSub, reduceCtorEq, boxF, if_true, if_false, forall_const, implies_true, ne_eq, g_spec_Decode_L0, h4, h6, h7, h8, hgc', h1, h3, spec_l01In_rw, impl_within_rw, impl_isNode_rw, impl_isTerm_rw, impl_isIndex_rw, spec_l17Flag_rw] | simp (disch := first | assumption | omega | (simp only [LS] <;> omega) | (simp only [List.not_mem_nil, List.mem_cons, or_false, not_false_eq_true, not_or] <;> omega)) only [CS, g_spec_Decode_L0, h4, h6, h7, h8, hgc', h1, h3] | simp only [condK_B, guardK_Bt, guardK_Bf])
      obtain ⟨hc1, hc2⟩ := cShort_le hq
      refine EvK.of (spec_l05ReadShort_ok bc t q (by omega) hgc hbc1 hq fun d2 c2 ho2 hd2 => ?_)
      have ho2_le := ho2.le
      repeat (first | simp only [RS0, RS1, RS2, RS3, RS4, reduceIte, Nat.reduceEqDiff, Nat.reduceAdd, Nat.reduceLeDiff, Nat.reduceLT, Nat.reduceMul, Int.reduceToNat, Int.reduceLT, Int.reduceLE, Int.reduceAdd, Int.reduceSub, Int.reduceMul, Int.reduceEq, Int.reduceNe, Nat.reduceSub, reduceCtorEq, boxF, if_true, if_false, forall_const, implies_true, ne_eq, spec_l01In_rw, impl_within_rw, impl_isNode_rw, impl_isTerm_rw, impl_isIndex_rw, spec_l17Flag_rw] | simp (disch := first | assumption | omega | (simp only [LS] <;> omega) | (simp only [List.not_mem_nil, List.mem_cons, or_false, not_false_eq_true, not_or] <;> omega)) only [CS] | simp only [condK_B, guardK_Bt, guardK_Bf])
      refine EvK.of (spec_ReadEntry_ok (cShort t q).1 (by omega) fun d3 c3 ho3 => ?_)
      have ho3_le := ho3.le
      obtain ⟨j, b, hj⟩ := readEV_eq (cShort t q).1
      have hl : (entsC es).length = i * 3 := by rw [ents_len, hes]
      rw [hj]
      simp only [msgC] at hgm
      repeat (first | simp only [RS0, RS1, RS2, RS3, RS4, reduceIte, Nat.reduceEqDiff, Nat.reduceAdd, Nat.reduceLeDiff, Nat.reduceLT, Nat.reduceMul, Int.reduceToNat, Int.reduceLT, Int.reduceLE, Int.reduceAdd, Int.reduceSub, Int.reduceMul, Int.reduceEq, Int.reduceNe, Nat.reduceSub, reduceCtorEq, boxF, if_true, if_false, forall_const, implies_true, ne_eq, entC, hgm, h6, spec_l01In_rw, impl_within_rw, impl_isNode_rw, impl_isTerm_rw, impl_isIndex_rw, spec_l17Flag_rw] | simp (disch := first | assumption | omega | (simp only [LS] <;> omega) | (simp only [List.not_mem_nil, List.mem_cons, or_false, not_false_eq_true, not_or] <;> omega)) only [CS, entC, hgm, h6] | simp only [condK_B, guardK_Bt, guardK_Bf])
      rw [SlR.app1 (hve.of_get ?ga) ?gb hl (by omega) rfl rfl (by unfold maxBytes; omega) (by unfold maxBytes; omega)]
      case ga => intro b hb; have := hoe b hb; simp (disch := first | assumption | omega | (simp only [LS] <;> omega) | (simp only [List.not_mem_nil, List.mem_cons, or_false, not_false_eq_true, not_or] <;> omega)) only [CS, RS3, RS4]
      case gb => intro b hb; have := hoe b hb; omega
      have kc : ∀ b, oe = some b → b ≠ bc := fun b hb => (hoe b hb).2.2.1
      have km : ∀ b, oe = some b → b ≠ bm := fun b hb => (hoe b hb).2.2.2
      have k2 : ∀ b, oe = some b → b ≠ c := fun b hb => by have := hoe b hb; omega
      repeat (first | simp only [RS0, RS1, RS2, RS3, RS4, reduceIte, Nat.reduceEqDiff, Nat.reduceAdd, Nat.reduceLeDiff, Nat.reduceLT, Nat.reduceMul, Int.reduceToNat, Int.reduceLT, Int.reduceLE, Int.reduceAdd, Int.reduceSub, Int.reduceMul, Int.reduceEq, Int.reduceNe, Nat.reduceSub, reduceCtorEq, boxF, if_true, if_false, forall_const, implies_true, ne_eq, h6, hgm, get_kill kc, get_kill km, h8, spec_l01In_rw, impl_within_rw, impl_isNode_rw, impl_isTerm_rw, impl_isIndex_rw, spec_l17Flag_rw] | simp (disch := first | assumption | omega | (simp only [LS] <;> omega) | (simp only [List.not_mem_nil, List.mem_cons, or_false, not_false_eq_true, not_or] <;> omega)) only [CS, h6, hgm, get_kill kc, get_kill km, h8] | simp only [condK_B, guardK_Bt, guardK_Bf])
      refine hR (min N 5 - (i + 1)) _ (by omega) ⟨i + 1, es ++ [rdE (cShort t q).1], (cShort t q).2, Sl (c3 + 1 + 1) (i + 1) 3, some (c3 + 1 + 1), by simp [h0], by simp [h2], ⟨o, by simp (disch := first | assumption | omega | (simp only [LS] <;> omega) | (simp only [List.not_mem_nil, List.mem_cons, or_false, not_false_eq_true, not_or] <;> omega)) only [CS, get_kill k2, hgo, RS3, RS4], hlo⟩, by simp [h4], by simp [h6], by simp [h7], by simp, rfl, by omega, by simp (disch := first | assumption | omega | (simp only [LS] <;> omega) | (simp only [List.not_mem_nil, List.mem_cons, or_false, not_false_eq_true, not_or] <;> omega)) only [CS, get_kill kc, hd2, RS3, RS4], hc1, by simp (disch := first | assumption | omega | (simp only [LS] <;> omega) | (simp only [List.not_mem_nil, List.mem_cons, or_false, not_false_eq_true, not_or] <;> omega)) only [CS, RS3, RS4]; rfl, ?_, by simp [hes], ?_, ?_, by (try dsimp only); omega, by (try dsimp only); omega, ?_⟩
      · refine .blk (by rw [ents_snoc]; simp (disch := first | assumption | omega | (simp only [LS] <;> omega) | (simp only [List.not_mem_nil, List.mem_cons, or_false, not_false_eq_true, not_or] <;> omega)) only [CS, RS3, RS4]; rfl) ?_
        rw [ents_len]; simp [hes]
      · intro b hb
        simp only [Option.some.injEq] at hb
        subst hb
        refine ⟨by omega, by (try dsimp only); omega, by omega, by omega⟩
      · ((try dsimp only); refine Own.of (by omega) ?_; repeat (first | exact OwnK.nil | refine OwnK.cons (.inl (by omega)) ?_ | refine OwnK.kill (fun b hb => .inl (by have := hoe b hb; omega)) ?_ | refine OwnK.cons (.inr (by simp)) ?_ | exact OwnK.one (by assumption) (by omega) (by omega) (by simp <;> omega) | refine OwnK.app (by assumption) (by omega) (by omega) (by simp <;> omega) ?_))
      · rw [← hd, show min N 5 - (i + 1) = k by omega]; simp
  · have hk : min N 5 - i = 0 := by omega
    rw [hk, decL, List.append_nil] at hd
    have hgc' := hgc
    simp only [curV] at hgc'
    repeat (first | simp only [RS0, RS1, RS2, RS3, RS4, reduceIte, Nat.reduceEqDiff, Nat.reduceAdd, Nat.reduceLeDiff, Nat.reduceLT, Nat.reduceMul, Int.reduceToNat, Int.reduceLT, Int.reduceLE, Int.reduceAdd, Int.reduceSub, Int.reduceMul, Int.reduceEq, Int.reduceNe, Nat.reduceSub, reduceCtorEq, boxF, if_true, if_false, forall_const, implies_true, ne_eq, g_spec_Decode_L0, h4, h6, h7, h8, hgc', spec_l01In_rw, impl_within_rw, impl_isNode_rw, impl_isTerm_rw, impl_isIndex_rw, spec_l17Flag_rw] | simp (disch := first | assumption | omega | (simp only [LS] <;> omega) | (simp only [List.not_mem_nil, List.mem_cons, or_false, not_false_eq_true, not_or] <;> omega)) only [CS, g_spec_Decode_L0, h4, h6, h7, h8, hgc'] | simp only [condK_B, guardK_Bt, guardK_Bf])
    repeat' (first | apply And.intro | intro _)
    all_goals first
      | omega
      | exact hE _ _ (by decide) (hT _ _ _ ve oe (by simp [h0]) (by simp [h2]) ⟨o, hgo, hlo⟩ (by simp [h4]) (by simp [h6]) (by rw [← hd]; exact hgc) hgm (by rw [← hd]; exact hve) hoe ho hbc1 hbm1)
end
end Go.Proofs.Ytfcglkajekohiaa
