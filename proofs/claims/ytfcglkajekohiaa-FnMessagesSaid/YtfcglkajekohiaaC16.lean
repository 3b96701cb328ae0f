/- Contracts: the reference's reader of messages, whole. -/
import Derived.Test.YtfcglkajekohiaaC15
set_option linter.unusedSimpArgs false
set_option linter.unusedVariables false
set_option maxRecDepth 20000
namespace Go.Proofs.Ytfcglkajekohiaa
open Go Go.Proofs.Ytfcglkajekohiaa.AM

def msg0 : Msg := ⟨0, 0, 0, 0, 0, 0, 0, false, [], [], [], false⟩
def confR (t : List UInt8) : List Int := if confOk (ints t) = true then ints t else []
/-- What the reference makes of a message's text ahead of its look back: whether it is bad, and the message. -/
def decSm (t : List UInt8) : Bool × Msg :=
  let hd := cTake t (0, false) 3
  let a := cVar t hd.2
  let b := cVar t a.2
  let l := cVar t b.2
  let cm := cVar t l.2
  let ok := cTake t cm.2 1
  let la := cTake t ok.2 1
  let n := cVar t la.2
  let es := decL t (min n.1 5) n.2
  let cf := cShort t es.2
  let da := cShort t cf.2
  (da.2.2, ⟨(hd.1.getD 0 0).toNat, (hd.1.getD 1 0).toNat, (hd.1.getD 2 0).toNat, a.1, b.1, l.1, cm.1, decide (ok.1 = [1]), es.1, confR cf.1, da.1, decide (la.1 = [1])⟩)
def decS (t : List UInt8) : Option Msg :=
  if (cTake t (0, false) 3).2.2 = true then none
  else if (decSm t).1 = true then none
  else if msgOk (decSm t).2 = true ∧ msgText (decSm t).2 = t then some (decSm t).2 else none

section
variable {prim : Nat → List Value → Option Value} {H : AHeap} {c : Nat} {Q : Value → AHeap → Nat → Prop}

set_option maxHeartbeats 2000000 in
theorem spec_Decode_ok (t : List UInt8) (ht : t.length ≤ 10000000)
    (hN : decS t = none → ∀ d c', Own [] d c c' → Q (.tuple ⟨[ag (msgC msg0 (.slice none 0 0) (.slice none 0 0)), B false]⟩) d c')
    (hS : ∀ m, decS t = some m → ∀ d c' ve vc oe oc, Own [] d c c' → SlR (d ++ H) 3 ve (entsC m.entries) oe → SlR (d ++ H) 1 vc (m.conf.map I) oc → (∀ b, oe = some b → c ≤ b ∧ b < c') → (∀ b, oc = some b → c ≤ b ∧ b < c') → Q (.tuple ⟨[ag (msgC m ve vc), B true]⟩) d c') :
    Ev (tbl prim) n_spec_Decode [T t] H c Q := by
  refine Ev.fn (s_spec_Decode prim) rfl ?_
  repeat (first | simp only [RS0, RS1, RS2, RS3, RS4, reduceIte, Nat.reduceEqDiff, Nat.reduceAdd, Nat.reduceLeDiff, Nat.reduceLT, Nat.reduceMul, Int.reduceToNat, Int.reduceLT, Int.reduceLE, Int.reduceAdd, Int.reduceSub, Int.reduceMul, Int.reduceEq, Int.reduceNe, Nat.reduceSub, reduceCtorEq, boxF, if_true, if_false, forall_const, implies_true, ne_eq, g_spec_Decode, spec_l01In_rw, impl_within_rw, impl_isNode_rw, impl_isTerm_rw, impl_isIndex_rw, spec_l17Flag_rw] | simp (disch := first | assumption | omega | (simp only [LS] <;> omega) | (simp only [List.not_mem_nil, List.mem_cons, or_false, not_false_eq_true, not_or] <;> omega)) only [CS, g_spec_Decode] | simp only [condK_B, guardK_Bt, guardK_Bf])
  refine EvK.of (spec_l05Take_ok (c + 1) t (0, false) 3 (by omega) (by omega) (by simp (disch := first | assumption | omega | (simp only [LS] <;> omega) | (simp only [List.not_mem_nil, List.mem_cons, or_false, not_false_eq_true, not_or] <;> omega)) only [CS, RS3, RS4]; rfl) (by omega) (by simp) fun d1 c1 ho1 hd1 => ?_)
  have ho1_le := ho1.le
  have hb1 := cTake_le (t := t) (s := (0, false)) (n := 3) (by simp)
  have hbad : (cTake t (0, false) 3).2.2 = true → decS t = none := fun g => by unfold decS; rw [if_pos g]
  have hlen : (cTake t (0, false) 3).2.2 = false → (cTake t (0, false) 3).1.length = 3 := by
    intro hx
    unfold cTake at hx ⊢
    split at hx
    · simp at hx
    · rename_i hh
      rw [if_neg hh]
      simp; omega
  generalize hs1 : cTake t (0, false) 3 = hd at *
  simp only [curV] at hd1
  repeat (first | simp only [RS0, RS1, RS2, RS3, RS4, reduceIte, Nat.reduceEqDiff, Nat.reduceAdd, Nat.reduceLeDiff, Nat.reduceLT, Nat.reduceMul, Int.reduceToNat, Int.reduceLT, Int.reduceLE, Int.reduceAdd, Int.reduceSub, Int.reduceMul, Int.reduceEq, Int.reduceNe, Nat.reduceSub, reduceCtorEq, boxF, if_true, if_false, forall_const, implies_true, ne_eq, hd1, spec_l01In_rw, impl_within_rw, impl_isNode_rw, impl_isTerm_rw, impl_isIndex_rw, spec_l17Flag_rw] | simp (disch := first | assumption | omega | (simp only [LS] <;> omega) | (simp only [List.not_mem_nil, List.mem_cons, or_false, not_false_eq_true, not_or] <;> omega)) only [CS, hd1] | simp only [condK_B, guardK_Bt, guardK_Bf])
  refine ⟨fun g => hN (hbad g) _ _ (by ((try dsimp only); refine Own.of (by omega) ?_; repeat (first | exact OwnK.nil | refine OwnK.cons (.inl (by omega)) ?_ | refine OwnK.kill (fun b hb => .inl (by have := hoe b hb; omega)) ?_ | refine OwnK.cons (.inr (by simp)) ?_ | exact OwnK.one (by assumption) (by omega) (by omega) (by simp <;> omega) | refine OwnK.app (by assumption) (by omega) (by omega) (by simp <;> omega) ?_))), fun g => ?_⟩
  have hl3 := hlen g
  refine ⟨by omega, by omega, by omega, ?_⟩
  refine EvK.of (spec_l05Var_ok (c + 1) t hd.2 (by omega) (by simp (disch := first | assumption | omega | (simp only [LS] <;> omega) | (simp only [List.not_mem_nil, List.mem_cons, or_false, not_false_eq_true, not_or] <;> omega)) only [CS, hd1, RS3, RS4]; rfl) (by omega) hb1 fun d2 c2 ho2 hd2 => ?_)
  have ho2_le := ho2.le
  have hb2 := (cVar_le hb1).1
  generalize hs2 : cVar t hd.2 = a at *
  repeat (first | simp only [RS0, RS1, RS2, RS3, RS4, reduceIte, Nat.reduceEqDiff, Nat.reduceAdd, Nat.reduceLeDiff, Nat.reduceLT, Nat.reduceMul, Int.reduceToNat, Int.reduceLT, Int.reduceLE, Int.reduceAdd, Int.reduceSub, Int.reduceMul, Int.reduceEq, Int.reduceNe, Nat.reduceSub, reduceCtorEq, boxF, if_true, if_false, forall_const, implies_true, ne_eq, spec_l01In_rw, impl_within_rw, impl_isNode_rw, impl_isTerm_rw, impl_isIndex_rw, spec_l17Flag_rw] | simp (disch := first | assumption | omega | (simp only [LS] <;> omega) | (simp only [List.not_mem_nil, List.mem_cons, or_false, not_false_eq_true, not_or] <;> omega)) only [CS] | simp only [condK_B, guardK_Bt, guardK_Bf])
  refine EvK.of (spec_l05Var_ok (c + 1) t a.2 (by omega) (by simp (disch := first | assumption | omega | (simp only [LS] <;> omega) | (simp only [List.not_mem_nil, List.mem_cons, or_false, not_false_eq_true, not_or] <;> omega)) only [CS, hd2, RS3, RS4]) (by omega) hb2 fun d3 c3 ho3 hd3 => ?_)
  have ho3_le := ho3.le
  have hb3 := (cVar_le hb2).1
  generalize hs3 : cVar t a.2 = b at *
  repeat (first | simp only [RS0, RS1, RS2, RS3, RS4, reduceIte, Nat.reduceEqDiff, Nat.reduceAdd, Nat.reduceLeDiff, Nat.reduceLT, Nat.reduceMul, Int.reduceToNat, Int.reduceLT, Int.reduceLE, Int.reduceAdd, Int.reduceSub, Int.reduceMul, Int.reduceEq, Int.reduceNe, Nat.reduceSub, reduceCtorEq, boxF, if_true, if_false, forall_const, implies_true, ne_eq, spec_l01In_rw, impl_within_rw, impl_isNode_rw, impl_isTerm_rw, impl_isIndex_rw, spec_l17Flag_rw] | simp (disch := first | assumption | omega | (simp only [LS] <;> omega) | (simp only [List.not_mem_nil, List.mem_cons, or_false, not_false_eq_true, not_or] <;> omega)) only [CS] | simp only [condK_B, guardK_Bt, guardK_Bf])
  refine EvK.of (spec_l05Var_ok (c + 1) t b.2 (by omega) (by simp (disch := first | assumption | omega | (simp only [LS] <;> omega) | (simp only [List.not_mem_nil, List.mem_cons, or_false, not_false_eq_true, not_or] <;> omega)) only [CS, hd3, RS3, RS4]) (by omega) hb3 fun d4 c4 ho4 hd4 => ?_)
  have ho4_le := ho4.le
  have hb4 := (cVar_le hb3).1
  generalize hs4 : cVar t b.2 = l at *
  repeat (first | simp only [RS0, RS1, RS2, RS3, RS4, reduceIte, Nat.reduceEqDiff, Nat.reduceAdd, Nat.reduceLeDiff, Nat.reduceLT, Nat.reduceMul, Int.reduceToNat, Int.reduceLT, Int.reduceLE, Int.reduceAdd, Int.reduceSub, Int.reduceMul, Int.reduceEq, Int.reduceNe, Nat.reduceSub, reduceCtorEq, boxF, if_true, if_false, forall_const, implies_true, ne_eq, spec_l01In_rw, impl_within_rw, impl_isNode_rw, impl_isTerm_rw, impl_isIndex_rw, spec_l17Flag_rw] | simp (disch := first | assumption | omega | (simp only [LS] <;> omega) | (simp only [List.not_mem_nil, List.mem_cons, or_false, not_false_eq_true, not_or] <;> omega)) only [CS] | simp only [condK_B, guardK_Bt, guardK_Bf])
  refine EvK.of (spec_l05Var_ok (c + 1) t l.2 (by omega) (by simp (disch := first | assumption | omega | (simp only [LS] <;> omega) | (simp only [List.not_mem_nil, List.mem_cons, or_false, not_false_eq_true, not_or] <;> omega)) only [CS, hd4, RS3, RS4]) (by omega) hb4 fun d5 c5 ho5 hd5 => ?_)
  have ho5_le := ho5.le
  have hb5 := (cVar_le hb4).1
  generalize hs5 : cVar t l.2 = cm at *
  repeat (first | simp only [RS0, RS1, RS2, RS3, RS4, reduceIte, Nat.reduceEqDiff, Nat.reduceAdd, Nat.reduceLeDiff, Nat.reduceLT, Nat.reduceMul, Int.reduceToNat, Int.reduceLT, Int.reduceLE, Int.reduceAdd, Int.reduceSub, Int.reduceMul, Int.reduceEq, Int.reduceNe, Nat.reduceSub, reduceCtorEq, boxF, if_true, if_false, forall_const, implies_true, ne_eq, spec_l01In_rw, impl_within_rw, impl_isNode_rw, impl_isTerm_rw, impl_isIndex_rw, spec_l17Flag_rw] | simp (disch := first | assumption | omega | (simp only [LS] <;> omega) | (simp only [List.not_mem_nil, List.mem_cons, or_false, not_false_eq_true, not_or] <;> omega)) only [CS] | simp only [condK_B, guardK_Bt, guardK_Bf])
  refine EvK.of (spec_l05Take_ok (c + 1) t cm.2 1 (by omega) (by omega) (by simp (disch := first | assumption | omega | (simp only [LS] <;> omega) | (simp only [List.not_mem_nil, List.mem_cons, or_false, not_false_eq_true, not_or] <;> omega)) only [CS, hd5, RS3, RS4]) (by omega) hb5 fun d6 c6 ho6 hd6 => ?_)
  have ho6_le := ho6.le
  have hb6 := cTake_le (n := 1) hb5
  generalize hs6 : cTake t cm.2 1 = ok at *
  repeat (first | simp only [RS0, RS1, RS2, RS3, RS4, reduceIte, Nat.reduceEqDiff, Nat.reduceAdd, Nat.reduceLeDiff, Nat.reduceLT, Nat.reduceMul, Int.reduceToNat, Int.reduceLT, Int.reduceLE, Int.reduceAdd, Int.reduceSub, Int.reduceMul, Int.reduceEq, Int.reduceNe, Nat.reduceSub, reduceCtorEq, boxF, if_true, if_false, forall_const, implies_true, ne_eq, spec_l01In_rw, impl_within_rw, impl_isNode_rw, impl_isTerm_rw, impl_isIndex_rw, spec_l17Flag_rw] | simp (disch := first | assumption | omega | (simp only [LS] <;> omega) | (simp only [List.not_mem_nil, List.mem_cons, or_false, not_false_eq_true, not_or] <;> omega)) only [CS] | simp only [condK_B, guardK_Bt, guardK_Bf])
  refine EvK.of (spec_l05Take_ok (c + 1) t ok.2 1 (by omega) (by omega) (by simp (disch := first | assumption | omega | (simp only [LS] <;> omega) | (simp only [List.not_mem_nil, List.mem_cons, or_false, not_false_eq_true, not_or] <;> omega)) only [CS, hd6, RS3, RS4]) (by omega) hb6 fun d7 c7 ho7 hd7 => ?_)
  have ho7_le := ho7.le
  have hb7 := cTake_le (n := 1) hb6
  generalize hs7 : cTake t ok.2 1 = la at *
  repeat (first | simp only [RS0, RS1, RS2, RS3, RS4, reduceIte, Nat.reduceEqDiff, Nat.reduceAdd, Nat.reduceLeDiff, Nat.reduceLT, Nat.reduceMul, Int.reduceToNat, Int.reduceLT, Int.reduceLE, Int.reduceAdd, Int.reduceSub, Int.reduceMul, Int.reduceEq, Int.reduceNe, Nat.reduceSub, reduceCtorEq, boxF, if_true, if_false, forall_const, implies_true, ne_eq, spec_l01In_rw, impl_within_rw, impl_isNode_rw, impl_isTerm_rw, impl_isIndex_rw, spec_l17Flag_rw] | simp (disch := first | assumption | omega | (simp only [LS] <;> omega) | (simp only [List.not_mem_nil, List.mem_cons, or_false, not_false_eq_true, not_or] <;> omega)) only [CS] | simp only [condK_B, guardK_Bt, guardK_Bf])
  refine EvK.of (spec_l05Var_ok (c + 1) t la.2 (by omega) (by simp (disch := first | assumption | omega | (simp only [LS] <;> omega) | (simp only [List.not_mem_nil, List.mem_cons, or_false, not_false_eq_true, not_or] <;> omega)) only [CS, hd7, RS3, RS4]) (by omega) hb7 fun d8 c8 ho8 hd8 => ?_)
  have ho8_le := ho8.le
  have hb8 := cVar_le hb7
  generalize hs8 : cVar t la.2 = n at *
  repeat (first | simp only [RS0, RS1, RS2, RS3, RS4, reduceIte, Nat.reduceEqDiff, Nat.reduceAdd, Nat.reduceLeDiff, Nat.reduceLT, Nat.reduceMul, Int.reduceToNat, Int.reduceLT, Int.reduceLE, Int.reduceAdd, Int.reduceSub, Int.reduceMul, Int.reduceEq, Int.reduceNe, Nat.reduceSub, reduceCtorEq, boxF, if_true, if_false, forall_const, implies_true, ne_eq, spec_l01In_rw, impl_within_rw, impl_isNode_rw, impl_isTerm_rw, impl_isIndex_rw, spec_l17Flag_rw] | simp (disch := first | assumption | omega | (simp only [LS] <;> omega) | (simp only [List.not_mem_nil, List.mem_cons, or_false, not_false_eq_true, not_or] <;> omega)) only [CS] | simp only [condK_B, guardK_Bt, guardK_Bf])
  refine spec_Decode_L0_ok (c := c) t (by omega) n.1 hb8.2 ⟨(hd.1.getD 0 0).toNat, (hd.1.getD 1 0).toNat, (hd.1.getD 2 0).toNat, a.1, b.1, l.1, cm.1, decide (ok.1 = [1]), [], [], [], decide (la.1 = [1])⟩ (c + 1) c1 (by omega) (by omega) (by omega) n.2 hb8.1 (by simp) (by simp) (by simp) (by simp) (by simp (disch := first | assumption | omega | (simp only [LS] <;> omega) | (simp only [List.not_mem_nil, List.mem_cons, or_false, not_false_eq_true, not_or] <;> omega)) only [CS, hd8, RS3, RS4]) (by simp (disch := first | assumption | omega | (simp only [LS] <;> omega) | (simp only [List.not_mem_nil, List.mem_cons, or_false, not_false_eq_true, not_or] <;> omega)) only [CS, RS3, RS4]; rfl) (by ((try dsimp only); refine Own.of (by omega) ?_; repeat (first | exact OwnK.nil | refine OwnK.cons (.inl (by omega)) ?_ | refine OwnK.kill (fun b hb => .inl (by have := hoe b hb; omega)) ?_ | refine OwnK.cons (.inr (by simp)) ?_ | exact OwnK.one (by assumption) (by omega) (by omega) (by simp <;> omega) | refine OwnK.app (by assumption) (by omega) (by omega) (by simp <;> omega) ?_))) (by (try dsimp only); omega) (by (try dsimp only); omega) (by simp) (by simp) ⟨_, by simp (disch := first | assumption | omega | (simp only [LS] <;> omega) | (simp only [List.not_mem_nil, List.mem_cons, or_false, not_false_eq_true, not_or] <;> omega)) only [CS, RS3, RS4]; rfl, rfl⟩ (by omega) (by omega) ?_
  clear hd8 hd7 hd6 hd5 hd4 hd3 hd2 hd1 ho8 ho7 ho6 ho5 ho4 ho3 ho2 ho1
  intro ts u c9 ve oe h0 h2 ⟨o, hgo, hlo⟩ h4 h6 hgc hgm hve hoe ho hcc hcm
  have hel := decL_le (k := min n.1 5) hb8.1
  generalize hs9 : decL t (min n.1 5) n.2 = es at *
  simp only [msgC] at hgm
  repeat (first | simp only [RS0, RS1, RS2, RS3, RS4, reduceIte, Nat.reduceEqDiff, Nat.reduceAdd, Nat.reduceLeDiff, Nat.reduceLT, Nat.reduceMul, Int.reduceToNat, Int.reduceLT, Int.reduceLE, Int.reduceAdd, Int.reduceSub, Int.reduceMul, Int.reduceEq, Int.reduceNe, Nat.reduceSub, reduceCtorEq, boxF, if_true, if_false, forall_const, implies_true, ne_eq, h4, h6, spec_l01In_rw, impl_within_rw, impl_isNode_rw, impl_isTerm_rw, impl_isIndex_rw, spec_l17Flag_rw] | simp (disch := first | assumption | omega | (simp only [LS] <;> omega) | (simp only [List.not_mem_nil, List.mem_cons, or_false, not_false_eq_true, not_or] <;> omega)) only [CS, h4, h6] | simp only [condK_B, guardK_Bt, guardK_Bf])
  obtain ⟨hk1, hk2⟩ := cShort_le hel.1
  refine EvK.of (spec_l05ReadShort_ok (c + 1) t es.2 (by omega) hgc hcc hel.1 fun d10 c10 ho10 hd10 => ?_)
  have ho10_le := ho10.le
  generalize hs10 : cShort t es.2 = cf at *
  repeat (first | simp only [RS0, RS1, RS2, RS3, RS4, reduceIte, Nat.reduceEqDiff, Nat.reduceAdd, Nat.reduceLeDiff, Nat.reduceLT, Nat.reduceMul, Int.reduceToNat, Int.reduceLT, Int.reduceLE, Int.reduceAdd, Int.reduceSub, Int.reduceMul, Int.reduceEq, Int.reduceNe, Nat.reduceSub, reduceCtorEq, boxF, if_true, if_false, forall_const, implies_true, ne_eq, spec_l01In_rw, impl_within_rw, impl_isNode_rw, impl_isTerm_rw, impl_isIndex_rw, spec_l17Flag_rw] | simp (disch := first | assumption | omega | (simp only [LS] <;> omega) | (simp only [List.not_mem_nil, List.mem_cons, or_false, not_false_eq_true, not_or] <;> omega)) only [CS] | simp only [condK_B, guardK_Bt, guardK_Bf])
  refine EvK.of (spec_ReadConf_ok cf.1 (by omega) fun d11 c11 vc oc ho11 hvc hoc => ?_)
  have ho11_le := ho11.le
  repeat (first | simp only [RS0, RS1, RS2, RS3, RS4, reduceIte, Nat.reduceEqDiff, Nat.reduceAdd, Nat.reduceLeDiff, Nat.reduceLT, Nat.reduceMul, Int.reduceToNat, Int.reduceLT, Int.reduceLE, Int.reduceAdd, Int.reduceSub, Int.reduceMul, Int.reduceEq, Int.reduceNe, Nat.reduceSub, reduceCtorEq, boxF, if_true, if_false, forall_const, implies_true, ne_eq, hgm, h4, h6, hvc.cl, hvc.isC, spec_l01In_rw, impl_within_rw, impl_isNode_rw, impl_isTerm_rw, impl_isIndex_rw, spec_l17Flag_rw] | simp (disch := first | assumption | omega | (simp only [LS] <;> omega) | (simp only [List.not_mem_nil, List.mem_cons, or_false, not_false_eq_true, not_or] <;> omega)) only [CS, hgm, h4, h6, hvc.cl, hvc.isC] | simp only [condK_B, guardK_Bt, guardK_Bf])
  obtain ⟨hk3, hk4⟩ := cShort_le hk1
  refine EvK.of (spec_l05ReadShort_ok (c + 1) t cf.2 (by omega) (by simp (disch := first | assumption | omega | (simp only [LS] <;> omega) | (simp only [List.not_mem_nil, List.mem_cons, or_false, not_false_eq_true, not_or] <;> omega)) only [CS, hd10, RS3, RS4]) (by omega) hk1 fun d12 c12 ho12 hd12 => ?_)
  have ho12_le := ho12.le
  generalize hs12 : cShort t cf.2 = da at *
  repeat (first | simp only [RS0, RS1, RS2, RS3, RS4, reduceIte, Nat.reduceEqDiff, Nat.reduceAdd, Nat.reduceLeDiff, Nat.reduceLT, Nat.reduceMul, Int.reduceToNat, Int.reduceLT, Int.reduceLE, Int.reduceAdd, Int.reduceSub, Int.reduceMul, Int.reduceEq, Int.reduceNe, Nat.reduceSub, reduceCtorEq, boxF, if_true, if_false, forall_const, implies_true, ne_eq, h6, spec_l01In_rw, impl_within_rw, impl_isNode_rw, impl_isTerm_rw, impl_isIndex_rw, spec_l17Flag_rw] | simp (disch := first | assumption | omega | (simp only [LS] <;> omega) | (simp only [List.not_mem_nil, List.mem_cons, or_false, not_false_eq_true, not_or] <;> omega)) only [CS, h6] | simp only [condK_B, guardK_Bt, guardK_Bf])
  obtain ⟨m, hm⟩ : ∃ m : Msg, m = ⟨(hd.1.getD 0 0).toNat, (hd.1.getD 1 0).toNat, (hd.1.getD 2 0).toNat, a.1, b.1, l.1, cm.1, decide (ok.1 = [1]), es.1, confR cf.1, da.1, decide (la.1 = [1])⟩ := ⟨_, rfl⟩
  have hdec : decSm t = (da.2.2, m) := by rw [hm]; simp only [decSm, hs1, hs2, hs3, hs4, hs5, hs6, hs7, hs8, hs9, hs10, hs12]
  have hdS : decS t = if da.2.2 = true then none else if msgOk m = true ∧ msgText m = t then some m else none := by
    unfold decS; rw [hs1, g, hdec]; rfl
  have e1 : m.entries = es.1 := by rw [hm]
  have e2 : m.conf = confR cf.1 := by rw [hm]
  have e3 : m.data = da.1 := by rw [hm]
  have hcl : (confR cf.1).length ≤ cf.1.length := by
    unfold confR; split
    · simp [ints]
    · simp
  have hvc' : SlR (d11 ++ (d10 ++ (u ++ H))) 1 vc (m.conf.map I) oc := by rw [e2]; exact hvc
  rw [← e1] at hve hel
  have hag : [I ↑(hd.1.getD 0 0).toNat, I ↑(hd.1.getD 1 0).toNat, I ↑(hd.1.getD 2 0).toNat, I ↑a.1, I ↑b.1, I ↑l.1, I ↑cm.1, B (decide (ok.1 = [1])), ve, vc, .string (bs da.1), B (decide (la.1 = [1]))] = msgC m ve vc := by rw [hm]; rfl
  simp only [hag]
  refine EvK.of (spec_Encode_ok m ve vc oe oc (hve.of_get (fun b hb => by have := hoe b hb; simp (disch := first | assumption | omega | (simp only [LS] <;> omega) | (simp only [List.not_mem_nil, List.mem_cons, or_false, not_false_eq_true, not_or] <;> omega)) only [CS, RS3, RS4])) (hvc'.of_get (fun b hb => by have := hoc b hb; simp (disch := first | assumption | omega | (simp only [LS] <;> omega) | (simp only [List.not_mem_nil, List.mem_cons, or_false, not_false_eq_true, not_or] <;> omega)) only [CS, RS3, RS4])) (fun b hb => by have := hoe b hb; omega) (fun b hb => by have := hoc b hb; omega) (by omega) (by rw [e2]; omega) (fun e he => by have := hel.2.2 e he; omega) (by rw [e3]; omega) fun d13 c13 ho13 => ?_)
  have ho13_le := ho13.le
  simp only [curV] at hd12
  have hmc : msgC m ve vc = [I m.kind, I m.src, I m.dst, I m.term, I m.index, I m.logTerm, I m.commit, B m.ok, ve, vc, T m.data, B m.last] := rfl
  have hmc0 : msgC msg0 (.slice none 0 0) (.slice none 0 0) = [I 0, I 0, I 0, I 0, I 0, I 0, I 0, .bool false, .slice none 0 0, .slice none 0 0, E, .bool false] := rfl
  rw [hmc0] at hN
  simp only [hmc] at hS ⊢
  repeat (first | simp only [RS0, RS1, RS2, RS3, RS4, reduceIte, Nat.reduceEqDiff, Nat.reduceAdd, Nat.reduceLeDiff, Nat.reduceLT, Nat.reduceMul, Int.reduceToNat, Int.reduceLT, Int.reduceLE, Int.reduceAdd, Int.reduceSub, Int.reduceMul, Int.reduceEq, Int.reduceNe, Nat.reduceSub, reduceCtorEq, boxF, if_true, if_false, forall_const, implies_true, ne_eq, h0, h2, h4, h6, hd12, hgo, hve.isC, hvc.isC, hve.cl, hvc.cl, spec_l01In_rw, impl_within_rw, impl_isNode_rw, impl_isTerm_rw, impl_isIndex_rw, spec_l17Flag_rw] | simp (disch := first | assumption | omega | (simp only [LS] <;> omega) | (simp only [List.not_mem_nil, List.mem_cons, or_false, not_false_eq_true, not_or] <;> omega)) only [CS, h0, h2, h4, h6, hd12, hgo, hve.isC, hvc.isC, hve.cl, hvc.cl] | simp only [condK_B, guardK_Bt, guardK_Bf])
  repeat' (first | apply And.intro | intro _)
  all_goals first
    | omega
    | exact hN (by rw [hdS, if_pos ‹_›]) _ _ (by ((try dsimp only); refine Own.of (by omega) ?_; repeat (first | exact OwnK.nil | refine OwnK.cons (.inl (by omega)) ?_ | refine OwnK.kill (fun b hb => .inl (by have := hoe b hb; omega)) ?_ | refine OwnK.cons (.inr (by simp)) ?_ | exact OwnK.one (by assumption) (by omega) (by omega) (by simp <;> omega) | refine OwnK.app (by assumption) (by omega) (by omega) (by simp <;> omega) ?_)))
    | exact hN (by rw [hdS, if_neg (by simp_all), if_neg (by simp_all)]) _ _ (by ((try dsimp only); refine Own.of (by omega) ?_; repeat (first | exact OwnK.nil | refine OwnK.cons (.inl (by omega)) ?_ | refine OwnK.kill (fun b hb => .inl (by have := hoe b hb; omega)) ?_ | refine OwnK.cons (.inr (by simp)) ?_ | exact OwnK.one (by assumption) (by omega) (by omega) (by simp <;> omega) | refine OwnK.app (by assumption) (by omega) (by omega) (by simp <;> omega) ?_)))
    | skip
  refine hS m (by rw [hdS, if_neg (by simp_all), if_pos (by simp_all)]) _ _ ve vc oe oc ?_ ?_ ?_ ?_ ?_
  · ((try dsimp only); refine Own.of (by omega) ?_; repeat (first | exact OwnK.nil | refine OwnK.cons (.inl (by omega)) ?_ | refine OwnK.kill (fun b hb => .inl (by have := hoe b hb; omega)) ?_ | refine OwnK.cons (.inr (by simp)) ?_ | exact OwnK.one (by assumption) (by omega) (by omega) (by simp <;> omega) | refine OwnK.app (by assumption) (by omega) (by omega) (by simp <;> omega) ?_))
  · exact hve.of_get (fun b hb => by have := hoe b hb; simp (disch := first | assumption | omega | (simp only [LS] <;> omega) | (simp only [List.not_mem_nil, List.mem_cons, or_false, not_false_eq_true, not_or] <;> omega)) only [CS, RS3, RS4])
  · exact hvc'.of_get (fun b hb => by have := hoc b hb; simp (disch := first | assumption | omega | (simp only [LS] <;> omega) | (simp only [List.not_mem_nil, List.mem_cons, or_false, not_false_eq_true, not_or] <;> omega)) only [CS, RS3, RS4])
  · intro b hb; have := hoe b hb; omega
  · intro b hb; have := hoc b hb; omega
end
end Go.Proofs.Ytfcglkajekohiaa
