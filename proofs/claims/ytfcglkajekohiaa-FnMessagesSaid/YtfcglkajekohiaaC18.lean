/- Contracts: the program's reader of messages, whole. -/
import Derived.Test.YtfcglkajekohiaaC17
set_option linter.unusedSimpArgs false
set_option linter.unusedVariables false
set_option maxRecDepth 20000
namespace Go.Proofs.Ytfcglkajekohiaa
open Go Go.Proofs.Ytfcglkajekohiaa.AM

def decI2 (t : List UInt8) (k f g a b l cm : Nat × Cur) (ok la : Bool × Cur) (n : Nat × Cur) : Option Msg :=
  match decLI t n.1 n.2 with
  | none => none
  | some (es, s) =>
    if ((cShortI t (cShortI t s).2).2.2 = false ∧ (cShortI t (cShortI t s).2).2.1 = t.length) ∧ msgOk ⟨k.1, f.1, g.1, a.1, b.1, l.1, cm.1, ok.1, es, ints (cShortI t s).1, (cShortI t (cShortI t s).2).1, la.1⟩ = true
    then some ⟨k.1, f.1, g.1, a.1, b.1, l.1, cm.1, ok.1, es, ints (cShortI t s).1, (cShortI t (cShortI t s).2).1, la.1⟩ else none
def decI (t : List UInt8) : Option Msg :=
  let k := cOne t (0, false)
  let f := cOne t k.2
  let g := cOne t f.2
  let a := cVar t g.2
  let b := cVar t a.2
  let l := cVar t b.2
  let cm := cVar t l.2
  let ok := cSign t cm.2
  let la := cSign t ok.2
  let n := cCount t la.2 4
  decI2 t k f g a b l cm ok la n
theorem decI_eq {t : List UInt8} {k f g a b l cm : Nat × Cur} {ok la : Bool × Cur} {n : Nat × Cur} (h1 : cOne t (0, false) = k) (h2 : cOne t k.2 = f) (h3 : cOne t f.2 = g) (h4 : cVar t g.2 = a) (h5 : cVar t a.2 = b) (h6 : cVar t b.2 = l) (h7 : cVar t l.2 = cm)
    (h8 : cSign t cm.2 = ok) (h9 : cSign t ok.2 = la) (h10 : cCount t la.2 4 = n) : decI t = decI2 t k f g a b l cm ok la n := by
  subst h1 h2 h3 h4 h5 h6 h7 h8 h9 h10
  rfl

section
variable {prim : Nat → List Value → Option Value} {H : AHeap} {c : Nat} {Q : Value → AHeap → Nat → Prop}

set_option maxHeartbeats 2000000 in
theorem impl_Decode_ok (t : List UInt8) (ht : t.length ≤ 10000000)
    (hN : decI t = none → ∀ d c', Own [] d c c' → Q (.tuple ⟨[ag (msgC msg0 (.slice none 0 0) (.slice none 0 0)), B false]⟩) d c')
    (hS : ∀ m, decI t = some m → ∀ d c' ve vc oe oc, Own [] d c c' → SlR (d ++ H) 3 ve (entsC m.entries) oe → SlR (d ++ H) 1 vc (m.conf.map I) oc → (∀ b, oe = some b → c ≤ b ∧ b < c') → (∀ b, oc = some b → c ≤ b ∧ b < c') → (∀ b, oe = some b → oc ≠ some b) → Q (.tuple ⟨[ag (msgC m ve vc), B true]⟩) d c') :
    Ev (tbl prim) n_impl_Decode [T t] H c Q := by
  refine Ev.fn (s_impl_Decode prim) rfl ?_
  repeat (first | simp only [RS0, RS1, RS2, RS3, RS4, reduceIte, Nat.reduceEqDiff, Nat.reduceAdd, Nat.reduceLeDiff, Nat.reduceLT, Nat.reduceMul, Int.reduceToNat, Int.reduceLT, Int.reduceLE, Int.reduceAdd, Int.reduceSub, Int.reduceMul, Int.reduceEq, Int.reduceNe, Nat.reduceSub, reduceCtorEq, boxF, if_true, if_false, forall_const, implies_true, ne_eq, g_impl_Decode, spec_l01In_rw, impl_within_rw, impl_isNode_rw, impl_isTerm_rw, impl_isIndex_rw, spec_l17Flag_rw] | simp (disch := first | assumption | omega | (simp only [LS] <;> omega) | (simp only [List.not_mem_nil, List.mem_cons, or_false, not_false_eq_true, not_or] <;> omega)) only [CS, g_impl_Decode] | simp only [condK_B, guardK_Bt, guardK_Bf])
  refine EvK.of (impl_scan_one_ok (c + 1) t (0, false) (by omega) (by simp (disch := first | assumption | omega | (simp only [LS] <;> omega) | (simp only [List.not_mem_nil, List.mem_cons, or_false, not_false_eq_true, not_or] <;> omega)) only [CS, RS3, RS4]; rfl) (by omega) (by simp) fun d1 c1 ho1 hd1 => ?_)
  have ho1_le := ho1.le
  have hb1 := (cOne_le (t := t) (s := (0, false)) (by simp)).1
  generalize hs1 : cOne t (0, false) = k at *
  repeat (first | simp only [RS0, RS1, RS2, RS3, RS4, reduceIte, Nat.reduceEqDiff, Nat.reduceAdd, Nat.reduceLeDiff, Nat.reduceLT, Nat.reduceMul, Int.reduceToNat, Int.reduceLT, Int.reduceLE, Int.reduceAdd, Int.reduceSub, Int.reduceMul, Int.reduceEq, Int.reduceNe, Nat.reduceSub, reduceCtorEq, boxF, if_true, if_false, forall_const, implies_true, ne_eq, spec_l01In_rw, impl_within_rw, impl_isNode_rw, impl_isTerm_rw, impl_isIndex_rw, spec_l17Flag_rw] | simp (disch := first | assumption | omega | (simp only [LS] <;> omega) | (simp only [List.not_mem_nil, List.mem_cons, or_false, not_false_eq_true, not_or] <;> omega)) only [CS] | simp only [condK_B, guardK_Bt, guardK_Bf])
  refine EvK.of (impl_scan_one_ok (c + 1) t k.2 (by omega) (by simp (disch := first | assumption | omega | (simp only [LS] <;> omega) | (simp only [List.not_mem_nil, List.mem_cons, or_false, not_false_eq_true, not_or] <;> omega)) only [CS, hd1, RS3, RS4]) (by omega) hb1 fun d2 c2 ho2 hd2 => ?_)
  have ho2_le := ho2.le
  have hb2 := (cOne_le (t := t) (s := k.2) hb1).1
  generalize hs2 : cOne t k.2 = f at *
  repeat (first | simp only [RS0, RS1, RS2, RS3, RS4, reduceIte, Nat.reduceEqDiff, Nat.reduceAdd, Nat.reduceLeDiff, Nat.reduceLT, Nat.reduceMul, Int.reduceToNat, Int.reduceLT, Int.reduceLE, Int.reduceAdd, Int.reduceSub, Int.reduceMul, Int.reduceEq, Int.reduceNe, Nat.reduceSub, reduceCtorEq, boxF, if_true, if_false, forall_const, implies_true, ne_eq, spec_l01In_rw, impl_within_rw, impl_isNode_rw, impl_isTerm_rw, impl_isIndex_rw, spec_l17Flag_rw] | simp (disch := first | assumption | omega | (simp only [LS] <;> omega) | (simp only [List.not_mem_nil, List.mem_cons, or_false, not_false_eq_true, not_or] <;> omega)) only [CS] | simp only [condK_B, guardK_Bt, guardK_Bf])
  refine EvK.of (impl_scan_one_ok (c + 1) t f.2 (by omega) (by simp (disch := first | assumption | omega | (simp only [LS] <;> omega) | (simp only [List.not_mem_nil, List.mem_cons, or_false, not_false_eq_true, not_or] <;> omega)) only [CS, hd2, RS3, RS4]) (by omega) hb2 fun d3 c3 ho3 hd3 => ?_)
  have ho3_le := ho3.le
  have hb3 := (cOne_le (t := t) (s := f.2) hb2).1
  generalize hs3 : cOne t f.2 = g at *
  repeat (first | simp only [RS0, RS1, RS2, RS3, RS4, reduceIte, Nat.reduceEqDiff, Nat.reduceAdd, Nat.reduceLeDiff, Nat.reduceLT, Nat.reduceMul, Int.reduceToNat, Int.reduceLT, Int.reduceLE, Int.reduceAdd, Int.reduceSub, Int.reduceMul, Int.reduceEq, Int.reduceNe, Nat.reduceSub, reduceCtorEq, boxF, if_true, if_false, forall_const, implies_true, ne_eq, spec_l01In_rw, impl_within_rw, impl_isNode_rw, impl_isTerm_rw, impl_isIndex_rw, spec_l17Flag_rw] | simp (disch := first | assumption | omega | (simp only [LS] <;> omega) | (simp only [List.not_mem_nil, List.mem_cons, or_false, not_false_eq_true, not_or] <;> omega)) only [CS] | simp only [condK_B, guardK_Bt, guardK_Bf])
  refine EvK.of (impl_scan_number_ok (c + 1) t g.2 (by omega) (by simp (disch := first | assumption | omega | (simp only [LS] <;> omega) | (simp only [List.not_mem_nil, List.mem_cons, or_false, not_false_eq_true, not_or] <;> omega)) only [CS, hd3, RS3, RS4]) (by omega) hb3 fun d4 c4 ho4 hd4 => ?_)
  have ho4_le := ho4.le
  have hb4 := (cVar_le hb3).1
  generalize hs4 : cVar t g.2 = a at *
  repeat (first | simp only [RS0, RS1, RS2, RS3, RS4, reduceIte, Nat.reduceEqDiff, Nat.reduceAdd, Nat.reduceLeDiff, Nat.reduceLT, Nat.reduceMul, Int.reduceToNat, Int.reduceLT, Int.reduceLE, Int.reduceAdd, Int.reduceSub, Int.reduceMul, Int.reduceEq, Int.reduceNe, Nat.reduceSub, reduceCtorEq, boxF, if_true, if_false, forall_const, implies_true, ne_eq, spec_l01In_rw, impl_within_rw, impl_isNode_rw, impl_isTerm_rw, impl_isIndex_rw, spec_l17Flag_rw] | simp (disch := first | assumption | omega | (simp only [LS] <;> omega) | (simp only [List.not_mem_nil, List.mem_cons, or_false, not_false_eq_true, not_or] <;> omega)) only [CS] | simp only [condK_B, guardK_Bt, guardK_Bf])
  refine EvK.of (impl_scan_number_ok (c + 1) t a.2 (by omega) (by simp (disch := first | assumption | omega | (simp only [LS] <;> omega) | (simp only [List.not_mem_nil, List.mem_cons, or_false, not_false_eq_true, not_or] <;> omega)) only [CS, hd4, RS3, RS4]) (by omega) hb4 fun d5 c5 ho5 hd5 => ?_)
  have ho5_le := ho5.le
  have hb5 := (cVar_le hb4).1
  generalize hs5 : cVar t a.2 = b at *
  repeat (first | simp only [RS0, RS1, RS2, RS3, RS4, reduceIte, Nat.reduceEqDiff, Nat.reduceAdd, Nat.reduceLeDiff, Nat.reduceLT, Nat.reduceMul, Int.reduceToNat, Int.reduceLT, Int.reduceLE, Int.reduceAdd, Int.reduceSub, Int.reduceMul, Int.reduceEq, Int.reduceNe, Nat.reduceSub, reduceCtorEq, boxF, if_true, if_false, forall_const, implies_true, ne_eq, spec_l01In_rw, impl_within_rw, impl_isNode_rw, impl_isTerm_rw, impl_isIndex_rw, spec_l17Flag_rw] | simp (disch := first | assumption | omega | (simp only [LS] <;> omega) | (simp only [List.not_mem_nil, List.mem_cons, or_false, not_false_eq_true, not_or] <;> omega)) only [CS] | simp only [condK_B, guardK_Bt, guardK_Bf])
  refine EvK.of (impl_scan_number_ok (c + 1) t b.2 (by omega) (by simp (disch := first | assumption | omega | (simp only [LS] <;> omega) | (simp only [List.not_mem_nil, List.mem_cons, or_false, not_false_eq_true, not_or] <;> omega)) only [CS, hd5, RS3, RS4]) (by omega) hb5 fun d6 c6 ho6 hd6 => ?_)
  have ho6_le := ho6.le
  have hb6 := (cVar_le hb5).1
  generalize hs6 : cVar t b.2 = l at *
  repeat (first | simp only [RS0, RS1, RS2, RS3, RS4, reduceIte, Nat.reduceEqDiff, Nat.reduceAdd, Nat.reduceLeDiff, Nat.reduceLT, Nat.reduceMul, Int.reduceToNat, Int.reduceLT, Int.reduceLE, Int.reduceAdd, Int.reduceSub, Int.reduceMul, Int.reduceEq, Int.reduceNe, Nat.reduceSub, reduceCtorEq, boxF, if_true, if_false, forall_const, implies_true, ne_eq, spec_l01In_rw, impl_within_rw, impl_isNode_rw, impl_isTerm_rw, impl_isIndex_rw, spec_l17Flag_rw] | simp (disch := first | assumption | omega | (simp only [LS] <;> omega) | (simp only [List.not_mem_nil, List.mem_cons, or_false, not_false_eq_true, not_or] <;> omega)) only [CS] | simp only [condK_B, guardK_Bt, guardK_Bf])
  refine EvK.of (impl_scan_number_ok (c + 1) t l.2 (by omega) (by simp (disch := first | assumption | omega | (simp only [LS] <;> omega) | (simp only [List.not_mem_nil, List.mem_cons, or_false, not_false_eq_true, not_or] <;> omega)) only [CS, hd6, RS3, RS4]) (by omega) hb6 fun d7 c7 ho7 hd7 => ?_)
  have ho7_le := ho7.le
  have hb7 := (cVar_le hb6).1
  generalize hs7 : cVar t l.2 = cm at *
  repeat (first | simp only [RS0, RS1, RS2, RS3, RS4, reduceIte, Nat.reduceEqDiff, Nat.reduceAdd, Nat.reduceLeDiff, Nat.reduceLT, Nat.reduceMul, Int.reduceToNat, Int.reduceLT, Int.reduceLE, Int.reduceAdd, Int.reduceSub, Int.reduceMul, Int.reduceEq, Int.reduceNe, Nat.reduceSub, reduceCtorEq, boxF, if_true, if_false, forall_const, implies_true, ne_eq, spec_l01In_rw, impl_within_rw, impl_isNode_rw, impl_isTerm_rw, impl_isIndex_rw, spec_l17Flag_rw] | simp (disch := first | assumption | omega | (simp only [LS] <;> omega) | (simp only [List.not_mem_nil, List.mem_cons, or_false, not_false_eq_true, not_or] <;> omega)) only [CS] | simp only [condK_B, guardK_Bt, guardK_Bf])
  refine EvK.of (impl_scan_sign_ok (c + 1) t cm.2 (by omega) (by simp (disch := first | assumption | omega | (simp only [LS] <;> omega) | (simp only [List.not_mem_nil, List.mem_cons, or_false, not_false_eq_true, not_or] <;> omega)) only [CS, hd7, RS3, RS4]) (by omega) hb7 fun d8 c8 ho8 hd8 => ?_)
  have ho8_le := ho8.le
  have hb8 := cSign_le hb7
  generalize hs8 : cSign t cm.2 = ok at *
  repeat (first | simp only [RS0, RS1, RS2, RS3, RS4, reduceIte, Nat.reduceEqDiff, Nat.reduceAdd, Nat.reduceLeDiff, Nat.reduceLT, Nat.reduceMul, Int.reduceToNat, Int.reduceLT, Int.reduceLE, Int.reduceAdd, Int.reduceSub, Int.reduceMul, Int.reduceEq, Int.reduceNe, Nat.reduceSub, reduceCtorEq, boxF, if_true, if_false, forall_const, implies_true, ne_eq, spec_l01In_rw, impl_within_rw, impl_isNode_rw, impl_isTerm_rw, impl_isIndex_rw, spec_l17Flag_rw] | simp (disch := first | assumption | omega | (simp only [LS] <;> omega) | (simp only [List.not_mem_nil, List.mem_cons, or_false, not_false_eq_true, not_or] <;> omega)) only [CS] | simp only [condK_B, guardK_Bt, guardK_Bf])
  refine EvK.of (impl_scan_sign_ok (c + 1) t ok.2 (by omega) (by simp (disch := first | assumption | omega | (simp only [LS] <;> omega) | (simp only [List.not_mem_nil, List.mem_cons, or_false, not_false_eq_true, not_or] <;> omega)) only [CS, hd8, RS3, RS4]) (by omega) hb8 fun d9 c9 ho9 hd9 => ?_)
  have ho9_le := ho9.le
  have hb9 := cSign_le hb8
  generalize hs9 : cSign t ok.2 = la at *
  repeat (first | simp only [RS0, RS1, RS2, RS3, RS4, reduceIte, Nat.reduceEqDiff, Nat.reduceAdd, Nat.reduceLeDiff, Nat.reduceLT, Nat.reduceMul, Int.reduceToNat, Int.reduceLT, Int.reduceLE, Int.reduceAdd, Int.reduceSub, Int.reduceMul, Int.reduceEq, Int.reduceNe, Nat.reduceSub, reduceCtorEq, boxF, if_true, if_false, forall_const, implies_true, ne_eq, spec_l01In_rw, impl_within_rw, impl_isNode_rw, impl_isTerm_rw, impl_isIndex_rw, spec_l17Flag_rw] | simp (disch := first | assumption | omega | (simp only [LS] <;> omega) | (simp only [List.not_mem_nil, List.mem_cons, or_false, not_false_eq_true, not_or] <;> omega)) only [CS] | simp only [condK_B, guardK_Bt, guardK_Bf])
  refine EvK.of (impl_scan_count_ok (c + 1) t la.2 4 (by omega) (by simp (disch := first | assumption | omega | (simp only [LS] <;> omega) | (simp only [List.not_mem_nil, List.mem_cons, or_false, not_false_eq_true, not_or] <;> omega)) only [CS, hd9, RS3, RS4]) (by omega) hb9 fun d10 c10 ho10 hd10 => ?_)
  have ho10_le := ho10.le
  have hb10 := cCount_le (m := 4) hb9
  generalize hs10 : cCount t la.2 4 = n at *
  repeat (first | simp only [RS0, RS1, RS2, RS3, RS4, reduceIte, Nat.reduceEqDiff, Nat.reduceAdd, Nat.reduceLeDiff, Nat.reduceLT, Nat.reduceMul, Int.reduceToNat, Int.reduceLT, Int.reduceLE, Int.reduceAdd, Int.reduceSub, Int.reduceMul, Int.reduceEq, Int.reduceNe, Nat.reduceSub, reduceCtorEq, boxF, if_true, if_false, forall_const, implies_true, ne_eq, spec_l01In_rw, impl_within_rw, impl_isNode_rw, impl_isTerm_rw, impl_isIndex_rw, spec_l17Flag_rw] | simp (disch := first | assumption | omega | (simp only [LS] <;> omega) | (simp only [List.not_mem_nil, List.mem_cons, or_false, not_false_eq_true, not_or] <;> omega)) only [CS] | simp only [condK_B, guardK_Bt, guardK_Bf])
  refine impl_Decode_L0_ok (c := c) t (by omega) n.1 hb10.2 ⟨k.1, f.1, g.1, a.1, b.1, l.1, cm.1, ok.1, [], [], [], la.1⟩ (c + 1) (c + 1 + 1) (by omega) (by omega) (by omega) n.2 hb10.1 (by simp) (by simp) (by simp) (by simp) (by simp) (by simp (disch := first | assumption | omega | (simp only [LS] <;> omega) | (simp only [List.not_mem_nil, List.mem_cons, or_false, not_false_eq_true, not_or] <;> omega)) only [CS, hd10, RS3, RS4]) (by simp (disch := first | assumption | omega | (simp only [LS] <;> omega) | (simp only [List.not_mem_nil, List.mem_cons, or_false, not_false_eq_true, not_or] <;> omega)) only [CS, RS3, RS4]; rfl) (by simp (disch := first | assumption | omega | (simp only [LS] <;> omega) | (simp only [List.not_mem_nil, List.mem_cons, or_false, not_false_eq_true, not_or] <;> omega)) only [CS, RS3, RS4]; rfl) (by ((try dsimp only); refine Own.of (by omega) ?_; repeat (first | exact OwnK.nil | refine OwnK.cons (.inl (by omega)) ?_ | refine OwnK.kill (fun b hb => .inl (by have := hoe b hb; omega)) ?_ | refine OwnK.cons (.inr (by simp)) ?_ | exact OwnK.one (by assumption) (by omega) (by omega) (by simp <;> omega) | refine OwnK.app (by assumption) (by omega) (by omega) (by simp <;> omega) ?_))) (by (try dsimp only); omega) (by (try dsimp only); omega) ?_ ?_
  all_goals have hdec := decI_eq hs1 hs2 hs3 hs4 hs5 hs6 hs7 hs8 hs9 hs10
  all_goals clear hs1 hs2 hs3 hs4 hs5 hs6 hs7 hs8 hs9 hs10
  all_goals clear hd10 hd9 hd8 hd7 hd6 hd5 hd4 hd3 hd2 hd1 ho10 ho9 ho8 ho7 ho6 ho5 ho4 ho3 ho2 ho1
  · intro es s' hes ts u c11 ve oe h2 h4 h5 hgc hgm hg2 hve hoe ho hcc hcm
    obtain ⟨hk1, hk2, hk3⟩ := decLI_le hb10.1 hes
    repeat (first | simp only [RS0, RS1, RS2, RS3, RS4, reduceIte, Nat.reduceEqDiff, Nat.reduceAdd, Nat.reduceLeDiff, Nat.reduceLT, Nat.reduceMul, Int.reduceToNat, Int.reduceLT, Int.reduceLE, Int.reduceAdd, Int.reduceSub, Int.reduceMul, Int.reduceEq, Int.reduceNe, Nat.reduceSub, reduceCtorEq, boxF, if_true, if_false, forall_const, implies_true, ne_eq, h4, spec_l01In_rw, impl_within_rw, impl_isNode_rw, impl_isTerm_rw, impl_isIndex_rw, spec_l17Flag_rw] | simp (disch := first | assumption | omega | (simp only [LS] <;> omega) | (simp only [List.not_mem_nil, List.mem_cons, or_false, not_false_eq_true, not_or] <;> omega)) only [CS, h4] | simp only [condK_B, guardK_Bt, guardK_Bf])
    refine EvK.of (impl_scan_short_ok (c + 1) t s' (by omega) hgc hcc hk1 fun d12 c12 ho12 hd12 => ?_)
    have ho12_le := ho12.le
    have hk4 := cShortI_le hk1
    have hk5 := cShortI_len (t := t) (s := s')
    generalize hs12 : cShortI t s' = cf at *
    repeat (first | simp only [RS0, RS1, RS2, RS3, RS4, reduceIte, Nat.reduceEqDiff, Nat.reduceAdd, Nat.reduceLeDiff, Nat.reduceLT, Nat.reduceMul, Int.reduceToNat, Int.reduceLT, Int.reduceLE, Int.reduceAdd, Int.reduceSub, Int.reduceMul, Int.reduceEq, Int.reduceNe, Nat.reduceSub, reduceCtorEq, boxF, if_true, if_false, forall_const, implies_true, ne_eq, h4, spec_l01In_rw, impl_within_rw, impl_isNode_rw, impl_isTerm_rw, impl_isIndex_rw, spec_l17Flag_rw] | simp (disch := first | assumption | omega | (simp only [LS] <;> omega) | (simp only [List.not_mem_nil, List.mem_cons, or_false, not_false_eq_true, not_or] <;> omega)) only [CS, h4] | simp only [condK_B, guardK_Bt, guardK_Bf])
    refine impl_Decode_L1_ok (c := c) cf.1 (by omega) _ ve (c + 1) (c + 1 + 1) (by omega) (by simp [h2]) (by simp [h4]) (by simp [h5]) (by simp) (by simp) (by simp (disch := first | assumption | omega | (simp only [LS] <;> omega) | (simp only [List.not_mem_nil, List.mem_cons, or_false, not_false_eq_true, not_or] <;> omega)) only [CS, hgm, RS3, RS4]; rfl) ?_
    intro ts u' c13 vc oc h2 h4 h5 ho13 hgm' hvc hoc
    have ho13_le := ho13.le
    simp only [List.append_assoc] at hgm' hvc
    repeat (first | simp only [RS0, RS1, RS2, RS3, RS4, reduceIte, Nat.reduceEqDiff, Nat.reduceAdd, Nat.reduceLeDiff, Nat.reduceLT, Nat.reduceMul, Int.reduceToNat, Int.reduceLT, Int.reduceLE, Int.reduceAdd, Int.reduceSub, Int.reduceMul, Int.reduceEq, Int.reduceNe, Nat.reduceSub, reduceCtorEq, boxF, if_true, if_false, forall_const, implies_true, ne_eq, h4, h5, spec_l01In_rw, impl_within_rw, impl_isNode_rw, impl_isTerm_rw, impl_isIndex_rw, spec_l17Flag_rw] | simp (disch := first | assumption | omega | (simp only [LS] <;> omega) | (simp only [List.not_mem_nil, List.mem_cons, or_false, not_false_eq_true, not_or] <;> omega)) only [CS, h4, h5] | simp only [condK_B, guardK_Bt, guardK_Bf])
    have hk6 := cShortI_len (t := t) (s := cf.2)
    refine EvK.of (impl_scan_short_ok (c + 1) t cf.2 (by omega) (by simp (disch := first | assumption | omega | (simp only [LS] <;> omega) | (simp only [List.not_mem_nil, List.mem_cons, or_false, not_false_eq_true, not_or] <;> omega)) only [CS, hd12, RS3, RS4]) (by omega) hk4 fun d14 c14 ho14 hd14 => ?_)
    have ho14_le := ho14.le
    generalize hs14 : cShortI t cf.2 = da at *
    obtain ⟨m, hm⟩ : ∃ m : Msg, m = ⟨k.1, f.1, g.1, a.1, b.1, l.1, cm.1, ok.1, es, ints cf.1, da.1, la.1⟩ := ⟨_, rfl⟩
    have hd2 : decI t = if (da.2.2 = false ∧ da.2.1 = t.length) ∧ msgOk m = true then some m else none := by rw [hdec, decI2, hes]; simp only [hs12, hs14, ← hm]
    have e1 : m.entries = es := by rw [hm]
    have e2 : m.conf = ints cf.1 := by rw [hm]
    have e3 : m.data = da.1 := by rw [hm]
    have hmc : msgC m ve vc = [I m.kind, I m.src, I m.dst, I m.term, I m.index, I m.logTerm, I m.commit, B m.ok, ve, vc, T m.data, B m.last] := rfl
    have hmc0 : msgC msg0 (.slice none 0 0) (.slice none 0 0) = [I 0, I 0, I 0, I 0, I 0, I 0, I 0, .bool false, .slice none 0 0, .slice none 0 0, E, .bool false] := rfl
    have hag : [I ↑k.1, I ↑f.1, I ↑g.1, I ↑a.1, I ↑b.1, I ↑l.1, I ↑cm.1, B ok.1, ve, vc, .string (bs da.1), B la.1] = msgC m ve vc := by rw [hm]; rfl
    rw [← e1] at hve
    rw [← e2] at hvc
    simp only [msgC] at hgm'
    rw [hmc0] at hg2 hN
    repeat (first | simp only [RS0, RS1, RS2, RS3, RS4, reduceIte, Nat.reduceEqDiff, Nat.reduceAdd, Nat.reduceLeDiff, Nat.reduceLT, Nat.reduceMul, Int.reduceToNat, Int.reduceLT, Int.reduceLE, Int.reduceAdd, Int.reduceSub, Int.reduceMul, Int.reduceEq, Int.reduceNe, Nat.reduceSub, reduceCtorEq, boxF, if_true, if_false, forall_const, implies_true, ne_eq, h4, h5, hgm', spec_l01In_rw, impl_within_rw, impl_isNode_rw, impl_isTerm_rw, impl_isIndex_rw, spec_l17Flag_rw] | simp (disch := first | assumption | omega | (simp only [LS] <;> omega) | (simp only [List.not_mem_nil, List.mem_cons, or_false, not_false_eq_true, not_or] <;> omega)) only [CS, h4, h5, hgm'] | simp only [condK_B, guardK_Bt, guardK_Bf])
    refine EvK.of (impl_scan_done_ok (c + 1) t da.2 (by simp (disch := first | assumption | omega | (simp only [LS] <;> omega) | (simp only [List.not_mem_nil, List.mem_cons, or_false, not_false_eq_true, not_or] <;> omega)) only [CS, hd14, RS3, RS4]) ?_)
    repeat (first | simp only [RS0, RS1, RS2, RS3, RS4, reduceIte, Nat.reduceEqDiff, Nat.reduceAdd, Nat.reduceLeDiff, Nat.reduceLT, Nat.reduceMul, Int.reduceToNat, Int.reduceLT, Int.reduceLE, Int.reduceAdd, Int.reduceSub, Int.reduceMul, Int.reduceEq, Int.reduceNe, Nat.reduceSub, reduceCtorEq, boxF, if_true, if_false, forall_const, implies_true, ne_eq, h5, h2, hg2, spec_l01In_rw, impl_within_rw, impl_isNode_rw, impl_isTerm_rw, impl_isIndex_rw, spec_l17Flag_rw] | simp (disch := first | assumption | omega | (simp only [LS] <;> omega) | (simp only [List.not_mem_nil, List.mem_cons, or_false, not_false_eq_true, not_or] <;> omega)) only [CS, h5, h2, hg2] | simp only [condK_B, guardK_Bt, guardK_Bf])
    refine ⟨fun hd => ?_, fun hd => hN (by rw [hd2, if_neg (fun x => hd x.1)]) _ _ (by ((try dsimp only); refine Own.of (by omega) ?_; repeat (first | exact OwnK.nil | refine OwnK.cons (.inl (by omega)) ?_ | refine OwnK.kill (fun b hb => .inl (by have := hoe b hb; omega)) ?_ | refine OwnK.cons (.inr (by simp)) ?_ | exact OwnK.one (by assumption) (by omega) (by omega) (by simp <;> omega) | refine OwnK.app (by assumption) (by omega) (by omega) (by simp <;> omega) ?_)))⟩
    simp only [hag]
    refine EvK.of (impl_MessageOk_ok m ve vc oe oc (hve.of_get (fun b hb => by have := hoe b hb; simp (disch := first | assumption | omega | (simp only [LS] <;> omega) | (simp only [List.not_mem_nil, List.mem_cons, or_false, not_false_eq_true, not_or] <;> omega)) only [CS, RS3, RS4])) (hvc.of_get (fun b hb => by have := hoc b hb; simp (disch := first | assumption | omega | (simp only [LS] <;> omega) | (simp only [List.not_mem_nil, List.mem_cons, or_false, not_false_eq_true, not_or] <;> omega)) only [CS, RS3, RS4])) (fun b hb => by have := hoe b hb; omega) (fun b hb => by have := hoc b hb; omega) (by rw [e1]; omega) (by rw [e2, ints_len]; omega) (fun e he => by rw [e1] at he; have := hk3 e he; omega) (by rw [e3]; omega) fun d15 c15 ho15 => ?_)
    have ho15_le := ho15.le
    simp only [hmc]
    repeat (first | simp only [RS0, RS1, RS2, RS3, RS4, reduceIte, Nat.reduceEqDiff, Nat.reduceAdd, Nat.reduceLeDiff, Nat.reduceLT, Nat.reduceMul, Int.reduceToNat, Int.reduceLT, Int.reduceLE, Int.reduceAdd, Int.reduceSub, Int.reduceMul, Int.reduceEq, Int.reduceNe, Nat.reduceSub, reduceCtorEq, boxF, if_true, if_false, forall_const, implies_true, ne_eq, h2, h5, hg2, hve.isC, hvc.isC, hve.cl, hvc.cl, spec_l01In_rw, impl_within_rw, impl_isNode_rw, impl_isTerm_rw, impl_isIndex_rw, spec_l17Flag_rw] | simp (disch := first | assumption | omega | (simp only [LS] <;> omega) | (simp only [List.not_mem_nil, List.mem_cons, or_false, not_false_eq_true, not_or] <;> omega)) only [CS, h2, h5, hg2, hve.isC, hvc.isC, hve.cl, hvc.cl] | simp only [condK_B, guardK_Bt, guardK_Bf])
    refine ⟨fun hf => hN (by rw [hd2, if_neg (fun x => by simp [hf] at x)]) _ _ (by ((try dsimp only); refine Own.of (by omega) ?_; repeat (first | exact OwnK.nil | refine OwnK.cons (.inl (by omega)) ?_ | refine OwnK.kill (fun b hb => .inl (by have := hoe b hb; omega)) ?_ | refine OwnK.cons (.inr (by simp)) ?_ | exact OwnK.one (by assumption) (by omega) (by omega) (by simp <;> omega) | refine OwnK.app (by assumption) (by omega) (by omega) (by simp <;> omega) ?_))), fun hf => ?_⟩
    refine hS m (by rw [hd2, if_pos ⟨hd, hf⟩]) _ _ ve vc oe oc ?_ ?_ ?_ ?_ ?_ ?_
    · ((try dsimp only); refine Own.of (by omega) ?_; repeat (first | exact OwnK.nil | refine OwnK.cons (.inl (by omega)) ?_ | refine OwnK.kill (fun b hb => .inl (by have := hoe b hb; omega)) ?_ | refine OwnK.cons (.inr (by simp)) ?_ | exact OwnK.one (by assumption) (by omega) (by omega) (by simp <;> omega) | refine OwnK.app (by assumption) (by omega) (by omega) (by simp <;> omega) ?_))
    · exact hve.of_get (fun b hb => by have := hoe b hb; simp (disch := first | assumption | omega | (simp only [LS] <;> omega) | (simp only [List.not_mem_nil, List.mem_cons, or_false, not_false_eq_true, not_or] <;> omega)) only [CS, RS3, RS4])
    · exact hvc.of_get (fun b hb => by have := hoc b hb; simp (disch := first | assumption | omega | (simp only [LS] <;> omega) | (simp only [List.not_mem_nil, List.mem_cons, or_false, not_false_eq_true, not_or] <;> omega)) only [CS, RS3, RS4])
    · intro b hb; have := hoe b hb; omega
    · intro b hb; have := hoc b hb; omega
    · intro b hb hb2; have h1 := hoe b hb; have h2 := hoc b hb2; omega
  · intro hes ts u c11 h2 h3 hg2 ho
    have hd : decI t = none := by rw [hdec, decI2, hes]
    simp only [msgC, msg0] at hg2
    repeat (first | simp only [RS0, RS1, RS2, RS3, RS4, reduceIte, Nat.reduceEqDiff, Nat.reduceAdd, Nat.reduceLeDiff, Nat.reduceLT, Nat.reduceMul, Int.reduceToNat, Int.reduceLT, Int.reduceLE, Int.reduceAdd, Int.reduceSub, Int.reduceMul, Int.reduceEq, Int.reduceNe, Nat.reduceSub, reduceCtorEq, boxF, if_true, if_false, forall_const, implies_true, ne_eq, h2, h3, hg2, spec_l01In_rw, impl_within_rw, impl_isNode_rw, impl_isTerm_rw, impl_isIndex_rw, spec_l17Flag_rw] | simp (disch := first | assumption | omega | (simp only [LS] <;> omega) | (simp only [List.not_mem_nil, List.mem_cons, or_false, not_false_eq_true, not_or] <;> omega)) only [CS, h2, h3, hg2] | simp only [condK_B, guardK_Bt, guardK_Bf])
    exact hN hd _ _ ho
end
end Go.Proofs.Ytfcglkajekohiaa
