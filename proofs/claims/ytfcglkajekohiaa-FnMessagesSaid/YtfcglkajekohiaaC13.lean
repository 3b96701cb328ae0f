/- Contracts: the program's reader of entries. -/
import Derived.Test.YtfcglkajekohiaaC12
set_option linter.unusedSimpArgs false
set_option linter.unusedVariables false
set_option maxRecDepth 20000
namespace Go.Proofs.Ytfcglkajekohiaa
open Go Go.Proofs.Ytfcglkajekohiaa.AM

/-- What the program makes of an entry's text. -/
def readI (t : List UInt8) : Option (Nat × Ent) :=
  let s1 := cOne t (0, false)
  let i := cVar t s1.2
  let m := cVar t i.2
  let k := cOne t m.2
  let r := cRest t k.2
  if (r.2.2 = false ∧ r.2.1 = t.length) ∧ s1.1 = 69 ∧ entOk ⟨m.1, k.1, r.1⟩ = true ∧ (1 ≤ i.1 ∧ i.1 ≤ 1000000) then some (i.1, ⟨m.1, k.1, r.1⟩) else none

section
variable {prim : Nat → List Value → Option Value} {H : AHeap} {c : Nat} {Q : Value → AHeap → Nat → Prop}

theorem impl_scan_done_rw {G : AHeap} {kt : Kt} {dst : Option Nat} {ts : TS} {u : AHeap} {Q : AExit → St → Prop} {b : Nat} {t : List UInt8} {s : Cur} (hg : get G b = some (curV t s)) :
    EvK (tbl prim) H n_impl_scan_done [P b 0] G c kt dst ts u Q ↔ fin (tbl prim) H kt dst ts u c (B (decide (s.2 = false ∧ s.1 = t.length))) [] c Q := EvK.iff fun _ h => impl_scan_done_ok b t s hg h

theorem impl_ReadEntry_ok (t : List UInt8) (ht : t.length ≤ 100000000) (h : ∀ d c', Own [] d c c' → Q (readEV (readI t)) d c') : Ev (tbl prim) n_impl_ReadEntry [T t] H c Q := by
  refine Ev.fn (s_impl_ReadEntry prim) rfl ?_
  repeat (first | simp only [RS0, RS1, RS2, RS3, RS4, reduceIte, Nat.reduceEqDiff, Nat.reduceAdd, Nat.reduceLeDiff, Nat.reduceLT, Nat.reduceMul, Int.reduceToNat, Int.reduceLT, Int.reduceLE, Int.reduceAdd, Int.reduceSub, Int.reduceMul, Int.reduceEq, Int.reduceNe, Nat.reduceSub, reduceCtorEq, boxF, if_true, if_false, forall_const, implies_true, ne_eq, g_impl_ReadEntry, spec_l01In_rw, impl_within_rw, impl_isNode_rw, impl_isTerm_rw, impl_isIndex_rw] | simp (disch := first | assumption | omega | (simp only [LS] <;> omega) | (simp only [List.not_mem_nil, List.mem_cons, or_false, not_false_eq_true, not_or] <;> omega)) only [CS, g_impl_ReadEntry] | simp only [condK_B, guardK_Bt, guardK_Bf])
  refine EvK.of (impl_scan_one_ok (c + 1) t (0, false) (by omega) (by simp (disch := first | assumption | omega | (simp only [LS] <;> omega) | (simp only [List.not_mem_nil, List.mem_cons, or_false, not_false_eq_true, not_or] <;> omega)) only [CS, RS3, RS4]; rfl) (by omega) (by simp) fun d1 c1 ho1 hd1 => ?_)
  have ho1_le := ho1.le
  have hb1 := (cOne_le (t := t) (s := (0, false)) (by simp)).1
  generalize hs1 : cOne t (0, false) = s1 at *
  repeat (first | simp only [RS0, RS1, RS2, RS3, RS4, reduceIte, Nat.reduceEqDiff, Nat.reduceAdd, Nat.reduceLeDiff, Nat.reduceLT, Nat.reduceMul, Int.reduceToNat, Int.reduceLT, Int.reduceLE, Int.reduceAdd, Int.reduceSub, Int.reduceMul, Int.reduceEq, Int.reduceNe, Nat.reduceSub, reduceCtorEq, boxF, if_true, if_false, forall_const, implies_true, ne_eq, spec_l01In_rw, impl_within_rw, impl_isNode_rw, impl_isTerm_rw, impl_isIndex_rw] | simp (disch := first | assumption | omega | (simp only [LS] <;> omega) | (simp only [List.not_mem_nil, List.mem_cons, or_false, not_false_eq_true, not_or] <;> omega)) only [CS] | simp only [condK_B, guardK_Bt, guardK_Bf])
  refine EvK.of (impl_scan_number_ok (c + 1) t s1.2 (by omega) (by simp (disch := first | assumption | omega | (simp only [LS] <;> omega) | (simp only [List.not_mem_nil, List.mem_cons, or_false, not_false_eq_true, not_or] <;> omega)) only [CS, hd1, RS3, RS4]) (by omega) hb1 fun d2 c2 ho2 hd2 => ?_)
  have ho2_le := ho2.le
  have hb2 := (cVar_le hb1).1
  generalize hs2 : cVar t s1.2 = i2 at *
  repeat (first | simp only [RS0, RS1, RS2, RS3, RS4, reduceIte, Nat.reduceEqDiff, Nat.reduceAdd, Nat.reduceLeDiff, Nat.reduceLT, Nat.reduceMul, Int.reduceToNat, Int.reduceLT, Int.reduceLE, Int.reduceAdd, Int.reduceSub, Int.reduceMul, Int.reduceEq, Int.reduceNe, Nat.reduceSub, reduceCtorEq, boxF, if_true, if_false, forall_const, implies_true, ne_eq, spec_l01In_rw, impl_within_rw, impl_isNode_rw, impl_isTerm_rw, impl_isIndex_rw] | simp (disch := first | assumption | omega | (simp only [LS] <;> omega) | (simp only [List.not_mem_nil, List.mem_cons, or_false, not_false_eq_true, not_or] <;> omega)) only [CS] | simp only [condK_B, guardK_Bt, guardK_Bf])
  refine EvK.of (impl_scan_number_ok (c + 1) t i2.2 (by omega) (by simp (disch := first | assumption | omega | (simp only [LS] <;> omega) | (simp only [List.not_mem_nil, List.mem_cons, or_false, not_false_eq_true, not_or] <;> omega)) only [CS, hd2, RS3, RS4]) (by omega) hb2 fun d3 c3 ho3 hd3 => ?_)
  have ho3_le := ho3.le
  have hb3 := (cVar_le hb2).1
  generalize hs3 : cVar t i2.2 = m3 at *
  repeat (first | simp only [RS0, RS1, RS2, RS3, RS4, reduceIte, Nat.reduceEqDiff, Nat.reduceAdd, Nat.reduceLeDiff, Nat.reduceLT, Nat.reduceMul, Int.reduceToNat, Int.reduceLT, Int.reduceLE, Int.reduceAdd, Int.reduceSub, Int.reduceMul, Int.reduceEq, Int.reduceNe, Nat.reduceSub, reduceCtorEq, boxF, if_true, if_false, forall_const, implies_true, ne_eq, spec_l01In_rw, impl_within_rw, impl_isNode_rw, impl_isTerm_rw, impl_isIndex_rw] | simp (disch := first | assumption | omega | (simp only [LS] <;> omega) | (simp only [List.not_mem_nil, List.mem_cons, or_false, not_false_eq_true, not_or] <;> omega)) only [CS] | simp only [condK_B, guardK_Bt, guardK_Bf])
  refine EvK.of (impl_scan_one_ok (c + 1) t m3.2 (by omega) (by simp (disch := first | assumption | omega | (simp only [LS] <;> omega) | (simp only [List.not_mem_nil, List.mem_cons, or_false, not_false_eq_true, not_or] <;> omega)) only [CS, hd3, RS3, RS4]) (by omega) hb3 fun d4 c4 ho4 hd4 => ?_)
  have ho4_le := ho4.le
  have hb4 := (cOne_le hb3).1
  generalize hs4 : cOne t m3.2 = k4 at *
  repeat (first | simp only [RS0, RS1, RS2, RS3, RS4, reduceIte, Nat.reduceEqDiff, Nat.reduceAdd, Nat.reduceLeDiff, Nat.reduceLT, Nat.reduceMul, Int.reduceToNat, Int.reduceLT, Int.reduceLE, Int.reduceAdd, Int.reduceSub, Int.reduceMul, Int.reduceEq, Int.reduceNe, Nat.reduceSub, reduceCtorEq, boxF, if_true, if_false, forall_const, implies_true, ne_eq, spec_l01In_rw, impl_within_rw, impl_isNode_rw, impl_isTerm_rw, impl_isIndex_rw] | simp (disch := first | assumption | omega | (simp only [LS] <;> omega) | (simp only [List.not_mem_nil, List.mem_cons, or_false, not_false_eq_true, not_or] <;> omega)) only [CS] | simp only [condK_B, guardK_Bt, guardK_Bf])
  refine EvK.of (impl_scan_rest_ok (c + 1) t k4.2 (by omega) (by simp (disch := first | assumption | omega | (simp only [LS] <;> omega) | (simp only [List.not_mem_nil, List.mem_cons, or_false, not_false_eq_true, not_or] <;> omega)) only [CS, hd4, RS3, RS4]) (by omega) hb4 fun d5 c5 ho5 hd5 => ?_)
  have ho5_le := ho5.le
  have hr : (cRest t k4.2).1.length ≤ t.length := by unfold cRest; split <;> simp
  generalize hs5 : cRest t k4.2 = r5 at *
  have hE : readI t = if (r5.2.2 = false ∧ r5.2.1 = t.length) ∧ s1.1 = 69 ∧ entOk ⟨m3.1, k4.1, r5.1⟩ = true ∧ (1 ≤ i2.1 ∧ i2.1 ≤ 1000000) then some (i2.1, ⟨m3.1, k4.1, r5.1⟩) else none := by simp only [readI, hs1, hs2, hs3, hs4, hs5]
  rw [hE] at h
  repeat (first | simp only [RS0, RS1, RS2, RS3, RS4, reduceIte, Nat.reduceEqDiff, Nat.reduceAdd, Nat.reduceLeDiff, Nat.reduceLT, Nat.reduceMul, Int.reduceToNat, Int.reduceLT, Int.reduceLE, Int.reduceAdd, Int.reduceSub, Int.reduceMul, Int.reduceEq, Int.reduceNe, Nat.reduceSub, reduceCtorEq, boxF, if_true, if_false, forall_const, implies_true, ne_eq, spec_l01In_rw, impl_within_rw, impl_isNode_rw, impl_isTerm_rw, impl_isIndex_rw] | simp (disch := first | assumption | omega | (simp only [LS] <;> omega) | (simp only [List.not_mem_nil, List.mem_cons, or_false, not_false_eq_true, not_or] <;> omega)) only [CS] | simp only [condK_B, guardK_Bt, guardK_Bf])
  refine EvK.of (impl_scan_done_ok (c + 1) t r5.2 (by simp (disch := first | assumption | omega | (simp only [LS] <;> omega) | (simp only [List.not_mem_nil, List.mem_cons, or_false, not_false_eq_true, not_or] <;> omega)) only [CS, hd5, RS3, RS4]) ?_)
  repeat (first | simp only [RS0, RS1, RS2, RS3, RS4, reduceIte, Nat.reduceEqDiff, Nat.reduceAdd, Nat.reduceLeDiff, Nat.reduceLT, Nat.reduceMul, Int.reduceToNat, Int.reduceLT, Int.reduceLE, Int.reduceAdd, Int.reduceSub, Int.reduceMul, Int.reduceEq, Int.reduceNe, Nat.reduceSub, reduceCtorEq, boxF, if_true, if_false, forall_const, implies_true, ne_eq, spec_l01In_rw, impl_within_rw, impl_isNode_rw, impl_isTerm_rw, impl_isIndex_rw] | simp (disch := first | assumption | omega | (simp only [LS] <;> omega) | (simp only [List.not_mem_nil, List.mem_cons, or_false, not_false_eq_true, not_or] <;> omega)) only [CS] | simp only [condK_B, guardK_Bt, guardK_Bf])
  have hN : ¬((r5.2.2 = false ∧ r5.2.1 = t.length) ∧ s1.1 = 69 ∧ entOk ⟨m3.1, k4.1, r5.1⟩ = true ∧ (1 ≤ i2.1 ∧ i2.1 ≤ 1000000)) → ∀ d c', Own [] d c c' → Q (.tuple ⟨[I 0, ag [I 0, I 0, E], B false]⟩) d c' := fun hp d c' ho => by rw [if_neg hp] at h; exact h d c' ho
  repeat' (first | apply And.intro | intro _)
  all_goals first
    | exact hN (by rintro ⟨x1, x2, x3, x4⟩; first | omega | contradiction) _ _ (by ((try dsimp only); refine Own.of (by omega) ?_; repeat (first | exact OwnK.nil | refine OwnK.cons (.inl (by omega)) ?_ | refine OwnK.kill (fun b hb => .inl (by have := hoe b hb; omega)) ?_ | refine OwnK.cons (.inr (by simp)) ?_ | exact OwnK.one (by assumption) (by omega) (by omega) (by simp <;> omega) | refine OwnK.app (by assumption) (by omega) (by omega) (by simp <;> omega) ?_)))
    | skip
  refine EvK.of (impl_EntryOk_ok ⟨m3.1, k4.1, r5.1⟩ (by simp; omega) fun d6 c6 ho6 => ?_)
  have ho6_le := ho6.le
  repeat (first | simp only [RS0, RS1, RS2, RS3, RS4, reduceIte, Nat.reduceEqDiff, Nat.reduceAdd, Nat.reduceLeDiff, Nat.reduceLT, Nat.reduceMul, Int.reduceToNat, Int.reduceLT, Int.reduceLE, Int.reduceAdd, Int.reduceSub, Int.reduceMul, Int.reduceEq, Int.reduceNe, Nat.reduceSub, reduceCtorEq, boxF, if_true, if_false, forall_const, implies_true, ne_eq, spec_l01In_rw, impl_within_rw, impl_isNode_rw, impl_isTerm_rw, impl_isIndex_rw] | simp (disch := first | assumption | omega | (simp only [LS] <;> omega) | (simp only [List.not_mem_nil, List.mem_cons, or_false, not_false_eq_true, not_or] <;> omega)) only [CS] | simp only [condK_B, guardK_Bt, guardK_Bf])
  repeat' (first | apply And.intro | intro _)
  all_goals first
    | exact hN (by rintro ⟨x1, x2, x3, x4⟩; first | omega | simp_all; done) _ _ (by ((try dsimp only); refine Own.of (by omega) ?_; repeat (first | exact OwnK.nil | refine OwnK.cons (.inl (by omega)) ?_ | refine OwnK.kill (fun b hb => .inl (by have := hoe b hb; omega)) ?_ | refine OwnK.cons (.inr (by simp)) ?_ | exact OwnK.one (by assumption) (by omega) (by omega) (by simp <;> omega) | refine OwnK.app (by assumption) (by omega) (by omega) (by simp <;> omega) ?_)))
    | skip
  rw [if_pos ⟨‹_›, by omega, ‹_›, by omega⟩] at h
  exact h _ _ (by ((try dsimp only); refine Own.of (by omega) ?_; repeat (first | exact OwnK.nil | refine OwnK.cons (.inl (by omega)) ?_ | refine OwnK.kill (fun b hb => .inl (by have := hoe b hb; omega)) ?_ | refine OwnK.cons (.inr (by simp)) ?_ | exact OwnK.one (by assumption) (by omega) (by omega) (by simp <;> omega) | refine OwnK.app (by assumption) (by omega) (by omega) (by simp <;> omega) ?_)))
end
end Go.Proofs.Ytfcglkajekohiaa
