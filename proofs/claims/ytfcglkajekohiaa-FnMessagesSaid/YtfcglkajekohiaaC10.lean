/- Contracts: entries that are read. -/
import Derived.Test.YtfcglkajekohiaaC9
set_option linter.unusedSimpArgs false
set_option maxRecDepth 20000
set_option linter.unusedVariables false
namespace Go.Proofs.Ytfcglkajekohiaa
open Go Go.Proofs.Ytfcglkajekohiaa.AM

/-- What the reference makes of an entry's text, ahead of its look back. -/
def readES (t : List UInt8) : Bool × Nat × Ent :=
  let s1 := (cTake t (0, false) 1).2
  let i := cVar t s1
  let m := cVar t i.2
  let k := cTake t m.2 1
  (k.2.2, i.1, ⟨m.1, (k.1.getD 0 0).toNat, t.drop k.2.1⟩)
def readE (t : List UInt8) : Option (Nat × Ent) :=
  if (readES t).1 = true then none
  else if entTextOk (readES t).2.1 (readES t).2.2 = true ∧ entText (readES t).2.1 (readES t).2.2 = t then some (readES t).2 else none
def readEV : Option (Nat × Ent) → Value
  | some (i, e) => .tuple ⟨[I i, ag (entC e), B true]⟩
  | none => .tuple ⟨[I 0, ag [I 0, I 0, E], B false]⟩

section
variable {prim : Nat → List Value → Option Value} {H : AHeap} {c : Nat} {Q : Value → AHeap → Nat → Prop}

theorem spec_ReadEntry_ok (t : List UInt8) (ht : t.length ≤ 100000000) (h : ∀ d c', Own [] d c c' → Q (readEV (readE t)) d c') : Ev (tbl prim) n_spec_ReadEntry [T t] H c Q := by
  refine Ev.fn (s_spec_ReadEntry prim) rfl ?_
  repeat (first | simp only [RS0, RS1, RS2, RS3, RS4, reduceIte, Nat.reduceEqDiff, Nat.reduceAdd, Nat.reduceLeDiff, Nat.reduceLT, Nat.reduceMul, Int.reduceToNat, Int.reduceLT, Int.reduceLE, Int.reduceAdd, Int.reduceSub, Int.reduceMul, Int.reduceEq, Int.reduceNe, Nat.reduceSub, reduceCtorEq, boxF, if_true, if_false, forall_const, implies_true, ne_eq, g_spec_ReadEntry] | simp (disch := first | assumption | omega | (simp only [LS] <;> omega) | (simp only [List.not_mem_nil, List.mem_cons, or_false, not_false_eq_true, not_or] <;> omega)) only [CS, g_spec_ReadEntry] | simp only [condK_B, guardK_Bt, guardK_Bf])
  refine EvK.of (spec_l05Take_ok (c + 1) t (0, false) 1 (by omega) (by omega) (get_cons_eq _ _ _) (by omega) (by simp) fun d1 c1 ho1 hd1 => ?_)
  have ho1_le := ho1.le
  have hb1 := cTake_le (t := t) (s := (0, false)) (n := 1) (by simp)
  generalize hs1 : (cTake t (0, false) 1).2 = s1 at *
  repeat (first | simp only [RS0, RS1, RS2, RS3, RS4, reduceIte, Nat.reduceEqDiff, Nat.reduceAdd, Nat.reduceLeDiff, Nat.reduceLT, Nat.reduceMul, Int.reduceToNat, Int.reduceLT, Int.reduceLE, Int.reduceAdd, Int.reduceSub, Int.reduceMul, Int.reduceEq, Int.reduceNe, Nat.reduceSub, reduceCtorEq, boxF, if_true, if_false, forall_const, implies_true, ne_eq] | simp (disch := first | assumption | omega | (simp only [LS] <;> omega) | (simp only [List.not_mem_nil, List.mem_cons, or_false, not_false_eq_true, not_or] <;> omega)) only [CS] | simp only [condK_B, guardK_Bt, guardK_Bf])
  refine EvK.of (spec_l05Var_ok (c + 1) t s1 (by omega) (by simp (disch := first | assumption | omega | (simp only [LS] <;> omega) | (simp only [List.not_mem_nil, List.mem_cons, or_false, not_false_eq_true, not_or] <;> omega)) only [CS, hd1, RS3, RS4]) (by omega) hb1 fun d2 c2 ho2 hd2 => ?_)
  have ho2_le := ho2.le
  have hb2 := (cVar_le hb1).1
  generalize hs2 : cVar t s1 = i2 at *
  repeat (first | simp only [RS0, RS1, RS2, RS3, RS4, reduceIte, Nat.reduceEqDiff, Nat.reduceAdd, Nat.reduceLeDiff, Nat.reduceLT, Nat.reduceMul, Int.reduceToNat, Int.reduceLT, Int.reduceLE, Int.reduceAdd, Int.reduceSub, Int.reduceMul, Int.reduceEq, Int.reduceNe, Nat.reduceSub, reduceCtorEq, boxF, if_true, if_false, forall_const, implies_true, ne_eq] | simp (disch := first | assumption | omega | (simp only [LS] <;> omega) | (simp only [List.not_mem_nil, List.mem_cons, or_false, not_false_eq_true, not_or] <;> omega)) only [CS] | simp only [condK_B, guardK_Bt, guardK_Bf])
  refine EvK.of (spec_l05Var_ok (c + 1) t i2.2 (by omega) (by simp (disch := first | assumption | omega | (simp only [LS] <;> omega) | (simp only [List.not_mem_nil, List.mem_cons, or_false, not_false_eq_true, not_or] <;> omega)) only [CS, hd2, RS3, RS4]) (by omega) hb2 fun d3 c3 ho3 hd3 => ?_)
  have ho3_le := ho3.le
  have hb3 := (cVar_le hb2).1
  generalize hs3 : cVar t i2.2 = m3 at *
  repeat (first | simp only [RS0, RS1, RS2, RS3, RS4, reduceIte, Nat.reduceEqDiff, Nat.reduceAdd, Nat.reduceLeDiff, Nat.reduceLT, Nat.reduceMul, Int.reduceToNat, Int.reduceLT, Int.reduceLE, Int.reduceAdd, Int.reduceSub, Int.reduceMul, Int.reduceEq, Int.reduceNe, Nat.reduceSub, reduceCtorEq, boxF, if_true, if_false, forall_const, implies_true, ne_eq] | simp (disch := first | assumption | omega | (simp only [LS] <;> omega) | (simp only [List.not_mem_nil, List.mem_cons, or_false, not_false_eq_true, not_or] <;> omega)) only [CS] | simp only [condK_B, guardK_Bt, guardK_Bf])
  refine EvK.of (spec_l05Take_ok (c + 1) t m3.2 1 (by omega) (by omega) (by simp (disch := first | assumption | omega | (simp only [LS] <;> omega) | (simp only [List.not_mem_nil, List.mem_cons, or_false, not_false_eq_true, not_or] <;> omega)) only [CS, hd3, RS3, RS4]) (by omega) hb3 fun d4 c4 ho4 hd4 => ?_)
  have ho4_le := ho4.le
  have hb4 := cTake_le (n := 1) hb3
  generalize hs4 : cTake t m3.2 1 = k4 at *
  simp only [curV] at hd4
  have hE : readES t = (k4.2.2, i2.1, ⟨m3.1, (k4.1.getD 0 0).toNat, t.drop k4.2.1⟩) := by simp only [readES, hs1, hs2, hs3, hs4]
  repeat (first | simp only [RS0, RS1, RS2, RS3, RS4, reduceIte, Nat.reduceEqDiff, Nat.reduceAdd, Nat.reduceLeDiff, Nat.reduceLT, Nat.reduceMul, Int.reduceToNat, Int.reduceLT, Int.reduceLE, Int.reduceAdd, Int.reduceSub, Int.reduceMul, Int.reduceEq, Int.reduceNe, Nat.reduceSub, reduceCtorEq, boxF, if_true, if_false, forall_const, implies_true, ne_eq, hd4] | simp (disch := first | assumption | omega | (simp only [LS] <;> omega) | (simp only [List.not_mem_nil, List.mem_cons, or_false, not_false_eq_true, not_or] <;> omega)) only [CS, hd4] | simp only [condK_B, guardK_Bt, guardK_Bf])
  refine ⟨fun hbad => ?_, fun hbad => ?_⟩
  · have : readE t = none := by simp [readE, hE, hbad]
    rw [this] at h
    exact h _ _ (by ((try dsimp only); refine Own.of (by omega) ?_; repeat (first | exact OwnK.nil | refine OwnK.cons (.inl (by omega)) ?_ | refine OwnK.kill (fun b hb => .inl (by have := hoe b hb; omega)) ?_ | refine OwnK.cons (.inr (by simp)) ?_ | exact OwnK.one (by assumption) (by omega) (by omega) (by simp <;> omega) | refine OwnK.app (by assumption) (by omega) (by omega) (by simp <;> omega) ?_)))
  · have hk1 : k4.1.length = 1 := by
      rw [← hs4] at hbad ⊢
      unfold cTake at hbad ⊢
      split at hbad
      · simp at hbad
      · rename_i hh
        rw [if_neg hh]
        simp; omega
    refine ⟨by omega, by omega, ?_⟩
    refine EvK.of (spec_EntryText_ok i2.1 ⟨m3.1, (k4.1.getD 0 0).toNat, t.drop k4.2.1⟩ (by simp; omega) fun d5 c5 ho5 => ?_)
    have ho5_le := ho5.le
    repeat (first | simp only [RS0, RS1, RS2, RS3, RS4, reduceIte, Nat.reduceEqDiff, Nat.reduceAdd, Nat.reduceLeDiff, Nat.reduceLT, Nat.reduceMul, Int.reduceToNat, Int.reduceLT, Int.reduceLE, Int.reduceAdd, Int.reduceSub, Int.reduceMul, Int.reduceEq, Int.reduceNe, Nat.reduceSub, reduceCtorEq, boxF, if_true, if_false, forall_const, implies_true, ne_eq] | simp (disch := first | assumption | omega | (simp only [LS] <;> omega) | (simp only [List.not_mem_nil, List.mem_cons, or_false, not_false_eq_true, not_or] <;> omega)) only [CS] | simp only [condK_B, guardK_Bt, guardK_Bf])
    simp only [readE, hE, hbad] at h
    refine ⟨fun hf => ?_, fun hf => ⟨fun he => ?_, fun he => ?_⟩⟩
    · simp only [hf] at h
      exact h _ _ (by ((try dsimp only); refine Own.of (by omega) ?_; repeat (first | exact OwnK.nil | refine OwnK.cons (.inl (by omega)) ?_ | refine OwnK.kill (fun b hb => .inl (by have := hoe b hb; omega)) ?_ | refine OwnK.cons (.inr (by simp)) ?_ | exact OwnK.one (by assumption) (by omega) (by omega) (by simp <;> omega) | refine OwnK.app (by assumption) (by omega) (by omega) (by simp <;> omega) ?_)))
    · simp only [hf, if_true] at h he
      rw [if_neg (by simp), if_pos ⟨trivial, he⟩] at h
      exact h _ _ (by ((try dsimp only); refine Own.of (by omega) ?_; repeat (first | exact OwnK.nil | refine OwnK.cons (.inl (by omega)) ?_ | refine OwnK.kill (fun b hb => .inl (by have := hoe b hb; omega)) ?_ | refine OwnK.cons (.inr (by simp)) ?_ | exact OwnK.one (by assumption) (by omega) (by omega) (by simp <;> omega) | refine OwnK.app (by assumption) (by omega) (by omega) (by simp <;> omega) ?_)))
    · simp only [hf, if_true] at h he
      rw [if_neg (by simp), if_neg (fun g => he g.2)] at h
      exact h _ _ (by ((try dsimp only); refine Own.of (by omega) ?_; repeat (first | exact OwnK.nil | refine OwnK.cons (.inl (by omega)) ?_ | refine OwnK.kill (fun b hb => .inl (by have := hoe b hb; omega)) ?_ | refine OwnK.cons (.inr (by simp)) ?_ | exact OwnK.one (by assumption) (by omega) (by omega) (by simp <;> omega) | refine OwnK.app (by assumption) (by omega) (by omega) (by simp <;> omega) ?_)))
end
end Go.Proofs.Ytfcglkajekohiaa
