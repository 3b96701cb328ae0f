/- Contracts: texts of confs and entries. -/
import Derived.Test.YtfcglkajekohiaaC8
set_option linter.unusedSimpArgs false
set_option linter.unusedVariables false
namespace Go.Proofs.Ytfcglkajekohiaa
open Go Go.Proofs.Ytfcglkajekohiaa.AM

def confText (l : List Int) : List UInt8 := l.map by8


section
variable {prim : Nat → List Value → Option Value} {H : AHeap} {c : Nat} {Q : Value → AHeap → Nat → Prop}

theorem spec_ConfText_ok (v : Value) (l : List Int) (ob : Option Nat) (hv : SlR H 1 v (l.map I) ob) (hob : ∀ b, ob = some b → b < c) (hl : l.length ≤ 1000000000)
    (h : ∀ d c', Own [] d c c' → Q (.tuple ⟨[T (if confOk l = true then confText l else []), B (confOk l)]⟩) d c') : Ev (tbl prim) n_spec_ConfText [v] H c Q := by
  refine Ev.fn (s_spec_ConfText prim) rfl ?_
  repeat (first | simp only [RS0, RS1, RS2, RS3, RS4, reduceIte, Nat.reduceEqDiff, Nat.reduceAdd, Nat.reduceLeDiff, Nat.reduceLT, Nat.reduceMul, Int.reduceToNat, Int.reduceLT, Int.reduceLE, Int.reduceAdd, Int.reduceSub, Int.reduceMul, Int.reduceEq, Int.reduceNe, Nat.reduceSub, reduceCtorEq, boxF, if_true, if_false, forall_const, implies_true, ne_eq, g_spec_ConfText] | simp (disch := first | assumption | omega | (simp only [LS] <;> omega) | (simp only [List.not_mem_nil, List.mem_cons, or_false, not_false_eq_true, not_or] <;> omega)) only [CS, g_spec_ConfText] | simp only [condK_B, guardK_Bt, guardK_Bf])
  refine EvK.of (spec_ConfOk_ok v l ob hv (by omega) ?_)
  cases hc : confOk l with
  | false =>
    rw [hc] at h
    repeat (first | simp only [RS0, RS1, RS2, RS3, RS4, reduceIte, Nat.reduceEqDiff, Nat.reduceAdd, Nat.reduceLeDiff, Nat.reduceLT, Nat.reduceMul, Int.reduceToNat, Int.reduceLT, Int.reduceLE, Int.reduceAdd, Int.reduceSub, Int.reduceMul, Int.reduceEq, Int.reduceNe, Nat.reduceSub, reduceCtorEq, boxF, if_true, if_false, forall_const, implies_true, ne_eq] | simp (disch := first | assumption | omega | (simp only [LS] <;> omega) | (simp only [List.not_mem_nil, List.mem_cons, or_false, not_false_eq_true, not_or] <;> omega)) only [CS] | simp only [condK_B, guardK_Bt, guardK_Bf])
    exact h _ _ (by ((try dsimp only); refine Own.of (by omega) ?_; repeat (first | exact OwnK.nil | refine OwnK.cons (.inl (by omega)) ?_ | refine OwnK.kill (fun b hb => .inl (by have := hoe b hb; omega)) ?_ | refine OwnK.cons (.inr (by simp)) ?_ | exact OwnK.one (by assumption) (by omega) (by omega) (by simp <;> omega) | refine OwnK.app (by assumption) (by omega) (by omega) (by simp <;> omega) ?_)))
  | true =>
    rw [hc] at h
    simp only [if_true] at h
    have hlen := hv.len (n := l.length) (by simp) (by omega)
    repeat (first | simp only [RS0, RS1, RS2, RS3, RS4, reduceIte, Nat.reduceEqDiff, Nat.reduceAdd, Nat.reduceLeDiff, Nat.reduceLT, Nat.reduceMul, Int.reduceToNat, Int.reduceLT, Int.reduceLE, Int.reduceAdd, Int.reduceSub, Int.reduceMul, Int.reduceEq, Int.reduceNe, Nat.reduceSub, reduceCtorEq, boxF, if_true, if_false, forall_const, implies_true, ne_eq] | simp (disch := first | assumption | omega | (simp only [LS] <;> omega) | (simp only [List.not_mem_nil, List.mem_cons, or_false, not_false_eq_true, not_or] <;> omega)) only [CS] | simp only [condK_B, guardK_Bt, guardK_Bf])
    refine Wloop.of (fun k s => ∃ (i b : Nat), s.ts 0 = v ∧ s.ts 4 = Sl b i 1 ∧ s.ts 5 = I i ∧ k = l.length - i ∧ i ≤ l.length ∧ get (s.u ++ H) b = some ⟨(confText (l.take i)).map U, 1, false⟩ ∧ Own [] s.u c s.c ∧ c ≤ b ∧ b < s.c) ?_ (n := l.length) ?_
    · rintro k ⟨ts, u, c1⟩ ⟨i, b, h0, h4, h5, rfl, hi, hg, ho, hb, hb'⟩ R hR hE
      simp only at h0 h4 h5 hg ho hb'
      have hlen2 : ((confText (l.take i)).map U).length = i * 1 := by simp [confText]; omega
      by_cases hin : i < l.length
      · have hcell : (confText (l.take i)).map U ++ [U (by8 (l.getD i 0))] = (confText (l.take (i + 1))).map U := by
          rw [List.getD_eq_getElem?_getD, List.getElem?_eq_getElem hin, ← List.take_append_getElem hin]
          simp only [confText, List.map_append, List.map_cons, List.map_nil, Option.getD_some]
        have hv2 := hv.own ho (fun b e => ⟨hob b e, by simp⟩)
        obtain ⟨b2, ro2, hob2, hia2, hgb2⟩ := hv2.at (n := l.length) (by simp) (by omega) (k := .i64) (i := (i : Int)) (by omega) (by omega)
        repeat (first | simp only [RS0, RS1, RS2, RS3, RS4, reduceIte, Nat.reduceEqDiff, Nat.reduceAdd, Nat.reduceLeDiff, Nat.reduceLT, Nat.reduceMul, Int.reduceToNat, Int.reduceLT, Int.reduceLE, Int.reduceAdd, Int.reduceSub, Int.reduceMul, Int.reduceEq, Int.reduceNe, Nat.reduceSub, reduceCtorEq, boxF, if_true, if_false, forall_const, implies_true, ne_eq, g_spec_ConfText_L0, h0, h4, h5, hg, hlen, hia2, hgb2, slC_eq hlen2] | simp (disch := first | assumption | omega | (simp only [LS] <;> omega) | (simp only [List.not_mem_nil, List.mem_cons, or_false, not_false_eq_true, not_or] <;> omega)) only [CS, g_spec_ConfText_L0, h0, h4, h5, hg, hlen, hia2, hgb2, slC_eq hlen2] | simp only [condK_B, guardK_Bt, guardK_Bf])
        refine ⟨fun _ => ⟨by omega, ⟨by unfold maxBytes; omega, by unfold maxBytes; omega, by simpa using hlen2⟩, ?_⟩, fun g => absurd (by omega) g⟩
        refine hR (l.length - (i + 1)) _ (by omega) ⟨i + 1, c1 + 1, by simp [h0], by simp, by simp, rfl, by omega, ?_, by ((try dsimp only); refine Own.of (by omega) ?_; repeat (first | exact OwnK.nil | refine OwnK.cons (.inl (by omega)) ?_ | refine OwnK.kill (fun b hb => .inl (by have := hoe b hb; omega)) ?_ | refine OwnK.cons (.inr (by simp)) ?_ | exact OwnK.one (by assumption) (by omega) (by omega) (by simp <;> omega) | refine OwnK.app (by assumption) (by omega) (by omega) (by simp <;> omega) ?_)), by omega, by simp⟩
        simp only [List.cons_append, get_cons_eq]
        rw [← hcell]
      · rw [List.take_of_length_le (by omega)] at hg
        have hi' : i = l.length := by omega
        subst hi'
        repeat (first | simp only [RS0, RS1, RS2, RS3, RS4, reduceIte, Nat.reduceEqDiff, Nat.reduceAdd, Nat.reduceLeDiff, Nat.reduceLT, Nat.reduceMul, Int.reduceToNat, Int.reduceLT, Int.reduceLE, Int.reduceAdd, Int.reduceSub, Int.reduceMul, Int.reduceEq, Int.reduceNe, Nat.reduceSub, reduceCtorEq, boxF, if_true, if_false, forall_const, implies_true, ne_eq, g_spec_ConfText_L0, h0, h4, h5, hg, hlen] | simp (disch := first | assumption | omega | (simp only [LS] <;> omega) | (simp only [List.not_mem_nil, List.mem_cons, or_false, not_false_eq_true, not_or] <;> omega)) only [CS, g_spec_ConfText_L0, h0, h4, h5, hg, hlen] | simp only [condK_B, guardK_Bt, guardK_Bf])
        refine ⟨fun g => absurd g (by omega), fun _ => hE _ _ (by decide) ?_⟩
        have hlen3 : ((confText l).map U).length = l.length * 1 := by simp [confText]
        repeat (first | simp only [RS0, RS1, RS2, RS3, RS4, reduceIte, Nat.reduceEqDiff, Nat.reduceAdd, Nat.reduceLeDiff, Nat.reduceLT, Nat.reduceMul, Int.reduceToNat, Int.reduceLT, Int.reduceLE, Int.reduceAdd, Int.reduceSub, Int.reduceMul, Int.reduceEq, Int.reduceNe, Nat.reduceSub, reduceCtorEq, boxF, if_true, if_false, forall_const, implies_true, ne_eq, h0, h4, h5, hg, slC_eq hlen3] | simp (disch := first | assumption | omega | (simp only [LS] <;> omega) | (simp only [List.not_mem_nil, List.mem_cons, or_false, not_false_eq_true, not_or] <;> omega)) only [CS, h0, h4, h5, hg, slC_eq hlen3] | simp only [condK_B, guardK_Bt, guardK_Bf])
        exact h _ _ ho
    · exact ⟨0, c, by simp, by simp, by simp, rfl, by omega, by simp [confText], by ((try dsimp only); refine Own.of (by omega) ?_; repeat (first | exact OwnK.nil | refine OwnK.cons (.inl (by omega)) ?_ | refine OwnK.kill (fun b hb => .inl (by have := hoe b hb; omega)) ?_ | refine OwnK.cons (.inr (by simp)) ?_ | exact OwnK.one (by assumption) (by omega) (by omega) (by simp <;> omega) | refine OwnK.app (by assumption) (by omega) (by omega) (by simp <;> omega) ?_)), by omega, by simp⟩

def entText (i : Int) (e : Ent) : List UInt8 := [69] ++ varL i.toNat ++ varL e.term.toNat ++ [by8 e.kind] ++ e.data
def entTextOk (i : Int) (e : Ent) : Bool := entOk e && decide (1 ≤ i ∧ i ≤ 1000000)

theorem entOk_term {e : Ent} (h : entOk e = true) : 0 ≤ e.term ∧ e.term ≤ 100000 := by
  unfold entOk at h
  rw [Bool.and_eq_true, decide_eq_true_eq] at h
  exact h.1

theorem spec_EntryText_ok (i : Int) (e : Ent) (he : e.data.length ≤ 100000000)
    (h : ∀ d c', Own [] d c c' → Q (.tuple ⟨[T (if entTextOk i e = true then entText i e else []), B (entTextOk i e)]⟩) d c') : Ev (tbl prim) n_spec_EntryText [I i, ag (entC e)] H c Q := by
  refine Ev.fn (s_spec_EntryText prim) rfl ?_
  repeat (first | simp only [RS0, RS1, RS2, RS3, RS4, reduceIte, Nat.reduceEqDiff, Nat.reduceAdd, Nat.reduceLeDiff, Nat.reduceLT, Nat.reduceMul, Int.reduceToNat, Int.reduceLT, Int.reduceLE, Int.reduceAdd, Int.reduceSub, Int.reduceMul, Int.reduceEq, Int.reduceNe, Nat.reduceSub, reduceCtorEq, boxF, if_true, if_false, forall_const, implies_true, ne_eq, g_spec_EntryText, entC] | simp (disch := first | assumption | omega | (simp only [LS] <;> omega) | (simp only [List.not_mem_nil, List.mem_cons, or_false, not_false_eq_true, not_or] <;> omega)) only [CS, g_spec_EntryText, entC] | simp only [condK_B, guardK_Bt, guardK_Bf])
  refine EvK.of (spec_EntryOk_ok e he fun d c1 ho => ?_)
  have ho_le := ho.le
  have hle := ho.le
  cases hok : entOk e with
  | false =>
    have e1 : entTextOk i e = false := by simp [entTextOk, hok]
    rw [e1] at h
    repeat (first | simp only [RS0, RS1, RS2, RS3, RS4, reduceIte, Nat.reduceEqDiff, Nat.reduceAdd, Nat.reduceLeDiff, Nat.reduceLT, Nat.reduceMul, Int.reduceToNat, Int.reduceLT, Int.reduceLE, Int.reduceAdd, Int.reduceSub, Int.reduceMul, Int.reduceEq, Int.reduceNe, Nat.reduceSub, reduceCtorEq, boxF, if_true, if_false, forall_const, implies_true, ne_eq, entC] | simp (disch := first | assumption | omega | (simp only [LS] <;> omega) | (simp only [List.not_mem_nil, List.mem_cons, or_false, not_false_eq_true, not_or] <;> omega)) only [CS, entC] | simp only [condK_B, guardK_Bt, guardK_Bf])
    exact h _ _ (by ((try dsimp only); refine Own.of (by omega) ?_; repeat (first | exact OwnK.nil | refine OwnK.cons (.inl (by omega)) ?_ | refine OwnK.kill (fun b hb => .inl (by have := hoe b hb; omega)) ?_ | refine OwnK.cons (.inr (by simp)) ?_ | exact OwnK.one (by assumption) (by omega) (by omega) (by simp <;> omega) | refine OwnK.app (by assumption) (by omega) (by omega) (by simp <;> omega) ?_)))
  | true =>
    have ht := entOk_term hok
    repeat (first | simp only [RS0, RS1, RS2, RS3, RS4, reduceIte, Nat.reduceEqDiff, Nat.reduceAdd, Nat.reduceLeDiff, Nat.reduceLT, Nat.reduceMul, Int.reduceToNat, Int.reduceLT, Int.reduceLE, Int.reduceAdd, Int.reduceSub, Int.reduceMul, Int.reduceEq, Int.reduceNe, Nat.reduceSub, reduceCtorEq, boxF, if_true, if_false, forall_const, implies_true, ne_eq, entC] | simp (disch := first | assumption | omega | (simp only [LS] <;> omega) | (simp only [List.not_mem_nil, List.mem_cons, or_false, not_false_eq_true, not_or] <;> omega)) only [CS, entC] | simp only [condK_B, guardK_Bt, guardK_Bf])
    refine EvK.of (spec_l01In_ok _ _ _ ?_)
    repeat (first | simp only [RS0, RS1, RS2, RS3, RS4, reduceIte, Nat.reduceEqDiff, Nat.reduceAdd, Nat.reduceLeDiff, Nat.reduceLT, Nat.reduceMul, Int.reduceToNat, Int.reduceLT, Int.reduceLE, Int.reduceAdd, Int.reduceSub, Int.reduceMul, Int.reduceEq, Int.reduceNe, Nat.reduceSub, reduceCtorEq, boxF, if_true, if_false, forall_const, implies_true, ne_eq, entC] | simp (disch := first | assumption | omega | (simp only [LS] <;> omega) | (simp only [List.not_mem_nil, List.mem_cons, or_false, not_false_eq_true, not_or] <;> omega)) only [CS, entC] | simp only [condK_B, guardK_Bt, guardK_Bf])
    refine ⟨fun hi => ?_, fun hi => ?_⟩
    · have e1 : entTextOk i e = true := by simp [entTextOk, hok, hi]
      simp only [e1, if_true] at h
      refine EvK.of (spec_l01Var_ok _ (by omega) (by omega) fun d2 c2 ho2 => ?_)
      have ho2_le := ho2.le
      have hle2 := ho2.le
      have hg : get (d ++ (c, some ⟨[I e.term, I e.kind, T e.data], 0, false⟩) :: H) c = some ⟨[I e.term, I e.kind, T e.data], 0, false⟩ := by rw [get_own ho (by omega) (by simp), get_cons_eq]
      have hg2 : get (d2 ++ (d ++ (c, some ⟨[I e.term, I e.kind, T e.data], 0, false⟩) :: H)) c = some ⟨[I e.term, I e.kind, T e.data], 0, false⟩ := by rw [get_own ho2 (by omega) (by simp), hg]
      have l1 := varL_len10 i (by omega)
      have l2 := varL_len10 e.term (by omega)
      repeat (first | simp only [RS0, RS1, RS2, RS3, RS4, reduceIte, Nat.reduceEqDiff, Nat.reduceAdd, Nat.reduceLeDiff, Nat.reduceLT, Nat.reduceMul, Int.reduceToNat, Int.reduceLT, Int.reduceLE, Int.reduceAdd, Int.reduceSub, Int.reduceMul, Int.reduceEq, Int.reduceNe, Nat.reduceSub, reduceCtorEq, boxF, if_true, if_false, forall_const, implies_true, ne_eq, entC, hg, hg2, apart_own ho2] | simp (disch := first | assumption | omega | (simp only [LS] <;> omega) | (simp only [List.not_mem_nil, List.mem_cons, or_false, not_false_eq_true, not_or] <;> omega)) only [CS, entC, hg, hg2, apart_own ho2] | simp only [condK_B, guardK_Bt, guardK_Bf])
      refine ⟨by omega, EvK.of (spec_l01Var_ok _ (by omega) (by omega) fun d3 c3 ho3 => ?_)⟩
      have hle3 := ho3.le
      have hb1 : b2sF (some [U (by8 e.kind)]) = some (T [by8 e.kind]) := b2sF_1 _
      repeat (first | simp only [RS0, RS1, RS2, RS3, RS4, reduceIte, Nat.reduceEqDiff, Nat.reduceAdd, Nat.reduceLeDiff, Nat.reduceLT, Nat.reduceMul, Int.reduceToNat, Int.reduceLT, Int.reduceLE, Int.reduceAdd, Int.reduceSub, Int.reduceMul, Int.reduceEq, Int.reduceNe, Nat.reduceSub, reduceCtorEq, boxF, if_true, if_false, forall_const, implies_true, ne_eq, entC, hg, hg2, apart_own ho2, apart_own ho3, apart_new] | simp (disch := first | assumption | omega | (simp only [LS] <;> omega) | (simp only [List.not_mem_nil, List.mem_cons, or_false, not_false_eq_true, not_or] <;> omega)) only [CS, entC, hg, hg2, apart_own ho2, apart_own ho3, apart_new] | simp only [condK_B, guardK_Bt, guardK_Bf])
      have e2 : entText i e = 69 :: (varL i.toNat ++ (varL e.term.toNat ++ by8 e.kind :: e.data)) := by simp [entText]
      rw [← e2]
      exact ⟨by omega, by omega, by omega, h _ _ (by ((try dsimp only); refine Own.of (by omega) ?_; repeat (first | exact OwnK.nil | refine OwnK.cons (.inl (by omega)) ?_ | refine OwnK.kill (fun b hb => .inl (by have := hoe b hb; omega)) ?_ | refine OwnK.cons (.inr (by simp)) ?_ | exact OwnK.one (by assumption) (by omega) (by omega) (by simp <;> omega) | refine OwnK.app (by assumption) (by omega) (by omega) (by simp <;> omega) ?_)))⟩
    · have e1 : entTextOk i e = false := by simp [entTextOk, hi]
      rw [e1] at h
      exact h _ _ (by ((try dsimp only); refine Own.of (by omega) ?_; repeat (first | exact OwnK.nil | refine OwnK.cons (.inl (by omega)) ?_ | refine OwnK.kill (fun b hb => .inl (by have := hoe b hb; omega)) ?_ | refine OwnK.cons (.inr (by simp)) ?_ | exact OwnK.one (by assumption) (by omega) (by omega) (by simp <;> omega) | refine OwnK.app (by assumption) (by omega) (by omega) (by simp <;> omega) ?_)))
end
end Go.Proofs.Ytfcglkajekohiaa
