/- Contracts: confs in texts. -/
import Derived.Test.YtfcglkajekohiaaC6
set_option linter.unusedSimpArgs false
set_option linter.unusedVariables false
namespace Go.Proofs.Ytfcglkajekohiaa
open Go Go.Proofs.Ytfcglkajekohiaa.AM

def ints (l : List UInt8) : List Int := l.map fun b => (b.toNat : Int)
theorem ints_len (l : List UInt8) : (ints l).length = l.length := by simp [ints]
theorem ints_snoc (l : List UInt8) (b : UInt8) : (ints l).map I ++ [I (b.toNat : Int)] = (ints (l ++ [b])).map I := by simp [ints]

section
variable {prim : Nat → List Value → Option Value} {H : AHeap} {c : Nat} {Q : Value → AHeap → Nat → Prop}

theorem impl_ReadConf_ok (t : List UInt8) (ht : t.length ≤ 100000000)
    (h : ∀ d c' v ob, Own [] d c c' → SlR (d ++ H) 1 v ((if confOk (ints t) = true then ints t else []).map I) ob → (∀ b, ob = some b → c ≤ b ∧ b < c') → Q (.tuple ⟨[v, B (confOk (ints t))]⟩) d c') : Ev (tbl prim) n_impl_ReadConf [T t] H c Q := by
  refine Ev.fn (s_impl_ReadConf prim) rfl ?_
  repeat (first | simp only [RS0, RS1, RS2, RS3, RS4, reduceIte, Nat.reduceEqDiff, Nat.reduceAdd, Nat.reduceLeDiff, Nat.reduceLT, Nat.reduceMul, Int.reduceToNat, Int.reduceLT, Int.reduceLE, Int.reduceAdd, Int.reduceSub, Int.reduceMul, Int.reduceEq, Int.reduceNe, Nat.reduceSub, reduceCtorEq, boxF, if_true, if_false, forall_const, implies_true, ne_eq, g_impl_ReadConf] | simp (disch := first | assumption | omega | (simp only [LS] <;> omega) | (simp only [List.not_mem_nil, List.mem_cons, or_false, not_false_eq_true, not_or] <;> omega)) only [CS, g_impl_ReadConf] | simp only [condK_B, guardK_Bt, guardK_Bf])
  refine Wloop.of (fun k s => ∃ (i b : Nat), s.ts 0 = T t ∧ s.ts 4 = Sl b i 1 ∧ s.ts 5 = I i ∧ k = t.length - i ∧ i ≤ t.length ∧ get (s.u ++ H) b = some ⟨(ints (t.take i)).map I, 1, false⟩ ∧ Own [] s.u c s.c ∧ c ≤ b ∧ b < s.c) ?_ (n := t.length) ?_
  · rintro k ⟨ts, u, c1⟩ ⟨i, b, h0, h4, h5, rfl, hi, hg, ho, hb, hb'⟩ R hR hE
    simp only at h0 h4 h5 hg ho hb'
    have hlen : ((ints (t.take i)).map I).length = i * 1 := by simp [ints]; omega
    by_cases hin : i < t.length
    · have hcell : (ints (t.take i)).map I ++ [I ((t.getD i 0).toNat : Int)] = (ints (t.take (i + 1))).map I := by
        rw [ints_snoc, List.getD_eq_getElem?_getD, List.getElem?_eq_getElem hin]
        simp [List.take_append_getElem]
      repeat (first | simp only [RS0, RS1, RS2, RS3, RS4, reduceIte, Nat.reduceEqDiff, Nat.reduceAdd, Nat.reduceLeDiff, Nat.reduceLT, Nat.reduceMul, Int.reduceToNat, Int.reduceLT, Int.reduceLE, Int.reduceAdd, Int.reduceSub, Int.reduceMul, Int.reduceEq, Int.reduceNe, Nat.reduceSub, reduceCtorEq, boxF, if_true, if_false, forall_const, implies_true, ne_eq, g_impl_ReadConf_L0, h0, h4, h5, hg, slC_eq hlen] | simp (disch := first | assumption | omega | (simp only [LS] <;> omega) | (simp only [List.not_mem_nil, List.mem_cons, or_false, not_false_eq_true, not_or] <;> omega)) only [CS, g_impl_ReadConf_L0, h0, h4, h5, hg, slC_eq hlen] | simp only [condK_B, guardK_Bt, guardK_Bf])
      refine ⟨fun _ => ⟨by omega, ⟨by unfold maxBytes; omega, by unfold maxBytes; omega, by simpa using hlen⟩, ?_⟩, fun g => absurd (by omega) g⟩
      refine hR (t.length - (i + 1)) _ (by omega) ⟨i + 1, c1 + 1, by simp [h0], by simp, by simp, rfl, by omega, ?_, by ((try dsimp only); refine Own.of (by omega) ?_; repeat (first | exact OwnK.nil | refine OwnK.cons (.inl (by omega)) ?_ | refine OwnK.kill (fun b hb => .inl (by have := hoe b hb; omega)) ?_ | refine OwnK.cons (.inr (by simp)) ?_ | exact OwnK.one (by assumption) (by omega) (by omega) (by simp <;> omega) | refine OwnK.app (by assumption) (by omega) (by omega) (by simp <;> omega) ?_)), by omega, by simp⟩
      simp only [List.cons_append, get_cons_eq]
      rw [← hcell]
    · repeat (first | simp only [RS0, RS1, RS2, RS3, RS4, reduceIte, Nat.reduceEqDiff, Nat.reduceAdd, Nat.reduceLeDiff, Nat.reduceLT, Nat.reduceMul, Int.reduceToNat, Int.reduceLT, Int.reduceLE, Int.reduceAdd, Int.reduceSub, Int.reduceMul, Int.reduceEq, Int.reduceNe, Nat.reduceSub, reduceCtorEq, boxF, if_true, if_false, forall_const, implies_true, ne_eq, g_impl_ReadConf_L0, h0, h4, h5, hg] | simp (disch := first | assumption | omega | (simp only [LS] <;> omega) | (simp only [List.not_mem_nil, List.mem_cons, or_false, not_false_eq_true, not_or] <;> omega)) only [CS, g_impl_ReadConf_L0, h0, h4, h5, hg] | simp only [condK_B, guardK_Bt, guardK_Bf])
      refine ⟨fun g => absurd g (by omega), fun _ => hE _ _ (by decide) ?_⟩
      rw [List.take_of_length_le (by omega)] at hg
      have hi' : i = t.length := by omega
      subst hi'
      have hs : SlR (u ++ H) 1 (Sl b t.length 1) ((ints t).map I) (some b) := .blk hg (by simp [ints])
      repeat (first | simp only [RS0, RS1, RS2, RS3, RS4, reduceIte, Nat.reduceEqDiff, Nat.reduceAdd, Nat.reduceLeDiff, Nat.reduceLT, Nat.reduceMul, Int.reduceToNat, Int.reduceLT, Int.reduceLE, Int.reduceAdd, Int.reduceSub, Int.reduceMul, Int.reduceEq, Int.reduceNe, Nat.reduceSub, reduceCtorEq, boxF, if_true, if_false, forall_const, implies_true, ne_eq, h0, h4, h5, hg] | simp (disch := first | assumption | omega | (simp only [LS] <;> omega) | (simp only [List.not_mem_nil, List.mem_cons, or_false, not_false_eq_true, not_or] <;> omega)) only [CS, h0, h4, h5, hg] | simp only [condK_B, guardK_Bt, guardK_Bf])
      refine EvK.of (impl_ConfOk_ok _ _ _ hs (by rw [ints_len]; omega) ?_)
      cases hc : confOk (ints t) with
      | true =>
        repeat (first | simp only [RS0, RS1, RS2, RS3, RS4, reduceIte, Nat.reduceEqDiff, Nat.reduceAdd, Nat.reduceLeDiff, Nat.reduceLT, Nat.reduceMul, Int.reduceToNat, Int.reduceLT, Int.reduceLE, Int.reduceAdd, Int.reduceSub, Int.reduceMul, Int.reduceEq, Int.reduceNe, Nat.reduceSub, reduceCtorEq, boxF, if_true, if_false, forall_const, implies_true, ne_eq, h0, h4, h5, hg] | simp (disch := first | assumption | omega | (simp only [LS] <;> omega) | (simp only [List.not_mem_nil, List.mem_cons, or_false, not_false_eq_true, not_or] <;> omega)) only [CS, h0, h4, h5, hg] | simp only [condK_B, guardK_Bt, guardK_Bf])
        simp only [hc, if_true] at h
        exact h u c1 _ (some b) ho hs (fun b' hb' => by cases hb'; omega)
      | false =>
        repeat (first | simp only [RS0, RS1, RS2, RS3, RS4, reduceIte, Nat.reduceEqDiff, Nat.reduceAdd, Nat.reduceLeDiff, Nat.reduceLT, Nat.reduceMul, Int.reduceToNat, Int.reduceLT, Int.reduceLE, Int.reduceAdd, Int.reduceSub, Int.reduceMul, Int.reduceEq, Int.reduceNe, Nat.reduceSub, reduceCtorEq, boxF, if_true, if_false, forall_const, implies_true, ne_eq, h0, h4, h5, hg] | simp (disch := first | assumption | omega | (simp only [LS] <;> omega) | (simp only [List.not_mem_nil, List.mem_cons, or_false, not_false_eq_true, not_or] <;> omega)) only [CS, h0, h4, h5, hg] | simp only [condK_B, guardK_Bt, guardK_Bf])
        simp only [hc, Bool.false_eq_true, if_false] at h
        exact h u c1 _ none ho (.nil 0) (fun b' hb' => by cases hb')
  · exact ⟨0, c, by simp, by simp, by simp, rfl, by omega, by simp [ints], by ((try dsimp only); refine Own.of (by omega) ?_; repeat (first | exact OwnK.nil | refine OwnK.cons (.inl (by omega)) ?_ | refine OwnK.kill (fun b hb => .inl (by have := hoe b hb; omega)) ?_ | refine OwnK.cons (.inr (by simp)) ?_ | exact OwnK.one (by assumption) (by omega) (by omega) (by simp <;> omega) | refine OwnK.app (by assumption) (by omega) (by omega) (by simp <;> omega) ?_)), by omega, by simp⟩

theorem confOk_len {l : List Int} (h : confOk l = true) : 1 ≤ l.length ∧ l.length ≤ 4 := by
  unfold confOk at h
  rw [Bool.and_eq_true, decide_eq_true_eq] at h
  have := rise_len h.2 (by omega)
  omega

theorem spec_ReadConf_ok (t : List UInt8) (ht : t.length ≤ 100000000)
    (h : ∀ d c' v ob, Own [] d c c' → SlR (d ++ H) 1 v ((if confOk (ints t) = true then ints t else []).map I) ob → (∀ b, ob = some b → c ≤ b ∧ b < c') → Q (.tuple ⟨[v, B (confOk (ints t))]⟩) d c') : Ev (tbl prim) n_spec_ReadConf [T t] H c Q := by
  refine Ev.fn (s_spec_ReadConf prim) rfl ?_
  repeat (first | simp only [RS0, RS1, RS2, RS3, RS4, reduceIte, Nat.reduceEqDiff, Nat.reduceAdd, Nat.reduceLeDiff, Nat.reduceLT, Nat.reduceMul, Int.reduceToNat, Int.reduceLT, Int.reduceLE, Int.reduceAdd, Int.reduceSub, Int.reduceMul, Int.reduceEq, Int.reduceNe, Nat.reduceSub, reduceCtorEq, boxF, if_true, if_false, forall_const, implies_true, ne_eq, g_spec_ReadConf] | simp (disch := first | assumption | omega | (simp only [LS] <;> omega) | (simp only [List.not_mem_nil, List.mem_cons, or_false, not_false_eq_true, not_or] <;> omega)) only [CS, g_spec_ReadConf] | simp only [condK_B, guardK_Bt, guardK_Bf])
  refine Wloop.of (fun k s => ∃ (i b : Nat), s.ts 0 = T t ∧ s.ts 4 = Sl b i 1 ∧ s.ts 5 = I i ∧ k = t.length - i ∧ i ≤ t.length ∧ i ≤ 5 ∧ get (s.u ++ H) b = some ⟨(ints (t.take i)).map I, 1, false⟩ ∧ Own [] s.u c s.c ∧ c ≤ b ∧ b < s.c) ?_ (n := t.length) ?_
  · rintro k ⟨ts, u, c1⟩ ⟨i, b, h0, h4, h5, rfl, hi, hi5, hg, ho, hb, hb'⟩ R hR hE
    simp only at h0 h4 h5 hg ho hb'
    have hlen : ((ints (t.take i)).map I).length = i * 1 := by simp [ints]; omega
    by_cases hin : i < t.length ∧ i ≤ 4
    · have hcell : (ints (t.take i)).map I ++ [I ((t.getD i 0).toNat : Int)] = (ints (t.take (i + 1))).map I := by
        rw [ints_snoc, List.getD_eq_getElem?_getD, List.getElem?_eq_getElem hin.1]
        simp [List.take_append_getElem]
      repeat (first | simp only [RS0, RS1, RS2, RS3, RS4, reduceIte, Nat.reduceEqDiff, Nat.reduceAdd, Nat.reduceLeDiff, Nat.reduceLT, Nat.reduceMul, Int.reduceToNat, Int.reduceLT, Int.reduceLE, Int.reduceAdd, Int.reduceSub, Int.reduceMul, Int.reduceEq, Int.reduceNe, Nat.reduceSub, reduceCtorEq, boxF, if_true, if_false, forall_const, implies_true, ne_eq, g_spec_ReadConf_L0, h0, h4, h5, hg, slC_eq hlen] | simp (disch := first | assumption | omega | (simp only [LS] <;> omega) | (simp only [List.not_mem_nil, List.mem_cons, or_false, not_false_eq_true, not_or] <;> omega)) only [CS, g_spec_ReadConf_L0, h0, h4, h5, hg, slC_eq hlen] | simp only [condK_B, guardK_Bt, guardK_Bf])
      refine ⟨fun _ => ⟨fun _ => ⟨by omega, ⟨by unfold maxBytes; omega, by unfold maxBytes; omega, by simpa using hlen⟩, ?_⟩, fun g => absurd (by omega) g⟩, fun g => absurd (by omega) g⟩
      refine hR (t.length - (i + 1)) _ (by omega) ⟨i + 1, c1 + 1, by simp [h0], by simp, by simp, rfl, by omega, by omega, ?_, by ((try dsimp only); refine Own.of (by omega) ?_; repeat (first | exact OwnK.nil | refine OwnK.cons (.inl (by omega)) ?_ | refine OwnK.kill (fun b hb => .inl (by have := hoe b hb; omega)) ?_ | refine OwnK.cons (.inr (by simp)) ?_ | exact OwnK.one (by assumption) (by omega) (by omega) (by simp <;> omega) | refine OwnK.app (by assumption) (by omega) (by omega) (by simp <;> omega) ?_)), by omega, by simp⟩
      simp only [List.cons_append, get_cons_eq]
      rw [← hcell]
    · have hs : SlR (u ++ H) 1 (Sl b i 1) ((ints (t.take i)).map I) (some b) := .blk hg hlen
      have fail : confOk (ints t) = false → Q (.tuple ⟨[Sl c1 0 1, .bool false]⟩) ((c1, some ⟨[], 1, false⟩) :: u) (c1 + 1) := fun hc => by
        simp only [hc, Bool.false_eq_true, if_false] at h
        exact h _ _ _ (some c1) (by ((try dsimp only); refine Own.of (by omega) ?_; repeat (first | exact OwnK.nil | refine OwnK.cons (.inl (by omega)) ?_ | refine OwnK.kill (fun b hb => .inl (by have := hoe b hb; omega)) ?_ | refine OwnK.cons (.inr (by simp)) ?_ | exact OwnK.one (by assumption) (by omega) (by omega) (by simp <;> omega) | refine OwnK.app (by assumption) (by omega) (by omega) (by simp <;> omega) ?_))) (.blk (by simp) rfl) (fun b' hb' => by cases hb'; have := ho.le; omega)
      have rest : R (.exit 0) ⟨ts, u, c1⟩ → True := fun _ => trivial
      have go : ∀ ts', ts' 0 = T t → ts' 4 = Sl b i 1 → R (.exit 0) ⟨ts', u, c1⟩ := by
        intro ts' e0 e4
        refine hE _ _ (by decide) ?_
        by_cases hil : i = t.length
        · rw [List.take_of_length_le (by omega), hil] at hs
          repeat (first | simp only [RS0, RS1, RS2, RS3, RS4, reduceIte, Nat.reduceEqDiff, Nat.reduceAdd, Nat.reduceLeDiff, Nat.reduceLT, Nat.reduceMul, Int.reduceToNat, Int.reduceLT, Int.reduceLE, Int.reduceAdd, Int.reduceSub, Int.reduceMul, Int.reduceEq, Int.reduceNe, Nat.reduceSub, reduceCtorEq, boxF, if_true, if_false, forall_const, implies_true, ne_eq, e0, e4, hil] | simp (disch := first | assumption | omega | (simp only [LS] <;> omega) | (simp only [List.not_mem_nil, List.mem_cons, or_false, not_false_eq_true, not_or] <;> omega)) only [CS, e0, e4, hil] | simp only [condK_B, guardK_Bt, guardK_Bf])
          refine EvK.of (spec_ConfOk_ok _ (ints t) _ hs (by rw [ints_len]; omega) ?_)
          cases hc : confOk (ints t) with
          | true =>
            repeat (first | simp only [RS0, RS1, RS2, RS3, RS4, reduceIte, Nat.reduceEqDiff, Nat.reduceAdd, Nat.reduceLeDiff, Nat.reduceLT, Nat.reduceMul, Int.reduceToNat, Int.reduceLT, Int.reduceLE, Int.reduceAdd, Int.reduceSub, Int.reduceMul, Int.reduceEq, Int.reduceNe, Nat.reduceSub, reduceCtorEq, boxF, if_true, if_false, forall_const, implies_true, ne_eq, e0, e4] | simp (disch := first | assumption | omega | (simp only [LS] <;> omega) | (simp only [List.not_mem_nil, List.mem_cons, or_false, not_false_eq_true, not_or] <;> omega)) only [CS, e0, e4] | simp only [condK_B, guardK_Bt, guardK_Bf])
            simp only [hc, if_true] at h
            rw [← hil] at hs
            exact h u c1 _ (some b) ho hs (fun b' hb' => by cases hb'; omega)
          | false =>
            repeat (first | simp only [RS0, RS1, RS2, RS3, RS4, reduceIte, Nat.reduceEqDiff, Nat.reduceAdd, Nat.reduceLeDiff, Nat.reduceLT, Nat.reduceMul, Int.reduceToNat, Int.reduceLT, Int.reduceLE, Int.reduceAdd, Int.reduceSub, Int.reduceMul, Int.reduceEq, Int.reduceNe, Nat.reduceSub, reduceCtorEq, boxF, if_true, if_false, forall_const, implies_true, ne_eq, e0, e4] | simp (disch := first | assumption | omega | (simp only [LS] <;> omega) | (simp only [List.not_mem_nil, List.mem_cons, or_false, not_false_eq_true, not_or] <;> omega)) only [CS, e0, e4] | simp only [condK_B, guardK_Bt, guardK_Bf])
            exact fail hc
        · have hc : confOk (ints t) = false := by
            cases hc : confOk (ints t) with
            | false => rfl
            | true => have := (confOk_len hc).2; rw [ints_len] at this; omega
          have hne : ¬(i : Int) = t.length := by omega
          repeat (first | simp only [RS0, RS1, RS2, RS3, RS4, reduceIte, Nat.reduceEqDiff, Nat.reduceAdd, Nat.reduceLeDiff, Nat.reduceLT, Nat.reduceMul, Int.reduceToNat, Int.reduceLT, Int.reduceLE, Int.reduceAdd, Int.reduceSub, Int.reduceMul, Int.reduceEq, Int.reduceNe, Nat.reduceSub, reduceCtorEq, boxF, if_true, if_false, forall_const, implies_true, ne_eq, e0, e4, hne] | simp (disch := first | assumption | omega | (simp only [LS] <;> omega) | (simp only [List.not_mem_nil, List.mem_cons, or_false, not_false_eq_true, not_or] <;> omega)) only [CS, e0, e4, hne] | simp only [condK_B, guardK_Bt, guardK_Bf])
          exact fail hc
      repeat (first | simp only [RS0, RS1, RS2, RS3, RS4, reduceIte, Nat.reduceEqDiff, Nat.reduceAdd, Nat.reduceLeDiff, Nat.reduceLT, Nat.reduceMul, Int.reduceToNat, Int.reduceLT, Int.reduceLE, Int.reduceAdd, Int.reduceSub, Int.reduceMul, Int.reduceEq, Int.reduceNe, Nat.reduceSub, reduceCtorEq, boxF, if_true, if_false, forall_const, implies_true, ne_eq, g_spec_ReadConf_L0, h0, h4, h5, hg] | simp (disch := first | assumption | omega | (simp only [LS] <;> omega) | (simp only [List.not_mem_nil, List.mem_cons, or_false, not_false_eq_true, not_or] <;> omega)) only [CS, g_spec_ReadConf_L0, h0, h4, h5, hg] | simp only [condK_B, guardK_Bt, guardK_Bf])
      refine ⟨fun g => ⟨fun g2 => absurd (by omega) hin, fun g2 => go _ (by simp [h0]) (by simp [h4])⟩, fun g2 => go _ (by simp [h0]) (by simp [h4])⟩
  · exact ⟨0, c, by simp, by simp, by simp, rfl, by omega, by omega, by simp [ints], by ((try dsimp only); refine Own.of (by omega) ?_; repeat (first | exact OwnK.nil | refine OwnK.cons (.inl (by omega)) ?_ | refine OwnK.kill (fun b hb => .inl (by have := hoe b hb; omega)) ?_ | refine OwnK.cons (.inr (by simp)) ?_ | exact OwnK.one (by assumption) (by omega) (by omega) (by simp <;> omega) | refine OwnK.app (by assumption) (by omega) (by omega) (by simp <;> omega) ?_)), by omega, by simp⟩
end
end Go.Proofs.Ytfcglkajekohiaa
