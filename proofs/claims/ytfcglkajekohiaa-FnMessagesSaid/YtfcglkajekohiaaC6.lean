/- Contracts: the nodes of a conf. -/
import Derived.Test.YtfcglkajekohiaaC5
set_option linter.unusedSimpArgs false
set_option linter.unusedVariables false
namespace Go.Proofs.Ytfcglkajekohiaa
open Go Go.Proofs.Ytfcglkajekohiaa.AM

/-- Do numbers ascend, from behind another one, each in 1 .. 4? -/
def rise (p : Int) : List Int → Bool
  | [] => true
  | x :: r => decide (1 ≤ x ∧ x ≤ 4 ∧ p < x) && rise x r
def confOk (l : List Int) : Bool := decide (0 < l.length) && rise 0 l

theorem rise_len {p : Int} {l : List Int} (h : rise p l = true) (hp : 0 ≤ p) : (l.length : Int) ≤ max 0 (4 - p) := by
  induction l generalizing p with
  | nil => simp; omega
  | cons x l ih =>
    simp only [rise, Bool.and_eq_true, decide_eq_true_eq] at h
    have := ih h.2 (by omega)
    simp only [List.length_cons]
    omega

section
variable {prim : Nat → List Value → Option Value} {H : AHeap} {c : Nat} {Q : Value → AHeap → Nat → Prop}

theorem impl_nodesOk_ok (v : Value) (l : List Int) (ob : Option Nat) (hv : SlR H 1 v (l.map I) ob) (hl : l.length ≤ 1000000000000) (h : Q (B (rise 0 l)) [] c) : Ev (tbl prim) n_impl_nodesOk [v] H c Q := by
  refine Ev.fn (s_impl_nodesOk prim) rfl ?_
  have hlen := hv.len (n := l.length) (by simp) (by omega)
  repeat (first | simp only [RS0, RS1, RS2, RS3, RS4, reduceIte, Nat.reduceEqDiff, Nat.reduceAdd, Nat.reduceLeDiff, Nat.reduceLT, Nat.reduceMul, Int.reduceToNat, Int.reduceLT, Int.reduceLE, Int.reduceAdd, Int.reduceSub, Int.reduceMul, Int.reduceEq, Int.reduceNe, Nat.reduceSub, reduceCtorEq, boxF, if_true, if_false, forall_const, implies_true, ne_eq, g_impl_nodesOk, hlen] | simp (disch := first | assumption | omega | (simp only [LS] <;> omega) | (simp only [List.not_mem_nil, List.mem_cons, or_false, not_false_eq_true, not_or] <;> omega)) only [CS, g_impl_nodesOk, hlen] | simp only [condK_B, guardK_Bt, guardK_Bf])
  refine Wloop.of (fun k s => ∃ (i : Nat) (p : Int), s.ts 0 = v ∧ s.ts 5 = v ∧ s.ts 6 = I l.length ∧ s.ts 7 = I i ∧ s.u = [] ∧ s.c = c ∧ k = l.length - i ∧ i ≤ l.length ∧ rise p (l.drop i) = rise 0 l ∧ (i = 0 → p = 0) ∧ (0 < i → p = l.getD (i - 1) 0)) ?_ (n := l.length) ?_
  · rintro k ⟨ts, u, c1⟩ ⟨i, p, h0, h5, h6, h7, hu, hc, rfl, hi, hr, hp0, hp1⟩ R hR hE
    simp only at h0 h5 h6 h7 hu hc
    subst hu; subst hc
    rw [← hr] at h
    by_cases hin : i < l.length
    · obtain ⟨b, ro, hob, hia, hgb⟩ := hv.at (n := l.length) (by simp) (by omega) (k := .i64) (i := (i : Int)) (by omega) (by omega)
      rw [drop_getD hin 0, rise] at h hr
      generalize hx : l.getD i 0 = x at *
      repeat (first | simp only [RS0, RS1, RS2, RS3, RS4, reduceIte, Nat.reduceEqDiff, Nat.reduceAdd, Nat.reduceLeDiff, Nat.reduceLT, Nat.reduceMul, Int.reduceToNat, Int.reduceLT, Int.reduceLE, Int.reduceAdd, Int.reduceSub, Int.reduceMul, Int.reduceEq, Int.reduceNe, Nat.reduceSub, reduceCtorEq, boxF, if_true, if_false, forall_const, implies_true, ne_eq, g_impl_nodesOk_L0, h0, h5, h6, h7, hia, hgb, hx] | simp (disch := first | assumption | omega | (simp only [LS] <;> omega) | (simp only [List.not_mem_nil, List.mem_cons, or_false, not_false_eq_true, not_or] <;> omega)) only [CS, g_impl_nodesOk_L0, h0, h5, h6, h7, hia, hgb, hx] | simp only [condK_B, guardK_Bt, guardK_Bf])
      refine ⟨fun _ => ⟨by omega, ?_⟩, fun g => absurd (by omega) g⟩
      refine EvK.of (impl_isNode_ok _ ?_)
      by_cases hi0 : 0 < i
      · obtain ⟨b2, ro2, hob2, hia2, hgb2⟩ := hv.at (n := l.length) (by simp) (by omega) (k := .i64) (i := (i : Int) - 1) (by omega) (by omega)
        have hpx := hp1 hi0
        have e1 : ((i : Int) - 1).toNat = i - 1 := by omega
        repeat (first | simp only [RS0, RS1, RS2, RS3, RS4, reduceIte, Nat.reduceEqDiff, Nat.reduceAdd, Nat.reduceLeDiff, Nat.reduceLT, Nat.reduceMul, Int.reduceToNat, Int.reduceLT, Int.reduceLE, Int.reduceAdd, Int.reduceSub, Int.reduceMul, Int.reduceEq, Int.reduceNe, Nat.reduceSub, reduceCtorEq, boxF, if_true, if_false, forall_const, implies_true, ne_eq, h0, h5, h6, h7, hia2, hgb2, e1, ← hpx] | simp (disch := first | assumption | omega | (simp only [LS] <;> omega) | (simp only [List.not_mem_nil, List.mem_cons, or_false, not_false_eq_true, not_or] <;> omega)) only [CS, h0, h5, h6, h7, hia2, hgb2, e1, ← hpx] | simp only [condK_B, guardK_Bt, guardK_Bf])
        refine ⟨fun g1 => ⟨fun _ => ⟨by omega, fun g2 => ?_, fun g2 => ?_⟩, fun g => absurd (by omega) g⟩, fun g1 => ?_⟩
        · refine hE _ _ (by decide) ?_
          repeat (first | simp only [RS0, RS1, RS2, RS3, RS4, reduceIte, Nat.reduceEqDiff, Nat.reduceAdd, Nat.reduceLeDiff, Nat.reduceLT, Nat.reduceMul, Int.reduceToNat, Int.reduceLT, Int.reduceLE, Int.reduceAdd, Int.reduceSub, Int.reduceMul, Int.reduceEq, Int.reduceNe, Nat.reduceSub, reduceCtorEq, boxF, if_true, if_false, forall_const, implies_true, ne_eq, h0] | simp (disch := first | assumption | omega | (simp only [LS] <;> omega) | (simp only [List.not_mem_nil, List.mem_cons, or_false, not_false_eq_true, not_or] <;> omega)) only [CS, h0] | simp only [condK_B, guardK_Bt, guardK_Bf])
          simpa [show ¬(p < x) by omega] using h
        · refine hR (l.length - (i + 1)) _ (by omega) ⟨i + 1, x, by simp [h0], by simp [h5], by simp [h6], by simp, rfl, rfl, rfl, by omega, ?_, by simp, by simpa using hx.symm⟩
          rw [← hr]; simp [g1, show p < x by omega]
        · refine hE _ _ (by decide) ?_
          repeat (first | simp only [RS0, RS1, RS2, RS3, RS4, reduceIte, Nat.reduceEqDiff, Nat.reduceAdd, Nat.reduceLeDiff, Nat.reduceLT, Nat.reduceMul, Int.reduceToNat, Int.reduceLT, Int.reduceLE, Int.reduceAdd, Int.reduceSub, Int.reduceMul, Int.reduceEq, Int.reduceNe, Nat.reduceSub, reduceCtorEq, boxF, if_true, if_false, forall_const, implies_true, ne_eq, h0] | simp (disch := first | assumption | omega | (simp only [LS] <;> omega) | (simp only [List.not_mem_nil, List.mem_cons, or_false, not_false_eq_true, not_or] <;> omega)) only [CS, h0] | simp only [condK_B, guardK_Bt, guardK_Bf])
          have : ¬(1 ≤ x ∧ x ≤ 4 ∧ p < x) := fun g => g1 ⟨g.1, g.2.1⟩
          simpa [this] using h
      · have hp := hp0 (by omega)
        repeat (first | simp only [RS0, RS1, RS2, RS3, RS4, reduceIte, Nat.reduceEqDiff, Nat.reduceAdd, Nat.reduceLeDiff, Nat.reduceLT, Nat.reduceMul, Int.reduceToNat, Int.reduceLT, Int.reduceLE, Int.reduceAdd, Int.reduceSub, Int.reduceMul, Int.reduceEq, Int.reduceNe, Nat.reduceSub, reduceCtorEq, boxF, if_true, if_false, forall_const, implies_true, ne_eq, h0, h5, h6, h7] | simp (disch := first | assumption | omega | (simp only [LS] <;> omega) | (simp only [List.not_mem_nil, List.mem_cons, or_false, not_false_eq_true, not_or] <;> omega)) only [CS, h0, h5, h6, h7] | simp only [condK_B, guardK_Bt, guardK_Bf])
        refine ⟨fun g1 => ⟨fun g => absurd g (by omega), fun _ => ?_⟩, fun g1 => ?_⟩
        · refine hR (l.length - (i + 1)) _ (by omega) ⟨i + 1, x, by simp [h0], by simp [h5], by simp [h6], by simp, rfl, rfl, rfl, by omega, ?_, by simp, by simpa using hx.symm⟩
          rw [← hr]; simp [g1, show p < x by omega]
        · refine hE _ _ (by decide) ?_
          repeat (first | simp only [RS0, RS1, RS2, RS3, RS4, reduceIte, Nat.reduceEqDiff, Nat.reduceAdd, Nat.reduceLeDiff, Nat.reduceLT, Nat.reduceMul, Int.reduceToNat, Int.reduceLT, Int.reduceLE, Int.reduceAdd, Int.reduceSub, Int.reduceMul, Int.reduceEq, Int.reduceNe, Nat.reduceSub, reduceCtorEq, boxF, if_true, if_false, forall_const, implies_true, ne_eq, h0] | simp (disch := first | assumption | omega | (simp only [LS] <;> omega) | (simp only [List.not_mem_nil, List.mem_cons, or_false, not_false_eq_true, not_or] <;> omega)) only [CS, h0] | simp only [condK_B, guardK_Bt, guardK_Bf])
          have : ¬(1 ≤ x ∧ x ≤ 4 ∧ p < x) := fun g => g1 ⟨g.1, g.2.1⟩
          simpa [this] using h
    · repeat (first | simp only [RS0, RS1, RS2, RS3, RS4, reduceIte, Nat.reduceEqDiff, Nat.reduceAdd, Nat.reduceLeDiff, Nat.reduceLT, Nat.reduceMul, Int.reduceToNat, Int.reduceLT, Int.reduceLE, Int.reduceAdd, Int.reduceSub, Int.reduceMul, Int.reduceEq, Int.reduceNe, Nat.reduceSub, reduceCtorEq, boxF, if_true, if_false, forall_const, implies_true, ne_eq, g_impl_nodesOk_L0, h0, h5, h6, h7] | simp (disch := first | assumption | omega | (simp only [LS] <;> omega) | (simp only [List.not_mem_nil, List.mem_cons, or_false, not_false_eq_true, not_or] <;> omega)) only [CS, g_impl_nodesOk_L0, h0, h5, h6, h7] | simp only [condK_B, guardK_Bt, guardK_Bf])
      refine ⟨fun g => absurd g (by omega), fun _ => hE _ _ (by decide) ?_⟩
      rw [List.drop_eq_nil_of_le (by omega), rise] at h
      repeat (first | simp only [RS0, RS1, RS2, RS3, RS4, reduceIte, Nat.reduceEqDiff, Nat.reduceAdd, Nat.reduceLeDiff, Nat.reduceLT, Nat.reduceMul, Int.reduceToNat, Int.reduceLT, Int.reduceLE, Int.reduceAdd, Int.reduceSub, Int.reduceMul, Int.reduceEq, Int.reduceNe, Nat.reduceSub, reduceCtorEq, boxF, if_true, if_false, forall_const, implies_true, ne_eq, h0] | simp (disch := first | assumption | omega | (simp only [LS] <;> omega) | (simp only [List.not_mem_nil, List.mem_cons, or_false, not_false_eq_true, not_or] <;> omega)) only [CS, h0] | simp only [condK_B, guardK_Bt, guardK_Bf])
      exact h
  · exact ⟨0, 0, by simp, by simp, by simp, by simp, rfl, rfl, rfl, by omega, by simp, by simp, by simp⟩

theorem impl_ConfOk_ok (v : Value) (l : List Int) (ob : Option Nat) (hv : SlR H 1 v (l.map I) ob) (hl : l.length ≤ 1000000000000) (h : Q (B (confOk l)) [] c) : Ev (tbl prim) n_impl_ConfOk [v] H c Q := by
  refine Ev.fn (s_impl_ConfOk prim) rfl ?_
  have hlen := hv.len (n := l.length) (by simp) (by omega)
  repeat (first | simp only [RS0, RS1, RS2, RS3, RS4, reduceIte, Nat.reduceEqDiff, Nat.reduceAdd, Nat.reduceLeDiff, Nat.reduceLT, Nat.reduceMul, Int.reduceToNat, Int.reduceLT, Int.reduceLE, Int.reduceAdd, Int.reduceSub, Int.reduceMul, Int.reduceEq, Int.reduceNe, Nat.reduceSub, reduceCtorEq, boxF, if_true, if_false, forall_const, implies_true, ne_eq, g_impl_ConfOk, hlen] | simp (disch := first | assumption | omega | (simp only [LS] <;> omega) | (simp only [List.not_mem_nil, List.mem_cons, or_false, not_false_eq_true, not_or] <;> omega)) only [CS, g_impl_ConfOk, hlen] | simp only [condK_B, guardK_Bt, guardK_Bf])
  refine ⟨fun g => ?_, fun g => ?_⟩
  · refine EvK.of (impl_nodesOk_ok v l ob hv hl ?_)
    repeat (first | simp only [RS0, RS1, RS2, RS3, RS4, reduceIte, Nat.reduceEqDiff, Nat.reduceAdd, Nat.reduceLeDiff, Nat.reduceLT, Nat.reduceMul, Int.reduceToNat, Int.reduceLT, Int.reduceLE, Int.reduceAdd, Int.reduceSub, Int.reduceMul, Int.reduceEq, Int.reduceNe, Nat.reduceSub, reduceCtorEq, boxF, if_true, if_false, forall_const, implies_true, ne_eq] | simp (disch := first | assumption | omega | (simp only [LS] <;> omega) | (simp only [List.not_mem_nil, List.mem_cons, or_false, not_false_eq_true, not_or] <;> omega)) only [CS] | simp only [condK_B, guardK_Bt, guardK_Bf])
    simpa [confOk, show 0 < l.length by omega] using h
  · simpa [confOk, show ¬ 0 < l.length by omega] using h

theorem spec_l05Rise_ok (v : Value) (l : List Int) (ob : Option Nat) (hv : SlR H 1 v (l.map I) ob) (hl : l.length ≤ 1000000000000) (h : Q (B (rise 0 l)) [] c) : Ev (tbl prim) n_spec_l05Rise [v, I 1, I 4] H c Q := by
  refine Ev.fn (s_spec_l05Rise prim) rfl ?_
  have hlen := hv.len (n := l.length) (by simp) (by omega)
  repeat (first | simp only [RS0, RS1, RS2, RS3, RS4, reduceIte, Nat.reduceEqDiff, Nat.reduceAdd, Nat.reduceLeDiff, Nat.reduceLT, Nat.reduceMul, Int.reduceToNat, Int.reduceLT, Int.reduceLE, Int.reduceAdd, Int.reduceSub, Int.reduceMul, Int.reduceEq, Int.reduceNe, Nat.reduceSub, reduceCtorEq, boxF, if_true, if_false, forall_const, implies_true, ne_eq, g_spec_l05Rise, hlen] | simp (disch := first | assumption | omega | (simp only [LS] <;> omega) | (simp only [List.not_mem_nil, List.mem_cons, or_false, not_false_eq_true, not_or] <;> omega)) only [CS, g_spec_l05Rise, hlen] | simp only [condK_B, guardK_Bt, guardK_Bf])
  refine Wloop.of (fun k s => ∃ (i : Nat) (p : Int), s.ts 0 = v ∧ s.ts 1 = I 1 ∧ s.ts 2 = I 4 ∧ s.ts 7 = I i ∧ s.u = [] ∧ s.c = c ∧ k = l.length - i ∧ i ≤ l.length ∧ rise p (l.drop i) = rise 0 l ∧ (i = 0 → p = 0) ∧ (0 < i → p = l.getD (i - 1) 0)) ?_ (n := l.length) ?_
  · rintro k ⟨ts, u, c1⟩ ⟨i, p, h0, h1, h2, h7, hu, hc, rfl, hi, hr, hp0, hp1⟩ R hR hE
    simp only at h0 h1 h2 h7 hu hc
    subst hu; subst hc
    rw [← hr] at h
    by_cases hin : i < l.length
    · obtain ⟨b, ro, hob, hia, hgb⟩ := hv.at (n := l.length) (by simp) (by omega) (k := .i64) (i := (i : Int)) (by omega) (by omega)
      rw [drop_getD hin 0, rise] at h hr
      generalize hx : l.getD i 0 = x at *
      repeat (first | simp only [RS0, RS1, RS2, RS3, RS4, reduceIte, Nat.reduceEqDiff, Nat.reduceAdd, Nat.reduceLeDiff, Nat.reduceLT, Nat.reduceMul, Int.reduceToNat, Int.reduceLT, Int.reduceLE, Int.reduceAdd, Int.reduceSub, Int.reduceMul, Int.reduceEq, Int.reduceNe, Nat.reduceSub, reduceCtorEq, boxF, if_true, if_false, forall_const, implies_true, ne_eq, g_spec_l05Rise_L0, h0, h1, h2, h7, hia, hgb, hx, hlen] | simp (disch := first | assumption | omega | (simp only [LS] <;> omega) | (simp only [List.not_mem_nil, List.mem_cons, or_false, not_false_eq_true, not_or] <;> omega)) only [CS, g_spec_l05Rise_L0, h0, h1, h2, h7, hia, hgb, hx, hlen] | simp only [condK_B, guardK_Bt, guardK_Bf])
      refine ⟨fun _ => ⟨by omega, ?_⟩, fun g => absurd (by omega) g⟩
      refine EvK.of (spec_l01In_ok _ _ _ ?_)
      by_cases hi0 : 0 < i
      · obtain ⟨b2, ro2, hob2, hia2, hgb2⟩ := hv.at (n := l.length) (by simp) (by omega) (k := .i64) (i := (i : Int) - 1) (by omega) (by omega)
        have hpx := hp1 hi0
        have e1 : ((i : Int) - 1).toNat = i - 1 := by omega
        repeat (first | simp only [RS0, RS1, RS2, RS3, RS4, reduceIte, Nat.reduceEqDiff, Nat.reduceAdd, Nat.reduceLeDiff, Nat.reduceLT, Nat.reduceMul, Int.reduceToNat, Int.reduceLT, Int.reduceLE, Int.reduceAdd, Int.reduceSub, Int.reduceMul, Int.reduceEq, Int.reduceNe, Nat.reduceSub, reduceCtorEq, boxF, if_true, if_false, forall_const, implies_true, ne_eq, h0, h1, h2, h7, hia, hgb, hx, hia2, hgb2, e1, ← hpx] | simp (disch := first | assumption | omega | (simp only [LS] <;> omega) | (simp only [List.not_mem_nil, List.mem_cons, or_false, not_false_eq_true, not_or] <;> omega)) only [CS, h0, h1, h2, h7, hia, hgb, hx, hia2, hgb2, e1, ← hpx] | simp only [condK_B, guardK_Bt, guardK_Bf])
        refine ⟨fun g1 => ⟨fun _ => ⟨by omega, by omega, fun g2 => ?_, fun g2 => ?_⟩, fun g => absurd (by omega) g⟩, fun g1 => ?_⟩
        · refine hE _ _ (by decide) ?_
          repeat (first | simp only [RS0, RS1, RS2, RS3, RS4, reduceIte, Nat.reduceEqDiff, Nat.reduceAdd, Nat.reduceLeDiff, Nat.reduceLT, Nat.reduceMul, Int.reduceToNat, Int.reduceLT, Int.reduceLE, Int.reduceAdd, Int.reduceSub, Int.reduceMul, Int.reduceEq, Int.reduceNe, Nat.reduceSub, reduceCtorEq, boxF, if_true, if_false, forall_const, implies_true, ne_eq, h0] | simp (disch := first | assumption | omega | (simp only [LS] <;> omega) | (simp only [List.not_mem_nil, List.mem_cons, or_false, not_false_eq_true, not_or] <;> omega)) only [CS, h0] | simp only [condK_B, guardK_Bt, guardK_Bf])
          simpa [show ¬(p < x) by omega] using h
        · refine hR (l.length - (i + 1)) _ (by omega) ⟨i + 1, x, by simp [h0], by simp [h1], by simp [h2], by simp, rfl, rfl, rfl, by omega, ?_, by simp, by simpa using hx.symm⟩
          rw [← hr]; simp [g1, show p < x by omega]
        · refine hE _ _ (by decide) ?_
          repeat (first | simp only [RS0, RS1, RS2, RS3, RS4, reduceIte, Nat.reduceEqDiff, Nat.reduceAdd, Nat.reduceLeDiff, Nat.reduceLT, Nat.reduceMul, Int.reduceToNat, Int.reduceLT, Int.reduceLE, Int.reduceAdd, Int.reduceSub, Int.reduceMul, Int.reduceEq, Int.reduceNe, Nat.reduceSub, reduceCtorEq, boxF, if_true, if_false, forall_const, implies_true, ne_eq, h0] | simp (disch := first | assumption | omega | (simp only [LS] <;> omega) | (simp only [List.not_mem_nil, List.mem_cons, or_false, not_false_eq_true, not_or] <;> omega)) only [CS, h0] | simp only [condK_B, guardK_Bt, guardK_Bf])
          have : ¬(1 ≤ x ∧ x ≤ 4 ∧ p < x) := fun g => g1 ⟨g.1, g.2.1⟩
          simpa [this] using h
      · have hp := hp0 (by omega)
        repeat (first | simp only [RS0, RS1, RS2, RS3, RS4, reduceIte, Nat.reduceEqDiff, Nat.reduceAdd, Nat.reduceLeDiff, Nat.reduceLT, Nat.reduceMul, Int.reduceToNat, Int.reduceLT, Int.reduceLE, Int.reduceAdd, Int.reduceSub, Int.reduceMul, Int.reduceEq, Int.reduceNe, Nat.reduceSub, reduceCtorEq, boxF, if_true, if_false, forall_const, implies_true, ne_eq, h0, h1, h2, h7] | simp (disch := first | assumption | omega | (simp only [LS] <;> omega) | (simp only [List.not_mem_nil, List.mem_cons, or_false, not_false_eq_true, not_or] <;> omega)) only [CS, h0, h1, h2, h7] | simp only [condK_B, guardK_Bt, guardK_Bf])
        refine ⟨fun g1 => ⟨fun g => absurd g (by omega), fun _ => ?_⟩, fun g1 => ?_⟩
        · refine hR (l.length - (i + 1)) _ (by omega) ⟨i + 1, x, by simp [h0], by simp [h1], by simp [h2], by simp, rfl, rfl, rfl, by omega, ?_, by simp, by simpa using hx.symm⟩
          rw [← hr]; simp [g1, show p < x by omega]
        · refine hE _ _ (by decide) ?_
          repeat (first | simp only [RS0, RS1, RS2, RS3, RS4, reduceIte, Nat.reduceEqDiff, Nat.reduceAdd, Nat.reduceLeDiff, Nat.reduceLT, Nat.reduceMul, Int.reduceToNat, Int.reduceLT, Int.reduceLE, Int.reduceAdd, Int.reduceSub, Int.reduceMul, Int.reduceEq, Int.reduceNe, Nat.reduceSub, reduceCtorEq, boxF, if_true, if_false, forall_const, implies_true, ne_eq, h0] | simp (disch := first | assumption | omega | (simp only [LS] <;> omega) | (simp only [List.not_mem_nil, List.mem_cons, or_false, not_false_eq_true, not_or] <;> omega)) only [CS, h0] | simp only [condK_B, guardK_Bt, guardK_Bf])
          have : ¬(1 ≤ x ∧ x ≤ 4 ∧ p < x) := fun g => g1 ⟨g.1, g.2.1⟩
          simpa [this] using h
    · repeat (first | simp only [RS0, RS1, RS2, RS3, RS4, reduceIte, Nat.reduceEqDiff, Nat.reduceAdd, Nat.reduceLeDiff, Nat.reduceLT, Nat.reduceMul, Int.reduceToNat, Int.reduceLT, Int.reduceLE, Int.reduceAdd, Int.reduceSub, Int.reduceMul, Int.reduceEq, Int.reduceNe, Nat.reduceSub, reduceCtorEq, boxF, if_true, if_false, forall_const, implies_true, ne_eq, g_spec_l05Rise_L0, h0, h1, h2, h7, hlen] | simp (disch := first | assumption | omega | (simp only [LS] <;> omega) | (simp only [List.not_mem_nil, List.mem_cons, or_false, not_false_eq_true, not_or] <;> omega)) only [CS, g_spec_l05Rise_L0, h0, h1, h2, h7, hlen] | simp only [condK_B, guardK_Bt, guardK_Bf])
      refine ⟨fun g => absurd g (by omega), fun _ => hE _ _ (by decide) ?_⟩
      rw [List.drop_eq_nil_of_le (by omega), rise] at h
      repeat (first | simp only [RS0, RS1, RS2, RS3, RS4, reduceIte, Nat.reduceEqDiff, Nat.reduceAdd, Nat.reduceLeDiff, Nat.reduceLT, Nat.reduceMul, Int.reduceToNat, Int.reduceLT, Int.reduceLE, Int.reduceAdd, Int.reduceSub, Int.reduceMul, Int.reduceEq, Int.reduceNe, Nat.reduceSub, reduceCtorEq, boxF, if_true, if_false, forall_const, implies_true, ne_eq, h0] | simp (disch := first | assumption | omega | (simp only [LS] <;> omega) | (simp only [List.not_mem_nil, List.mem_cons, or_false, not_false_eq_true, not_or] <;> omega)) only [CS, h0] | simp only [condK_B, guardK_Bt, guardK_Bf])
      exact h
  · exact ⟨0, 0, by simp, by simp, by simp, by simp, rfl, rfl, rfl, by omega, by simp, by simp, by simp⟩

theorem spec_ConfOk_ok (v : Value) (l : List Int) (ob : Option Nat) (hv : SlR H 1 v (l.map I) ob) (hl : l.length ≤ 1000000000000) (h : Q (B (confOk l)) [] c) : Ev (tbl prim) n_spec_ConfOk [v] H c Q := by
  refine Ev.fn (s_spec_ConfOk prim) rfl ?_
  have hlen := hv.len (n := l.length) (by simp) (by omega)
  repeat (first | simp only [RS0, RS1, RS2, RS3, RS4, reduceIte, Nat.reduceEqDiff, Nat.reduceAdd, Nat.reduceLeDiff, Nat.reduceLT, Nat.reduceMul, Int.reduceToNat, Int.reduceLT, Int.reduceLE, Int.reduceAdd, Int.reduceSub, Int.reduceMul, Int.reduceEq, Int.reduceNe, Nat.reduceSub, reduceCtorEq, boxF, if_true, if_false, forall_const, implies_true, ne_eq, g_spec_ConfOk, hlen] | simp (disch := first | assumption | omega | (simp only [LS] <;> omega) | (simp only [List.not_mem_nil, List.mem_cons, or_false, not_false_eq_true, not_or] <;> omega)) only [CS, g_spec_ConfOk, hlen] | simp only [condK_B, guardK_Bt, guardK_Bf])
  refine EvK.of (spec_l01In_ok _ _ _ ?_)
  repeat (first | simp only [RS0, RS1, RS2, RS3, RS4, reduceIte, Nat.reduceEqDiff, Nat.reduceAdd, Nat.reduceLeDiff, Nat.reduceLT, Nat.reduceMul, Int.reduceToNat, Int.reduceLT, Int.reduceLE, Int.reduceAdd, Int.reduceSub, Int.reduceMul, Int.reduceEq, Int.reduceNe, Nat.reduceSub, reduceCtorEq, boxF, if_true, if_false, forall_const, implies_true, ne_eq] | simp (disch := first | assumption | omega | (simp only [LS] <;> omega) | (simp only [List.not_mem_nil, List.mem_cons, or_false, not_false_eq_true, not_or] <;> omega)) only [CS] | simp only [condK_B, guardK_Bt, guardK_Bf])
  refine ⟨fun g => ?_, fun g => ?_⟩
  · refine EvK.of (spec_l05Rise_ok v l ob hv hl ?_)
    repeat (first | simp only [RS0, RS1, RS2, RS3, RS4, reduceIte, Nat.reduceEqDiff, Nat.reduceAdd, Nat.reduceLeDiff, Nat.reduceLT, Nat.reduceMul, Int.reduceToNat, Int.reduceLT, Int.reduceLE, Int.reduceAdd, Int.reduceSub, Int.reduceMul, Int.reduceEq, Int.reduceNe, Nat.reduceSub, reduceCtorEq, boxF, if_true, if_false, forall_const, implies_true, ne_eq] | simp (disch := first | assumption | omega | (simp only [LS] <;> omega) | (simp only [List.not_mem_nil, List.mem_cons, or_false, not_false_eq_true, not_or] <;> omega)) only [CS] | simp only [condK_B, guardK_Bt, guardK_Bf])
    simpa [confOk, show 0 < l.length by omega] using h
  · have : confOk l = false := by
      unfold confOk
      cases hr : rise 0 l with
      | false => simp
      | true => have := rise_len hr (by omega); have h0 : ¬0 < l.length := by omega
                simp [h0]
    rw [this] at h
    exact h
end
end Go.Proofs.Ytfcglkajekohiaa
