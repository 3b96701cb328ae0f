/- Contracts: numbers that are read, as the reference reads them. -/
import Derived.Test.YtfcglkajekohiaaC2
set_option linter.unusedVariables false
set_option linter.unusedSimpArgs false
namespace Go.Proofs.Ytfcglkajekohiaa
open Go Go.Proofs.Ytfcglkajekohiaa.AM

def val : List UInt8 → Nat
  | [] => 0
  | b :: l => b.toNat % 128 + 128 * val l

theorem val_snoc (p : List UInt8) (b : UInt8) : val (p ++ [b]) = val p + b.toNat % 128 * 128 ^ p.length := by
  induction p with
  | nil => simp [val]
  | cons x p ih =>
    simp only [List.cons_append, val, ih, List.length_cons, Nat.pow_succ]
    rw [Nat.mul_add, Nat.add_assoc]
    congr 2
    rw [Nat.mul_comm 128, Nat.mul_assoc]

theorem val_zero {p : List UInt8} {b : UInt8} (hb : b.toNat ≤ 127) (h : val (p ++ [b]) = 0) : b.toNat = 0 := by
  induction p with
  | nil => simp [val] at h; omega
  | cons x p ih => simp only [List.cons_append, val] at h; exact ih (by omega)

theorem varL_val {p : List UInt8} {b : UInt8} (hp : ∀ x ∈ p, 127 < x.toNat) (hb : b.toNat ≤ 127) : varL (val (p ++ [b])) = p ++ [b] ↔ p = [] ∨ b.toNat ≠ 0 := by
  induction p with
  | nil =>
    have e : val ([] ++ [b]) = b.toNat := by simp [val]; omega
    rw [e, varL_small (by omega), by8_of]; simp
  | cons x p ih =>
    have hx := hp x (by simp)
    have ih := ih (fun y hy => hp y (List.mem_cons_of_mem _ hy))
    have hxl := x.toNat_lt
    by_cases hz : val (p ++ [b]) = 0
    · have h0 := val_zero hb hz
      have hs : ¬127 < val (x :: p ++ [b]) := by simp only [List.cons_append, val, hz]; omega
      rw [varL_small hs]
      simp [h0]
    · have hs : 127 < val (x :: p ++ [b]) := by simp only [List.cons_append, val]; omega
      rw [varL_big hs]
      have e1 : val (x :: p ++ [b]) / 128 = val (p ++ [b]) := by simp only [List.cons_append, val]; omega
      have e2 : by8 (((val (x :: p ++ [b]) : Nat) : Int) % 128 + 128) = x := by
        have : (((val (x :: p ++ [b]) : Nat) : Int) % 128 + 128) = (x.toNat : Int) := by simp only [List.cons_append, val]; omega
        rw [this, by8_of]
      rw [e1, e2, List.cons_append, List.cons.injEq]
      simp only [true_and, ih]
      constructor
      · rintro (rfl | h)
        · right; intro h0; apply hz; simp [val, h0]
        · exact .inr h
      · rintro (h | h)
        · simp at h
        · exact .inr h

section
variable {prim : Nat → List Value → Option Value} {H : AHeap} {c : Nat} {Q : Value → AHeap → Nat → Prop}

theorem mul7 {b i n : Nat} (hi : i < 5) (hb : b < 256) (hn : n < 128 ^ i) : IntKind.i64.wrap ((b : Int) % 128 * (128 ^ i : Nat)) = ((b % 128 * 128 ^ i : Nat) : Int) ∧ IntKind.i64.wrap ((n : Int) + ((b % 128 * 128 ^ i : Nat) : Int)) = ((n + b % 128 * 128 ^ i : Nat) : Int) ∧
    IntKind.i64.wrap (((128 ^ i : Nat) : Int) * 128) = ((128 ^ (i + 1) : Nat) : Int) ∧ n + b % 128 * 128 ^ i < 128 ^ (i + 1) ∧ 128 ^ (i + 1) ≤ 34359738368 := by
  have : i = 0 ∨ i = 1 ∨ i = 2 ∨ i = 3 ∨ i = 4 := by omega
  rcases this with rfl | rfl | rfl | rfl | rfl
  all_goals
    simp only [Nat.reducePow, Nat.reduceAdd] at hn ⊢
    rw [wrap_i64 (by omega) (by omega), wrap_i64 (by omega) (by omega), wrap_i64 (by omega) (by omega)]
    omega

theorem spec_ReadVar_ok (t : List UInt8) (a : Int) (ht : t.length ≤ 1000000000000) (h : ∀ d c', Own [] d c c' → Q (if 0 ≤ a ∧ a ≤ t.length then rvT a (rv (t.drop a.toNat)) else rvT 0 none) d c') : Ev (tbl prim) n_spec_ReadVar [T t, I a] H c Q := by
  refine Ev.fn (s_spec_ReadVar prim) rfl ?_
  repeat (first | simp only [RS0, RS1, RS2, RS3, RS4, reduceIte, Nat.reduceEqDiff, Nat.reduceAdd, Nat.reduceLeDiff, Nat.reduceLT, Nat.reduceMul, Int.reduceToNat, Int.reduceLT, Int.reduceLE, Int.reduceAdd, Int.reduceSub, Int.reduceMul, Int.reduceEq, Int.reduceNe, Nat.reduceSub, reduceCtorEq, boxF, if_true, if_false, forall_const, implies_true, ne_eq, g_spec_ReadVar] | simp (disch := first | assumption | omega | (simp only [LS] <;> omega) | (simp only [List.not_mem_nil, List.mem_cons, or_false, not_false_eq_true, not_or] <;> omega)) only [CS, g_spec_ReadVar] | simp only [condK_B, guardK_Bt, guardK_Bf])
  refine EvK.of (spec_l01In_ok _ _ _ ?_)
  repeat (first | simp only [RS0, RS1, RS2, RS3, RS4, reduceIte, Nat.reduceEqDiff, Nat.reduceAdd, Nat.reduceLeDiff, Nat.reduceLT, Nat.reduceMul, Int.reduceToNat, Int.reduceLT, Int.reduceLE, Int.reduceAdd, Int.reduceSub, Int.reduceMul, Int.reduceEq, Int.reduceNe, Nat.reduceSub, reduceCtorEq, boxF, if_true, if_false, forall_const, implies_true, ne_eq] | simp (disch := first | assumption | omega | (simp only [LS] <;> omega) | (simp only [List.not_mem_nil, List.mem_cons, or_false, not_false_eq_true, not_or] <;> omega)) only [CS] | simp only [condK_B, guardK_Bt, guardK_Bf])
  refine ⟨fun hat => ?_, fun hat => ?_⟩
  · simp only [if_pos hat] at h
    obtain ⟨a, rfl⟩ : ∃ n : Nat, a = n := ⟨a.toNat, by omega⟩
    rw [Int.toNat_natCast] at h
    refine Wloop.of (fun k s => ∃ (i : Nat) (p : List UInt8), s.ts 0 = T t ∧ s.ts 1 = I a ∧ s.ts 7 = I (val p : Nat) ∧ s.ts 8 = I (128 ^ i : Nat) ∧ s.ts 9 = I (a + i) ∧ s.u = [] ∧ s.c = c ∧ k = 5 - i ∧ i ≤ 5 ∧ a + i ≤ t.length ∧ val p < 128 ^ i ∧ rvar (5 - i) i (val p) (t.drop (a + i)) = rv (t.drop a) ∧
      p.length = i ∧ (∀ x ∈ p, 127 < x.toNat) ∧ t.drop a = p ++ t.drop (a + i)) ?_ (n := 5) ?_
    · rintro k ⟨ts, u, c1⟩ ⟨i, p, h0, h1, h7, h8, h9, hu, hc, rfl, hi, hl, hn, hr, hpl, hp, htp⟩ R hR hE
      simp only at h0 h1 h7 h8 h9 hu hc
      subst hu; subst hc
      rw [← hr] at h
      by_cases hin : i < 5 ∧ a + i < t.length
      · obtain ⟨b, hb⟩ : ∃ b, b = t.getD (a + i) 0 := ⟨_, rfl⟩
        have hb' : t.getD ((a : Int) + i).toNat 0 = b := by rw [hb]; congr 1
        have hlt := b.toNat_lt
        obtain ⟨hw1, hw2, hw3, hn', hp5⟩ := mul7 hin.1 hlt hn
        have htk : (t.take ((a : Int) + i + 1).toNat).drop a = p ++ [b] := by
          rw [show ((a : Int) + i + 1).toNat = a + (i + 1) by omega, List.drop_take, htp, drop_getD hin.2 0, ← hb, Nat.add_sub_cancel_left]
          rw [show i + 1 = p.length + 1 by omega, List.take_length_add_append]; simp
        rw [show 5 - i = 4 - i + 1 by omega, drop_getD hin.2 0, ← hb, rvar] at h hr
        have hv := varL_val (b := b) hp
        have hvs := val_snoc p b
        rw [hpl] at hvs
        rw [← hvs] at h hr hn'
        repeat (first | simp only [RS0, RS1, RS2, RS3, RS4, reduceIte, Nat.reduceEqDiff, Nat.reduceAdd, Nat.reduceLeDiff, Nat.reduceLT, Nat.reduceMul, Int.reduceToNat, Int.reduceLT, Int.reduceLE, Int.reduceAdd, Int.reduceSub, Int.reduceMul, Int.reduceEq, Int.reduceNe, Nat.reduceSub, reduceCtorEq, boxF, if_true, if_false, forall_const, implies_true, ne_eq, g_spec_ReadVar_L0, h0, h1, h7, h8, h9, hb', hw1, hw2, hw3, htk, ← hvs] | simp (disch := first | assumption | omega | (simp only [LS] <;> omega) | (simp only [List.not_mem_nil, List.mem_cons, or_false, not_false_eq_true, not_or] <;> omega)) only [CS, g_spec_ReadVar_L0, h0, h1, h7, h8, h9, hb', hw1, hw2, hw3, htk, ← hvs] | simp only [condK_B, guardK_Bt, guardK_Bf])
        refine ⟨fun g1 => ⟨fun g2 => ⟨by omega, by omega, fun g3 => ⟨fun g4 => ?_, fun g4 => ?_⟩, fun g3 => ?_⟩, fun g2 => ?_⟩, fun g1 => ?_⟩
        · rw [if_neg (by omega), if_pos (.inr (by omega))] at h
          refine hE _ _ (by decide) ?_
          repeat (first | simp only [RS0, RS1, RS2, RS3, RS4, reduceIte, Nat.reduceEqDiff, Nat.reduceAdd, Nat.reduceLeDiff, Nat.reduceLT, Nat.reduceMul, Int.reduceToNat, Int.reduceLT, Int.reduceLE, Int.reduceAdd, Int.reduceSub, Int.reduceMul, Int.reduceEq, Int.reduceNe, Nat.reduceSub, reduceCtorEq, boxF, if_true, if_false, forall_const, implies_true, ne_eq, h0, h1] | simp (disch := first | assumption | omega | (simp only [LS] <;> omega) | (simp only [List.not_mem_nil, List.mem_cons, or_false, not_false_eq_true, not_or] <;> omega)) only [CS, h0, h1] | simp only [condK_B, guardK_Bt, guardK_Bf])
          exact h _ _ (Own.nil _)
        · rw [if_neg (by omega)] at h
          refine EvK.of (spec_l01Var_ok _ (by omega) (by omega) fun d c' ho => ?_)
          have ho_le := ho.le
          rw [Int.toNat_natCast]
          repeat (first | simp only [RS0, RS1, RS2, RS3, RS4, reduceIte, Nat.reduceEqDiff, Nat.reduceAdd, Nat.reduceLeDiff, Nat.reduceLT, Nat.reduceMul, Int.reduceToNat, Int.reduceLT, Int.reduceLE, Int.reduceAdd, Int.reduceSub, Int.reduceMul, Int.reduceEq, Int.reduceNe, Nat.reduceSub, reduceCtorEq, boxF, if_true, if_false, forall_const, implies_true, ne_eq, h0, h1, h9, htk] | simp (disch := first | assumption | omega | (simp only [LS] <;> omega) | (simp only [List.not_mem_nil, List.mem_cons, or_false, not_false_eq_true, not_or] <;> omega)) only [CS, h0, h1, h9, htk] | simp only [condK_B, guardK_Bt, guardK_Bf])
          refine ⟨by omega, fun g5 => ?_, fun g5 => ?_⟩
          · refine hE _ _ (by decide) ?_
            repeat (first | simp only [RS0, RS1, RS2, RS3, RS4, reduceIte, Nat.reduceEqDiff, Nat.reduceAdd, Nat.reduceLeDiff, Nat.reduceLT, Nat.reduceMul, Int.reduceToNat, Int.reduceLT, Int.reduceLE, Int.reduceAdd, Int.reduceSub, Int.reduceMul, Int.reduceEq, Int.reduceNe, Nat.reduceSub, reduceCtorEq, boxF, if_true, if_false, forall_const, implies_true, ne_eq, h0, h1] | simp (disch := first | assumption | omega | (simp only [LS] <;> omega) | (simp only [List.not_mem_nil, List.mem_cons, or_false, not_false_eq_true, not_or] <;> omega)) only [CS, h0, h1] | simp only [condK_B, guardK_Bt, guardK_Bf])
            have hv := (hv (by omega)).mp g5
            rw [if_neg (by rintro (⟨g6, g7⟩ | g6); rcases hv with hv | hv; (subst hv; simp at hpl; omega); exact hv g7; omega)] at h
            simpa [rvT, Int.add_assoc] using h d c' ho
          · refine hE _ _ (by decide) ?_
            repeat (first | simp only [RS0, RS1, RS2, RS3, RS4, reduceIte, Nat.reduceEqDiff, Nat.reduceAdd, Nat.reduceLeDiff, Nat.reduceLT, Nat.reduceMul, Int.reduceToNat, Int.reduceLT, Int.reduceLE, Int.reduceAdd, Int.reduceSub, Int.reduceMul, Int.reduceEq, Int.reduceNe, Nat.reduceSub, reduceCtorEq, boxF, if_true, if_false, forall_const, implies_true, ne_eq, h0, h1] | simp (disch := first | assumption | omega | (simp only [LS] <;> omega) | (simp only [List.not_mem_nil, List.mem_cons, or_false, not_false_eq_true, not_or] <;> omega)) only [CS, h0, h1] | simp only [condK_B, guardK_Bt, guardK_Bf])
            have hv : ¬(p = [] ∨ b.toNat ≠ 0) := fun e => g5 ((hv (by omega)).mpr e)
            rw [if_pos (.inl ⟨by cases p with | nil => exact absurd (.inl rfl) hv | cons x p => rw [← hpl]; simp, by omega⟩)] at h
            exact h d c' ho
        · rw [if_pos (by omega)] at hr
          refine hR (5 - (i + 1)) _ (by omega) ⟨i + 1, p ++ [b], by simp [h0], by simp [h1], by simp, by simp, by simp; omega, rfl, rfl, rfl, by omega, by omega, hn', by rw [← hr, show 5 - (i + 1) = 4 - i by omega]; rfl, by simp [hpl], ?_, ?_⟩
          · intro x hx
            rcases List.mem_append.mp hx with hx | hx
            · exact hp x hx
            · simp at hx; subst hx; omega
          · rw [htp, drop_getD hin.2 0, ← hb]; simp [Nat.add_assoc]
        all_goals (exfalso; omega)
      · have hq : rvar (5 - i) i (val p) (t.drop (a + i)) = none := by
          by_cases h5 : i < 5
          · rw [List.drop_eq_nil_of_le (by omega)]
            obtain ⟨k, hk⟩ : ∃ k, 5 - i = k + 1 := ⟨4 - i, by omega⟩
            rw [hk, rvar]
          · rw [show 5 - i = 0 by omega, rvar]
        rw [hq] at h
        repeat (first | simp only [RS0, RS1, RS2, RS3, RS4, reduceIte, Nat.reduceEqDiff, Nat.reduceAdd, Nat.reduceLeDiff, Nat.reduceLT, Nat.reduceMul, Int.reduceToNat, Int.reduceLT, Int.reduceLE, Int.reduceAdd, Int.reduceSub, Int.reduceMul, Int.reduceEq, Int.reduceNe, Nat.reduceSub, reduceCtorEq, boxF, if_true, if_false, forall_const, implies_true, ne_eq, g_spec_ReadVar_L0, h0, h1, h7, h8, h9] | simp (disch := first | assumption | omega | (simp only [LS] <;> omega) | (simp only [List.not_mem_nil, List.mem_cons, or_false, not_false_eq_true, not_or] <;> omega)) only [CS, g_spec_ReadVar_L0, h0, h1, h7, h8, h9] | simp only [condK_B, guardK_Bt, guardK_Bf])
        refine ⟨fun g1 => ⟨fun g2 => absurd ⟨by omega, by omega⟩ hin, fun g2 => ?_⟩, fun g1 => ?_⟩
        all_goals
          refine hE _ _ (by decide) ?_
          repeat (first | simp only [RS0, RS1, RS2, RS3, RS4, reduceIte, Nat.reduceEqDiff, Nat.reduceAdd, Nat.reduceLeDiff, Nat.reduceLT, Nat.reduceMul, Int.reduceToNat, Int.reduceLT, Int.reduceLE, Int.reduceAdd, Int.reduceSub, Int.reduceMul, Int.reduceEq, Int.reduceNe, Nat.reduceSub, reduceCtorEq, boxF, if_true, if_false, forall_const, implies_true, ne_eq, h0, h1] | simp (disch := first | assumption | omega | (simp only [LS] <;> omega) | (simp only [List.not_mem_nil, List.mem_cons, or_false, not_false_eq_true, not_or] <;> omega)) only [CS, h0, h1] | simp only [condK_B, guardK_Bt, guardK_Bf])
          exact h _ _ (Own.nil _)
    · exact ⟨0, [], by simp, by simp, by simp [val], by simp, by simp, rfl, rfl, rfl, by omega, by omega, by simp [val], by simp [rv, val], rfl, by simp, by simp⟩
  · simp only [if_neg hat] at h
    exact h _ _ (Own.nil _)
end
end Go.Proofs.Ytfcglkajekohiaa
