/- Contracts. -/
import Derived.Test.YtfcglkajekohiaaFactsA
set_option linter.unusedVariables false
set_option linter.unusedSimpArgs false
namespace Go.Proofs.Ytfcglkajekohiaa
open Go Go.Proofs.Ytfcglkajekohiaa.AM

/-- A number in sevens of bits. -/
def varL (n : Nat) : List UInt8 := if 127 < n then by8 ((n : Int) % 128 + 128) :: varL (n / 128) else [by8 n]
termination_by n
decreasing_by omega

section
variable {prim : Nat → List Value → Option Value} {H : AHeap} {c : Nat} {Q : Value → AHeap → Nat → Prop}

theorem spec_l01In_ok (a b d : Int) (h : Q (B (decide (a ≤ b ∧ b ≤ d))) [] c) : Ev (tbl prim) n_spec_l01In [I b, I a, I d] H c Q := by
  refine Ev.fn (s_spec_l01In prim) rfl ?_
  repeat (first | simp only [RS0, RS1, RS2, RS3, RS4, reduceIte, Nat.reduceEqDiff, Nat.reduceAdd, Nat.reduceLeDiff, Nat.reduceLT, Nat.reduceMul, Int.reduceToNat, Int.reduceLT, Int.reduceLE, Int.reduceAdd, Int.reduceSub, Int.reduceMul, Int.reduceEq, Int.reduceNe, Nat.reduceSub, reduceCtorEq, boxF, if_true, if_false, forall_const, implies_true, ne_eq, g_spec_l01In] | simp (disch := first | assumption | omega | (simp only [LS] <;> omega) | (simp only [List.not_mem_nil, List.mem_cons, or_false, not_false_eq_true, not_or] <;> omega)) only [CS, g_spec_l01In] | simp only [condK_B, guardK_Bt, guardK_Bf])
  refine ⟨fun h1 => ?_, fun h1 => ?_⟩ <;> simp_all

theorem varL_big {n : Nat} (h : 127 < n) : varL n = by8 ((n : Int) % 128 + 128) :: varL (n / 128) := by rw [varL, if_pos h]
theorem varL_small {n : Nat} (h : ¬127 < n) : varL n = [by8 n] := by rw [varL, if_neg h]
theorem varL_len (j : Nat) : ∀ n : Nat, n < 128 ^ (j + 1) → (varL n).length ≤ j + 1 := by
  induction j with
  | zero => intro n h; rw [varL_small (by omega)]; simp
  | succ j ih =>
    intro n h
    by_cases h1 : 127 < n
    · rw [varL_big h1, List.length_cons]
      have := ih (n / 128) (by rw [Nat.pow_succ] at h; omega)
      omega
    · rw [varL_small h1]; simp
theorem varL_len10 (n : Int) (h0 : n ≤ 9223372036854775807) : (varL n.toNat).length ≤ 10 := varL_len 9 _ (by omega)

theorem spec_l01Var_ok (n : Int) (h0 : 0 ≤ n) (h1 : n ≤ 9223372036854775807) (h : ∀ d c', Own [] d c c' → Q (T (varL n.toNat)) d c') : Ev (tbl prim) n_spec_l01Var [I n] H c Q := by
  refine Ev.fn (s_spec_l01Var prim) rfl ?_
  have hlen := varL_len10 n h1
  repeat (first | simp only [RS0, RS1, RS2, RS3, RS4, reduceIte, Nat.reduceEqDiff, Nat.reduceAdd, Nat.reduceLeDiff, Nat.reduceLT, Nat.reduceMul, Int.reduceToNat, Int.reduceLT, Int.reduceLE, Int.reduceAdd, Int.reduceSub, Int.reduceMul, Int.reduceEq, Int.reduceNe, Nat.reduceSub, reduceCtorEq, boxF, if_true, if_false, forall_const, implies_true, ne_eq, g_spec_l01Var] | simp (disch := first | assumption | omega | (simp only [LS] <;> omega) | (simp only [List.not_mem_nil, List.mem_cons, or_false, not_false_eq_true, not_or] <;> omega)) only [CS, g_spec_l01Var] | simp only [condK_B, guardK_Bt, guardK_Bf])
  refine Wloop.of (fun k s => ∃ (m : Nat) (l : List UInt8) (b : Nat), s.ts 0 = I m ∧ s.ts 3 = Sl b l.length 1 ∧ get (s.u ++ H) b = some ⟨l.map U, 1, false⟩ ∧ k = m ∧ (m : Int) ≤ 9223372036854775807 ∧ l ++ varL m = varL n.toNat ∧ Own [] s.u c s.c ∧ c ≤ b ∧ b < s.c) ?_ (n := n.toNat) ?_
  · rintro k ⟨ts, u, c1⟩ ⟨m, l, b, h0, h3, hg, rfl, hm, hl, ho, hb, hb'⟩ R hR hE
    simp only at h0 h3 hg ho hb'
    have hlen2 : l.length + (varL k).length ≤ 10 := by rw [← List.length_append, hl]; exact hlen
    repeat (first | simp only [RS0, RS1, RS2, RS3, RS4, reduceIte, Nat.reduceEqDiff, Nat.reduceAdd, Nat.reduceLeDiff, Nat.reduceLT, Nat.reduceMul, Int.reduceToNat, Int.reduceLT, Int.reduceLE, Int.reduceAdd, Int.reduceSub, Int.reduceMul, Int.reduceEq, Int.reduceNe, Nat.reduceSub, reduceCtorEq, boxF, if_true, if_false, forall_const, implies_true, ne_eq, g_spec_l01Var_L0, h0, h3, hg] | simp (disch := first | assumption | omega | (simp only [LS] <;> omega) | (simp only [List.not_mem_nil, List.mem_cons, or_false, not_false_eq_true, not_or] <;> omega)) only [CS, g_spec_l01Var_L0, h0, h3, hg] | simp only [condK_B, guardK_Bt, guardK_Bf])
    refine ⟨fun hk => ⟨by unfold maxBytes; omega, hR (k / 128) _ (by omega) ⟨k / 128, l ++ [by8 ((k : Int) % 128 + 128)], c1 + 1, ?_⟩⟩, fun hk => hE _ _ (by decide) ?_⟩
    · refine ⟨by simp, by simp, by simp, rfl, by omega, ?_, (((ho.new).put (.inl ⟨hb, by omega⟩)).new), by omega, by simp⟩
      rw [← hl, varL_big (n := k) (by omega)]; simp
    · repeat (first | simp only [RS0, RS1, RS2, RS3, RS4, reduceIte, Nat.reduceEqDiff, Nat.reduceAdd, Nat.reduceLeDiff, Nat.reduceLT, Nat.reduceMul, Int.reduceToNat, Int.reduceLT, Int.reduceLE, Int.reduceAdd, Int.reduceSub, Int.reduceMul, Int.reduceEq, Int.reduceNe, Nat.reduceSub, reduceCtorEq, boxF, if_true, if_false, forall_const, implies_true, ne_eq, h0, h3, hg] | simp (disch := first | assumption | omega | (simp only [LS] <;> omega) | (simp only [List.not_mem_nil, List.mem_cons, or_false, not_false_eq_true, not_or] <;> omega)) only [CS, h0, h3, hg] | simp only [condK_B, guardK_Bt, guardK_Bf])
      refine ⟨by unfold maxBytes; omega, ?_⟩
      rw [show l ++ [by8 (k : Int)] = varL n.toNat by rw [← hl, varL_small (n := k) (by omega)]]
      exact h _ _ (by ((try dsimp only); refine Own.of (by omega) ?_; repeat (first | exact OwnK.nil | refine OwnK.cons (.inl (by omega)) ?_ | refine OwnK.kill (fun b hb => .inl (by have := hoe b hb; omega)) ?_ | refine OwnK.cons (.inr (by simp)) ?_ | exact OwnK.one (by assumption) (by omega) (by omega) (by simp <;> omega) | refine OwnK.app (by assumption) (by omega) (by omega) (by simp <;> omega) ?_)))
  · exact ⟨n.toNat, [], c, by simp; omega, by simp, by simp, rfl, by omega, by simp, (Own.nil c).new, by omega, by simp⟩
end
end Go.Proofs.Ytfcglkajekohiaa
