/- Contracts: numbers that are read. -/
import Derived.Test.YtfcglkajekohiaaC1
set_option linter.unusedVariables false
set_option linter.unusedSimpArgs false
namespace Go.Proofs.Ytfcglkajekohiaa
open Go Go.Proofs.Ytfcglkajekohiaa.AM

/-- A number, read: what it is, and how many bytes it took. -/
def rvar : Nat → Nat → Nat → List UInt8 → Option (Nat × Nat)
  | 0, _, _, _ => none
  | _ + 1, _, _, [] => none
  | k + 1, i, n, b :: l =>
    if 127 < b.toNat then rvar k (i + 1) (n + b.toNat % 128 * 128 ^ i) l
    else if (0 < i ∧ b.toNat = 0) ∨ 1000000000 < n + b.toNat % 128 * 128 ^ i then none else some (n + b.toNat % 128 * 128 ^ i, i + 1)
def rv (l : List UInt8) : Option (Nat × Nat) := rvar 5 0 0 l
def rvT (a : Int) : Option (Nat × Nat) → Value
  | some (n, j) => .tuple ⟨[I n, I (a + j), B true]⟩
  | none => .tuple ⟨[I 0, I 0, B false]⟩

section
variable {prim : Nat → List Value → Option Value} {H : AHeap} {c : Nat} {Q : Value → AHeap → Nat → Prop}

theorem impl_within_ok (a b d : Int) (h : Q (B (decide (a ≤ b ∧ b ≤ d))) [] c) : Ev (tbl prim) n_impl_within [I b, I a, I d] H c Q := by
  refine Ev.fn (s_impl_within prim) rfl ?_
  repeat (first | simp only [RS0, RS1, RS2, RS3, RS4, reduceIte, Nat.reduceEqDiff, Nat.reduceAdd, Nat.reduceLeDiff, Nat.reduceLT, Nat.reduceMul, Int.reduceToNat, Int.reduceLT, Int.reduceLE, Int.reduceAdd, Int.reduceSub, Int.reduceMul, Int.reduceEq, Int.reduceNe, Nat.reduceSub, reduceCtorEq, boxF, if_true, if_false, forall_const, implies_true, ne_eq, g_impl_within] | simp (disch := first | assumption | omega | (simp only [LS] <;> omega) | (simp only [List.not_mem_nil, List.mem_cons, or_false, not_false_eq_true, not_or] <;> omega)) only [CS, g_impl_within] | simp only [condK_B, guardK_Bt, guardK_Bf])
  refine ⟨fun h1 => ?_, fun h1 => ?_⟩ <;> simp_all

theorem impl_isNode_ok (b : Int) (h : Q (B (decide (1 ≤ b ∧ b ≤ 4))) [] c) : Ev (tbl prim) n_impl_isNode [I b] H c Q := by
  refine Ev.fn (s_impl_isNode prim) rfl ?_
  repeat (first | simp only [RS0, RS1, RS2, RS3, RS4, reduceIte, Nat.reduceEqDiff, Nat.reduceAdd, Nat.reduceLeDiff, Nat.reduceLT, Nat.reduceMul, Int.reduceToNat, Int.reduceLT, Int.reduceLE, Int.reduceAdd, Int.reduceSub, Int.reduceMul, Int.reduceEq, Int.reduceNe, Nat.reduceSub, reduceCtorEq, boxF, if_true, if_false, forall_const, implies_true, ne_eq, g_impl_isNode] | simp (disch := first | assumption | omega | (simp only [LS] <;> omega) | (simp only [List.not_mem_nil, List.mem_cons, or_false, not_false_eq_true, not_or] <;> omega)) only [CS, g_impl_isNode] | simp only [condK_B, guardK_Bt, guardK_Bf])
  refine EvK.of (impl_within_ok _ _ _ ?_)
  repeat (first | simp only [RS0, RS1, RS2, RS3, RS4, reduceIte, Nat.reduceEqDiff, Nat.reduceAdd, Nat.reduceLeDiff, Nat.reduceLT, Nat.reduceMul, Int.reduceToNat, Int.reduceLT, Int.reduceLE, Int.reduceAdd, Int.reduceSub, Int.reduceMul, Int.reduceEq, Int.reduceNe, Nat.reduceSub, reduceCtorEq, boxF, if_true, if_false, forall_const, implies_true, ne_eq] | simp (disch := first | assumption | omega | (simp only [LS] <;> omega) | (simp only [List.not_mem_nil, List.mem_cons, or_false, not_false_eq_true, not_or] <;> omega)) only [CS] | simp only [condK_B, guardK_Bt, guardK_Bf])
  exact h

theorem impl_isTerm_ok (b : Int) (h : Q (B (decide (0 ≤ b ∧ b ≤ 100000))) [] c) : Ev (tbl prim) n_impl_isTerm [I b] H c Q := by
  refine Ev.fn (s_impl_isTerm prim) rfl ?_
  repeat (first | simp only [RS0, RS1, RS2, RS3, RS4, reduceIte, Nat.reduceEqDiff, Nat.reduceAdd, Nat.reduceLeDiff, Nat.reduceLT, Nat.reduceMul, Int.reduceToNat, Int.reduceLT, Int.reduceLE, Int.reduceAdd, Int.reduceSub, Int.reduceMul, Int.reduceEq, Int.reduceNe, Nat.reduceSub, reduceCtorEq, boxF, if_true, if_false, forall_const, implies_true, ne_eq, g_impl_isTerm] | simp (disch := first | assumption | omega | (simp only [LS] <;> omega) | (simp only [List.not_mem_nil, List.mem_cons, or_false, not_false_eq_true, not_or] <;> omega)) only [CS, g_impl_isTerm] | simp only [condK_B, guardK_Bt, guardK_Bf])
  refine EvK.of (impl_within_ok _ _ _ ?_)
  repeat (first | simp only [RS0, RS1, RS2, RS3, RS4, reduceIte, Nat.reduceEqDiff, Nat.reduceAdd, Nat.reduceLeDiff, Nat.reduceLT, Nat.reduceMul, Int.reduceToNat, Int.reduceLT, Int.reduceLE, Int.reduceAdd, Int.reduceSub, Int.reduceMul, Int.reduceEq, Int.reduceNe, Nat.reduceSub, reduceCtorEq, boxF, if_true, if_false, forall_const, implies_true, ne_eq] | simp (disch := first | assumption | omega | (simp only [LS] <;> omega) | (simp only [List.not_mem_nil, List.mem_cons, or_false, not_false_eq_true, not_or] <;> omega)) only [CS] | simp only [condK_B, guardK_Bt, guardK_Bf])
  exact h

theorem impl_isIndex_ok (b : Int) (h : Q (B (decide (0 ≤ b ∧ b ≤ 1000000))) [] c) : Ev (tbl prim) n_impl_isIndex [I b] H c Q := by
  refine Ev.fn (s_impl_isIndex prim) rfl ?_
  repeat (first | simp only [RS0, RS1, RS2, RS3, RS4, reduceIte, Nat.reduceEqDiff, Nat.reduceAdd, Nat.reduceLeDiff, Nat.reduceLT, Nat.reduceMul, Int.reduceToNat, Int.reduceLT, Int.reduceLE, Int.reduceAdd, Int.reduceSub, Int.reduceMul, Int.reduceEq, Int.reduceNe, Nat.reduceSub, reduceCtorEq, boxF, if_true, if_false, forall_const, implies_true, ne_eq, g_impl_isIndex] | simp (disch := first | assumption | omega | (simp only [LS] <;> omega) | (simp only [List.not_mem_nil, List.mem_cons, or_false, not_false_eq_true, not_or] <;> omega)) only [CS, g_impl_isIndex] | simp only [condK_B, guardK_Bt, guardK_Bf])
  refine EvK.of (impl_within_ok _ _ _ ?_)
  repeat (first | simp only [RS0, RS1, RS2, RS3, RS4, reduceIte, Nat.reduceEqDiff, Nat.reduceAdd, Nat.reduceLeDiff, Nat.reduceLT, Nat.reduceMul, Int.reduceToNat, Int.reduceLT, Int.reduceLE, Int.reduceAdd, Int.reduceSub, Int.reduceMul, Int.reduceEq, Int.reduceNe, Nat.reduceSub, reduceCtorEq, boxF, if_true, if_false, forall_const, implies_true, ne_eq] | simp (disch := first | assumption | omega | (simp only [LS] <;> omega) | (simp only [List.not_mem_nil, List.mem_cons, or_false, not_false_eq_true, not_or] <;> omega)) only [CS] | simp only [condK_B, guardK_Bt, guardK_Bf])
  exact h

theorem spec_l01In_rw {G : AHeap} {kt : Kt} {dst : Option Nat} {ts : TS} {u : AHeap} {Q : AExit → St → Prop} (a b d : Int) : EvK (tbl prim) H n_spec_l01In [I b, I a, I d] G c kt dst ts u Q ↔ fin (tbl prim) H kt dst ts u c (B (decide (a ≤ b ∧ b ≤ d))) [] c Q := EvK.iff fun _ h => spec_l01In_ok a b d h
theorem impl_within_rw {G : AHeap} {kt : Kt} {dst : Option Nat} {ts : TS} {u : AHeap} {Q : AExit → St → Prop} (a b d : Int) : EvK (tbl prim) H n_impl_within [I b, I a, I d] G c kt dst ts u Q ↔ fin (tbl prim) H kt dst ts u c (B (decide (a ≤ b ∧ b ≤ d))) [] c Q := EvK.iff fun _ h => impl_within_ok a b d h
theorem impl_isNode_rw {G : AHeap} {kt : Kt} {dst : Option Nat} {ts : TS} {u : AHeap} {Q : AExit → St → Prop} (b : Int) : EvK (tbl prim) H n_impl_isNode [I b] G c kt dst ts u Q ↔ fin (tbl prim) H kt dst ts u c (B (decide (1 ≤ b ∧ b ≤ 4))) [] c Q := EvK.iff fun _ h => impl_isNode_ok b h
theorem impl_isTerm_rw {G : AHeap} {kt : Kt} {dst : Option Nat} {ts : TS} {u : AHeap} {Q : AExit → St → Prop} (b : Int) : EvK (tbl prim) H n_impl_isTerm [I b] G c kt dst ts u Q ↔ fin (tbl prim) H kt dst ts u c (B (decide (0 ≤ b ∧ b ≤ 100000))) [] c Q := EvK.iff fun _ h => impl_isTerm_ok b h
theorem impl_isIndex_rw {G : AHeap} {kt : Kt} {dst : Option Nat} {ts : TS} {u : AHeap} {Q : AExit → St → Prop} (b : Int) : EvK (tbl prim) H n_impl_isIndex [I b] G c kt dst ts u Q ↔ fin (tbl prim) H kt dst ts u c (B (decide (0 ≤ b ∧ b ≤ 1000000))) [] c Q := EvK.iff fun _ h => impl_isIndex_ok b h

theorem sh7 {b i : Nat} (n : Nat) (hi : i < 5) (hb : b < 256) (hn : n < 128 ^ i) :
    IntKind.i64.wrap ((n : Int) + IntKind.i64.wrap ((b : Int) % 128 * 2 ^ min (7 * (i : Int)).toNat IntKind.i64.bits)) = ((n + b % 128 * 128 ^ i : Nat) : Int) ∧ n + b % 128 * 128 ^ i < 128 ^ (i + 1) := by
  have h64 : IntKind.i64.bits = 64 := rfl
  rw [h64]
  have : i = 0 ∨ i = 1 ∨ i = 2 ∨ i = 3 ∨ i = 4 := by omega
  rcases this with rfl | rfl | rfl | rfl | rfl
  · rw [show (2 : Int) ^ min (7 * ((0 : Nat) : Int)).toNat 64 = 1 from by decide]
    simp only [Nat.reducePow] at hn ⊢
    rw [wrap_i64 (n := (b : Int) % 128 * _) (by omega) (by omega), wrap_i64 (by omega) (by omega)]
    omega
  · rw [show (2 : Int) ^ min (7 * ((1 : Nat) : Int)).toNat 64 = 128 from by decide]
    simp only [Nat.reducePow] at hn ⊢
    rw [wrap_i64 (n := (b : Int) % 128 * _) (by omega) (by omega), wrap_i64 (by omega) (by omega)]
    omega
  · rw [show (2 : Int) ^ min (7 * ((2 : Nat) : Int)).toNat 64 = 16384 from by decide]
    simp only [Nat.reducePow] at hn ⊢
    rw [wrap_i64 (n := (b : Int) % 128 * _) (by omega) (by omega), wrap_i64 (by omega) (by omega)]
    omega
  · rw [show (2 : Int) ^ min (7 * ((3 : Nat) : Int)).toNat 64 = 2097152 from by decide]
    simp only [Nat.reducePow] at hn ⊢
    rw [wrap_i64 (n := (b : Int) % 128 * _) (by omega) (by omega), wrap_i64 (by omega) (by omega)]
    omega
  · rw [show (2 : Int) ^ min (7 * ((4 : Nat) : Int)).toNat 64 = 268435456 from by decide]
    simp only [Nat.reducePow] at hn ⊢
    rw [wrap_i64 (n := (b : Int) % 128 * _) (by omega) (by omega), wrap_i64 (by omega) (by omega)]
    omega

theorem impl_ReadVar_ok (t : List UInt8) (a : Int) (ht : t.length ≤ 1000000000000) (h : Q (if 0 ≤ a ∧ a ≤ t.length then rvT a (rv (t.drop a.toNat)) else rvT 0 none) [] c) : Ev (tbl prim) n_impl_ReadVar [T t, I a] H c Q := by
  refine Ev.fn (s_impl_ReadVar prim) rfl ?_
  repeat (first | simp only [RS0, RS1, RS2, RS3, RS4, reduceIte, Nat.reduceEqDiff, Nat.reduceAdd, Nat.reduceLeDiff, Nat.reduceLT, Nat.reduceMul, Int.reduceToNat, Int.reduceLT, Int.reduceLE, Int.reduceAdd, Int.reduceSub, Int.reduceMul, Int.reduceEq, Int.reduceNe, Nat.reduceSub, reduceCtorEq, boxF, if_true, if_false, forall_const, implies_true, ne_eq, g_impl_ReadVar] | simp (disch := first | assumption | omega | (simp only [LS] <;> omega) | (simp only [List.not_mem_nil, List.mem_cons, or_false, not_false_eq_true, not_or] <;> omega)) only [CS, g_impl_ReadVar] | simp only [condK_B, guardK_Bt, guardK_Bf])
  refine EvK.of (impl_within_ok _ _ _ ?_)
  repeat (first | simp only [RS0, RS1, RS2, RS3, RS4, reduceIte, Nat.reduceEqDiff, Nat.reduceAdd, Nat.reduceLeDiff, Nat.reduceLT, Nat.reduceMul, Int.reduceToNat, Int.reduceLT, Int.reduceLE, Int.reduceAdd, Int.reduceSub, Int.reduceMul, Int.reduceEq, Int.reduceNe, Nat.reduceSub, reduceCtorEq, boxF, if_true, if_false, forall_const, implies_true, ne_eq] | simp (disch := first | assumption | omega | (simp only [LS] <;> omega) | (simp only [List.not_mem_nil, List.mem_cons, or_false, not_false_eq_true, not_or] <;> omega)) only [CS] | simp only [condK_B, guardK_Bt, guardK_Bf])
  refine ⟨fun hat => ?_, fun hat => ?_⟩
  · rw [if_pos hat] at h
    obtain ⟨a, rfl⟩ : ∃ n : Nat, a = n := ⟨a.toNat, by omega⟩
    rw [Int.toNat_natCast] at h
    refine Wloop.of (fun k s => ∃ (i n : Nat), s.ts 0 = T t ∧ s.ts 1 = I a ∧ s.ts 7 = I n ∧ s.ts 8 = I i ∧ s.u = [] ∧ s.c = c ∧ k = 5 - i ∧ i ≤ 5 ∧ a + i ≤ t.length ∧ n < 128 ^ i ∧ rvar (5 - i) i n (t.drop (a + i)) = rv (t.drop a)) ?_ (n := 5) ?_
    · rintro k ⟨ts, u, c1⟩ ⟨i, n, h0, h1, h7, h8, hu, hc, rfl, hi, hl, hn, hr⟩ R hR hE
      simp only at h0 h1 h7 h8 hu hc
      subst hu; subst hc
      rw [← hr] at h
      by_cases hin : i < 5 ∧ a + i < t.length
      · obtain ⟨b, hb⟩ : ∃ b, b = t.getD (a + i) 0 := ⟨_, rfl⟩
        have hb' : t.getD ((a : Int) + i).toNat 0 = b := by rw [hb]; congr 1
        have hlt := b.toNat_lt
        obtain ⟨hw, hn'⟩ := sh7 n hin.1 hlt hn
        rw [show 5 - i = 4 - i + 1 by omega, drop_getD hin.2 0, ← hb, rvar] at h hr
        repeat (first | simp only [RS0, RS1, RS2, RS3, RS4, reduceIte, Nat.reduceEqDiff, Nat.reduceAdd, Nat.reduceLeDiff, Nat.reduceLT, Nat.reduceMul, Int.reduceToNat, Int.reduceLT, Int.reduceLE, Int.reduceAdd, Int.reduceSub, Int.reduceMul, Int.reduceEq, Int.reduceNe, Nat.reduceSub, reduceCtorEq, boxF, if_true, if_false, forall_const, implies_true, ne_eq, g_impl_ReadVar_L0, h0, h1, h7, h8, hb', hw] | simp (disch := first | assumption | omega | (simp only [LS] <;> omega) | (simp only [List.not_mem_nil, List.mem_cons, or_false, not_false_eq_true, not_or] <;> omega)) only [CS, g_impl_ReadVar_L0, h0, h1, h7, h8, hb', hw] | simp only [condK_B, guardK_Bt, guardK_Bf])
        refine ⟨fun g1 => ⟨fun g2 => ⟨by omega, by omega, fun g3 => ?_, fun g3 => ⟨fun g4 => ⟨fun g5 => ?_, fun g5 => ⟨fun g6 => ?_, fun g6 => ?_⟩⟩, fun g4 => ⟨fun g6 => ?_, fun g6 => ?_⟩⟩⟩, fun g2 => ?_⟩, fun g1 => ?_⟩
        · rw [if_pos (by omega)] at hr
          exact hR (5 - (i + 1)) _ (by omega) ⟨i + 1, n + b.toNat % 128 * 128 ^ i, by simp [h0], by simp [h1], by simp, by simp, rfl, rfl, rfl, by omega, by omega, hn', by rw [← hr, show 5 - (i + 1) = 4 - i by omega]; rfl⟩
        all_goals first | (exfalso; omega) | skip
        all_goals
          refine hE _ _ (by decide) ?_
          repeat (first | simp only [RS0, RS1, RS2, RS3, RS4, reduceIte, Nat.reduceEqDiff, Nat.reduceAdd, Nat.reduceLeDiff, Nat.reduceLT, Nat.reduceMul, Int.reduceToNat, Int.reduceLT, Int.reduceLE, Int.reduceAdd, Int.reduceSub, Int.reduceMul, Int.reduceEq, Int.reduceNe, Nat.reduceSub, reduceCtorEq, boxF, if_true, if_false, forall_const, implies_true, ne_eq, h0, h1] | simp (disch := first | assumption | omega | (simp only [LS] <;> omega) | (simp only [List.not_mem_nil, List.mem_cons, or_false, not_false_eq_true, not_or] <;> omega)) only [CS, h0, h1] | simp only [condK_B, guardK_Bt, guardK_Bf])
          rw [if_neg (by omega)] at h
        · rw [if_pos (.inl ⟨by omega, by omega⟩)] at h; exact h
        · rw [if_pos (.inr (by omega))] at h; exact h
        · rw [if_neg (by omega)] at h
          simpa [rvT, Int.add_assoc] using h
        · rw [if_pos (.inr (by omega))] at h; exact h
        · rw [if_neg (by omega)] at h
          simpa [rvT, Int.add_assoc] using h
      · have hq : rvar (5 - i) i n (t.drop (a + i)) = none := by
          by_cases h5 : i < 5
          · rw [List.drop_eq_nil_of_le (by omega)]
            obtain ⟨k, hk⟩ : ∃ k, 5 - i = k + 1 := ⟨4 - i, by omega⟩
            rw [hk, rvar]
          · rw [show 5 - i = 0 by omega, rvar]
        rw [hq] at h
        repeat (first | simp only [RS0, RS1, RS2, RS3, RS4, reduceIte, Nat.reduceEqDiff, Nat.reduceAdd, Nat.reduceLeDiff, Nat.reduceLT, Nat.reduceMul, Int.reduceToNat, Int.reduceLT, Int.reduceLE, Int.reduceAdd, Int.reduceSub, Int.reduceMul, Int.reduceEq, Int.reduceNe, Nat.reduceSub, reduceCtorEq, boxF, if_true, if_false, forall_const, implies_true, ne_eq, g_impl_ReadVar_L0, h0, h1, h7, h8] | simp (disch := first | assumption | omega | (simp only [LS] <;> omega) | (simp only [List.not_mem_nil, List.mem_cons, or_false, not_false_eq_true, not_or] <;> omega)) only [CS, g_impl_ReadVar_L0, h0, h1, h7, h8] | simp only [condK_B, guardK_Bt, guardK_Bf])
        refine ⟨fun g1 => ⟨fun g2 => absurd ⟨by omega, by omega⟩ hin, fun g2 => ?_⟩, fun g1 => ?_⟩
        all_goals
          refine hE _ _ (by decide) ?_
          repeat (first | simp only [RS0, RS1, RS2, RS3, RS4, reduceIte, Nat.reduceEqDiff, Nat.reduceAdd, Nat.reduceLeDiff, Nat.reduceLT, Nat.reduceMul, Int.reduceToNat, Int.reduceLT, Int.reduceLE, Int.reduceAdd, Int.reduceSub, Int.reduceMul, Int.reduceEq, Int.reduceNe, Nat.reduceSub, reduceCtorEq, boxF, if_true, if_false, forall_const, implies_true, ne_eq, h0, h1] | simp (disch := first | assumption | omega | (simp only [LS] <;> omega) | (simp only [List.not_mem_nil, List.mem_cons, or_false, not_false_eq_true, not_or] <;> omega)) only [CS, h0, h1] | simp only [condK_B, guardK_Bt, guardK_Bf])
          exact h
    · exact ⟨0, 0, by simp, by simp, by simp, by simp, rfl, rfl, rfl, by omega, by omega, by simp, by simp [rv]⟩
  · rw [if_neg hat] at h
    exact h
end
end Go.Proofs.Ytfcglkajekohiaa
