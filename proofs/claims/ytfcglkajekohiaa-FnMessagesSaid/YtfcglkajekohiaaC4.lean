/- Contracts: texts that are read one part after the other. -/
import Derived.Test.YtfcglkajekohiaaC3
set_option linter.unusedVariables false
set_option linter.unusedSimpArgs false
namespace Go.Proofs.Ytfcglkajekohiaa
open Go Go.Proofs.Ytfcglkajekohiaa.AM

/-- Where a reader stands, and whether it is bad. -/
abbrev Cur := Nat × Bool

def cVar (t : List UInt8) (s : Cur) : Nat × Cur :=
  if s.2 = true then (0, s) else match rv (t.drop s.1) with
    | some (n, j) => (n, (s.1 + j, false))
    | none => (0, (s.1, true))
def cTake (t : List UInt8) (s : Cur) (n : Nat) : List UInt8 × Cur :=
  if s.2 = true ∨ t.length < s.1 + n then ([], (s.1, true)) else ((t.drop s.1).take n, (s.1 + n, false))
def cShort (t : List UInt8) (s : Cur) : List UInt8 × Cur := cTake t (cVar t s).2 (cVar t s).1
def cOne (t : List UInt8) (s : Cur) : Nat × Cur :=
  if s.2 = true ∨ t.length ≤ s.1 then (0, (s.1, true)) else ((t.getD s.1 0).toNat, (s.1 + 1, false))
def cShortI (t : List UInt8) (s : Cur) : List UInt8 × Cur :=
  if s.2 = true then ([], s) else match rv (t.drop s.1) with
    | some (n, j) => if 20000 < n ∨ t.length < s.1 + j + n then ([], (s.1, true)) else ((t.drop (s.1 + j)).take n, (s.1 + j + n, false))
    | none => ([], (s.1, true))
def curV (t : List UInt8) (s : Cur) : AObj := ⟨[T t, I s.1, B s.2], 0, false⟩

theorem rvar_le {k i n : Nat} {l : List UInt8} {m j : Nat} (h : rvar k i n l = some (m, j)) : j ≤ i + l.length ∧ i < j ∧ m ≤ 1000000000 := by
  induction k generalizing i n l with
  | zero => simp [rvar] at h
  | succ k ih =>
    cases l with
    | nil => simp [rvar] at h
    | cons b l =>
      rw [rvar] at h
      split at h
      · have := ih h; simp only [List.length_cons]; omega
      · split at h
        · simp at h
        · simp only [Option.some.injEq, Prod.mk.injEq] at h
          simp only [List.length_cons]; omega
theorem rv_le {l : List UInt8} {m j : Nat} (h : rv l = some (m, j)) : j ≤ l.length ∧ 0 < j ∧ m ≤ 1000000000 := by
  have := rvar_le h; omega
theorem cVar_le {t : List UInt8} {s : Cur} (h : s.1 ≤ t.length) : (cVar t s).2.1 ≤ t.length ∧ (cVar t s).1 ≤ 1000000000 := by
  unfold cVar
  split
  · exact ⟨h, by simp⟩
  · split
    · rename_i n j hr
      have := rv_le hr
      rw [List.length_drop] at this
      exact ⟨by simp only; omega, this.2.2⟩
    · exact ⟨h, by simp⟩
theorem cTake_le {t : List UInt8} {s : Cur} {n : Nat} (h : s.1 ≤ t.length) : (cTake t s n).2.1 ≤ t.length := by
  unfold cTake
  split
  · exact h
  · simp only; omega

section
variable {prim : Nat → List Value → Option Value} {H : AHeap} {c : Nat} {Q : Value → AHeap → Nat → Prop}

theorem spec_l05Var_ok (b : Nat) (t : List UInt8) (s : Cur) (ht : t.length ≤ 1000000000000) (hg : get H b = some (curV t s)) (hb : b < c) (hs : s.1 ≤ t.length)
    (h : ∀ d c', Own [b] d c c' → get (d ++ H) b = some (curV t (cVar t s).2) → Q (I (cVar t s).1) d c') : Ev (tbl prim) n_spec_l05Var [P b 0] H c Q := by
  refine Ev.fn (s_spec_l05Var prim) rfl ?_
  obtain ⟨a, bad⟩ := s
  simp only [curV] at hg h hs
  repeat (first | simp only [RS0, RS1, RS2, RS3, RS4, reduceIte, Nat.reduceEqDiff, Nat.reduceAdd, Nat.reduceLeDiff, Nat.reduceLT, Nat.reduceMul, Int.reduceToNat, Int.reduceLT, Int.reduceLE, Int.reduceAdd, Int.reduceSub, Int.reduceMul, Int.reduceEq, Int.reduceNe, Nat.reduceSub, reduceCtorEq, boxF, if_true, if_false, forall_const, implies_true, ne_eq, g_spec_l05Var, hg] | simp (disch := first | assumption | omega | (simp only [LS] <;> omega) | (simp only [List.not_mem_nil, List.mem_cons, or_false, not_false_eq_true, not_or] <;> omega)) only [CS, g_spec_l05Var, hg] | simp only [condK_B, guardK_Bt, guardK_Bf])
  refine EvK.of (spec_ReadVar_ok _ _ ht fun d c' ho => ?_)
  have ho_le := ho.le
  have hgd : get (d ++ H) b = get H b := get_own ho hb (by simp)
  rw [if_pos ⟨by omega, by omega⟩, Int.toNat_natCast]
  cases bad with
  | true =>
    have hc : cVar t (a, true) = (0, (a, true)) := rfl
    rw [hc] at h
    cases hr : rv (t.drop a) with
    | none =>
      repeat (first | simp only [RS0, RS1, RS2, RS3, RS4, reduceIte, Nat.reduceEqDiff, Nat.reduceAdd, Nat.reduceLeDiff, Nat.reduceLT, Nat.reduceMul, Int.reduceToNat, Int.reduceLT, Int.reduceLE, Int.reduceAdd, Int.reduceSub, Int.reduceMul, Int.reduceEq, Int.reduceNe, Nat.reduceSub, reduceCtorEq, boxF, if_true, if_false, forall_const, implies_true, ne_eq, rvT, hgd, hg] | simp (disch := first | assumption | omega | (simp only [LS] <;> omega) | (simp only [List.not_mem_nil, List.mem_cons, or_false, not_false_eq_true, not_or] <;> omega)) only [CS, rvT, hgd, hg] | simp only [condK_B, guardK_Bt, guardK_Bf])
      exact h _ _ (by ((try dsimp only); refine Own.of (by omega) ?_; repeat (first | exact OwnK.nil | refine OwnK.cons (.inl (by omega)) ?_ | refine OwnK.kill (fun b hb => .inl (by have := hoe b hb; omega)) ?_ | refine OwnK.cons (.inr (by simp)) ?_ | exact OwnK.one (by assumption) (by omega) (by omega) (by simp <;> omega) | refine OwnK.app (by assumption) (by omega) (by omega) (by simp <;> omega) ?_))) (by simp)
    | some nj =>
      repeat (first | simp only [RS0, RS1, RS2, RS3, RS4, reduceIte, Nat.reduceEqDiff, Nat.reduceAdd, Nat.reduceLeDiff, Nat.reduceLT, Nat.reduceMul, Int.reduceToNat, Int.reduceLT, Int.reduceLE, Int.reduceAdd, Int.reduceSub, Int.reduceMul, Int.reduceEq, Int.reduceNe, Nat.reduceSub, reduceCtorEq, boxF, if_true, if_false, forall_const, implies_true, ne_eq, rvT, hgd, hg] | simp (disch := first | assumption | omega | (simp only [LS] <;> omega) | (simp only [List.not_mem_nil, List.mem_cons, or_false, not_false_eq_true, not_or] <;> omega)) only [CS, rvT, hgd, hg] | simp only [condK_B, guardK_Bt, guardK_Bf])
      exact h _ _ (by ((try dsimp only); refine Own.of (by omega) ?_; repeat (first | exact OwnK.nil | refine OwnK.cons (.inl (by omega)) ?_ | refine OwnK.kill (fun b hb => .inl (by have := hoe b hb; omega)) ?_ | refine OwnK.cons (.inr (by simp)) ?_ | exact OwnK.one (by assumption) (by omega) (by omega) (by simp <;> omega) | refine OwnK.app (by assumption) (by omega) (by omega) (by simp <;> omega) ?_))) (by simp)
  | false =>
    cases hr : rv (t.drop a) with
    | none =>
      have hc : cVar t (a, false) = (0, (a, true)) := by simp [cVar, hr]
      rw [hc] at h
      repeat (first | simp only [RS0, RS1, RS2, RS3, RS4, reduceIte, Nat.reduceEqDiff, Nat.reduceAdd, Nat.reduceLeDiff, Nat.reduceLT, Nat.reduceMul, Int.reduceToNat, Int.reduceLT, Int.reduceLE, Int.reduceAdd, Int.reduceSub, Int.reduceMul, Int.reduceEq, Int.reduceNe, Nat.reduceSub, reduceCtorEq, boxF, if_true, if_false, forall_const, implies_true, ne_eq, rvT, hgd, hg] | simp (disch := first | assumption | omega | (simp only [LS] <;> omega) | (simp only [List.not_mem_nil, List.mem_cons, or_false, not_false_eq_true, not_or] <;> omega)) only [CS, rvT, hgd, hg] | simp only [condK_B, guardK_Bt, guardK_Bf])
      exact h _ _ (by ((try dsimp only); refine Own.of (by omega) ?_; repeat (first | exact OwnK.nil | refine OwnK.cons (.inl (by omega)) ?_ | refine OwnK.kill (fun b hb => .inl (by have := hoe b hb; omega)) ?_ | refine OwnK.cons (.inr (by simp)) ?_ | exact OwnK.one (by assumption) (by omega) (by omega) (by simp <;> omega) | refine OwnK.app (by assumption) (by omega) (by omega) (by simp <;> omega) ?_))) (by simp)
    | some nj =>
      have hc : cVar t (a, false) = (nj.1, (a + nj.2, false)) := by simp [cVar, hr]
      rw [hc] at h
      repeat (first | simp only [RS0, RS1, RS2, RS3, RS4, reduceIte, Nat.reduceEqDiff, Nat.reduceAdd, Nat.reduceLeDiff, Nat.reduceLT, Nat.reduceMul, Int.reduceToNat, Int.reduceLT, Int.reduceLE, Int.reduceAdd, Int.reduceSub, Int.reduceMul, Int.reduceEq, Int.reduceNe, Nat.reduceSub, reduceCtorEq, boxF, if_true, if_false, forall_const, implies_true, ne_eq, rvT, hgd, hg] | simp (disch := first | assumption | omega | (simp only [LS] <;> omega) | (simp only [List.not_mem_nil, List.mem_cons, or_false, not_false_eq_true, not_or] <;> omega)) only [CS, rvT, hgd, hg] | simp only [condK_B, guardK_Bt, guardK_Bf])
      exact h _ _ (by ((try dsimp only); refine Own.of (by omega) ?_; repeat (first | exact OwnK.nil | refine OwnK.cons (.inl (by omega)) ?_ | refine OwnK.kill (fun b hb => .inl (by have := hoe b hb; omega)) ?_ | refine OwnK.cons (.inr (by simp)) ?_ | exact OwnK.one (by assumption) (by omega) (by omega) (by simp <;> omega) | refine OwnK.app (by assumption) (by omega) (by omega) (by simp <;> omega) ?_))) (by simp)

theorem impl_scan_number_ok (b : Nat) (t : List UInt8) (s : Cur) (ht : t.length ≤ 1000000000000) (hg : get H b = some (curV t s)) (hb : b < c) (hs : s.1 ≤ t.length)
    (h : ∀ d c', Own [b] d c c' → get (d ++ H) b = some (curV t (cVar t s).2) → Q (I (cVar t s).1) d c') : Ev (tbl prim) n_impl_scan_number [P b 0] H c Q := by
  refine Ev.fn (s_impl_scan_number prim) rfl ?_
  obtain ⟨a, bad⟩ := s
  simp only [curV] at hg h hs
  repeat (first | simp only [RS0, RS1, RS2, RS3, RS4, reduceIte, Nat.reduceEqDiff, Nat.reduceAdd, Nat.reduceLeDiff, Nat.reduceLT, Nat.reduceMul, Int.reduceToNat, Int.reduceLT, Int.reduceLE, Int.reduceAdd, Int.reduceSub, Int.reduceMul, Int.reduceEq, Int.reduceNe, Nat.reduceSub, reduceCtorEq, boxF, if_true, if_false, forall_const, implies_true, ne_eq, g_impl_scan_number, hg] | simp (disch := first | assumption | omega | (simp only [LS] <;> omega) | (simp only [List.not_mem_nil, List.mem_cons, or_false, not_false_eq_true, not_or] <;> omega)) only [CS, g_impl_scan_number, hg] | simp only [condK_B, guardK_Bt, guardK_Bf])
  refine EvK.of (impl_ReadVar_ok _ _ ht ?_)
  rw [if_pos ⟨by omega, by omega⟩, Int.toNat_natCast]
  cases bad with
  | true =>
    have hc : cVar t (a, true) = (0, (a, true)) := rfl
    rw [hc] at h
    cases hr : rv (t.drop a) with
    | none =>
      repeat (first | simp only [RS0, RS1, RS2, RS3, RS4, reduceIte, Nat.reduceEqDiff, Nat.reduceAdd, Nat.reduceLeDiff, Nat.reduceLT, Nat.reduceMul, Int.reduceToNat, Int.reduceLT, Int.reduceLE, Int.reduceAdd, Int.reduceSub, Int.reduceMul, Int.reduceEq, Int.reduceNe, Nat.reduceSub, reduceCtorEq, boxF, if_true, if_false, forall_const, implies_true, ne_eq, rvT, hg] | simp (disch := first | assumption | omega | (simp only [LS] <;> omega) | (simp only [List.not_mem_nil, List.mem_cons, or_false, not_false_eq_true, not_or] <;> omega)) only [CS, rvT, hg] | simp only [condK_B, guardK_Bt, guardK_Bf])
      exact h _ _ (by ((try dsimp only); refine Own.of (by omega) ?_; repeat (first | exact OwnK.nil | refine OwnK.cons (.inl (by omega)) ?_ | refine OwnK.kill (fun b hb => .inl (by have := hoe b hb; omega)) ?_ | refine OwnK.cons (.inr (by simp)) ?_ | exact OwnK.one (by assumption) (by omega) (by omega) (by simp <;> omega) | refine OwnK.app (by assumption) (by omega) (by omega) (by simp <;> omega) ?_))) (by simp)
    | some nj =>
      repeat (first | simp only [RS0, RS1, RS2, RS3, RS4, reduceIte, Nat.reduceEqDiff, Nat.reduceAdd, Nat.reduceLeDiff, Nat.reduceLT, Nat.reduceMul, Int.reduceToNat, Int.reduceLT, Int.reduceLE, Int.reduceAdd, Int.reduceSub, Int.reduceMul, Int.reduceEq, Int.reduceNe, Nat.reduceSub, reduceCtorEq, boxF, if_true, if_false, forall_const, implies_true, ne_eq, rvT, hg] | simp (disch := first | assumption | omega | (simp only [LS] <;> omega) | (simp only [List.not_mem_nil, List.mem_cons, or_false, not_false_eq_true, not_or] <;> omega)) only [CS, rvT, hg] | simp only [condK_B, guardK_Bt, guardK_Bf])
      exact h _ _ (by ((try dsimp only); refine Own.of (by omega) ?_; repeat (first | exact OwnK.nil | refine OwnK.cons (.inl (by omega)) ?_ | refine OwnK.kill (fun b hb => .inl (by have := hoe b hb; omega)) ?_ | refine OwnK.cons (.inr (by simp)) ?_ | exact OwnK.one (by assumption) (by omega) (by omega) (by simp <;> omega) | refine OwnK.app (by assumption) (by omega) (by omega) (by simp <;> omega) ?_))) (by simp)
  | false =>
    cases hr : rv (t.drop a) with
    | none =>
      have hc : cVar t (a, false) = (0, (a, true)) := by simp [cVar, hr]
      rw [hc] at h
      repeat (first | simp only [RS0, RS1, RS2, RS3, RS4, reduceIte, Nat.reduceEqDiff, Nat.reduceAdd, Nat.reduceLeDiff, Nat.reduceLT, Nat.reduceMul, Int.reduceToNat, Int.reduceLT, Int.reduceLE, Int.reduceAdd, Int.reduceSub, Int.reduceMul, Int.reduceEq, Int.reduceNe, Nat.reduceSub, reduceCtorEq, boxF, if_true, if_false, forall_const, implies_true, ne_eq, rvT, hg] | simp (disch := first | assumption | omega | (simp only [LS] <;> omega) | (simp only [List.not_mem_nil, List.mem_cons, or_false, not_false_eq_true, not_or] <;> omega)) only [CS, rvT, hg] | simp only [condK_B, guardK_Bt, guardK_Bf])
      exact h _ _ (by ((try dsimp only); refine Own.of (by omega) ?_; repeat (first | exact OwnK.nil | refine OwnK.cons (.inl (by omega)) ?_ | refine OwnK.kill (fun b hb => .inl (by have := hoe b hb; omega)) ?_ | refine OwnK.cons (.inr (by simp)) ?_ | exact OwnK.one (by assumption) (by omega) (by omega) (by simp <;> omega) | refine OwnK.app (by assumption) (by omega) (by omega) (by simp <;> omega) ?_))) (by simp)
    | some nj =>
      have hc : cVar t (a, false) = (nj.1, (a + nj.2, false)) := by simp [cVar, hr]
      rw [hc] at h
      repeat (first | simp only [RS0, RS1, RS2, RS3, RS4, reduceIte, Nat.reduceEqDiff, Nat.reduceAdd, Nat.reduceLeDiff, Nat.reduceLT, Nat.reduceMul, Int.reduceToNat, Int.reduceLT, Int.reduceLE, Int.reduceAdd, Int.reduceSub, Int.reduceMul, Int.reduceEq, Int.reduceNe, Nat.reduceSub, reduceCtorEq, boxF, if_true, if_false, forall_const, implies_true, ne_eq, rvT, hg] | simp (disch := first | assumption | omega | (simp only [LS] <;> omega) | (simp only [List.not_mem_nil, List.mem_cons, or_false, not_false_eq_true, not_or] <;> omega)) only [CS, rvT, hg] | simp only [condK_B, guardK_Bt, guardK_Bf])
      exact h _ _ (by ((try dsimp only); refine Own.of (by omega) ?_; repeat (first | exact OwnK.nil | refine OwnK.cons (.inl (by omega)) ?_ | refine OwnK.kill (fun b hb => .inl (by have := hoe b hb; omega)) ?_ | refine OwnK.cons (.inr (by simp)) ?_ | exact OwnK.one (by assumption) (by omega) (by omega) (by simp <;> omega) | refine OwnK.app (by assumption) (by omega) (by omega) (by simp <;> omega) ?_))) (by simp)

theorem spec_l05Take_ok (b : Nat) (t : List UInt8) (s : Cur) (n : Nat) (ht : t.length ≤ 1000000000000) (hn : n ≤ 1000000000) (hg : get H b = some (curV t s)) (hb : b < c) (hs : s.1 ≤ t.length)
    (h : ∀ d c', Own [b] d c c' → get (d ++ H) b = some (curV t (cTake t s n).2) → Q (T (cTake t s n).1) d c') : Ev (tbl prim) n_spec_l05Take [P b 0, I n] H c Q := by
  refine Ev.fn (s_spec_l05Take prim) rfl ?_
  obtain ⟨a, bad⟩ := s
  simp only [curV] at hg h hs
  cases bad with
  | true =>
    have hc : cTake t (a, true) n = ([], (a, true)) := by simp [cTake]
    rw [hc] at h
    repeat (first | simp only [RS0, RS1, RS2, RS3, RS4, reduceIte, Nat.reduceEqDiff, Nat.reduceAdd, Nat.reduceLeDiff, Nat.reduceLT, Nat.reduceMul, Int.reduceToNat, Int.reduceLT, Int.reduceLE, Int.reduceAdd, Int.reduceSub, Int.reduceMul, Int.reduceEq, Int.reduceNe, Nat.reduceSub, reduceCtorEq, boxF, if_true, if_false, forall_const, implies_true, ne_eq, g_spec_l05Take, hg] | simp (disch := first | assumption | omega | (simp only [LS] <;> omega) | (simp only [List.not_mem_nil, List.mem_cons, or_false, not_false_eq_true, not_or] <;> omega)) only [CS, g_spec_l05Take, hg] | simp only [condK_B, guardK_Bt, guardK_Bf])
    exact h _ _ (by ((try dsimp only); refine Own.of (by omega) ?_; repeat (first | exact OwnK.nil | refine OwnK.cons (.inl (by omega)) ?_ | refine OwnK.kill (fun b hb => .inl (by have := hoe b hb; omega)) ?_ | refine OwnK.cons (.inr (by simp)) ?_ | exact OwnK.one (by assumption) (by omega) (by omega) (by simp <;> omega) | refine OwnK.app (by assumption) (by omega) (by omega) (by simp <;> omega) ?_))) (by simp)
  | false =>
    repeat (first | simp only [RS0, RS1, RS2, RS3, RS4, reduceIte, Nat.reduceEqDiff, Nat.reduceAdd, Nat.reduceLeDiff, Nat.reduceLT, Nat.reduceMul, Int.reduceToNat, Int.reduceLT, Int.reduceLE, Int.reduceAdd, Int.reduceSub, Int.reduceMul, Int.reduceEq, Int.reduceNe, Nat.reduceSub, reduceCtorEq, boxF, if_true, if_false, forall_const, implies_true, ne_eq, g_spec_l05Take, hg] | simp (disch := first | assumption | omega | (simp only [LS] <;> omega) | (simp only [List.not_mem_nil, List.mem_cons, or_false, not_false_eq_true, not_or] <;> omega)) only [CS, g_spec_l05Take, hg] | simp only [condK_B, guardK_Bt, guardK_Bf])
    refine ⟨fun g => ?_, fun g => ⟨by omega, ?_⟩⟩
    · have hc : cTake t (a, false) n = ([], (a, true)) := by simp [cTake]; omega
      rw [hc] at h
      exact h _ _ (by ((try dsimp only); refine Own.of (by omega) ?_; repeat (first | exact OwnK.nil | refine OwnK.cons (.inl (by omega)) ?_ | refine OwnK.kill (fun b hb => .inl (by have := hoe b hb; omega)) ?_ | refine OwnK.cons (.inr (by simp)) ?_ | exact OwnK.one (by assumption) (by omega) (by omega) (by simp <;> omega) | refine OwnK.app (by assumption) (by omega) (by omega) (by simp <;> omega) ?_))) (by simp)
    · have hc : cTake t (a, false) n = ((t.drop a).take n, (a + n, false)) := by simp [cTake]; omega
      rw [hc] at h
      have e : ((t.take ((a : Int) + n).toNat).drop ((a : Int) + n - n).toNat) = (t.drop a).take n := by
        rw [show ((a : Int) + n).toNat = a + n by omega, show ((a : Int) + n - n).toNat = a by omega, List.drop_take, Nat.add_sub_cancel_left]
      rw [e]
      exact h _ _ (by ((try dsimp only); refine Own.of (by omega) ?_; repeat (first | exact OwnK.nil | refine OwnK.cons (.inl (by omega)) ?_ | refine OwnK.kill (fun b hb => .inl (by have := hoe b hb; omega)) ?_ | refine OwnK.cons (.inr (by simp)) ?_ | exact OwnK.one (by assumption) (by omega) (by omega) (by simp <;> omega) | refine OwnK.app (by assumption) (by omega) (by omega) (by simp <;> omega) ?_))) (by simp)

theorem spec_l05ReadShort_ok (b : Nat) (t : List UInt8) (s : Cur) (ht : t.length ≤ 1000000000000) (hg : get H b = some (curV t s)) (hb : b < c) (hs : s.1 ≤ t.length)
    (h : ∀ d c', Own [b] d c c' → get (d ++ H) b = some (curV t (cShort t s).2) → Q (T (cShort t s).1) d c') : Ev (tbl prim) n_spec_l05ReadShort [P b 0] H c Q := by
  refine Ev.fn (s_spec_l05ReadShort prim) rfl ?_
  have hle := cVar_le hs
  repeat (first | simp only [RS0, RS1, RS2, RS3, RS4, reduceIte, Nat.reduceEqDiff, Nat.reduceAdd, Nat.reduceLeDiff, Nat.reduceLT, Nat.reduceMul, Int.reduceToNat, Int.reduceLT, Int.reduceLE, Int.reduceAdd, Int.reduceSub, Int.reduceMul, Int.reduceEq, Int.reduceNe, Nat.reduceSub, reduceCtorEq, boxF, if_true, if_false, forall_const, implies_true, ne_eq, g_spec_l05ReadShort] | simp (disch := first | assumption | omega | (simp only [LS] <;> omega) | (simp only [List.not_mem_nil, List.mem_cons, or_false, not_false_eq_true, not_or] <;> omega)) only [CS, g_spec_l05ReadShort] | simp only [condK_B, guardK_Bt, guardK_Bf])
  refine EvK.of (spec_l05Var_ok b t s ht hg hb hs fun d c1 ho hd => ?_)
  have ho_le := ho.le
  repeat (first | simp only [RS0, RS1, RS2, RS3, RS4, reduceIte, Nat.reduceEqDiff, Nat.reduceAdd, Nat.reduceLeDiff, Nat.reduceLT, Nat.reduceMul, Int.reduceToNat, Int.reduceLT, Int.reduceLE, Int.reduceAdd, Int.reduceSub, Int.reduceMul, Int.reduceEq, Int.reduceNe, Nat.reduceSub, reduceCtorEq, boxF, if_true, if_false, forall_const, implies_true, ne_eq] | simp (disch := first | assumption | omega | (simp only [LS] <;> omega) | (simp only [List.not_mem_nil, List.mem_cons, or_false, not_false_eq_true, not_or] <;> omega)) only [CS] | simp only [condK_B, guardK_Bt, guardK_Bf])
  refine EvK.of (spec_l05Take_ok b t _ _ ht hle.2 hd (by have := ho.le; omega) hle.1 fun d2 c2 ho2 hd2 => ?_)
  have ho2_le := ho2.le
  repeat (first | simp only [RS0, RS1, RS2, RS3, RS4, reduceIte, Nat.reduceEqDiff, Nat.reduceAdd, Nat.reduceLeDiff, Nat.reduceLT, Nat.reduceMul, Int.reduceToNat, Int.reduceLT, Int.reduceLE, Int.reduceAdd, Int.reduceSub, Int.reduceMul, Int.reduceEq, Int.reduceNe, Nat.reduceSub, reduceCtorEq, boxF, if_true, if_false, forall_const, implies_true, ne_eq] | simp (disch := first | assumption | omega | (simp only [LS] <;> omega) | (simp only [List.not_mem_nil, List.mem_cons, or_false, not_false_eq_true, not_or] <;> omega)) only [CS] | simp only [condK_B, guardK_Bt, guardK_Bf])
  exact h _ _ (by ((try dsimp only); refine Own.of (by omega) ?_; repeat (first | exact OwnK.nil | refine OwnK.cons (.inl (by omega)) ?_ | refine OwnK.kill (fun b hb => .inl (by have := hoe b hb; omega)) ?_ | refine OwnK.cons (.inr (by simp)) ?_ | exact OwnK.one (by assumption) (by omega) (by omega) (by simp <;> omega) | refine OwnK.app (by assumption) (by omega) (by omega) (by simp <;> omega) ?_))) (by simpa [cShort] using hd2)

end
end Go.Proofs.Ytfcglkajekohiaa
