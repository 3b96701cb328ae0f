/- Contracts: the program's reader. -/
import Derived.Test.YtfcglkajekohiaaC4
set_option linter.unusedSimpArgs false
set_option linter.unusedVariables false
namespace Go.Proofs.Ytfcglkajekohiaa
open Go Go.Proofs.Ytfcglkajekohiaa.AM

def cSign (t : List UInt8) (s : Cur) : Bool × Cur := (decide ((cOne t s).1 = 1), if 1 < (cOne t s).1 then ((cOne t s).2.1, true) else (cOne t s).2)
def cCount (t : List UInt8) (s : Cur) (m : Nat) : Nat × Cur := if m < (cVar t s).1 then (0, ((cVar t s).2.1, true)) else cVar t s
def cRest (t : List UInt8) (s : Cur) : List UInt8 × Cur := if s.2 = true then ([], s) else (t.drop s.1, (t.length, false))

theorem cOne_le {t : List UInt8} {s : Cur} (h : s.1 ≤ t.length) : (cOne t s).2.1 ≤ t.length ∧ (cOne t s).1 < 256 := by
  unfold cOne
  split
  · exact ⟨h, by simp⟩
  · exact ⟨by simp only; omega, (t.getD s.1 0).toNat_lt⟩
theorem cSign_le {t : List UInt8} {s : Cur} (h : s.1 ≤ t.length) : (cSign t s).2.1 ≤ t.length := by
  unfold cSign
  simp only
  split
  · exact (cOne_le h).1
  · exact (cOne_le h).1
theorem cCount_le {t : List UInt8} {s : Cur} {m : Nat} (h : s.1 ≤ t.length) : (cCount t s m).2.1 ≤ t.length ∧ (cCount t s m).1 ≤ m := by
  unfold cCount
  split
  · exact ⟨(cVar_le h).1, by simp⟩
  · exact ⟨(cVar_le h).1, by omega⟩
theorem cShortI_le {t : List UInt8} {s : Cur} (h : s.1 ≤ t.length) : (cShortI t s).2.1 ≤ t.length := by
  unfold cShortI
  split
  · exact h
  · split
    · split
      · exact h
      · simp only; omega
    · exact h

section
variable {prim : Nat → List Value → Option Value} {H : AHeap} {c : Nat} {Q : Value → AHeap → Nat → Prop}

theorem impl_scan_one_ok (b : Nat) (t : List UInt8) (s : Cur) (ht : t.length ≤ 1000000000000) (hg : get H b = some (curV t s)) (hb : b < c) (hs : s.1 ≤ t.length)
    (h : ∀ d c', Own [b] d c c' → get (d ++ H) b = some (curV t (cOne t s).2) → Q (I (cOne t s).1) d c') : Ev (tbl prim) n_impl_scan_one [P b 0] H c Q := by
  refine Ev.fn (s_impl_scan_one prim) rfl ?_
  obtain ⟨a, bad⟩ := s
  simp only [curV] at hg h hs
  cases bad with
  | true =>
    have hc : cOne t (a, true) = (0, (a, true)) := by simp [cOne]
    rw [hc] at h
    repeat (first | simp only [RS0, RS1, RS2, RS3, RS4, reduceIte, Nat.reduceEqDiff, Nat.reduceAdd, Nat.reduceLeDiff, Nat.reduceLT, Nat.reduceMul, Int.reduceToNat, Int.reduceLT, Int.reduceLE, Int.reduceAdd, Int.reduceSub, Int.reduceMul, Int.reduceEq, Int.reduceNe, Nat.reduceSub, reduceCtorEq, boxF, if_true, if_false, forall_const, implies_true, ne_eq, g_impl_scan_one, hg] | simp (disch := first | assumption | omega | (simp only [LS] <;> omega) | (simp only [List.not_mem_nil, List.mem_cons, or_false, not_false_eq_true, not_or] <;> omega)) only [CS, g_impl_scan_one, hg] | simp only [condK_B, guardK_Bt, guardK_Bf])
    exact h _ _ (by ((try dsimp only); refine Own.of (by omega) ?_; repeat (first | exact OwnK.nil | refine OwnK.cons (.inl (by omega)) ?_ | refine OwnK.kill (fun b hb => .inl (by have := hoe b hb; omega)) ?_ | refine OwnK.cons (.inr (by simp)) ?_ | exact OwnK.one (by assumption) (by omega) (by omega) (by simp <;> omega) | refine OwnK.app (by assumption) (by omega) (by omega) (by simp <;> omega) ?_))) (by simp)
  | false =>
    repeat (first | simp only [RS0, RS1, RS2, RS3, RS4, reduceIte, Nat.reduceEqDiff, Nat.reduceAdd, Nat.reduceLeDiff, Nat.reduceLT, Nat.reduceMul, Int.reduceToNat, Int.reduceLT, Int.reduceLE, Int.reduceAdd, Int.reduceSub, Int.reduceMul, Int.reduceEq, Int.reduceNe, Nat.reduceSub, reduceCtorEq, boxF, if_true, if_false, forall_const, implies_true, ne_eq, g_impl_scan_one, hg] | simp (disch := first | assumption | omega | (simp only [LS] <;> omega) | (simp only [List.not_mem_nil, List.mem_cons, or_false, not_false_eq_true, not_or] <;> omega)) only [CS, g_impl_scan_one, hg] | simp only [condK_B, guardK_Bt, guardK_Bf])
    refine ⟨fun g => ?_, fun g => ⟨by omega, ?_⟩⟩
    · have hc : cOne t (a, false) = (0, (a, true)) := by simp [cOne]; omega
      rw [hc] at h
      exact h _ _ (by ((try dsimp only); refine Own.of (by omega) ?_; repeat (first | exact OwnK.nil | refine OwnK.cons (.inl (by omega)) ?_ | refine OwnK.kill (fun b hb => .inl (by have := hoe b hb; omega)) ?_ | refine OwnK.cons (.inr (by simp)) ?_ | exact OwnK.one (by assumption) (by omega) (by omega) (by simp <;> omega) | refine OwnK.app (by assumption) (by omega) (by omega) (by simp <;> omega) ?_))) (by simp)
    · have hc : cOne t (a, false) = ((t.getD a 0).toNat, (a + 1, false)) := by simp [cOne]; omega
      rw [hc] at h
      rw [show ((a : Int) + 1 - 1).toNat = a by omega]
      exact h _ _ (by ((try dsimp only); refine Own.of (by omega) ?_; repeat (first | exact OwnK.nil | refine OwnK.cons (.inl (by omega)) ?_ | refine OwnK.kill (fun b hb => .inl (by have := hoe b hb; omega)) ?_ | refine OwnK.cons (.inr (by simp)) ?_ | exact OwnK.one (by assumption) (by omega) (by omega) (by simp <;> omega) | refine OwnK.app (by assumption) (by omega) (by omega) (by simp <;> omega) ?_))) (by simp)

theorem impl_scan_sign_ok (b : Nat) (t : List UInt8) (s : Cur) (ht : t.length ≤ 1000000000000) (hg : get H b = some (curV t s)) (hb : b < c) (hs : s.1 ≤ t.length)
    (h : ∀ d c', Own [b] d c c' → get (d ++ H) b = some (curV t (cSign t s).2) → Q (B (cSign t s).1) d c') : Ev (tbl prim) n_impl_scan_sign [P b 0] H c Q := by
  refine Ev.fn (s_impl_scan_sign prim) rfl ?_
  have hle := cOne_le hs
  repeat (first | simp only [RS0, RS1, RS2, RS3, RS4, reduceIte, Nat.reduceEqDiff, Nat.reduceAdd, Nat.reduceLeDiff, Nat.reduceLT, Nat.reduceMul, Int.reduceToNat, Int.reduceLT, Int.reduceLE, Int.reduceAdd, Int.reduceSub, Int.reduceMul, Int.reduceEq, Int.reduceNe, Nat.reduceSub, reduceCtorEq, boxF, if_true, if_false, forall_const, implies_true, ne_eq, g_impl_scan_sign] | simp (disch := first | assumption | omega | (simp only [LS] <;> omega) | (simp only [List.not_mem_nil, List.mem_cons, or_false, not_false_eq_true, not_or] <;> omega)) only [CS, g_impl_scan_sign] | simp only [condK_B, guardK_Bt, guardK_Bf])
  refine EvK.of (impl_scan_one_ok b t s ht hg hb hs fun d c1 ho hd => ?_)
  have ho_le := ho.le
  simp only [curV] at hd
  have e : decide (((cOne t s).1 : Int) = 1) = decide ((cOne t s).1 = 1) := by congr 1; exact propext (by omega)
  repeat (first | simp only [RS0, RS1, RS2, RS3, RS4, reduceIte, Nat.reduceEqDiff, Nat.reduceAdd, Nat.reduceLeDiff, Nat.reduceLT, Nat.reduceMul, Int.reduceToNat, Int.reduceLT, Int.reduceLE, Int.reduceAdd, Int.reduceSub, Int.reduceMul, Int.reduceEq, Int.reduceNe, Nat.reduceSub, reduceCtorEq, boxF, if_true, if_false, forall_const, implies_true, ne_eq, hd, e] | simp (disch := first | assumption | omega | (simp only [LS] <;> omega) | (simp only [List.not_mem_nil, List.mem_cons, or_false, not_false_eq_true, not_or] <;> omega)) only [CS, hd, e] | simp only [condK_B, guardK_Bt, guardK_Bf])
  refine ⟨fun g => ?_, fun g => ?_⟩
  · have hc : cSign t s = (decide ((cOne t s).1 = 1), ((cOne t s).2.1, true)) := by simp only [cSign]; rw [if_pos (by omega)]
    rw [hc] at h
    repeat (first | simp only [RS0, RS1, RS2, RS3, RS4, reduceIte, Nat.reduceEqDiff, Nat.reduceAdd, Nat.reduceLeDiff, Nat.reduceLT, Nat.reduceMul, Int.reduceToNat, Int.reduceLT, Int.reduceLE, Int.reduceAdd, Int.reduceSub, Int.reduceMul, Int.reduceEq, Int.reduceNe, Nat.reduceSub, reduceCtorEq, boxF, if_true, if_false, forall_const, implies_true, ne_eq, hd, e] | simp (disch := first | assumption | omega | (simp only [LS] <;> omega) | (simp only [List.not_mem_nil, List.mem_cons, or_false, not_false_eq_true, not_or] <;> omega)) only [CS, hd, e] | simp only [condK_B, guardK_Bt, guardK_Bf])
    have := h ((b, some ⟨[T t, I (cOne t s).2.1, B true], 0, false⟩) :: d) c1 (by ((try dsimp only); refine Own.of (by omega) ?_; repeat (first | exact OwnK.nil | refine OwnK.cons (.inl (by omega)) ?_ | refine OwnK.kill (fun b hb => .inl (by have := hoe b hb; omega)) ?_ | refine OwnK.cons (.inr (by simp)) ?_ | exact OwnK.one (by assumption) (by omega) (by omega) (by simp <;> omega) | refine OwnK.app (by assumption) (by omega) (by omega) (by simp <;> omega) ?_))) (by simp [curV])
    simpa using this
  · have hc : cSign t s = (decide ((cOne t s).1 = 1), (cOne t s).2) := by simp only [cSign]; rw [if_neg (by omega)]
    rw [hc] at h
    have := h d c1 (by ((try dsimp only); refine Own.of (by omega) ?_; repeat (first | exact OwnK.nil | refine OwnK.cons (.inl (by omega)) ?_ | refine OwnK.kill (fun b hb => .inl (by have := hoe b hb; omega)) ?_ | refine OwnK.cons (.inr (by simp)) ?_ | exact OwnK.one (by assumption) (by omega) (by omega) (by simp <;> omega) | refine OwnK.app (by assumption) (by omega) (by omega) (by simp <;> omega) ?_))) (by simpa [curV] using hd)
    simpa using this

theorem impl_scan_count_ok (b : Nat) (t : List UInt8) (s : Cur) (m : Nat) (ht : t.length ≤ 1000000000000) (hg : get H b = some (curV t s)) (hb : b < c) (hs : s.1 ≤ t.length)
    (h : ∀ d c', Own [b] d c c' → get (d ++ H) b = some (curV t (cCount t s m).2) → Q (I (cCount t s m).1) d c') : Ev (tbl prim) n_impl_scan_count [P b 0, I m] H c Q := by
  refine Ev.fn (s_impl_scan_count prim) rfl ?_
  repeat (first | simp only [RS0, RS1, RS2, RS3, RS4, reduceIte, Nat.reduceEqDiff, Nat.reduceAdd, Nat.reduceLeDiff, Nat.reduceLT, Nat.reduceMul, Int.reduceToNat, Int.reduceLT, Int.reduceLE, Int.reduceAdd, Int.reduceSub, Int.reduceMul, Int.reduceEq, Int.reduceNe, Nat.reduceSub, reduceCtorEq, boxF, if_true, if_false, forall_const, implies_true, ne_eq, g_impl_scan_count] | simp (disch := first | assumption | omega | (simp only [LS] <;> omega) | (simp only [List.not_mem_nil, List.mem_cons, or_false, not_false_eq_true, not_or] <;> omega)) only [CS, g_impl_scan_count] | simp only [condK_B, guardK_Bt, guardK_Bf])
  refine EvK.of (impl_scan_number_ok b t s ht hg hb hs fun d c1 ho hd => ?_)
  have ho_le := ho.le
  simp only [curV] at hd
  repeat (first | simp only [RS0, RS1, RS2, RS3, RS4, reduceIte, Nat.reduceEqDiff, Nat.reduceAdd, Nat.reduceLeDiff, Nat.reduceLT, Nat.reduceMul, Int.reduceToNat, Int.reduceLT, Int.reduceLE, Int.reduceAdd, Int.reduceSub, Int.reduceMul, Int.reduceEq, Int.reduceNe, Nat.reduceSub, reduceCtorEq, boxF, if_true, if_false, forall_const, implies_true, ne_eq, hd] | simp (disch := first | assumption | omega | (simp only [LS] <;> omega) | (simp only [List.not_mem_nil, List.mem_cons, or_false, not_false_eq_true, not_or] <;> omega)) only [CS, hd] | simp only [condK_B, guardK_Bt, guardK_Bf])
  refine ⟨fun g => ?_, fun g => ?_⟩
  · have hc : cCount t s m = (0, ((cVar t s).2.1, true)) := by simp only [cCount]; rw [if_pos (by omega)]
    rw [hc] at h
    exact h ((b, some ⟨[T t, I (cVar t s).2.1, B true], 0, false⟩) :: d) c1 (by ((try dsimp only); refine Own.of (by omega) ?_; repeat (first | exact OwnK.nil | refine OwnK.cons (.inl (by omega)) ?_ | refine OwnK.kill (fun b hb => .inl (by have := hoe b hb; omega)) ?_ | refine OwnK.cons (.inr (by simp)) ?_ | exact OwnK.one (by assumption) (by omega) (by omega) (by simp <;> omega) | refine OwnK.app (by assumption) (by omega) (by omega) (by simp <;> omega) ?_))) (by simp [curV])
  · have hc : cCount t s m = cVar t s := by simp only [cCount]; rw [if_neg (by omega)]
    rw [hc] at h
    exact h d c1 (by ((try dsimp only); refine Own.of (by omega) ?_; repeat (first | exact OwnK.nil | refine OwnK.cons (.inl (by omega)) ?_ | refine OwnK.kill (fun b hb => .inl (by have := hoe b hb; omega)) ?_ | refine OwnK.cons (.inr (by simp)) ?_ | exact OwnK.one (by assumption) (by omega) (by omega) (by simp <;> omega) | refine OwnK.app (by assumption) (by omega) (by omega) (by simp <;> omega) ?_))) (by simpa [curV] using hd)

theorem impl_ReadShort_ok (t : List UInt8) (a : Nat) (ht : t.length ≤ 1000000000000) (ha : a ≤ t.length)
    (h : Q (match rv (t.drop a) with
      | some (n, j) => if 20000 < n ∨ t.length < a + j + n then .tuple ⟨[E, I 0, B false]⟩ else .tuple ⟨[T ((t.drop (a + j)).take n), I (a + j + n : Nat), B true]⟩
      | none => .tuple ⟨[E, I 0, B false]⟩) [] c) : Ev (tbl prim) n_impl_ReadShort [T t, I a] H c Q := by
  refine Ev.fn (s_impl_ReadShort prim) rfl ?_
  repeat (first | simp only [RS0, RS1, RS2, RS3, RS4, reduceIte, Nat.reduceEqDiff, Nat.reduceAdd, Nat.reduceLeDiff, Nat.reduceLT, Nat.reduceMul, Int.reduceToNat, Int.reduceLT, Int.reduceLE, Int.reduceAdd, Int.reduceSub, Int.reduceMul, Int.reduceEq, Int.reduceNe, Nat.reduceSub, reduceCtorEq, boxF, if_true, if_false, forall_const, implies_true, ne_eq, g_impl_ReadShort] | simp (disch := first | assumption | omega | (simp only [LS] <;> omega) | (simp only [List.not_mem_nil, List.mem_cons, or_false, not_false_eq_true, not_or] <;> omega)) only [CS, g_impl_ReadShort] | simp only [condK_B, guardK_Bt, guardK_Bf])
  refine EvK.of (impl_ReadVar_ok _ _ ht ?_)
  rw [if_pos ⟨by omega, by omega⟩, Int.toNat_natCast]
  cases hr : rv (t.drop a) with
  | none =>
    rw [hr] at h
    repeat (first | simp only [RS0, RS1, RS2, RS3, RS4, reduceIte, Nat.reduceEqDiff, Nat.reduceAdd, Nat.reduceLeDiff, Nat.reduceLT, Nat.reduceMul, Int.reduceToNat, Int.reduceLT, Int.reduceLE, Int.reduceAdd, Int.reduceSub, Int.reduceMul, Int.reduceEq, Int.reduceNe, Nat.reduceSub, reduceCtorEq, boxF, if_true, if_false, forall_const, implies_true, ne_eq, rvT] | simp (disch := first | assumption | omega | (simp only [LS] <;> omega) | (simp only [List.not_mem_nil, List.mem_cons, or_false, not_false_eq_true, not_or] <;> omega)) only [CS, rvT] | simp only [condK_B, guardK_Bt, guardK_Bf])
    exact h
  | some nj =>
    obtain ⟨n, j⟩ := nj
    have hj := rv_le hr
    rw [List.length_drop] at hj
    rw [hr] at h
    simp only at h
    repeat (first | simp only [RS0, RS1, RS2, RS3, RS4, reduceIte, Nat.reduceEqDiff, Nat.reduceAdd, Nat.reduceLeDiff, Nat.reduceLT, Nat.reduceMul, Int.reduceToNat, Int.reduceLT, Int.reduceLE, Int.reduceAdd, Int.reduceSub, Int.reduceMul, Int.reduceEq, Int.reduceNe, Nat.reduceSub, reduceCtorEq, boxF, if_true, if_false, forall_const, implies_true, ne_eq, rvT] | simp (disch := first | assumption | omega | (simp only [LS] <;> omega) | (simp only [List.not_mem_nil, List.mem_cons, or_false, not_false_eq_true, not_or] <;> omega)) only [CS, rvT] | simp only [condK_B, guardK_Bt, guardK_Bf])
    refine ⟨fun g => ?_, fun g => ⟨fun g2 => ?_, fun g2 => ⟨by omega, ?_⟩⟩⟩
    · rw [if_pos (by omega)] at h; exact h
    · rw [if_pos (by omega)] at h; exact h
    · rw [if_neg (by omega)] at h
      have e : (t.take ((a : Int) + j + n).toNat).drop ((a : Int) + j).toNat = (t.drop (a + j)).take n := by
        rw [show ((a : Int) + j + n).toNat = a + j + n by omega, show ((a : Int) + j).toNat = a + j by omega, List.drop_take, Nat.add_sub_cancel_left]
      rw [e]
      simpa using h

theorem impl_scan_short_ok (b : Nat) (t : List UInt8) (s : Cur) (ht : t.length ≤ 1000000000000) (hg : get H b = some (curV t s)) (hb : b < c) (hs : s.1 ≤ t.length)
    (h : ∀ d c', Own [b] d c c' → get (d ++ H) b = some (curV t (cShortI t s).2) → Q (T (cShortI t s).1) d c') : Ev (tbl prim) n_impl_scan_short [P b 0] H c Q := by
  refine Ev.fn (s_impl_scan_short prim) rfl ?_
  obtain ⟨a, bad⟩ := s
  simp only [curV] at hg h hs
  repeat (first | simp only [RS0, RS1, RS2, RS3, RS4, reduceIte, Nat.reduceEqDiff, Nat.reduceAdd, Nat.reduceLeDiff, Nat.reduceLT, Nat.reduceMul, Int.reduceToNat, Int.reduceLT, Int.reduceLE, Int.reduceAdd, Int.reduceSub, Int.reduceMul, Int.reduceEq, Int.reduceNe, Nat.reduceSub, reduceCtorEq, boxF, if_true, if_false, forall_const, implies_true, ne_eq, g_impl_scan_short, hg] | simp (disch := first | assumption | omega | (simp only [LS] <;> omega) | (simp only [List.not_mem_nil, List.mem_cons, or_false, not_false_eq_true, not_or] <;> omega)) only [CS, g_impl_scan_short, hg] | simp only [condK_B, guardK_Bt, guardK_Bf])
  refine EvK.of (impl_ReadShort_ok _ _ ht hs ?_)
  cases bad with
  | true =>
    have hc : cShortI t (a, true) = ([], (a, true)) := rfl
    rw [hc] at h
    cases hr : rv (t.drop a) with
    | none =>
      repeat (first | simp only [RS0, RS1, RS2, RS3, RS4, reduceIte, Nat.reduceEqDiff, Nat.reduceAdd, Nat.reduceLeDiff, Nat.reduceLT, Nat.reduceMul, Int.reduceToNat, Int.reduceLT, Int.reduceLE, Int.reduceAdd, Int.reduceSub, Int.reduceMul, Int.reduceEq, Int.reduceNe, Nat.reduceSub, reduceCtorEq, boxF, if_true, if_false, forall_const, implies_true, ne_eq, hg] | simp (disch := first | assumption | omega | (simp only [LS] <;> omega) | (simp only [List.not_mem_nil, List.mem_cons, or_false, not_false_eq_true, not_or] <;> omega)) only [CS, hg] | simp only [condK_B, guardK_Bt, guardK_Bf])
      exact h _ _ (by ((try dsimp only); refine Own.of (by omega) ?_; repeat (first | exact OwnK.nil | refine OwnK.cons (.inl (by omega)) ?_ | refine OwnK.kill (fun b hb => .inl (by have := hoe b hb; omega)) ?_ | refine OwnK.cons (.inr (by simp)) ?_ | exact OwnK.one (by assumption) (by omega) (by omega) (by simp <;> omega) | refine OwnK.app (by assumption) (by omega) (by omega) (by simp <;> omega) ?_))) (by simp)
    | some nj =>
      simp only
      split
      all_goals
        repeat (first | simp only [RS0, RS1, RS2, RS3, RS4, reduceIte, Nat.reduceEqDiff, Nat.reduceAdd, Nat.reduceLeDiff, Nat.reduceLT, Nat.reduceMul, Int.reduceToNat, Int.reduceLT, Int.reduceLE, Int.reduceAdd, Int.reduceSub, Int.reduceMul, Int.reduceEq, Int.reduceNe, Nat.reduceSub, reduceCtorEq, boxF, if_true, if_false, forall_const, implies_true, ne_eq, hg] | simp (disch := first | assumption | omega | (simp only [LS] <;> omega) | (simp only [List.not_mem_nil, List.mem_cons, or_false, not_false_eq_true, not_or] <;> omega)) only [CS, hg] | simp only [condK_B, guardK_Bt, guardK_Bf])
        exact h _ _ (by ((try dsimp only); refine Own.of (by omega) ?_; repeat (first | exact OwnK.nil | refine OwnK.cons (.inl (by omega)) ?_ | refine OwnK.kill (fun b hb => .inl (by have := hoe b hb; omega)) ?_ | refine OwnK.cons (.inr (by simp)) ?_ | exact OwnK.one (by assumption) (by omega) (by omega) (by simp <;> omega) | refine OwnK.app (by assumption) (by omega) (by omega) (by simp <;> omega) ?_))) (by simp)
  | false =>
    cases hr : rv (t.drop a) with
    | none =>
      have hc : cShortI t (a, false) = ([], (a, true)) := by simp [cShortI, hr]
      rw [hc] at h
      repeat (first | simp only [RS0, RS1, RS2, RS3, RS4, reduceIte, Nat.reduceEqDiff, Nat.reduceAdd, Nat.reduceLeDiff, Nat.reduceLT, Nat.reduceMul, Int.reduceToNat, Int.reduceLT, Int.reduceLE, Int.reduceAdd, Int.reduceSub, Int.reduceMul, Int.reduceEq, Int.reduceNe, Nat.reduceSub, reduceCtorEq, boxF, if_true, if_false, forall_const, implies_true, ne_eq, hg] | simp (disch := first | assumption | omega | (simp only [LS] <;> omega) | (simp only [List.not_mem_nil, List.mem_cons, or_false, not_false_eq_true, not_or] <;> omega)) only [CS, hg] | simp only [condK_B, guardK_Bt, guardK_Bf])
      exact h _ _ (by ((try dsimp only); refine Own.of (by omega) ?_; repeat (first | exact OwnK.nil | refine OwnK.cons (.inl (by omega)) ?_ | refine OwnK.kill (fun b hb => .inl (by have := hoe b hb; omega)) ?_ | refine OwnK.cons (.inr (by simp)) ?_ | exact OwnK.one (by assumption) (by omega) (by omega) (by simp <;> omega) | refine OwnK.app (by assumption) (by omega) (by omega) (by simp <;> omega) ?_))) (by simp)
    | some nj =>
      simp only
      split
      · rename_i g
        have hc : cShortI t (a, false) = ([], (a, true)) := by simp [cShortI, hr, g]
        rw [hc] at h
        repeat (first | simp only [RS0, RS1, RS2, RS3, RS4, reduceIte, Nat.reduceEqDiff, Nat.reduceAdd, Nat.reduceLeDiff, Nat.reduceLT, Nat.reduceMul, Int.reduceToNat, Int.reduceLT, Int.reduceLE, Int.reduceAdd, Int.reduceSub, Int.reduceMul, Int.reduceEq, Int.reduceNe, Nat.reduceSub, reduceCtorEq, boxF, if_true, if_false, forall_const, implies_true, ne_eq, hg] | simp (disch := first | assumption | omega | (simp only [LS] <;> omega) | (simp only [List.not_mem_nil, List.mem_cons, or_false, not_false_eq_true, not_or] <;> omega)) only [CS, hg] | simp only [condK_B, guardK_Bt, guardK_Bf])
        exact h _ _ (by ((try dsimp only); refine Own.of (by omega) ?_; repeat (first | exact OwnK.nil | refine OwnK.cons (.inl (by omega)) ?_ | refine OwnK.kill (fun b hb => .inl (by have := hoe b hb; omega)) ?_ | refine OwnK.cons (.inr (by simp)) ?_ | exact OwnK.one (by assumption) (by omega) (by omega) (by simp <;> omega) | refine OwnK.app (by assumption) (by omega) (by omega) (by simp <;> omega) ?_))) (by simp)
      · rename_i g
        have hc : cShortI t (a, false) = ((t.drop (a + nj.2)).take nj.1, (a + nj.2 + nj.1, false)) := by simp [cShortI, hr, g]
        rw [hc] at h
        repeat (first | simp only [RS0, RS1, RS2, RS3, RS4, reduceIte, Nat.reduceEqDiff, Nat.reduceAdd, Nat.reduceLeDiff, Nat.reduceLT, Nat.reduceMul, Int.reduceToNat, Int.reduceLT, Int.reduceLE, Int.reduceAdd, Int.reduceSub, Int.reduceMul, Int.reduceEq, Int.reduceNe, Nat.reduceSub, reduceCtorEq, boxF, if_true, if_false, forall_const, implies_true, ne_eq, hg] | simp (disch := first | assumption | omega | (simp only [LS] <;> omega) | (simp only [List.not_mem_nil, List.mem_cons, or_false, not_false_eq_true, not_or] <;> omega)) only [CS, hg] | simp only [condK_B, guardK_Bt, guardK_Bf])
        exact h _ _ (by ((try dsimp only); refine Own.of (by omega) ?_; repeat (first | exact OwnK.nil | refine OwnK.cons (.inl (by omega)) ?_ | refine OwnK.kill (fun b hb => .inl (by have := hoe b hb; omega)) ?_ | refine OwnK.cons (.inr (by simp)) ?_ | exact OwnK.one (by assumption) (by omega) (by omega) (by simp <;> omega) | refine OwnK.app (by assumption) (by omega) (by omega) (by simp <;> omega) ?_))) (by simp)

theorem impl_scan_rest_ok (b : Nat) (t : List UInt8) (s : Cur) (ht : t.length ≤ 1000000000000) (hg : get H b = some (curV t s)) (hb : b < c) (hs : s.1 ≤ t.length)
    (h : ∀ d c', Own [b] d c c' → get (d ++ H) b = some (curV t (cRest t s).2) → Q (T (cRest t s).1) d c') : Ev (tbl prim) n_impl_scan_rest [P b 0] H c Q := by
  refine Ev.fn (s_impl_scan_rest prim) rfl ?_
  obtain ⟨a, bad⟩ := s
  simp only [curV] at hg h hs
  cases bad with
  | true =>
    have hc : cRest t (a, true) = ([], (a, true)) := rfl
    rw [hc] at h
    repeat (first | simp only [RS0, RS1, RS2, RS3, RS4, reduceIte, Nat.reduceEqDiff, Nat.reduceAdd, Nat.reduceLeDiff, Nat.reduceLT, Nat.reduceMul, Int.reduceToNat, Int.reduceLT, Int.reduceLE, Int.reduceAdd, Int.reduceSub, Int.reduceMul, Int.reduceEq, Int.reduceNe, Nat.reduceSub, reduceCtorEq, boxF, if_true, if_false, forall_const, implies_true, ne_eq, g_impl_scan_rest, hg] | simp (disch := first | assumption | omega | (simp only [LS] <;> omega) | (simp only [List.not_mem_nil, List.mem_cons, or_false, not_false_eq_true, not_or] <;> omega)) only [CS, g_impl_scan_rest, hg] | simp only [condK_B, guardK_Bt, guardK_Bf])
    exact h _ _ (by ((try dsimp only); refine Own.of (by omega) ?_; repeat (first | exact OwnK.nil | refine OwnK.cons (.inl (by omega)) ?_ | refine OwnK.kill (fun b hb => .inl (by have := hoe b hb; omega)) ?_ | refine OwnK.cons (.inr (by simp)) ?_ | exact OwnK.one (by assumption) (by omega) (by omega) (by simp <;> omega) | refine OwnK.app (by assumption) (by omega) (by omega) (by simp <;> omega) ?_))) (by simpa using hg)
  | false =>
    have hc : cRest t (a, false) = (t.drop a, (t.length, false)) := rfl
    rw [hc] at h
    repeat (first | simp only [RS0, RS1, RS2, RS3, RS4, reduceIte, Nat.reduceEqDiff, Nat.reduceAdd, Nat.reduceLeDiff, Nat.reduceLT, Nat.reduceMul, Int.reduceToNat, Int.reduceLT, Int.reduceLE, Int.reduceAdd, Int.reduceSub, Int.reduceMul, Int.reduceEq, Int.reduceNe, Nat.reduceSub, reduceCtorEq, boxF, if_true, if_false, forall_const, implies_true, ne_eq, g_impl_scan_rest, hg] | simp (disch := first | assumption | omega | (simp only [LS] <;> omega) | (simp only [List.not_mem_nil, List.mem_cons, or_false, not_false_eq_true, not_or] <;> omega)) only [CS, g_impl_scan_rest, hg] | simp only [condK_B, guardK_Bt, guardK_Bf])
    refine ⟨by omega, ?_⟩
    exact h _ _ (by ((try dsimp only); refine Own.of (by omega) ?_; repeat (first | exact OwnK.nil | refine OwnK.cons (.inl (by omega)) ?_ | refine OwnK.kill (fun b hb => .inl (by have := hoe b hb; omega)) ?_ | refine OwnK.cons (.inr (by simp)) ?_ | exact OwnK.one (by assumption) (by omega) (by omega) (by simp <;> omega) | refine OwnK.app (by assumption) (by omega) (by omega) (by simp <;> omega) ?_))) (by simp)

theorem impl_scan_done_ok (b : Nat) (t : List UInt8) (s : Cur) (hg : get H b = some (curV t s)) 
    (h : Q (B (decide (s.2 = false ∧ s.1 = t.length))) [] c) : Ev (tbl prim) n_impl_scan_done [P b 0] H c Q := by
  refine Ev.fn (s_impl_scan_done prim) rfl ?_
  obtain ⟨a, bad⟩ := s
  simp only [curV] at hg h
  cases bad with
  | true =>
    repeat (first | simp only [RS0, RS1, RS2, RS3, RS4, reduceIte, Nat.reduceEqDiff, Nat.reduceAdd, Nat.reduceLeDiff, Nat.reduceLT, Nat.reduceMul, Int.reduceToNat, Int.reduceLT, Int.reduceLE, Int.reduceAdd, Int.reduceSub, Int.reduceMul, Int.reduceEq, Int.reduceNe, Nat.reduceSub, reduceCtorEq, boxF, if_true, if_false, forall_const, implies_true, ne_eq, g_impl_scan_done, hg] | simp (disch := first | assumption | omega | (simp only [LS] <;> omega) | (simp only [List.not_mem_nil, List.mem_cons, or_false, not_false_eq_true, not_or] <;> omega)) only [CS, g_impl_scan_done, hg] | simp only [condK_B, guardK_Bt, guardK_Bf])
    simpa using h
  | false =>
    repeat (first | simp only [RS0, RS1, RS2, RS3, RS4, reduceIte, Nat.reduceEqDiff, Nat.reduceAdd, Nat.reduceLeDiff, Nat.reduceLT, Nat.reduceMul, Int.reduceToNat, Int.reduceLT, Int.reduceLE, Int.reduceAdd, Int.reduceSub, Int.reduceMul, Int.reduceEq, Int.reduceNe, Nat.reduceSub, reduceCtorEq, boxF, if_true, if_false, forall_const, implies_true, ne_eq, g_impl_scan_done, hg] | simp (disch := first | assumption | omega | (simp only [LS] <;> omega) | (simp only [List.not_mem_nil, List.mem_cons, or_false, not_false_eq_true, not_or] <;> omega)) only [CS, g_impl_scan_done, hg] | simp only [condK_B, guardK_Bt, guardK_Bf])
    have e : decide ((a : Int) = (t.length : Int)) = decide (a = t.length) := by congr 1; exact propext (by omega)
    rw [e]
    simpa using h
end
end Go.Proofs.Ytfcglkajekohiaa
