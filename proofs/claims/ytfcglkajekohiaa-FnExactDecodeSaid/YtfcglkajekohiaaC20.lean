/- Contracts: what the laws compare with, entries and messages. -/
import Derived.Test.YtfcglkajekohiaaC19
set_option linter.unusedSimpArgs false
set_option linter.unusedVariables false
set_option maxRecDepth 20000
namespace Go.Proofs.Ytfcglkajekohiaa
open Go Go.Proofs.Ytfcglkajekohiaa.AM

def mkE (k i : Nat) : Ent := ⟨(k + 3 * i : Nat), (k + 3 * i + 1 : Nat), markT (k + 3 * i + 2)⟩
def mkEs (k n : Nat) : List Ent := (List.range n).map (mkE k)
theorem mkEs_len (k n : Nat) : (mkEs k n).length = n := by simp [mkEs]
theorem mkEs_succ (k n : Nat) : mkEs k (n + 1) = mkEs k n ++ [mkE k n] := by simp [mkEs, List.range_succ]
theorem mkEs_get {k n i : Nat} (h : i < (mkEs k n).length) : (mkEs k n)[i] = mkE k i := by simp [mkEs]
theorem ents_set {l : List Ent} {i : Nat} (h : i < l.length) (a b : Int) (t : List UInt8) : (((entsC l).set (i * 3) (I a)).set (i * 3 + 1) (I b)).set (i * 3 + 2) (T t) = entsC (l.set i ⟨a, b, t⟩) := by
  induction l generalizing i with
  | nil => simp at h
  | cons e l ih =>
    cases i with
    | zero => simp [entsC, entC]
    | succ i =>
      have := ih (i := i) (by simpa using h)
      simp only [entsC, List.flatMap_cons, entC, List.set_cons_succ, List.cons_append, List.nil_append, show (i + 1) * 3 = i * 3 + 1 + 1 + 1 by omega] at this ⊢
      rw [← this]

section
variable {prim : Nat → List Value → Option Value} {H : AHeap} {c : Nat} {Q : Value → AHeap → Nat → Prop}

theorem laws_markEntryS_ok (v : Value) (l : List Ent) (ov : Option Nat) (hv : SlR H 3 v (entsC l) ov) (hov : ∀ b, ov = some b → b < c) (hl : l.length ≤ 100000000) (k : Nat) (hk : k ≤ 100000000)
    (h : ∀ d c', Own ov.toList d c c' → SlR (d ++ H) 3 v (entsC (mkEs k l.length)) ov → Q (I (k + 3 * l.length : Nat)) d c') : Ev (tbl prim) n_laws_markEntryS [v, I k] H c Q := by
  refine Ev.fn (s_laws_markEntryS prim) rfl ?_
  have h1 := hv.len (ents_len l) (by omega)
  repeat (first | simp only [RS0, RS1, RS2, RS3, RS4, reduceIte, Nat.reduceEqDiff, Nat.reduceAdd, Nat.reduceLeDiff, Nat.reduceLT, Nat.reduceMul, Int.reduceToNat, Int.reduceLT, Int.reduceLE, Int.reduceAdd, Int.reduceSub, Int.reduceMul, Int.reduceEq, Int.reduceNe, Nat.reduceSub, reduceCtorEq, boxF, if_true, if_false, forall_const, implies_true, ne_eq, g_laws_markEntryS, h1] | simp (disch := first | assumption | omega | (simp only [LS] <;> omega) | (simp only [List.not_mem_nil, List.mem_cons, or_false, not_false_eq_true, not_or] <;> omega)) only [CS, g_laws_markEntryS, h1] | simp only [condK_B, guardK_Bt, guardK_Bf])
  refine Wloop.of (fun n s => ∃ i : Nat, s.ts 0 = v ∧ s.ts 1 = I (k + 3 * i : Nat) ∧ s.ts 5 = I i ∧ n = l.length - i ∧ i ≤ l.length ∧ Own ov.toList s.u c s.c ∧ SlR (s.u ++ H) 3 v (entsC (mkEs k i ++ l.drop i)) ov) ?_ (n := l.length) ⟨0, by simp, by simp, by simp, rfl, by omega, Own.nil c, by simpa [mkEs] using hv⟩
  rintro n ⟨ts, u, c1⟩ ⟨i, h3, h4, h5, rfl, hi, ho, hs⟩ R hR hE
  simp only at h3 h4 h5 ho hs
  have ho_le := ho.le
  have hll : (mkEs k i ++ l.drop i).length = l.length := by simp [mkEs_len]; omega
  have hlen : (entsC (mkEs k i ++ l.drop i)).length = l.length * 3 := by rw [ents_len, hll]
  have hov' : ∀ b, ov = some b → b < c1 := fun b hb => by have := hov b hb; omega
  by_cases hin : i < l.length
  · obtain ⟨b, hb, hob, hia, hg⟩ := hs.elw hov' hlen (by omega) (k := .i64) hin
    have hT : ((i : Int) < l.length) = True := eq_true (by omega)
    obtain ⟨L, hL⟩ : ∃ L, L = mkEs k i ++ l.drop i := ⟨_, rfl⟩
    rw [← hL] at hlen hg hs hll
    have n0 : i * 3 < (entsC L).length := by omega
    have n1 : i * 3 + 1 < ((entsC L).set (i * 3) (I (k + 3 * i : Nat))).length := by simp; omega
    have n2 : i * 3 + 1 + 1 < (((entsC L).set (i * 3) (I (k + 3 * i : Nat))).set (i * 3 + 1) (I ((k + 3 * i : Nat) + 1))).length := by simp; omega
    repeat (first | simp only [RS0, RS1, RS2, RS3, RS4, reduceIte, Nat.reduceEqDiff, Nat.reduceAdd, Nat.reduceLeDiff, Nat.reduceLT, Nat.reduceMul, Int.reduceToNat, Int.reduceLT, Int.reduceLE, Int.reduceAdd, Int.reduceSub, Int.reduceMul, Int.reduceEq, Int.reduceNe, Nat.reduceSub, reduceCtorEq, boxF, if_true, if_false, forall_const, implies_true, ne_eq, g_laws_markEntryS_L0, h3, h4, h5, h1, hia, hT, hg, tset n0, tset n1, List.length_set] | simp (disch := first | assumption | omega | (simp only [LS] <;> omega) | (simp only [List.not_mem_nil, List.mem_cons, or_false, not_false_eq_true, not_or] <;> omega)) only [CS, g_laws_markEntryS_L0, h3, h4, h5, h1, hia, hT, hg, tset n0, tset n1, List.length_set] | simp only [condK_B, guardK_Bt, guardK_Bf])
    refine ⟨by omega, by omega, ?_⟩
    rw [show ((k + 3 * i : Nat) : Int) + 1 + 1 = ((k + 3 * i + 2 : Nat) : Int) by omega]
    refine EvK.of (laws_markText_ok (k + 3 * i + 2) (by omega) fun d2 c2 ho2 => ?_)
    have ho2_le := ho2.le
    repeat (first | simp only [RS0, RS1, RS2, RS3, RS4, reduceIte, Nat.reduceEqDiff, Nat.reduceAdd, Nat.reduceLeDiff, Nat.reduceLT, Nat.reduceMul, Int.reduceToNat, Int.reduceLT, Int.reduceLE, Int.reduceAdd, Int.reduceSub, Int.reduceMul, Int.reduceEq, Int.reduceNe, Nat.reduceSub, reduceCtorEq, boxF, if_true, if_false, forall_const, implies_true, ne_eq, h3, h5, hia, tset n2, List.length_set] | simp (disch := first | assumption | omega | (simp only [LS] <;> omega) | (simp only [List.not_mem_nil, List.mem_cons, or_false, not_false_eq_true, not_or] <;> omega)) only [CS, h3, h5, hia, tset n2, List.length_set] | simp only [condK_B, guardK_Bt, guardK_Bf])
    refine ⟨by omega, ?_⟩
    have hset := ents_set (l := L) (i := i) (by omega) (k + 3 * i : Nat) ((k + 3 * i : Nat) + 1) (markT (k + 3 * i + 2))
    have hL2 : L.set i ⟨(k + 3 * i : Nat), (k + 3 * i : Nat) + 1, markT (k + 3 * i + 2)⟩ = mkEs k (i + 1) ++ l.drop (i + 1) := by
      rw [hL, mid_set (mkEs_len k i) hin, mkEs_succ, mkE]; simp
    rw [hL2] at hset
    refine hR (l.length - (i + 1)) _ (by omega) ⟨i + 1, by simp [h3], ?_, by simp, rfl, by omega, ?_, ?_⟩
    · simp; omega
    · rw [hob] at ho ⊢
      ((try dsimp only); refine Own.of (by omega) ?_; repeat (first | exact OwnK.nil | refine OwnK.cons (.inl (by omega)) ?_ | refine OwnK.kill (fun b hb => .inl (by have := hoe b hb; omega)) ?_ | refine OwnK.cons (.inr (by simp)) ?_ | exact OwnK.one (by assumption) (by omega) (by omega) (by simp <;> omega) | refine OwnK.app (by assumption) (by omega) (by omega) (by simp <;> omega) ?_))
    · refine hs.put hob (by rw [← hset]; simp (disch := first | assumption | omega | (simp only [LS] <;> omega) | (simp only [List.not_mem_nil, List.mem_cons, or_false, not_false_eq_true, not_or] <;> omega)) only [CS, RS3, RS4]) ?_
      rw [ents_len, ents_len, ← hL2]
      simp
  · have hF : ((i : Int) < l.length) = False := eq_false (by omega)
    repeat (first | simp only [RS0, RS1, RS2, RS3, RS4, reduceIte, Nat.reduceEqDiff, Nat.reduceAdd, Nat.reduceLeDiff, Nat.reduceLT, Nat.reduceMul, Int.reduceToNat, Int.reduceLT, Int.reduceLE, Int.reduceAdd, Int.reduceSub, Int.reduceMul, Int.reduceEq, Int.reduceNe, Nat.reduceSub, reduceCtorEq, boxF, if_true, if_false, forall_const, implies_true, ne_eq, g_laws_markEntryS_L0, h3, h4, h5, h1, hF] | simp (disch := first | assumption | omega | (simp only [LS] <;> omega) | (simp only [List.not_mem_nil, List.mem_cons, or_false, not_false_eq_true, not_or] <;> omega)) only [CS, g_laws_markEntryS_L0, h3, h4, h5, h1, hF] | simp only [condK_B, guardK_Bt, guardK_Bf])
    refine hE _ _ (by decide) ?_
    repeat (first | simp only [RS0, RS1, RS2, RS3, RS4, reduceIte, Nat.reduceEqDiff, Nat.reduceAdd, Nat.reduceLeDiff, Nat.reduceLT, Nat.reduceMul, Int.reduceToNat, Int.reduceLT, Int.reduceLE, Int.reduceAdd, Int.reduceSub, Int.reduceMul, Int.reduceEq, Int.reduceNe, Nat.reduceSub, reduceCtorEq, boxF, if_true, if_false, forall_const, implies_true, ne_eq, h4] | simp (disch := first | assumption | omega | (simp only [LS] <;> omega) | (simp only [List.not_mem_nil, List.mem_cons, or_false, not_false_eq_true, not_or] <;> omega)) only [CS, h4] | simp only [condK_B, guardK_Bt, guardK_Bf])
    have : i = l.length := by omega
    subst this
    rw [List.drop_length, List.append_nil] at hs
    exact h _ _ ho hs

theorem laws_heldEntryS_ok (v : Value) (n : Nat) (ov : Option Nat) (k : Nat) (hv : SlR H 3 v (entsC (mkEs k n)) ov) (hov : ∀ b, ov = some b → b < c) (hl : n ≤ 100000000) (hk : k ≤ 100000000)
    (h : ∀ d c', Own [] d c c' → Q (I (k + 3 * n : Nat)) d c') : Ev (tbl prim) n_laws_heldEntryS [v, I k] H c Q := by
  refine Ev.fn (s_laws_heldEntryS prim) rfl ?_
  have hlen : (entsC (mkEs k n)).length = n * 3 := by rw [ents_len, mkEs_len]
  have h1 := hv.len hlen (by omega)
  repeat (first | simp only [RS0, RS1, RS2, RS3, RS4, reduceIte, Nat.reduceEqDiff, Nat.reduceAdd, Nat.reduceLeDiff, Nat.reduceLT, Nat.reduceMul, Int.reduceToNat, Int.reduceLT, Int.reduceLE, Int.reduceAdd, Int.reduceSub, Int.reduceMul, Int.reduceEq, Int.reduceNe, Nat.reduceSub, reduceCtorEq, boxF, if_true, if_false, forall_const, implies_true, ne_eq, g_laws_heldEntryS, h1] | simp (disch := first | assumption | omega | (simp only [LS] <;> omega) | (simp only [List.not_mem_nil, List.mem_cons, or_false, not_false_eq_true, not_or] <;> omega)) only [CS, g_laws_heldEntryS, h1] | simp only [condK_B, guardK_Bt, guardK_Bf])
  refine Wloop.of (fun q s => ∃ i : Nat, s.ts 0 = v ∧ s.ts 1 = I (k + 3 * i : Nat) ∧ s.ts 5 = I i ∧ q = n - i ∧ i ≤ n ∧ Own [] s.u c s.c) ?_ (n := n) ⟨0, by simp, by simp, by simp, rfl, by omega, Own.nil c⟩
  rintro q ⟨ts, u, c1⟩ ⟨i, h3, h4, h5, rfl, hi, ho⟩ R hR hE
  simp only at h3 h4 h5 ho
  have ho_le := ho.le
  by_cases hin : i < n
  · obtain ⟨b, hb, hob, hia, hg⟩ := (hv.own ho (fun b hb => ⟨hov b hb, by simp⟩)).elw hov hlen (by omega) (k := .i64) hin
    have hT : ((i : Int) < n) = True := eq_true (by omega)
    have hi2 : i < (mkEs k n).length := by rw [mkEs_len]; exact hin
    have g0 := ents_0 hi2
    have g1 := ents_1 hi2
    have g2 := ents_2 hi2
    rw [mkEs_get hi2] at g0 g1 g2
    simp only [mkE] at g0 g1 g2
    have e1 : (((k + 3 * i + 1 : Nat) : Int) = ((k + 3 * i : Nat) : Int) + 1) = True := eq_true (by omega)
    repeat (first | simp only [RS0, RS1, RS2, RS3, RS4, reduceIte, Nat.reduceEqDiff, Nat.reduceAdd, Nat.reduceLeDiff, Nat.reduceLT, Nat.reduceMul, Int.reduceToNat, Int.reduceLT, Int.reduceLE, Int.reduceAdd, Int.reduceSub, Int.reduceMul, Int.reduceEq, Int.reduceNe, Nat.reduceSub, reduceCtorEq, boxF, if_true, if_false, forall_const, implies_true, ne_eq, g_laws_heldEntryS_L0, h3, h4, h5, h1, hia, hT, hg, g0, g1, g2, hlen, e1] | simp (disch := first | assumption | omega | (simp only [LS] <;> omega) | (simp only [List.not_mem_nil, List.mem_cons, or_false, not_false_eq_true, not_or] <;> omega)) only [CS, g_laws_heldEntryS_L0, h3, h4, h5, h1, hia, hT, hg, g0, g1, g2, hlen, e1] | simp only [condK_B, guardK_Bt, guardK_Bf])
    refine ⟨⟨by omega, by omega⟩, ⟨by omega, by omega⟩, ⟨by omega, by omega⟩, ?_⟩
    rw [show ((k + 3 * i : Nat) : Int) + 1 + 1 = ((k + 3 * i + 2 : Nat) : Int) by omega]
    refine EvK.of (laws_markText_ok (k + 3 * i + 2) (by omega) fun d2 c2 ho2 => ?_)
    have ho2_le := ho2.le
    repeat (first | simp only [RS0, RS1, RS2, RS3, RS4, reduceIte, Nat.reduceEqDiff, Nat.reduceAdd, Nat.reduceLeDiff, Nat.reduceLT, Nat.reduceMul, Int.reduceToNat, Int.reduceLT, Int.reduceLE, Int.reduceAdd, Int.reduceSub, Int.reduceMul, Int.reduceEq, Int.reduceNe, Nat.reduceSub, reduceCtorEq, boxF, if_true, if_false, forall_const, implies_true, ne_eq, h3, h5] | simp (disch := first | assumption | omega | (simp only [LS] <;> omega) | (simp only [List.not_mem_nil, List.mem_cons, or_false, not_false_eq_true, not_or] <;> omega)) only [CS, h3, h5] | simp only [condK_B, guardK_Bt, guardK_Bf])
    refine hR (n - (i + 1)) _ (by omega) ⟨i + 1, by simp [h3], ?_, by simp, rfl, by omega, by ((try dsimp only); refine Own.of (by omega) ?_; repeat (first | exact OwnK.nil | refine OwnK.cons (.inl (by omega)) ?_ | refine OwnK.kill (fun b hb => .inl (by have := hoe b hb; omega)) ?_ | refine OwnK.cons (.inr (by simp)) ?_ | exact OwnK.one (by assumption) (by omega) (by omega) (by simp <;> omega) | refine OwnK.app (by assumption) (by omega) (by omega) (by simp <;> omega) ?_))⟩
    simp; omega
  · have hF : ((i : Int) < n) = False := eq_false (by omega)
    repeat (first | simp only [RS0, RS1, RS2, RS3, RS4, reduceIte, Nat.reduceEqDiff, Nat.reduceAdd, Nat.reduceLeDiff, Nat.reduceLT, Nat.reduceMul, Int.reduceToNat, Int.reduceLT, Int.reduceLE, Int.reduceAdd, Int.reduceSub, Int.reduceMul, Int.reduceEq, Int.reduceNe, Nat.reduceSub, reduceCtorEq, boxF, if_true, if_false, forall_const, implies_true, ne_eq, g_laws_heldEntryS_L0, h3, h4, h5, h1, hF] | simp (disch := first | assumption | omega | (simp only [LS] <;> omega) | (simp only [List.not_mem_nil, List.mem_cons, or_false, not_false_eq_true, not_or] <;> omega)) only [CS, g_laws_heldEntryS_L0, h3, h4, h5, h1, hF] | simp only [condK_B, guardK_Bt, guardK_Bf])
    refine hE _ _ (by decide) ?_
    repeat (first | simp only [RS0, RS1, RS2, RS3, RS4, reduceIte, Nat.reduceEqDiff, Nat.reduceAdd, Nat.reduceLeDiff, Nat.reduceLT, Nat.reduceMul, Int.reduceToNat, Int.reduceLT, Int.reduceLE, Int.reduceAdd, Int.reduceSub, Int.reduceMul, Int.reduceEq, Int.reduceNe, Nat.reduceSub, reduceCtorEq, boxF, if_true, if_false, forall_const, implies_true, ne_eq, h4] | simp (disch := first | assumption | omega | (simp only [LS] <;> omega) | (simp only [List.not_mem_nil, List.mem_cons, or_false, not_false_eq_true, not_or] <;> omega)) only [CS, h4] | simp only [condK_B, guardK_Bt, guardK_Bf])
    have : i = n := by omega
    subst this
    exact h _ _ ho

def mkM (m : Msg) (k : Nat) : Msg := { m with entries := mkEs k m.entries.length, conf := mkI (k + 3 * m.entries.length) m.conf.length }

theorem laws_markMessage_ok (m : Msg) (ve vc : Value) (oe oc : Option Nat) (he : SlR H 3 ve (entsC m.entries) oe) (hc : SlR H 1 vc (m.conf.map I) oc) (hoe : ∀ b, oe = some b → b < c) (hoc : ∀ b, oc = some b → b < c) (hne : ∀ b, oe = some b → oc ≠ some b) (hl : m.entries.length ≤ 1000000) (hl2 : m.conf.length ≤ 1000000) (k : Nat) (hk : k ≤ 1000000)
    (h : ∀ d c', Own (oe.toList ++ oc.toList) d c c' → SlR (d ++ H) 3 ve (entsC (mkEs k m.entries.length)) oe → SlR (d ++ H) 1 vc ((mkI (k + 3 * m.entries.length) m.conf.length).map I) oc → Q (I (k + 3 * m.entries.length + m.conf.length : Nat)) d c') : Ev (tbl prim) n_laws_markMessage [ag (msgC m ve vc), I k] H c Q := by
  refine Ev.fn (s_laws_markMessage prim) rfl ?_
  repeat (first | simp only [RS0, RS1, RS2, RS3, RS4, reduceIte, Nat.reduceEqDiff, Nat.reduceAdd, Nat.reduceLeDiff, Nat.reduceLT, Nat.reduceMul, Int.reduceToNat, Int.reduceLT, Int.reduceLE, Int.reduceAdd, Int.reduceSub, Int.reduceMul, Int.reduceEq, Int.reduceNe, Nat.reduceSub, reduceCtorEq, boxF, if_true, if_false, forall_const, implies_true, ne_eq, g_laws_markMessage, msgC, he.cl, hc.cl, he.isC, hc.isC] | simp (disch := first | assumption | omega | (simp only [LS] <;> omega) | (simp only [List.not_mem_nil, List.mem_cons, or_false, not_false_eq_true, not_or] <;> omega)) only [CS, g_laws_markMessage, msgC, he.cl, hc.cl, he.isC, hc.isC] | simp only [condK_B, guardK_Bt, guardK_Bf])
  refine EvK.of (laws_markEntryS_ok ve m.entries oe (he.of_get (fun b hb => by have := hoe b hb; simp (disch := first | assumption | omega | (simp only [LS] <;> omega) | (simp only [List.not_mem_nil, List.mem_cons, or_false, not_false_eq_true, not_or] <;> omega)) only [CS, RS3, RS4])) (fun b hb => by have := hoe b hb; omega) (by omega) k (by omega) fun d2 c2 ho2 hs2 => ?_)
  have ho2_le := ho2.le
  have hx : ∀ b, oc = some b → b ∉ oe.toList := fun b hb hb2 => by
    cases oe with
    | none => simp at hb2
    | some a => simp at hb2; subst hb2; exact hne _ rfl hb
  have hx2 : c ∉ oe.toList := fun hb2 => by
    cases oe with
    | none => simp at hb2
    | some a => simp at hb2; have := hoe a rfl; omega
  have hy : ∀ b, oe = some b → b ∉ oc.toList := fun b hb hb2 => by
    cases oc with
    | none => simp at hb2
    | some a => simp at hb2; subst hb2; exact hne _ hb rfl
  repeat (first | simp only [RS0, RS1, RS2, RS3, RS4, reduceIte, Nat.reduceEqDiff, Nat.reduceAdd, Nat.reduceLeDiff, Nat.reduceLT, Nat.reduceMul, Int.reduceToNat, Int.reduceLT, Int.reduceLE, Int.reduceAdd, Int.reduceSub, Int.reduceMul, Int.reduceEq, Int.reduceNe, Nat.reduceSub, reduceCtorEq, boxF, if_true, if_false, forall_const, implies_true, ne_eq] | simp (disch := first | assumption | omega | (simp only [LS] <;> omega) | (simp only [List.not_mem_nil, List.mem_cons, or_false, not_false_eq_true, not_or] <;> omega)) only [CS] | simp only [condK_B, guardK_Bt, guardK_Bf])
  refine EvK.of (laws_markIntS_ok vc m.conf oc (hc.of_get (fun b hb => by have := hoc b hb; have := hx b hb; simp (disch := first | assumption | omega | (simp only [LS] <;> omega) | (simp only [List.not_mem_nil, List.mem_cons, or_false, not_false_eq_true, not_or] <;> omega)) only [CS, RS3, RS4])) (fun b hb => by have := hoc b hb; omega) (by omega) (k + 3 * m.entries.length) (by omega) fun d3 c3 ho3 hs3 => ?_)
  have ho3_le := ho3.le
  repeat (first | simp only [RS0, RS1, RS2, RS3, RS4, reduceIte, Nat.reduceEqDiff, Nat.reduceAdd, Nat.reduceLeDiff, Nat.reduceLT, Nat.reduceMul, Int.reduceToNat, Int.reduceLT, Int.reduceLE, Int.reduceAdd, Int.reduceSub, Int.reduceMul, Int.reduceEq, Int.reduceNe, Nat.reduceSub, reduceCtorEq, boxF, if_true, if_false, forall_const, implies_true, ne_eq] | simp (disch := first | assumption | omega | (simp only [LS] <;> omega) | (simp only [List.not_mem_nil, List.mem_cons, or_false, not_false_eq_true, not_or] <;> omega)) only [CS] | simp only [condK_B, guardK_Bt, guardK_Bf])
  refine h _ _ ?_ ?_ ?_
  · exact Own.of (by omega) (OwnK.app ho3 (by omega) (by omega) (fun k hk => .inr (List.mem_append.mpr (.inr hk))) (OwnK.app ho2 (by omega) (by omega) (fun k hk => .inr (List.mem_append.mpr (.inl hk))) (OwnK.cons (.inl ⟨by omega, by omega⟩) OwnK.nil)))
  · exact hs2.of_get (fun b hb => by have := hoe b hb; have := hy b hb; simp (disch := first | assumption | omega | (simp only [LS] <;> omega) | (simp only [List.not_mem_nil, List.mem_cons, or_false, not_false_eq_true, not_or] <;> omega)) only [CS, RS3, RS4])
  · exact hs3.of_get (fun b hb => by simp (disch := first | assumption | omega | (simp only [LS] <;> omega) | (simp only [List.not_mem_nil, List.mem_cons, or_false, not_false_eq_true, not_or] <;> omega)) only [CS, RS3, RS4])

theorem laws_heldMessage_ok (m : Msg) (ve vc : Value) (n n2 : Nat) (oe oc : Option Nat) (k : Nat) (he : SlR H 3 ve (entsC (mkEs k n)) oe) (hc : SlR H 1 vc ((mkI (k + 3 * n) n2).map I) oc) (hoe : ∀ b, oe = some b → b < c) (hoc : ∀ b, oc = some b → b < c) (hl : n ≤ 1000000) (hl2 : n2 ≤ 1000000) (hk : k ≤ 1000000)
    (h : ∀ d c', Own [] d c c' → Q (I (k + 3 * n + n2 : Nat)) d c') : Ev (tbl prim) n_laws_heldMessage [ag (msgC m ve vc), I k] H c Q := by
  refine Ev.fn (s_laws_heldMessage prim) rfl ?_
  repeat (first | simp only [RS0, RS1, RS2, RS3, RS4, reduceIte, Nat.reduceEqDiff, Nat.reduceAdd, Nat.reduceLeDiff, Nat.reduceLT, Nat.reduceMul, Int.reduceToNat, Int.reduceLT, Int.reduceLE, Int.reduceAdd, Int.reduceSub, Int.reduceMul, Int.reduceEq, Int.reduceNe, Nat.reduceSub, reduceCtorEq, boxF, if_true, if_false, forall_const, implies_true, ne_eq, g_laws_heldMessage, msgC, he.cl, hc.cl, he.isC, hc.isC] | simp (disch := first | assumption | omega | (simp only [LS] <;> omega) | (simp only [List.not_mem_nil, List.mem_cons, or_false, not_false_eq_true, not_or] <;> omega)) only [CS, g_laws_heldMessage, msgC, he.cl, hc.cl, he.isC, hc.isC] | simp only [condK_B, guardK_Bt, guardK_Bf])
  refine EvK.of (laws_heldEntryS_ok ve n oe k (he.of_get (fun b hb => by have := hoe b hb; simp (disch := first | assumption | omega | (simp only [LS] <;> omega) | (simp only [List.not_mem_nil, List.mem_cons, or_false, not_false_eq_true, not_or] <;> omega)) only [CS, RS3, RS4])) (fun b hb => by have := hoe b hb; omega) (by omega) (by omega) fun d2 c2 ho2 => ?_)
  have ho2_le := ho2.le
  have e1 : (((k + 3 * n : Nat) : Int) < 0) = False := eq_false (by omega)
  have e2 : (((k + 3 * n + n2 : Nat) : Int) < 0) = False := eq_false (by omega)
  repeat (first | simp only [RS0, RS1, RS2, RS3, RS4, reduceIte, Nat.reduceEqDiff, Nat.reduceAdd, Nat.reduceLeDiff, Nat.reduceLT, Nat.reduceMul, Int.reduceToNat, Int.reduceLT, Int.reduceLE, Int.reduceAdd, Int.reduceSub, Int.reduceMul, Int.reduceEq, Int.reduceNe, Nat.reduceSub, reduceCtorEq, boxF, if_true, if_false, forall_const, implies_true, ne_eq, e1] | simp (disch := first | assumption | omega | (simp only [LS] <;> omega) | (simp only [List.not_mem_nil, List.mem_cons, or_false, not_false_eq_true, not_or] <;> omega)) only [CS, e1] | simp only [condK_B, guardK_Bt, guardK_Bf])
  refine EvK.of (laws_heldIntS_ok vc n2 oc (k + 3 * n) (hc.of_get (fun b hb => by have := hoc b hb; simp (disch := first | assumption | omega | (simp only [LS] <;> omega) | (simp only [List.not_mem_nil, List.mem_cons, or_false, not_false_eq_true, not_or] <;> omega)) only [CS, RS3, RS4])) (fun b hb => by have := hoc b hb; omega) (by omega) (by omega) ?_)
  repeat (first | simp only [RS0, RS1, RS2, RS3, RS4, reduceIte, Nat.reduceEqDiff, Nat.reduceAdd, Nat.reduceLeDiff, Nat.reduceLT, Nat.reduceMul, Int.reduceToNat, Int.reduceLT, Int.reduceLE, Int.reduceAdd, Int.reduceSub, Int.reduceMul, Int.reduceEq, Int.reduceNe, Nat.reduceSub, reduceCtorEq, boxF, if_true, if_false, forall_const, implies_true, ne_eq, e2] | simp (disch := first | assumption | omega | (simp only [LS] <;> omega) | (simp only [List.not_mem_nil, List.mem_cons, or_false, not_false_eq_true, not_or] <;> omega)) only [CS, e2] | simp only [condK_B, guardK_Bt, guardK_Bf])
  exact h _ _ (by ((try dsimp only); refine Own.of (by omega) ?_; repeat (first | exact OwnK.nil | refine OwnK.cons (.inl (by omega)) ?_ | refine OwnK.kill (fun b hb => .inl (by have := hoe b hb; omega)) ?_ | refine OwnK.cons (.inr (by simp)) ?_ | exact OwnK.one (by assumption) (by omega) (by omega) (by simp <;> omega) | refine OwnK.app (by assumption) (by omega) (by omega) (by simp <;> omega) ?_)))
end
end Go.Proofs.Ytfcglkajekohiaa
