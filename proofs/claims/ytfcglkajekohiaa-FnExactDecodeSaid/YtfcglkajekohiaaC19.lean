/- Contracts: what the laws compare with. -/
import Derived.Test.YtfcglkajekohiaaC18
set_option linter.unusedSimpArgs false
set_option linter.unusedVariables false
set_option maxRecDepth 20000
namespace Go.Proofs.Ytfcglkajekohiaa
open Go Go.Proofs.Ytfcglkajekohiaa.AM

section
variable {prim : Nat → List Value → Option Value} {H : AHeap} {c : Nat} {Q : Value → AHeap → Nat → Prop}

theorem laws_eqIntS_ok (v w : Value) (l : List Int) (ov ow : Option Nat) (hv : SlR H 1 v (l.map I) ov) (hw : SlR H 1 w (l.map I) ow) (hov : ∀ b, ov = some b → b < c) (how : ∀ b, ow = some b → b < c) (hl : l.length ≤ 100000000)
    (h : Q (B true) [] c) : Ev (tbl prim) n_laws_eqIntS [v, w] H c Q := by
  refine Ev.fn (s_laws_eqIntS prim) rfl ?_
  have h1 := hv.len (n := l.length) (by simp) (by omega)
  have h2 := hw.len (n := l.length) (by simp) (by omega)
  repeat (first | simp only [RS0, RS1, RS2, RS3, RS4, reduceIte, Nat.reduceEqDiff, Nat.reduceAdd, Nat.reduceLeDiff, Nat.reduceLT, Nat.reduceMul, Int.reduceToNat, Int.reduceLT, Int.reduceLE, Int.reduceAdd, Int.reduceSub, Int.reduceMul, Int.reduceEq, Int.reduceNe, Nat.reduceSub, reduceCtorEq, boxF, if_true, if_false, forall_const, implies_true, ne_eq, g_laws_eqIntS, h1, h2] | simp (disch := first | assumption | omega | (simp only [LS] <;> omega) | (simp only [List.not_mem_nil, List.mem_cons, or_false, not_false_eq_true, not_or] <;> omega)) only [CS, g_laws_eqIntS, h1, h2] | simp only [condK_B, guardK_Bt, guardK_Bf])
  refine Wloop.of (fun k s => ∃ i : Nat, s.ts 0 = v ∧ s.ts 1 = w ∧ s.ts 5 = I i ∧ k = l.length - i ∧ i ≤ l.length ∧ s.u = [] ∧ s.c = c) ?_ (n := l.length) ⟨0, by simp, by simp, by simp, rfl, by omega, rfl, rfl⟩
  rintro k ⟨ts, u, c1⟩ ⟨i, h3, h4, h5, rfl, hi, hu, hc⟩ R hR hE
  simp only at h3 h4 h5 hu hc
  subst hu hc
  by_cases hin : i < l.length
  · obtain ⟨b1, r1, hb1, ho1, hi1, hg1⟩ := hv.el hov (n := l.length) (by simp) (by omega) (k := .i64) hin
    obtain ⟨b2, r2, hb2, ho2, hi2, hg2⟩ := hw.el how (n := l.length) (by simp) (by omega) (k := .i64) hin
    have hT : ((i : Int) < l.length) = True := eq_true (by omega)
    repeat (first | simp only [RS0, RS1, RS2, RS3, RS4, reduceIte, Nat.reduceEqDiff, Nat.reduceAdd, Nat.reduceLeDiff, Nat.reduceLT, Nat.reduceMul, Int.reduceToNat, Int.reduceLT, Int.reduceLE, Int.reduceAdd, Int.reduceSub, Int.reduceMul, Int.reduceEq, Int.reduceNe, Nat.reduceSub, reduceCtorEq, boxF, if_true, if_false, forall_const, implies_true, ne_eq, g_laws_eqIntS_L0, h3, h4, h5, h1, h2, hi1, hi2, hg1, hg2, hT] | simp (disch := first | assumption | omega | (simp only [LS] <;> omega) | (simp only [List.not_mem_nil, List.mem_cons, or_false, not_false_eq_true, not_or] <;> omega)) only [CS, g_laws_eqIntS_L0, h3, h4, h5, h1, h2, hi1, hi2, hg1, hg2, hT] | simp only [condK_B, guardK_Bt, guardK_Bf])
    refine ⟨⟨by omega, by omega⟩, ⟨by omega, by omega⟩, ?_⟩
    exact hR (l.length - (i + 1)) _ (by omega) ⟨i + 1, by simp [h3], by simp [h4], by simp, rfl, by omega, rfl, rfl⟩
  · have hF : ((i : Int) < l.length) = False := eq_false (by omega)
    repeat (first | simp only [RS0, RS1, RS2, RS3, RS4, reduceIte, Nat.reduceEqDiff, Nat.reduceAdd, Nat.reduceLeDiff, Nat.reduceLT, Nat.reduceMul, Int.reduceToNat, Int.reduceLT, Int.reduceLE, Int.reduceAdd, Int.reduceSub, Int.reduceMul, Int.reduceEq, Int.reduceNe, Nat.reduceSub, reduceCtorEq, boxF, if_true, if_false, forall_const, implies_true, ne_eq, g_laws_eqIntS_L0, h3, h4, h5, h1, h2, hF] | simp (disch := first | assumption | omega | (simp only [LS] <;> omega) | (simp only [List.not_mem_nil, List.mem_cons, or_false, not_false_eq_true, not_or] <;> omega)) only [CS, g_laws_eqIntS_L0, h3, h4, h5, h1, h2, hF] | simp only [condK_B, guardK_Bt, guardK_Bf])
    refine hE _ _ (by decide) ?_
    repeat (first | simp only [RS0, RS1, RS2, RS3, RS4, reduceIte, Nat.reduceEqDiff, Nat.reduceAdd, Nat.reduceLeDiff, Nat.reduceLT, Nat.reduceMul, Int.reduceToNat, Int.reduceLT, Int.reduceLE, Int.reduceAdd, Int.reduceSub, Int.reduceMul, Int.reduceEq, Int.reduceNe, Nat.reduceSub, reduceCtorEq, boxF, if_true, if_false, forall_const, implies_true, ne_eq] | simp (disch := first | assumption | omega | (simp only [LS] <;> omega) | (simp only [List.not_mem_nil, List.mem_cons, or_false, not_false_eq_true, not_or] <;> omega)) only [CS] | simp only [condK_B, guardK_Bt, guardK_Bf])
    exact h

theorem laws_eqEntry_ok (e : Ent) (h : ∀ d c', Own [] d c c' → Q (B true) d c') : Ev (tbl prim) n_laws_eqEntry [ag (entC e), ag (entC e)] H c Q := by
  refine Ev.fn (s_laws_eqEntry prim) rfl ?_
  repeat (first | simp only [RS0, RS1, RS2, RS3, RS4, reduceIte, Nat.reduceEqDiff, Nat.reduceAdd, Nat.reduceLeDiff, Nat.reduceLT, Nat.reduceMul, Int.reduceToNat, Int.reduceLT, Int.reduceLE, Int.reduceAdd, Int.reduceSub, Int.reduceMul, Int.reduceEq, Int.reduceNe, Nat.reduceSub, reduceCtorEq, boxF, if_true, if_false, forall_const, implies_true, ne_eq, g_laws_eqEntry, entC] | simp (disch := first | assumption | omega | (simp only [LS] <;> omega) | (simp only [List.not_mem_nil, List.mem_cons, or_false, not_false_eq_true, not_or] <;> omega)) only [CS, g_laws_eqEntry, entC] | simp only [condK_B, guardK_Bt, guardK_Bf])
  exact h _ _ (by ((try dsimp only); refine Own.of (by omega) ?_; repeat (first | exact OwnK.nil | refine OwnK.cons (.inl (by omega)) ?_ | refine OwnK.kill (fun b hb => .inl (by have := hoe b hb; omega)) ?_ | refine OwnK.cons (.inr (by simp)) ?_ | exact OwnK.one (by assumption) (by omega) (by omega) (by simp <;> omega) | refine OwnK.app (by assumption) (by omega) (by omega) (by simp <;> omega) ?_)))

theorem laws_eqEntryS_ok (v w : Value) (l : List Ent) (ov ow : Option Nat) (hv : SlR H 3 v (entsC l) ov) (hw : SlR H 3 w (entsC l) ow) (hov : ∀ b, ov = some b → b < c) (how : ∀ b, ow = some b → b < c) (hl : l.length ≤ 100000000)
    (h : ∀ d c', Own [] d c c' → Q (B true) d c') : Ev (tbl prim) n_laws_eqEntryS [v, w] H c Q := by
  refine Ev.fn (s_laws_eqEntryS prim) rfl ?_
  have h1 := hv.len (ents_len l) (by omega)
  have h2 := hw.len (ents_len l) (by omega)
  repeat (first | simp only [RS0, RS1, RS2, RS3, RS4, reduceIte, Nat.reduceEqDiff, Nat.reduceAdd, Nat.reduceLeDiff, Nat.reduceLT, Nat.reduceMul, Int.reduceToNat, Int.reduceLT, Int.reduceLE, Int.reduceAdd, Int.reduceSub, Int.reduceMul, Int.reduceEq, Int.reduceNe, Nat.reduceSub, reduceCtorEq, boxF, if_true, if_false, forall_const, implies_true, ne_eq, g_laws_eqEntryS, h1, h2] | simp (disch := first | assumption | omega | (simp only [LS] <;> omega) | (simp only [List.not_mem_nil, List.mem_cons, or_false, not_false_eq_true, not_or] <;> omega)) only [CS, g_laws_eqEntryS, h1, h2] | simp only [condK_B, guardK_Bt, guardK_Bf])
  refine Wloop.of (fun k s => ∃ i : Nat, s.ts 0 = v ∧ s.ts 1 = w ∧ s.ts 5 = I i ∧ k = l.length - i ∧ i ≤ l.length ∧ Own [] s.u c s.c) ?_ (n := l.length) ⟨0, by simp, by simp, by simp, rfl, by omega, Own.nil c⟩
  rintro k ⟨ts, u, c1⟩ ⟨i, h3, h4, h5, rfl, hi, ho⟩ R hR hE
  simp only at h3 h4 h5 ho
  have ho_le := ho.le
  by_cases hin : i < l.length
  · obtain ⟨b1, r1, hb1, ho1, hi1, hg1⟩ := (hv.own ho (fun b hb => ⟨hov b hb, by simp⟩)).el hov (ents_len l) (by omega) (k := .i64) hin
    obtain ⟨b2, r2, hb2, ho2, hi2, hg2⟩ := (hw.own ho (fun b hb => ⟨how b hb, by simp⟩)).el how (ents_len l) (by omega) (k := .i64) hin
    have hT : ((i : Int) < l.length) = True := eq_true (by omega)
    repeat (first | simp only [RS0, RS1, RS2, RS3, RS4, reduceIte, Nat.reduceEqDiff, Nat.reduceAdd, Nat.reduceLeDiff, Nat.reduceLT, Nat.reduceMul, Int.reduceToNat, Int.reduceLT, Int.reduceLE, Int.reduceAdd, Int.reduceSub, Int.reduceMul, Int.reduceEq, Int.reduceNe, Nat.reduceSub, reduceCtorEq, boxF, if_true, if_false, forall_const, implies_true, ne_eq, g_laws_eqEntryS_L0, h3, h4, h5, h1, h2, hi1, hi2, hg1, hg2, hT, ents_len, ents_N hin] | simp (disch := first | assumption | omega | (simp only [LS] <;> omega) | (simp only [List.not_mem_nil, List.mem_cons, or_false, not_false_eq_true, not_or] <;> omega)) only [CS, g_laws_eqEntryS_L0, h3, h4, h5, h1, h2, hi1, hi2, hg1, hg2, hT, ents_len, ents_N hin] | simp only [condK_B, guardK_Bt, guardK_Bf])
    refine ⟨by omega, by omega, ?_⟩
    refine EvK.of (laws_eqEntry_ok l[i] fun d2 c2 ho2 => ?_)
    have ho2_le := ho2.le
    repeat (first | simp only [RS0, RS1, RS2, RS3, RS4, reduceIte, Nat.reduceEqDiff, Nat.reduceAdd, Nat.reduceLeDiff, Nat.reduceLT, Nat.reduceMul, Int.reduceToNat, Int.reduceLT, Int.reduceLE, Int.reduceAdd, Int.reduceSub, Int.reduceMul, Int.reduceEq, Int.reduceNe, Nat.reduceSub, reduceCtorEq, boxF, if_true, if_false, forall_const, implies_true, ne_eq, h5] | simp (disch := first | assumption | omega | (simp only [LS] <;> omega) | (simp only [List.not_mem_nil, List.mem_cons, or_false, not_false_eq_true, not_or] <;> omega)) only [CS, h5] | simp only [condK_B, guardK_Bt, guardK_Bf])
    exact hR (l.length - (i + 1)) _ (by omega) ⟨i + 1, by simp [h3], by simp [h4], by simp, rfl, by omega, by ((try dsimp only); refine Own.of (by omega) ?_; repeat (first | exact OwnK.nil | refine OwnK.cons (.inl (by omega)) ?_ | refine OwnK.kill (fun b hb => .inl (by have := hoe b hb; omega)) ?_ | refine OwnK.cons (.inr (by simp)) ?_ | exact OwnK.one (by assumption) (by omega) (by omega) (by simp <;> omega) | refine OwnK.app (by assumption) (by omega) (by omega) (by simp <;> omega) ?_))⟩
  · have hF : ((i : Int) < l.length) = False := eq_false (by omega)
    repeat (first | simp only [RS0, RS1, RS2, RS3, RS4, reduceIte, Nat.reduceEqDiff, Nat.reduceAdd, Nat.reduceLeDiff, Nat.reduceLT, Nat.reduceMul, Int.reduceToNat, Int.reduceLT, Int.reduceLE, Int.reduceAdd, Int.reduceSub, Int.reduceMul, Int.reduceEq, Int.reduceNe, Nat.reduceSub, reduceCtorEq, boxF, if_true, if_false, forall_const, implies_true, ne_eq, g_laws_eqEntryS_L0, h3, h4, h5, h1, h2, hF] | simp (disch := first | assumption | omega | (simp only [LS] <;> omega) | (simp only [List.not_mem_nil, List.mem_cons, or_false, not_false_eq_true, not_or] <;> omega)) only [CS, g_laws_eqEntryS_L0, h3, h4, h5, h1, h2, hF] | simp only [condK_B, guardK_Bt, guardK_Bf])
    refine hE _ _ (by decide) ?_
    repeat (first | simp only [RS0, RS1, RS2, RS3, RS4, reduceIte, Nat.reduceEqDiff, Nat.reduceAdd, Nat.reduceLeDiff, Nat.reduceLT, Nat.reduceMul, Int.reduceToNat, Int.reduceLT, Int.reduceLE, Int.reduceAdd, Int.reduceSub, Int.reduceMul, Int.reduceEq, Int.reduceNe, Nat.reduceSub, reduceCtorEq, boxF, if_true, if_false, forall_const, implies_true, ne_eq] | simp (disch := first | assumption | omega | (simp only [LS] <;> omega) | (simp only [List.not_mem_nil, List.mem_cons, or_false, not_false_eq_true, not_or] <;> omega)) only [CS] | simp only [condK_B, guardK_Bt, guardK_Bf])
    exact h _ _ ho

theorem laws_eqMessage_ok (m : Msg) (ve vc we wc : Value) (oe oc pe pc : Option Nat) (he : SlR H 3 ve (entsC m.entries) oe) (hc : SlR H 1 vc (m.conf.map I) oc) (he' : SlR H 3 we (entsC m.entries) pe) (hc' : SlR H 1 wc (m.conf.map I) pc)
    (hoe : ∀ b, oe = some b → b < c) (hoc : ∀ b, oc = some b → b < c) (hpe : ∀ b, pe = some b → b < c) (hpc : ∀ b, pc = some b → b < c) (hl : m.entries.length ≤ 100000000) (hl2 : m.conf.length ≤ 100000000)
    (h : ∀ d c', Own [] d c c' → Q (B true) d c') : Ev (tbl prim) n_laws_eqMessage [ag (msgC m ve vc), ag (msgC m we wc)] H c Q := by
  refine Ev.fn (s_laws_eqMessage prim) rfl ?_
  repeat (first | simp only [RS0, RS1, RS2, RS3, RS4, reduceIte, Nat.reduceEqDiff, Nat.reduceAdd, Nat.reduceLeDiff, Nat.reduceLT, Nat.reduceMul, Int.reduceToNat, Int.reduceLT, Int.reduceLE, Int.reduceAdd, Int.reduceSub, Int.reduceMul, Int.reduceEq, Int.reduceNe, Nat.reduceSub, reduceCtorEq, boxF, if_true, if_false, forall_const, implies_true, ne_eq, g_laws_eqMessage, msgC, he.cl, hc.cl, he.isC, hc.isC, he'.cl, hc'.cl, he'.isC, hc'.isC, beq_self_eq_true] | simp (disch := first | assumption | omega | (simp only [LS] <;> omega) | (simp only [List.not_mem_nil, List.mem_cons, or_false, not_false_eq_true, not_or] <;> omega)) only [CS, g_laws_eqMessage, msgC, he.cl, hc.cl, he.isC, hc.isC, he'.cl, hc'.cl, he'.isC, hc'.isC, beq_self_eq_true] | simp only [condK_B, guardK_Bt, guardK_Bf])
  refine EvK.of (laws_eqEntryS_ok ve we m.entries oe pe (he.of_get (fun b hb => by have := hoe b hb; simp (disch := first | assumption | omega | (simp only [LS] <;> omega) | (simp only [List.not_mem_nil, List.mem_cons, or_false, not_false_eq_true, not_or] <;> omega)) only [CS, RS3, RS4])) (he'.of_get (fun b hb => by have := hpe b hb; simp (disch := first | assumption | omega | (simp only [LS] <;> omega) | (simp only [List.not_mem_nil, List.mem_cons, or_false, not_false_eq_true, not_or] <;> omega)) only [CS, RS3, RS4])) (fun b hb => by have := hoe b hb; omega) (fun b hb => by have := hpe b hb; omega) hl fun d2 c2 ho2 => ?_)
  have ho2_le := ho2.le
  repeat (first | simp only [RS0, RS1, RS2, RS3, RS4, reduceIte, Nat.reduceEqDiff, Nat.reduceAdd, Nat.reduceLeDiff, Nat.reduceLT, Nat.reduceMul, Int.reduceToNat, Int.reduceLT, Int.reduceLE, Int.reduceAdd, Int.reduceSub, Int.reduceMul, Int.reduceEq, Int.reduceNe, Nat.reduceSub, reduceCtorEq, boxF, if_true, if_false, forall_const, implies_true, ne_eq, beq_self_eq_true] | simp (disch := first | assumption | omega | (simp only [LS] <;> omega) | (simp only [List.not_mem_nil, List.mem_cons, or_false, not_false_eq_true, not_or] <;> omega)) only [CS, beq_self_eq_true] | simp only [condK_B, guardK_Bt, guardK_Bf])
  refine EvK.of (laws_eqIntS_ok vc wc m.conf oc pc (hc.of_get (fun b hb => by have := hoc b hb; simp (disch := first | assumption | omega | (simp only [LS] <;> omega) | (simp only [List.not_mem_nil, List.mem_cons, or_false, not_false_eq_true, not_or] <;> omega)) only [CS, RS3, RS4])) (hc'.of_get (fun b hb => by have := hpc b hb; simp (disch := first | assumption | omega | (simp only [LS] <;> omega) | (simp only [List.not_mem_nil, List.mem_cons, or_false, not_false_eq_true, not_or] <;> omega)) only [CS, RS3, RS4])) (fun b hb => by have := hoc b hb; omega) (fun b hb => by have := hpc b hb; omega) hl2 ?_)
  repeat (first | simp only [RS0, RS1, RS2, RS3, RS4, reduceIte, Nat.reduceEqDiff, Nat.reduceAdd, Nat.reduceLeDiff, Nat.reduceLT, Nat.reduceMul, Int.reduceToNat, Int.reduceLT, Int.reduceLE, Int.reduceAdd, Int.reduceSub, Int.reduceMul, Int.reduceEq, Int.reduceNe, Nat.reduceSub, reduceCtorEq, boxF, if_true, if_false, forall_const, implies_true, ne_eq, beq_self_eq_true] | simp (disch := first | assumption | omega | (simp only [LS] <;> omega) | (simp only [List.not_mem_nil, List.mem_cons, or_false, not_false_eq_true, not_or] <;> omega)) only [CS, beq_self_eq_true] | simp only [condK_B, guardK_Bt, guardK_Bf])
  exact h _ _ (by ((try dsimp only); refine Own.of (by omega) ?_; repeat (first | exact OwnK.nil | refine OwnK.cons (.inl (by omega)) ?_ | refine OwnK.kill (fun b hb => .inl (by have := hoe b hb; omega)) ?_ | refine OwnK.cons (.inr (by simp)) ?_ | exact OwnK.one (by assumption) (by omega) (by omega) (by simp <;> omega) | refine OwnK.app (by assumption) (by omega) (by omega) (by simp <;> omega) ?_)))

def mkD (n : Nat) (acc : List UInt8) : List UInt8 := if 0 < n then mkD (n / 10) (by8 (48 + (n : Int) % 10) :: acc) else acc
termination_by n
decreasing_by omega
def markT (k : Nat) : List UInt8 := if k = 0 then [109, 48] else 109 :: mkD k []

theorem laws_markText_ok (k : Nat) (hk : k ≤ 1000000000) (h : ∀ d c', Own [] d c c' → Q (T (markT k)) d c') : Ev (tbl prim) n_laws_markText [I k] H c Q := by
  refine Ev.fn (s_laws_markText prim) rfl ?_
  repeat (first | simp only [RS0, RS1, RS2, RS3, RS4, reduceIte, Nat.reduceEqDiff, Nat.reduceAdd, Nat.reduceLeDiff, Nat.reduceLT, Nat.reduceMul, Int.reduceToNat, Int.reduceLT, Int.reduceLE, Int.reduceAdd, Int.reduceSub, Int.reduceMul, Int.reduceEq, Int.reduceNe, Nat.reduceSub, reduceCtorEq, boxF, if_true, if_false, forall_const, implies_true, ne_eq, g_laws_markText] | simp (disch := first | assumption | omega | (simp only [LS] <;> omega) | (simp only [List.not_mem_nil, List.mem_cons, or_false, not_false_eq_true, not_or] <;> omega)) only [CS, g_laws_markText] | simp only [condK_B, guardK_Bt, guardK_Bf])
  refine ⟨fun h0 => ?_, fun h0 => ?_⟩
  · have : markT k = [109, 48] := by rw [markT, if_pos (by omega)]
    rw [this] at h
    exact h _ _ (by ((try dsimp only); refine Own.of (by omega) ?_; repeat (first | exact OwnK.nil | refine OwnK.cons (.inl (by omega)) ?_ | refine OwnK.kill (fun b hb => .inl (by have := hoe b hb; omega)) ?_ | refine OwnK.cons (.inr (by simp)) ?_ | exact OwnK.one (by assumption) (by omega) (by omega) (by simp <;> omega) | refine OwnK.app (by assumption) (by omega) (by omega) (by simp <;> omega) ?_)))
  · have hm : markT k = 109 :: mkD k [] := by rw [markT, if_neg (by omega)]
    rw [hm] at h
    refine Wloop.of (fun n s => ∃ (j : Nat) (acc : List UInt8), s.ts 0 = I j ∧ s.ts 3 = T acc ∧ n = j ∧ j ≤ k ∧ acc.length + j ≤ k ∧ mkD j acc = mkD k [] ∧ Own [] s.u c s.c) ?_ (n := k) ⟨k, [], by simp, by simp, rfl, by omega, by simp, rfl, Own.nil c⟩
    rintro n ⟨ts, u, c1⟩ ⟨j, acc, h1, h2, rfl, hj, hl, hd, ho⟩ R hR hE
    simp only at h1 h2 ho
    have ho_le := ho.le
    by_cases hp : 0 < n
    · rw [mkD, if_pos hp] at hd
      have hT : (0 < (n : Int)) = True := eq_true (by omega)
      repeat (first | simp only [RS0, RS1, RS2, RS3, RS4, reduceIte, Nat.reduceEqDiff, Nat.reduceAdd, Nat.reduceLeDiff, Nat.reduceLT, Nat.reduceMul, Int.reduceToNat, Int.reduceLT, Int.reduceLE, Int.reduceAdd, Int.reduceSub, Int.reduceMul, Int.reduceEq, Int.reduceNe, Nat.reduceSub, reduceCtorEq, boxF, if_true, if_false, forall_const, implies_true, ne_eq, g_laws_markText_L0, h1, h2, hT] | simp (disch := first | assumption | omega | (simp only [LS] <;> omega) | (simp only [List.not_mem_nil, List.mem_cons, or_false, not_false_eq_true, not_or] <;> omega)) only [CS, g_laws_markText_L0, h1, h2, hT] | simp only [condK_B, guardK_Bt, guardK_Bf])
      refine ⟨by omega, ?_⟩
      refine hR (n / 10) _ (by omega) ⟨n / 10, by8 (48 + (n : Int) % 10) :: acc, by simp, by simp, rfl, by omega, by simp; omega, hd, by ((try dsimp only); refine Own.of (by omega) ?_; repeat (first | exact OwnK.nil | refine OwnK.cons (.inl (by omega)) ?_ | refine OwnK.kill (fun b hb => .inl (by have := hoe b hb; omega)) ?_ | refine OwnK.cons (.inr (by simp)) ?_ | exact OwnK.one (by assumption) (by omega) (by omega) (by simp <;> omega) | refine OwnK.app (by assumption) (by omega) (by omega) (by simp <;> omega) ?_))⟩
    · rw [mkD, if_neg hp] at hd
      have hF : (0 < (n : Int)) = False := eq_false (by omega)
      repeat (first | simp only [RS0, RS1, RS2, RS3, RS4, reduceIte, Nat.reduceEqDiff, Nat.reduceAdd, Nat.reduceLeDiff, Nat.reduceLT, Nat.reduceMul, Int.reduceToNat, Int.reduceLT, Int.reduceLE, Int.reduceAdd, Int.reduceSub, Int.reduceMul, Int.reduceEq, Int.reduceNe, Nat.reduceSub, reduceCtorEq, boxF, if_true, if_false, forall_const, implies_true, ne_eq, g_laws_markText_L0, h1, h2, hF] | simp (disch := first | assumption | omega | (simp only [LS] <;> omega) | (simp only [List.not_mem_nil, List.mem_cons, or_false, not_false_eq_true, not_or] <;> omega)) only [CS, g_laws_markText_L0, h1, h2, hF] | simp only [condK_B, guardK_Bt, guardK_Bf])
      refine hE _ _ (by decide) ?_
      repeat (first | simp only [RS0, RS1, RS2, RS3, RS4, reduceIte, Nat.reduceEqDiff, Nat.reduceAdd, Nat.reduceLeDiff, Nat.reduceLT, Nat.reduceMul, Int.reduceToNat, Int.reduceLT, Int.reduceLE, Int.reduceAdd, Int.reduceSub, Int.reduceMul, Int.reduceEq, Int.reduceNe, Nat.reduceSub, reduceCtorEq, boxF, if_true, if_false, forall_const, implies_true, ne_eq, h2] | simp (disch := first | assumption | omega | (simp only [LS] <;> omega) | (simp only [List.not_mem_nil, List.mem_cons, or_false, not_false_eq_true, not_or] <;> omega)) only [CS, h2] | simp only [condK_B, guardK_Bt, guardK_Bf])
      rw [hd] at hl ⊢
      exact ⟨by omega, h _ _ ho⟩

def mkI (k n : Nat) : List Int := (List.range n).map fun i => ((k + i : Nat) : Int)
theorem mkI_len (k n : Nat) : (mkI k n).length = n := by simp [mkI]
theorem mkI_succ (k n : Nat) : mkI k (n + 1) = mkI k n ++ [((k + n : Nat) : Int)] := by simp [mkI, List.range_succ]
theorem laws_markIntS_ok (v : Value) (l : List Int) (ov : Option Nat) (hv : SlR H 1 v (l.map I) ov) (hov : ∀ b, ov = some b → b < c) (hl : l.length ≤ 100000000) (k : Nat) (hk : k ≤ 1000000000)
    (h : ∀ d c', Own ov.toList d c c' → SlR (d ++ H) 1 v ((mkI k l.length).map I) ov → Q (I (k + l.length : Nat)) d c') : Ev (tbl prim) n_laws_markIntS [v, I k] H c Q := by
  refine Ev.fn (s_laws_markIntS prim) rfl ?_
  have h1 := hv.len (n := l.length) (by simp) (by omega)
  repeat (first | simp only [RS0, RS1, RS2, RS3, RS4, reduceIte, Nat.reduceEqDiff, Nat.reduceAdd, Nat.reduceLeDiff, Nat.reduceLT, Nat.reduceMul, Int.reduceToNat, Int.reduceLT, Int.reduceLE, Int.reduceAdd, Int.reduceSub, Int.reduceMul, Int.reduceEq, Int.reduceNe, Nat.reduceSub, reduceCtorEq, boxF, if_true, if_false, forall_const, implies_true, ne_eq, g_laws_markIntS, h1] | simp (disch := first | assumption | omega | (simp only [LS] <;> omega) | (simp only [List.not_mem_nil, List.mem_cons, or_false, not_false_eq_true, not_or] <;> omega)) only [CS, g_laws_markIntS, h1] | simp only [condK_B, guardK_Bt, guardK_Bf])
  refine Wloop.of (fun n s => ∃ i : Nat, s.ts 0 = v ∧ s.ts 1 = I (k + i : Nat) ∧ s.ts 5 = I i ∧ n = l.length - i ∧ i ≤ l.length ∧ Own ov.toList s.u c s.c ∧ s.c = c ∧ SlR (s.u ++ H) 1 v ((mkI k i ++ l.drop i).map I) ov) ?_ (n := l.length) ⟨0, by simp, by simp, by simp, rfl, by omega, Own.nil c, rfl, by simpa [mkI] using hv⟩
  rintro n ⟨ts, u, c1⟩ ⟨i, h3, h4, h5, rfl, hi, ho, hc, hs⟩ R hR hE
  simp only at h3 h4 h5 ho hs hc
  subst hc
  have hlen : ((mkI k i ++ l.drop i).map I).length = l.length * 1 := by simp [mkI_len]; omega
  by_cases hin : i < l.length
  · obtain ⟨b, hb, hob, hia, hg⟩ := hs.elw hov hlen (by omega) (k := .i64) hin
    have hT : ((i : Int) < l.length) = True := eq_true (by omega)
    have hn : i < ((mkI k i ++ l.drop i).map I).length := by rw [hlen]; omega
    repeat (first | simp only [RS0, RS1, RS2, RS3, RS4, reduceIte, Nat.reduceEqDiff, Nat.reduceAdd, Nat.reduceLeDiff, Nat.reduceLT, Nat.reduceMul, Int.reduceToNat, Int.reduceLT, Int.reduceLE, Int.reduceAdd, Int.reduceSub, Int.reduceMul, Int.reduceEq, Int.reduceNe, Nat.reduceSub, reduceCtorEq, boxF, if_true, if_false, forall_const, implies_true, ne_eq, g_laws_markIntS_L0, h3, h4, h5, h1, hia, hT, hg, tset hn] | simp (disch := first | assumption | omega | (simp only [LS] <;> omega) | (simp only [List.not_mem_nil, List.mem_cons, or_false, not_false_eq_true, not_or] <;> omega)) only [CS, g_laws_markIntS_L0, h3, h4, h5, h1, hia, hT, hg, tset hn] | simp only [condK_B, guardK_Bt, guardK_Bf])
    have hset : ((mkI k i ++ l.drop i).map I).set i (I (k + i : Nat)) = (mkI k (i + 1) ++ l.drop (i + 1)).map I := by
      rw [← List.map_set, mid_set (mkI_len k i) hin, mkI_succ]; simp
    refine ⟨by simp [mkI_len]; omega, hR (l.length - (i + 1)) _ (by omega) ⟨i + 1, by simp [h3], ?_, by simp, rfl, by omega, ?_, rfl, ?_⟩⟩
    · simp; omega
    · rw [hob] at ho ⊢
      exact ho.put (.inr (by simp))
    · refine hs.put hob (by rw [hset]; simp (disch := first | assumption | omega | (simp only [LS] <;> omega) | (simp only [List.not_mem_nil, List.mem_cons, or_false, not_false_eq_true, not_or] <;> omega)) only [CS, RS3, RS4]) ?_
      simp [mkI_len]; omega
  · have hF : ((i : Int) < l.length) = False := eq_false (by omega)
    repeat (first | simp only [RS0, RS1, RS2, RS3, RS4, reduceIte, Nat.reduceEqDiff, Nat.reduceAdd, Nat.reduceLeDiff, Nat.reduceLT, Nat.reduceMul, Int.reduceToNat, Int.reduceLT, Int.reduceLE, Int.reduceAdd, Int.reduceSub, Int.reduceMul, Int.reduceEq, Int.reduceNe, Nat.reduceSub, reduceCtorEq, boxF, if_true, if_false, forall_const, implies_true, ne_eq, g_laws_markIntS_L0, h3, h4, h5, h1, hF] | simp (disch := first | assumption | omega | (simp only [LS] <;> omega) | (simp only [List.not_mem_nil, List.mem_cons, or_false, not_false_eq_true, not_or] <;> omega)) only [CS, g_laws_markIntS_L0, h3, h4, h5, h1, hF] | simp only [condK_B, guardK_Bt, guardK_Bf])
    refine hE _ _ (by decide) ?_
    repeat (first | simp only [RS0, RS1, RS2, RS3, RS4, reduceIte, Nat.reduceEqDiff, Nat.reduceAdd, Nat.reduceLeDiff, Nat.reduceLT, Nat.reduceMul, Int.reduceToNat, Int.reduceLT, Int.reduceLE, Int.reduceAdd, Int.reduceSub, Int.reduceMul, Int.reduceEq, Int.reduceNe, Nat.reduceSub, reduceCtorEq, boxF, if_true, if_false, forall_const, implies_true, ne_eq, h4] | simp (disch := first | assumption | omega | (simp only [LS] <;> omega) | (simp only [List.not_mem_nil, List.mem_cons, or_false, not_false_eq_true, not_or] <;> omega)) only [CS, h4] | simp only [condK_B, guardK_Bt, guardK_Bf])
    have : i = l.length := by omega
    subst this
    rw [List.drop_length, List.append_nil] at hs
    exact h _ _ ho hs

theorem laws_heldIntS_ok (v : Value) (n : Nat) (ov : Option Nat) (k : Nat) (hv : SlR H 1 v ((mkI k n).map I) ov) (hov : ∀ b, ov = some b → b < c) (hl : n ≤ 100000000) (hk : k ≤ 1000000000)
    (h : Q (I (k + n : Nat)) [] c) : Ev (tbl prim) n_laws_heldIntS [v, I k] H c Q := by
  refine Ev.fn (s_laws_heldIntS prim) rfl ?_
  have hlen : ((mkI k n).map I).length = n * 1 := by simp [mkI_len]
  have h1 := hv.len hlen (by omega)
  repeat (first | simp only [RS0, RS1, RS2, RS3, RS4, reduceIte, Nat.reduceEqDiff, Nat.reduceAdd, Nat.reduceLeDiff, Nat.reduceLT, Nat.reduceMul, Int.reduceToNat, Int.reduceLT, Int.reduceLE, Int.reduceAdd, Int.reduceSub, Int.reduceMul, Int.reduceEq, Int.reduceNe, Nat.reduceSub, reduceCtorEq, boxF, if_true, if_false, forall_const, implies_true, ne_eq, g_laws_heldIntS, h1] | simp (disch := first | assumption | omega | (simp only [LS] <;> omega) | (simp only [List.not_mem_nil, List.mem_cons, or_false, not_false_eq_true, not_or] <;> omega)) only [CS, g_laws_heldIntS, h1] | simp only [condK_B, guardK_Bt, guardK_Bf])
  refine Wloop.of (fun q s => ∃ i : Nat, s.ts 0 = v ∧ s.ts 1 = I (k + i : Nat) ∧ s.ts 5 = I i ∧ q = n - i ∧ i ≤ n ∧ s.u = [] ∧ s.c = c) ?_ (n := n) ⟨0, by simp, by simp, by simp, rfl, by omega, rfl, rfl⟩
  rintro q ⟨ts, u, c1⟩ ⟨i, h3, h4, h5, rfl, hi, hu, hc⟩ R hR hE
  simp only at h3 h4 h5 hu hc
  subst hc hu
  by_cases hin : i < n
  · obtain ⟨b, hb, hob, hia, hg⟩ := hv.elw hov hlen (by omega) (k := .i64) hin
    have hT : ((i : Int) < n) = True := eq_true (by omega)
    have hgd : ((mkI k n).map I).getD i undefA = I (k + i : Nat) := by simp [mkI, List.getD_eq_getElem?_getD, hin]
    repeat (first | simp only [RS0, RS1, RS2, RS3, RS4, reduceIte, Nat.reduceEqDiff, Nat.reduceAdd, Nat.reduceLeDiff, Nat.reduceLT, Nat.reduceMul, Int.reduceToNat, Int.reduceLT, Int.reduceLE, Int.reduceAdd, Int.reduceSub, Int.reduceMul, Int.reduceEq, Int.reduceNe, Nat.reduceSub, reduceCtorEq, boxF, if_true, if_false, forall_const, implies_true, ne_eq, g_laws_heldIntS_L0, h3, h4, h5, h1, hia, hT, hg, hgd, mkI_len] | simp (disch := first | assumption | omega | (simp only [LS] <;> omega) | (simp only [List.not_mem_nil, List.mem_cons, or_false, not_false_eq_true, not_or] <;> omega)) only [CS, g_laws_heldIntS_L0, h3, h4, h5, h1, hia, hT, hg, hgd, mkI_len] | simp only [condK_B, guardK_Bt, guardK_Bf])
    refine ⟨⟨by omega, by omega⟩, hR (n - (i + 1)) _ (by omega) ⟨i + 1, by simp [h3], ?_, by simp, rfl, by omega, rfl, rfl⟩⟩
    simp; omega
  · have hF : ((i : Int) < n) = False := eq_false (by omega)
    repeat (first | simp only [RS0, RS1, RS2, RS3, RS4, reduceIte, Nat.reduceEqDiff, Nat.reduceAdd, Nat.reduceLeDiff, Nat.reduceLT, Nat.reduceMul, Int.reduceToNat, Int.reduceLT, Int.reduceLE, Int.reduceAdd, Int.reduceSub, Int.reduceMul, Int.reduceEq, Int.reduceNe, Nat.reduceSub, reduceCtorEq, boxF, if_true, if_false, forall_const, implies_true, ne_eq, g_laws_heldIntS_L0, h3, h4, h5, h1, hF] | simp (disch := first | assumption | omega | (simp only [LS] <;> omega) | (simp only [List.not_mem_nil, List.mem_cons, or_false, not_false_eq_true, not_or] <;> omega)) only [CS, g_laws_heldIntS_L0, h3, h4, h5, h1, hF] | simp only [condK_B, guardK_Bt, guardK_Bf])
    refine hE _ _ (by decide) ?_
    repeat (first | simp only [RS0, RS1, RS2, RS3, RS4, reduceIte, Nat.reduceEqDiff, Nat.reduceAdd, Nat.reduceLeDiff, Nat.reduceLT, Nat.reduceMul, Int.reduceToNat, Int.reduceLT, Int.reduceLE, Int.reduceAdd, Int.reduceSub, Int.reduceMul, Int.reduceEq, Int.reduceNe, Nat.reduceSub, reduceCtorEq, boxF, if_true, if_false, forall_const, implies_true, ne_eq, h4] | simp (disch := first | assumption | omega | (simp only [LS] <;> omega) | (simp only [List.not_mem_nil, List.mem_cons, or_false, not_false_eq_true, not_or] <;> omega)) only [CS, h4] | simp only [condK_B, guardK_Bt, guardK_Bf])
    have : i = n := by omega
    subst this
    exact h
end
end Go.Proofs.Ytfcglkajekohiaa
