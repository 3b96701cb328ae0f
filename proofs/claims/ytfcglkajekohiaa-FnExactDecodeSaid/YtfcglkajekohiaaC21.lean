/- The law FnExactDecode on the plain machine. -/
import Derived.Test.YtfcglkajekohiaaC20
import Derived.Test.YtfcglkajekohiaaD2
set_option linter.unusedSimpArgs false
set_option linter.unusedVariables false
set_option maxRecDepth 20000
namespace Go.Proofs.Ytfcglkajekohiaa
open Go Go.Proofs.Ytfcglkajekohiaa.AM

def decM (t : List UInt8) : Msg := (decI t).getD msg0
def decB (t : List UInt8) : Bool := (decI t).isSome
theorem decM_small (t : List UInt8) : (decM t).entries.length ≤ 4 ∧ (decM t).conf.length ≤ 4 := by
  unfold decM
  cases h : decI t with
  | none => simp [msg0]
  | some m =>
    have hb := msgB (decI_inv h).1
    exact ⟨hb.mid.2.2.1, hb.conf4⟩

section
variable {prim : Nat → List Value → Option Value} {H : AHeap} {c : Nat} {Q : Value → AHeap → Nat → Prop}

theorem spec_Decode_all (t : List UInt8) (ht : t.length ≤ 10000000)
    (h : ∀ d c' ve vc oe oc, Own [] d c c' → SlR (d ++ H) 3 ve (entsC (decM t).entries) oe → SlR (d ++ H) 1 vc ((decM t).conf.map I) oc → (∀ b, oe = some b → c ≤ b ∧ b < c') → (∀ b, oc = some b → c ≤ b ∧ b < c') → Q (.tuple ⟨[ag (msgC (decM t) ve vc), B (decB t)]⟩) d c') :
    Ev (tbl prim) n_spec_Decode [T t] H c Q := by
  refine spec_Decode_ok t ht (fun hn d c' ho => ?_) (fun m hm d c' ve vc oe oc ho h1 h2 h3 h4 => ?_)
  · rw [dec_same] at hn
    have e : decM t = msg0 ∧ decB t = false := by simp [decM, decB, hn]
    rw [e.1, e.2] at h
    exact h d c' _ _ none none ho (.nil 0) (.nil 0) (by simp) (by simp)
  · rw [dec_same] at hm
    have e : decM t = m ∧ decB t = true := by simp [decM, decB, hm]
    rw [e.1, e.2] at h
    exact h d c' ve vc oe oc ho h1 h2 h3 h4

theorem impl_Decode_all (t : List UInt8) (ht : t.length ≤ 10000000)
    (h : ∀ d c' ve vc oe oc, Own [] d c c' → SlR (d ++ H) 3 ve (entsC (decM t).entries) oe → SlR (d ++ H) 1 vc ((decM t).conf.map I) oc → (∀ b, oe = some b → c ≤ b ∧ b < c') → (∀ b, oc = some b → c ≤ b ∧ b < c') → (∀ b, oe = some b → oc ≠ some b) → Q (.tuple ⟨[ag (msgC (decM t) ve vc), B (decB t)]⟩) d c') :
    Ev (tbl prim) n_impl_Decode [T t] H c Q := by
  refine impl_Decode_ok t ht (fun hn d c' ho => ?_) (fun m hm d c' ve vc oe oc ho h1 h2 h3 h4 h5 => ?_)
  · have e : decM t = msg0 ∧ decB t = false := by simp [decM, decB, hn]
    rw [e.1, e.2] at h
    exact h d c' _ _ none none ho (.nil 0) (.nil 0) (by simp) (by simp) (by simp)
  · have e : decM t = m ∧ decB t = true := by simp [decM, decB, hm]
    rw [e.1, e.2] at h
    exact h d c' ve vc oe oc ho h1 h2 h3 h4 h5

set_option maxHeartbeats 2000000 in
theorem laws_FnExactDecode_ok (t : List UInt8) (ht : t.length ≤ 140737488351232) : Ev (tbl prim) n_laws_FnExactDecode [T t] H c (fun v _ _ => v = B true) := by
  refine Ev.fn (s_laws_FnExactDecode prim) rfl ?_
  repeat (first | simp only [RS0, RS1, RS2, RS3, RS4, reduceIte, Nat.reduceEqDiff, Nat.reduceAdd, Nat.reduceLeDiff, Nat.reduceLT, Nat.reduceMul, Int.reduceToNat, Int.reduceLT, Int.reduceLE, Int.reduceAdd, Int.reduceSub, Int.reduceMul, Int.reduceEq, Int.reduceNe, Nat.reduceSub, reduceCtorEq, boxF, if_true, if_false, forall_const, implies_true, ne_eq, g_laws_FnExactDecode] | simp (disch := first | assumption | omega | (simp only [LS] <;> omega) | (simp only [List.not_mem_nil, List.mem_cons, or_false, not_false_eq_true, not_or] <;> omega)) only [CS, g_laws_FnExactDecode] | simp only [condK_B, guardK_Bt, guardK_Bf])
  refine fun hl => ?_
  obtain ⟨hs1, hs2⟩ := decM_small t
  refine EvK.of (spec_Decode_all t (by omega) fun d1 c1 ve vc oe oc ho1 he hc hoe hoc => ?_)
  have ho1_le := ho1.le
  generalize hm : decM t = m at *
  generalize hok : decB t = ok at *
  have hmc : ∀ x y, msgC m x y = [I m.kind, I m.src, I m.dst, I m.term, I m.index, I m.logTerm, I m.commit, B m.ok, x, y, T m.data, B m.last] := fun _ _ => rfl
  repeat (first | simp only [RS0, RS1, RS2, RS3, RS4, reduceIte, Nat.reduceEqDiff, Nat.reduceAdd, Nat.reduceLeDiff, Nat.reduceLT, Nat.reduceMul, Int.reduceToNat, Int.reduceLT, Int.reduceLE, Int.reduceAdd, Int.reduceSub, Int.reduceMul, Int.reduceEq, Int.reduceNe, Nat.reduceSub, reduceCtorEq, boxF, if_true, if_false, forall_const, implies_true, ne_eq, hmc, he.cl, hc.cl, he.isC, hc.isC] | simp (disch := first | assumption | omega | (simp only [LS] <;> omega) | (simp only [List.not_mem_nil, List.mem_cons, or_false, not_false_eq_true, not_or] <;> omega)) only [CS, hmc, he.cl, hc.cl, he.isC, hc.isC] | simp only [condK_B, guardK_Bt, guardK_Bf])
  refine EvK.of (impl_Decode_all t (by omega) fun d2 c2 we wc pe pc ho2 he2 hc2 hpe hpc hne => ?_)
  have ho2_le := ho2.le
  rw [hm] at he2 hc2 ⊢
  rw [hok]
  repeat (first | simp only [RS0, RS1, RS2, RS3, RS4, reduceIte, Nat.reduceEqDiff, Nat.reduceAdd, Nat.reduceLeDiff, Nat.reduceLT, Nat.reduceMul, Int.reduceToNat, Int.reduceLT, Int.reduceLE, Int.reduceAdd, Int.reduceSub, Int.reduceMul, Int.reduceEq, Int.reduceNe, Nat.reduceSub, reduceCtorEq, boxF, if_true, if_false, forall_const, implies_true, ne_eq, hmc, he.cl, hc.cl, he.isC, hc.isC, he2.cl, hc2.cl, he2.isC, hc2.isC] | simp (disch := first | assumption | omega | (simp only [LS] <;> omega) | (simp only [List.not_mem_nil, List.mem_cons, or_false, not_false_eq_true, not_or] <;> omega)) only [CS, hmc, he.cl, hc.cl, he.isC, hc.isC, he2.cl, hc2.cl, he2.isC, hc2.isC] | simp only [condK_B, guardK_Bt, guardK_Bf])
  refine EvK.of (laws_eqMessage_ok m we wc ve vc pe pc oe oc (he2.of_get (fun b hb => by have := hpe b hb; simp (disch := first | assumption | omega | (simp only [LS] <;> omega) | (simp only [List.not_mem_nil, List.mem_cons, or_false, not_false_eq_true, not_or] <;> omega)) only [CS, RS3, RS4])) (hc2.of_get (fun b hb => by have := hpc b hb; simp (disch := first | assumption | omega | (simp only [LS] <;> omega) | (simp only [List.not_mem_nil, List.mem_cons, or_false, not_false_eq_true, not_or] <;> omega)) only [CS, RS3, RS4])) (he.of_get (fun b hb => by have := hoe b hb; simp (disch := first | assumption | omega | (simp only [LS] <;> omega) | (simp only [List.not_mem_nil, List.mem_cons, or_false, not_false_eq_true, not_or] <;> omega)) only [CS, RS3, RS4])) (hc.of_get (fun b hb => by have := hoc b hb; simp (disch := first | assumption | omega | (simp only [LS] <;> omega) | (simp only [List.not_mem_nil, List.mem_cons, or_false, not_false_eq_true, not_or] <;> omega)) only [CS, RS3, RS4])) (fun b hb => by have := hpe b hb; omega) (fun b hb => by have := hpc b hb; omega) (fun b hb => by have := hoe b hb; omega) (fun b hb => by have := hoc b hb; omega) (by omega) (by omega) fun d3 c3 ho3 => ?_)
  have ho3_le := ho3.le
  repeat (first | simp only [RS0, RS1, RS2, RS3, RS4, reduceIte, Nat.reduceEqDiff, Nat.reduceAdd, Nat.reduceLeDiff, Nat.reduceLT, Nat.reduceMul, Int.reduceToNat, Int.reduceLT, Int.reduceLE, Int.reduceAdd, Int.reduceSub, Int.reduceMul, Int.reduceEq, Int.reduceNe, Nat.reduceSub, reduceCtorEq, boxF, if_true, if_false, forall_const, implies_true, ne_eq, beq_self_eq_true] | simp (disch := first | assumption | omega | (simp only [LS] <;> omega) | (simp only [List.not_mem_nil, List.mem_cons, or_false, not_false_eq_true, not_or] <;> omega)) only [CS, beq_self_eq_true] | simp only [condK_B, guardK_Bt, guardK_Bf])
  refine EvK.of (laws_markMessage_ok m we wc pe pc (he2.of_get (fun b hb => by have := hpe b hb; simp (disch := first | assumption | omega | (simp only [LS] <;> omega) | (simp only [List.not_mem_nil, List.mem_cons, or_false, not_false_eq_true, not_or] <;> omega)) only [CS, RS3, RS4])) (hc2.of_get (fun b hb => by have := hpc b hb; simp (disch := first | assumption | omega | (simp only [LS] <;> omega) | (simp only [List.not_mem_nil, List.mem_cons, or_false, not_false_eq_true, not_or] <;> omega)) only [CS, RS3, RS4])) (fun b hb => by have := hpe b hb; omega) (fun b hb => by have := hpc b hb; omega) hne (by omega) (by omega) 1 (by omega) fun d4 c4 ho4 hm1 hm2 => ?_)
  have ho4_le := ho4.le
  have hk : ∀ b, b ≤ c1 ∨ c2 ≤ b → b ∉ pe.toList ++ pc.toList := fun b hb hx => by
    rw [List.mem_append] at hx
    rcases hx with hx | hx
    · cases pe with
      | none => simp at hx
      | some a => simp at hx; subst hx; have := hpe _ rfl; omega
    · cases pc with
      | none => simp at hx
      | some a => simp at hx; subst hx; have := hpc _ rfl; omega
  have k1 := hk c1 (by omega)
  have k2 := hk c2 (by omega)
  repeat (first | simp only [RS0, RS1, RS2, RS3, RS4, reduceIte, Nat.reduceEqDiff, Nat.reduceAdd, Nat.reduceLeDiff, Nat.reduceLT, Nat.reduceMul, Int.reduceToNat, Int.reduceLT, Int.reduceLE, Int.reduceAdd, Int.reduceSub, Int.reduceMul, Int.reduceEq, Int.reduceNe, Nat.reduceSub, reduceCtorEq, boxF, if_true, if_false, forall_const, implies_true, ne_eq] | simp (disch := first | assumption | omega | (simp only [LS] <;> omega) | (simp only [List.not_mem_nil, List.mem_cons, or_false, not_false_eq_true, not_or] <;> omega)) only [CS] | simp only [condK_B, guardK_Bt, guardK_Bf])
  refine EvK.of (laws_heldMessage_ok m we wc m.entries.length m.conf.length pe pc 1 hm1 hm2 (fun b hb => by have := hpe b hb; omega) (fun b hb => by have := hpc b hb; omega) (by omega) (by omega) (by omega) fun d5 c5 ho5 => ?_)
  have ho5_le := ho5.le
  have e1 : (((1 + 3 * m.entries.length + m.conf.length : Nat) : Int) < 0) = False := eq_false (by omega)
  repeat (first | simp only [RS0, RS1, RS2, RS3, RS4, reduceIte, Nat.reduceEqDiff, Nat.reduceAdd, Nat.reduceLeDiff, Nat.reduceLT, Nat.reduceMul, Int.reduceToNat, Int.reduceLT, Int.reduceLE, Int.reduceAdd, Int.reduceSub, Int.reduceMul, Int.reduceEq, Int.reduceNe, Nat.reduceSub, reduceCtorEq, boxF, if_true, if_false, forall_const, implies_true, ne_eq, e1] | simp (disch := first | assumption | omega | (simp only [LS] <;> omega) | (simp only [List.not_mem_nil, List.mem_cons, or_false, not_false_eq_true, not_or] <;> omega)) only [CS, e1] | simp only [condK_B, guardK_Bt, guardK_Bf])
  refine EvK.of (impl_Decode_all t (by omega) fun d6 c6 xe xc qe qc ho6 he3 hc3 hqe hqc hne3 => ?_)
  have ho6_le := ho6.le
  rw [hm] at he3 hc3 ⊢
  rw [hok]
  repeat (first | simp only [RS0, RS1, RS2, RS3, RS4, reduceIte, Nat.reduceEqDiff, Nat.reduceAdd, Nat.reduceLeDiff, Nat.reduceLT, Nat.reduceMul, Int.reduceToNat, Int.reduceLT, Int.reduceLE, Int.reduceAdd, Int.reduceSub, Int.reduceMul, Int.reduceEq, Int.reduceNe, Nat.reduceSub, reduceCtorEq, boxF, if_true, if_false, forall_const, implies_true, ne_eq, hmc, he3.cl, hc3.cl, he3.isC, hc3.isC] | simp (disch := first | assumption | omega | (simp only [LS] <;> omega) | (simp only [List.not_mem_nil, List.mem_cons, or_false, not_false_eq_true, not_or] <;> omega)) only [CS, hmc, he3.cl, hc3.cl, he3.isC, hc3.isC] | simp only [condK_B, guardK_Bt, guardK_Bf])
  refine EvK.of (laws_eqMessage_ok m xe xc ve vc qe qc oe oc (he3.of_get (fun b hb => by have := hqe b hb; simp (disch := first | assumption | omega | (simp only [LS] <;> omega) | (simp only [List.not_mem_nil, List.mem_cons, or_false, not_false_eq_true, not_or] <;> omega)) only [CS, RS3, RS4])) (hc3.of_get (fun b hb => by have := hqc b hb; simp (disch := first | assumption | omega | (simp only [LS] <;> omega) | (simp only [List.not_mem_nil, List.mem_cons, or_false, not_false_eq_true, not_or] <;> omega)) only [CS, RS3, RS4])) (he.of_get (fun b hb => by have := hoe b hb; have := hk b (by omega); simp (disch := first | assumption | omega | (simp only [LS] <;> omega) | (simp only [List.not_mem_nil, List.mem_cons, or_false, not_false_eq_true, not_or] <;> omega)) only [CS, RS3, RS4])) (hc.of_get (fun b hb => by have := hoc b hb; have := hk b (by omega); simp (disch := first | assumption | omega | (simp only [LS] <;> omega) | (simp only [List.not_mem_nil, List.mem_cons, or_false, not_false_eq_true, not_or] <;> omega)) only [CS, RS3, RS4])) (fun b hb => by have := hqe b hb; omega) (fun b hb => by have := hqc b hb; omega) (fun b hb => by have := hoe b hb; omega) (fun b hb => by have := hoc b hb; omega) (by omega) (by omega) fun d7 c7 ho7 => ?_)
  have ho7_le := ho7.le
  repeat (first | simp only [RS0, RS1, RS2, RS3, RS4, reduceIte, Nat.reduceEqDiff, Nat.reduceAdd, Nat.reduceLeDiff, Nat.reduceLT, Nat.reduceMul, Int.reduceToNat, Int.reduceLT, Int.reduceLE, Int.reduceAdd, Int.reduceSub, Int.reduceMul, Int.reduceEq, Int.reduceNe, Nat.reduceSub, reduceCtorEq, boxF, if_true, if_false, forall_const, implies_true, ne_eq, beq_self_eq_true] | simp (disch := first | assumption | omega | (simp only [LS] <;> omega) | (simp only [List.not_mem_nil, List.mem_cons, or_false, not_false_eq_true, not_or] <;> omega)) only [CS, beq_self_eq_true] | simp only [condK_B, guardK_Bt, guardK_Bf])
  refine EvK.of (laws_heldMessage_ok m we wc m.entries.length m.conf.length pe pc 1 (hm1.of_get (fun b hb => by have := hpe b hb; simp (disch := first | assumption | omega | (simp only [LS] <;> omega) | (simp only [List.not_mem_nil, List.mem_cons, or_false, not_false_eq_true, not_or] <;> omega)) only [CS, RS3, RS4])) (hm2.of_get (fun b hb => by have := hpc b hb; simp (disch := first | assumption | omega | (simp only [LS] <;> omega) | (simp only [List.not_mem_nil, List.mem_cons, or_false, not_false_eq_true, not_or] <;> omega)) only [CS, RS3, RS4])) (fun b hb => by have := hpe b hb; omega) (fun b hb => by have := hpc b hb; omega) (by omega) (by omega) (by omega) fun d8 c8 ho8 => ?_)
  have ho8_le := ho8.le
  repeat (first | simp only [RS0, RS1, RS2, RS3, RS4, reduceIte, Nat.reduceEqDiff, Nat.reduceAdd, Nat.reduceLeDiff, Nat.reduceLT, Nat.reduceMul, Int.reduceToNat, Int.reduceLT, Int.reduceLE, Int.reduceAdd, Int.reduceSub, Int.reduceMul, Int.reduceEq, Int.reduceNe, Nat.reduceSub, reduceCtorEq, boxF, if_true, if_false, forall_const, implies_true, ne_eq, e1] | simp (disch := first | assumption | omega | (simp only [LS] <;> omega) | (simp only [List.not_mem_nil, List.mem_cons, or_false, not_false_eq_true, not_or] <;> omega)) only [CS, e1] | simp only [condK_B, guardK_Bt, guardK_Bf])
  try trace_state
end
end Go.Proofs.Ytfcglkajekohiaa
