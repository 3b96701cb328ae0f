/- Contracts: messages that are compared. -/
import Derived.Test.YtfcglkajekohiaaF1
import Derived.Test.YtfcglkajekohiaaE7
import Derived.Test.YtfcglkajekohiaaF0
set_option linter.unusedSimpArgs false
set_option linter.unusedVariables false
set_option maxRecDepth 20000
namespace Go.Proofs.Ytfcglkajekohiaa
open Go Go.Proofs.Ytfcglkajekohiaa.AM

section
variable {prim : Nat → List Value → Option Value} {H : AHeap} {c : Nat} {Q : Value → AHeap → Nat → Prop}

theorem laws_big_ok (v : Value) (n : Nat) (hv : lenF false v = some (I n)) (h : Q (B (decide (1048576 < (n : Int)))) [] c) : Ev (tbl prim) n_laws_big [v] H c Q := by
  refine Ev.fn (s_laws_big prim) rfl ?_
  repeat (first | simp only [RS0, RS1, RS2, RS3, RS4, reduceIte, Nat.reduceEqDiff, Nat.reduceAdd, Nat.reduceLeDiff, Nat.reduceLT, Nat.reduceMul, Int.reduceToNat, Int.reduceLT, Int.reduceLE, Int.reduceAdd, Int.reduceSub, Int.reduceMul, Int.reduceEq, Int.reduceNe, Nat.reduceSub, reduceCtorEq, boxF, if_true, if_false, forall_const, implies_true, ne_eq, g_laws_big, hv, ] | simp (disch := first | assumption | omega | (simp only [LS]; first | done | omega) | (simp only [List.not_mem_nil, List.mem_cons, or_false, not_false_eq_true, not_or]; first | done | omega)) only [CS, g_laws_big, hv] | simp only [condK_B, guardK_Bt, guardK_Bf])
  exact h

theorem laws_sameInts_ok (va vb : Value) (l : List Int) (oa ob : Option Nat) (ha : SlR H 1 va (l.map I) oa) (hb : SlR H 1 vb (l.map I) ob) (hoa : ∀ b, oa = some b → b < c) (hob : ∀ b, ob = some b → b < c) (hl : l.length ≤ 100000000)
    (h : ∀ d c', Own [] d c c' → Q (B true) d c') : Ev (tbl prim) n_laws_sameInts [va, vb] H c Q := by
  refine Ev.fn (s_laws_sameInts prim) rfl ?_
  have hll : (l.map I).length = l.length * 1 := by simp
  have hla := ha.len hll (by omega)
  have hlb := hb.len hll (by omega)
  repeat (first | simp only [RS0, RS1, RS2, RS3, RS4, reduceIte, Nat.reduceEqDiff, Nat.reduceAdd, Nat.reduceLeDiff, Nat.reduceLT, Nat.reduceMul, Int.reduceToNat, Int.reduceLT, Int.reduceLE, Int.reduceAdd, Int.reduceSub, Int.reduceMul, Int.reduceEq, Int.reduceNe, Nat.reduceSub, reduceCtorEq, boxF, if_true, if_false, forall_const, implies_true, ne_eq, g_laws_sameInts, hla, hlb, ] | simp (disch := first | assumption | omega | (simp only [LS]; first | done | omega) | (simp only [List.not_mem_nil, List.mem_cons, or_false, not_false_eq_true, not_or]; first | done | omega)) only [CS, g_laws_sameInts, hla, hlb] | simp only [condK_B, guardK_Bt, guardK_Bf])
  refine Wloop.of (fun k s => ∃ (i : Nat), s.ts 0 = va ∧ s.ts 1 = vb ∧ s.ts 5 = I i ∧ k = l.length - i ∧ i ≤ l.length ∧ s.u = [] ∧ s.c = c) ?_ (n := l.length) ?_
  · rintro k ⟨ts, u, c1⟩ ⟨i, h0, h1, h5, rfl, hi, rfl, rfl⟩ R hR hE
    simp only at h0 h1 h5
    by_cases hin : i < l.length
    · obtain ⟨b2, ro, hb2c, hob2, hia, hgb⟩ := ha.el hoa hll (by omega) (k := .i64) hin
      obtain ⟨b3, ro3, hb3c, hob3, hib, hgb3⟩ := hb.el hob hll (by omega) (k := .i64) hin
      have hinT : ((i : Int) < l.length) = True := eq_true (by omega)
      have hx : (l.map I)[i * 1]? = some (I l[i]) := by simp [hin]
      repeat (first | simp only [RS0, RS1, RS2, RS3, RS4, reduceIte, Nat.reduceEqDiff, Nat.reduceAdd, Nat.reduceLeDiff, Nat.reduceLT, Nat.reduceMul, Int.reduceToNat, Int.reduceLT, Int.reduceLE, Int.reduceAdd, Int.reduceSub, Int.reduceMul, Int.reduceEq, Int.reduceNe, Nat.reduceSub, reduceCtorEq, boxF, if_true, if_false, forall_const, implies_true, ne_eq, g_laws_sameInts_L0, h0, h1, h5, hla, hlb, hinT, hia, hib, hgb, hgb3, hx, ] | simp (disch := first | assumption | omega | (simp only [LS]; first | done | omega) | (simp only [List.not_mem_nil, List.mem_cons, or_false, not_false_eq_true, not_or]; first | done | omega)) only [CS, g_laws_sameInts_L0, h0, h1, h5, hla, hlb, hinT, hia, hib, hgb, hgb3, hx] | simp only [condK_B, guardK_Bt, guardK_Bf])
      exact ⟨by omega, by omega, hR (l.length - (i + 1)) _ (by omega) ⟨i + 1, by simp [h0], by simp [h1], by simp, rfl, by omega, rfl, rfl⟩⟩
    · have hinF : ((i : Int) < l.length) = False := eq_false (by omega)
      repeat (first | simp only [RS0, RS1, RS2, RS3, RS4, reduceIte, Nat.reduceEqDiff, Nat.reduceAdd, Nat.reduceLeDiff, Nat.reduceLT, Nat.reduceMul, Int.reduceToNat, Int.reduceLT, Int.reduceLE, Int.reduceAdd, Int.reduceSub, Int.reduceMul, Int.reduceEq, Int.reduceNe, Nat.reduceSub, reduceCtorEq, boxF, if_true, if_false, forall_const, implies_true, ne_eq, g_laws_sameInts_L0, h0, h1, h5, hla, hlb, hinF, ] | simp (disch := first | assumption | omega | (simp only [LS]; first | done | omega) | (simp only [List.not_mem_nil, List.mem_cons, or_false, not_false_eq_true, not_or]; first | done | omega)) only [CS, g_laws_sameInts_L0, h0, h1, h5, hla, hlb, hinF] | simp only [condK_B, guardK_Bt, guardK_Bf])
      refine hE _ _ (by decide) ?_
      repeat (first | simp only [RS0, RS1, RS2, RS3, RS4, reduceIte, Nat.reduceEqDiff, Nat.reduceAdd, Nat.reduceLeDiff, Nat.reduceLT, Nat.reduceMul, Int.reduceToNat, Int.reduceLT, Int.reduceLE, Int.reduceAdd, Int.reduceSub, Int.reduceMul, Int.reduceEq, Int.reduceNe, Nat.reduceSub, reduceCtorEq, boxF, if_true, if_false, forall_const, implies_true, ne_eq, ] | simp (disch := first | assumption | omega | (simp only [LS]; first | done | omega) | (simp only [List.not_mem_nil, List.mem_cons, or_false, not_false_eq_true, not_or]; first | done | omega)) only [CS] | simp only [condK_B, guardK_Bt, guardK_Bf])
      exact h _ _ (Own.nil _)
  · exact ⟨0, by simp, by simp, by simp, by omega, by omega, rfl, rfl⟩

theorem ent_neq (e : Ent) : binA .neq (some [.int, .int, .str]) (ag (entC e)) (ag (entC e)) = some (B false) := by
  have hb : (bs e.data == bs e.data) = true := by show ((bs e.data).data == (bs e.data).data) = true; exact beq_self_eq_true _
  simp [binA, entC, eqCells, eqCell, hb]


theorem laws_sameMessage_ok (m : Msg) (ve vc ve' vc' : Value) (oe oc oe' oc' : Option Nat) (he : SlR H 3 ve (entsC m.entries) oe) (hc : SlR H 1 vc (m.conf.map I) oc) (he' : SlR H 3 ve' (entsC m.entries) oe') (hc' : SlR H 1 vc' (m.conf.map I) oc')
    (hoe : ∀ b, oe = some b → b < c) (hoc : ∀ b, oc = some b → b < c) (hoe' : ∀ b, oe' = some b → b < c) (hoc' : ∀ b, oc' = some b → b < c) (hl : m.entries.length ≤ 100000000) (hbc : m.conf.length ≤ 100000000)
    (h : ∀ d c', Own [] d c c' → Q (B true) d c') : Ev (tbl prim) n_laws_sameMessage [ag (msgC m ve vc), ag (msgC m ve' vc')] H c Q := by
  refine Ev.fn (s_laws_sameMessage prim) rfl ?_
  have hle := he.len (ents_len _) (by omega)
  have hle' := he'.len (ents_len _) (by omega)
  repeat (first | simp only [RS0, RS1, RS2, RS3, RS4, reduceIte, Nat.reduceEqDiff, Nat.reduceAdd, Nat.reduceLeDiff, Nat.reduceLT, Nat.reduceMul, Int.reduceToNat, Int.reduceLT, Int.reduceLE, Int.reduceAdd, Int.reduceSub, Int.reduceMul, Int.reduceEq, Int.reduceNe, Nat.reduceSub, reduceCtorEq, boxF, if_true, if_false, forall_const, implies_true, ne_eq, g_laws_sameMessage, msgC, he.cl, hc.cl, he.isC, hc.isC, he'.cl, hc'.cl, he'.isC, hc'.isC, hle, hle', ] | simp (disch := first | assumption | omega | (simp only [LS]; first | done | omega) | (simp only [List.not_mem_nil, List.mem_cons, or_false, not_false_eq_true, not_or]; first | done | omega)) only [CS, g_laws_sameMessage, msgC, he.cl, hc.cl, he.isC, hc.isC, he'.cl, hc'.cl, he'.isC, hc'.isC, hle, hle'] | simp only [condK_B, guardK_Bt, guardK_Bf])
  have ho0 : Own [] [(c + 1, some (⟨msgC m ve' vc', 0, false⟩ : AObj)), (c, some ⟨msgC m ve vc, 0, false⟩)] c (c + 2) := (Own.nil (S := []) c).new.new
  have he1 := he.own ho0 (fun b e => ⟨hoe b e, by simp⟩)
  have hc1 := hc.own ho0 (fun b e => ⟨hoc b e, by simp⟩)
  have he1' := he'.own ho0 (fun b e => ⟨hoe' b e, by simp⟩)
  have hc1' := hc'.own ho0 (fun b e => ⟨hoc' b e, by simp⟩)
  refine EvK.of (laws_sameInts_ok vc vc' m.conf oc oc' hc1 hc1' (fun b e => by have := hoc b e; omega) (fun b e => by have := hoc' b e; omega) hbc fun d1 c1 ho1 => ?_)
  have ho1_le := ho1.le
  repeat (first | simp only [RS0, RS1, RS2, RS3, RS4, reduceIte, Nat.reduceEqDiff, Nat.reduceAdd, Nat.reduceLeDiff, Nat.reduceLT, Nat.reduceMul, Int.reduceToNat, Int.reduceLT, Int.reduceLE, Int.reduceAdd, Int.reduceSub, Int.reduceMul, Int.reduceEq, Int.reduceNe, Nat.reduceSub, reduceCtorEq, boxF, if_true, if_false, forall_const, implies_true, ne_eq, hle, hle', ] | simp (disch := first | assumption | omega | (simp only [LS]; first | done | omega) | (simp only [List.not_mem_nil, List.mem_cons, or_false, not_false_eq_true, not_or]; first | done | omega)) only [CS, hle, hle'] | simp only [condK_B, guardK_Bt, guardK_Bf])
  refine Wloop.of (fun k s => ∃ (i : Nat), s.ts 2 = P c 0 ∧ s.ts 3 = P (c + 1) 0 ∧ s.ts 5 = I i ∧ k = m.entries.length - i ∧ i ≤ m.entries.length ∧ get (s.u ++ H) c = some ⟨msgC m ve vc, 0, false⟩ ∧ get (s.u ++ H) (c + 1) = some ⟨msgC m ve' vc', 0, false⟩ ∧ Own [] s.u c s.c) ?_ (n := m.entries.length) ?_
  · rintro k ⟨ts, u, c1⟩ ⟨i, h2, h3, h5, rfl, hi, hg, hg', ho⟩ R hR hE
    simp only at h2 h3 h5 hg hg' ho
    simp only [msgC] at hg hg'
    by_cases hin : i < m.entries.length
    · have he2 := he.own ho (fun b e => ⟨hoe b e, by simp⟩)
      have he2' := he'.own ho (fun b e => ⟨hoe' b e, by simp⟩)
      obtain ⟨b2, ro, hb2c, hob2, hia, hgb⟩ := he2.el hoe (ents_len _) (by omega) (k := .i64) hin
      obtain ⟨b3, ro3, hb3c, hob3, hib, hgb3⟩ := he2'.el hoe' (ents_len _) (by omega) (k := .i64) hin
      have hinT : ((i : Int) < m.entries.length) = True := eq_true (by omega)
      repeat (first | simp only [RS0, RS1, RS2, RS3, RS4, reduceIte, Nat.reduceEqDiff, Nat.reduceAdd, Nat.reduceLeDiff, Nat.reduceLT, Nat.reduceMul, Int.reduceToNat, Int.reduceLT, Int.reduceLE, Int.reduceAdd, Int.reduceSub, Int.reduceMul, Int.reduceEq, Int.reduceNe, Nat.reduceSub, reduceCtorEq, boxF, if_true, if_false, forall_const, implies_true, ne_eq, g_laws_sameMessage_L0, h2, h3, h5, hg, hg', hle, hle', hinT, hia, hib, hgb, hgb3, ents_len, ents_N hin, ent_neq, ] | simp (disch := first | assumption | omega | (simp only [LS]; first | done | omega) | (simp only [List.not_mem_nil, List.mem_cons, or_false, not_false_eq_true, not_or]; first | done | omega)) only [CS, g_laws_sameMessage_L0, h2, h3, h5, hg, hg', hle, hle', hinT, hia, hib, hgb, hgb3, ents_len, ents_N hin, ent_neq] | simp only [condK_B, guardK_Bt, guardK_Bf])
      exact ⟨by omega, by omega, hR (m.entries.length - (i + 1)) _ (by omega) ⟨i + 1, by simp [h2], by simp [h3], by simp, rfl, by omega, by (first | simp (disch := first | assumption | omega | (simp only [LS]; first | done | omega) | (simp only [List.not_mem_nil, List.mem_cons, or_false, not_false_eq_true, not_or]; first | done | omega)) only [CS, hg, msgC, RS3, RS4] | done), by (first | simp (disch := first | assumption | omega | (simp only [LS]; first | done | omega) | (simp only [List.not_mem_nil, List.mem_cons, or_false, not_false_eq_true, not_or]; first | done | omega)) only [CS, hg', msgC, RS3, RS4] | done), ho⟩⟩
    · have hinF : ((i : Int) < m.entries.length) = False := eq_false (by omega)
      repeat (first | simp only [RS0, RS1, RS2, RS3, RS4, reduceIte, Nat.reduceEqDiff, Nat.reduceAdd, Nat.reduceLeDiff, Nat.reduceLT, Nat.reduceMul, Int.reduceToNat, Int.reduceLT, Int.reduceLE, Int.reduceAdd, Int.reduceSub, Int.reduceMul, Int.reduceEq, Int.reduceNe, Nat.reduceSub, reduceCtorEq, boxF, if_true, if_false, forall_const, implies_true, ne_eq, g_laws_sameMessage_L0, h2, h3, h5, hg, hg', hle, hle', hinF, ] | simp (disch := first | assumption | omega | (simp only [LS]; first | done | omega) | (simp only [List.not_mem_nil, List.mem_cons, or_false, not_false_eq_true, not_or]; first | done | omega)) only [CS, g_laws_sameMessage_L0, h2, h3, h5, hg, hg', hle, hle', hinF] | simp only [condK_B, guardK_Bt, guardK_Bf])
      refine hE _ _ (by decide) ?_
      repeat (first | simp only [RS0, RS1, RS2, RS3, RS4, reduceIte, Nat.reduceEqDiff, Nat.reduceAdd, Nat.reduceLeDiff, Nat.reduceLT, Nat.reduceMul, Int.reduceToNat, Int.reduceLT, Int.reduceLE, Int.reduceAdd, Int.reduceSub, Int.reduceMul, Int.reduceEq, Int.reduceNe, Nat.reduceSub, reduceCtorEq, boxF, if_true, if_false, forall_const, implies_true, ne_eq, h2, h3, h5, hg, hg', hle, hle', ] | simp (disch := first | assumption | omega | (simp only [LS]; first | done | omega) | (simp only [List.not_mem_nil, List.mem_cons, or_false, not_false_eq_true, not_or]; first | done | omega)) only [CS, h2, h3, h5, hg, hg', hle, hle'] | simp only [condK_B, guardK_Bt, guardK_Bf])
      rw [beq_self_eq_true m.ok, beq_self_eq_true m.last]
      exact ⟨fun _ => h _ _ ho, fun g => absurd g (by decide)⟩
  · exact ⟨0, by simp, by simp, by simp, by omega, by omega, by (first | simp (disch := first | assumption | omega | (simp only [LS]; first | done | omega) | (simp only [List.not_mem_nil, List.mem_cons, or_false, not_false_eq_true, not_or]; first | done | omega)) only [CS, msgC, RS3, RS4] | done), by (first | simp (disch := first | assumption | omega | (simp only [LS]; first | done | omega) | (simp only [List.not_mem_nil, List.mem_cons, or_false, not_false_eq_true, not_or]; first | done | omega)) only [CS, msgC, RS3, RS4] | done), by ((try dsimp only); refine Own.of (by omega) ?_; repeat (first | exact OwnK.nil | refine OwnK.cons (.inl (by omega)) ?_ | refine OwnK.kill (fun b hb => .inl (by have := hoe b hb; omega)) ?_ | refine OwnK.cons (.inr (by simp)) ?_ | exact OwnK.one (by assumption) (by omega) (by omega) (by simp; first | done | omega) | refine OwnK.app (by assumption) (by omega) (by omega) (by simp; first | done | omega) ?_))⟩
end

theorem decM_of {m : Msg} (h : msgOk m = true) : decM (msgText m) = m ∧ decB (msgText m) = true := by
  simp [decM, decB, decI_of h]

section
variable {prim : Nat → List Value → Option Value} {H : AHeap} {c : Nat} {Q : Value → AHeap → Nat → Prop}

set_option maxHeartbeats 4000000 in
theorem laws_FnMessages_ok (v : Value) (n : Nat) (hn : lenF false v = some (I n)) (hv : n ≤ 1048576 → Code H v) (hc0 : 0 < c) : Ev (tbl prim) n_laws_FnMessages [v] H c (fun v _ _ => v = B true) := by
  refine Ev.fn (s_laws_FnMessages prim) rfl ?_
  repeat (first | simp only [RS0, RS1, RS2, RS3, RS4, reduceIte, Nat.reduceEqDiff, Nat.reduceAdd, Nat.reduceLeDiff, Nat.reduceLT, Nat.reduceMul, Int.reduceToNat, Int.reduceLT, Int.reduceLE, Int.reduceAdd, Int.reduceSub, Int.reduceMul, Int.reduceEq, Int.reduceNe, Nat.reduceSub, reduceCtorEq, boxF, if_true, if_false, forall_const, implies_true, ne_eq, g_laws_FnMessages, ] | simp (disch := first | assumption | omega | (simp only [LS]; first | done | omega) | (simp only [List.not_mem_nil, List.mem_cons, or_false, not_false_eq_true, not_or]; first | done | omega)) only [CS, g_laws_FnMessages] | simp only [condK_B, guardK_Bt, guardK_Bf])
  refine EvK.of (laws_big_ok v n hn ?_)
  repeat (first | simp only [RS0, RS1, RS2, RS3, RS4, reduceIte, Nat.reduceEqDiff, Nat.reduceAdd, Nat.reduceLeDiff, Nat.reduceLT, Nat.reduceMul, Int.reduceToNat, Int.reduceLT, Int.reduceLE, Int.reduceAdd, Int.reduceSub, Int.reduceMul, Int.reduceEq, Int.reduceNe, Nat.reduceSub, reduceCtorEq, boxF, if_true, if_false, forall_const, implies_true, ne_eq, ] | simp (disch := first | assumption | omega | (simp only [LS]; first | done | omega) | (simp only [List.not_mem_nil, List.mem_cons, or_false, not_false_eq_true, not_or]; first | done | omega)) only [CS] | simp only [condK_B, guardK_Bt, guardK_Bf])
  refine fun hbig => ?_
  refine EvK.of (spec_DrawEncode_ok v (hv (by omega)) hc0 fun d1 c1 m ve vc oe oc ho1 he hc hoe hoc hw => ?_)
  have ho1_le := ho1.le
  have hmc : ∀ x y, msgC m x y = [I m.kind, I m.src, I m.dst, I m.term, I m.index, I m.logTerm, I m.commit, B m.ok, x, y, T m.data, B m.last] := fun _ _ => rfl
  obtain ⟨hw1, hw2, hw3, hw4⟩ := hw
  repeat (first | simp only [RS0, RS1, RS2, RS3, RS4, reduceIte, Nat.reduceEqDiff, Nat.reduceAdd, Nat.reduceLeDiff, Nat.reduceLT, Nat.reduceMul, Int.reduceToNat, Int.reduceLT, Int.reduceLE, Int.reduceAdd, Int.reduceSub, Int.reduceMul, Int.reduceEq, Int.reduceNe, Nat.reduceSub, reduceCtorEq, boxF, if_true, if_false, forall_const, implies_true, ne_eq, hmc, he.cl, hc.cl, he.isC, hc.isC, ] | simp (disch := first | assumption | omega | (simp only [LS]; first | done | omega) | (simp only [List.not_mem_nil, List.mem_cons, or_false, not_false_eq_true, not_or]; first | done | omega)) only [CS, hmc, he.cl, hc.cl, he.isC, hc.isC] | simp only [condK_B, guardK_Bt, guardK_Bf])
  refine EvK.of (impl_Encode_ok m ve vc oe oc (he.of_get (fun k hk => by have := hoe k hk; (first | simp (disch := first | assumption | omega | (simp only [LS]; first | done | omega) | (simp only [List.not_mem_nil, List.mem_cons, or_false, not_false_eq_true, not_or]; first | done | omega)) only [CS, RS3, RS4] | done))) (hc.of_get (fun k hk => by have := hoc k hk; (first | simp (disch := first | assumption | omega | (simp only [LS]; first | done | omega) | (simp only [List.not_mem_nil, List.mem_cons, or_false, not_false_eq_true, not_or]; first | done | omega)) only [CS, RS3, RS4] | done))) (fun k hk => by have := hoe k hk; omega) (fun k hk => by have := hoc k hk; omega) (by omega) (by omega) (fun e he => by have := hw4 e he; omega) (by omega) fun d2 c2 ho2 => ?_)
  have ho2_le := ho2.le
  repeat (first | simp only [RS0, RS1, RS2, RS3, RS4, reduceIte, Nat.reduceEqDiff, Nat.reduceAdd, Nat.reduceLeDiff, Nat.reduceLT, Nat.reduceMul, Int.reduceToNat, Int.reduceLT, Int.reduceLE, Int.reduceAdd, Int.reduceSub, Int.reduceMul, Int.reduceEq, Int.reduceNe, Nat.reduceSub, reduceCtorEq, boxF, if_true, if_false, forall_const, implies_true, ne_eq, ] | simp (disch := first | assumption | omega | (simp only [LS]; first | done | omega) | (simp only [List.not_mem_nil, List.mem_cons, or_false, not_false_eq_true, not_or]; first | done | omega)) only [CS] | simp only [condK_B, guardK_Bt, guardK_Bf])
  have hlen : (if msgOk m = true then msgText m else []).length ≤ 5000 := by
    split
    · rename_i hok; exact msgText_len hok
    · simp
  generalize ht : (if msgOk m = true then msgText m else []) = t at *
  refine EvK.of (impl_Decode_all t (by omega) fun d3 c3 we wc pe pc ho3 he2 hc2 hpe hpc hne => ?_)
  have ho3_le := ho3.le
  generalize hm2 : decM t = m2 at *
  generalize hb2 : decB t = b2 at *
  have hmc2 : ∀ x y, msgC m2 x y = [I m2.kind, I m2.src, I m2.dst, I m2.term, I m2.index, I m2.logTerm, I m2.commit, B m2.ok, x, y, T m2.data, B m2.last] := fun _ _ => rfl
  repeat (first | simp only [RS0, RS1, RS2, RS3, RS4, reduceIte, Nat.reduceEqDiff, Nat.reduceAdd, Nat.reduceLeDiff, Nat.reduceLT, Nat.reduceMul, Int.reduceToNat, Int.reduceLT, Int.reduceLE, Int.reduceAdd, Int.reduceSub, Int.reduceMul, Int.reduceEq, Int.reduceNe, Nat.reduceSub, reduceCtorEq, boxF, if_true, if_false, forall_const, implies_true, ne_eq, hmc, he.cl, hc.cl, he.isC, hc.isC, hmc2, he2.cl, hc2.cl, he2.isC, hc2.isC, ] | simp (disch := first | assumption | omega | (simp only [LS]; first | done | omega) | (simp only [List.not_mem_nil, List.mem_cons, or_false, not_false_eq_true, not_or]; first | done | omega)) only [CS, hmc, he.cl, hc.cl, he.isC, hc.isC, hmc2, he2.cl, hc2.cl, he2.isC, hc2.isC] | simp only [condK_B, guardK_Bt, guardK_Bf])
  refine EvK.of (spec_MessageOk_ok m ve vc oe oc (he.of_get (fun k hk => by have := hoe k hk; (first | simp (disch := first | assumption | omega | (simp only [LS]; first | done | omega) | (simp only [List.not_mem_nil, List.mem_cons, or_false, not_false_eq_true, not_or]; first | done | omega)) only [CS, RS3, RS4] | done))) (hc.of_get (fun k hk => by have := hoc k hk; (first | simp (disch := first | assumption | omega | (simp only [LS]; first | done | omega) | (simp only [List.not_mem_nil, List.mem_cons, or_false, not_false_eq_true, not_or]; first | done | omega)) only [CS, RS3, RS4] | done))) (fun k hk => by have := hoe k hk; omega) (fun k hk => by have := hoc k hk; omega) (by omega) (by omega) (fun e he => by have := hw4 e he; omega) (by omega) fun d4 c4 ho4 => ?_)
  have ho4_le := ho4.le
  repeat (first | simp only [RS0, RS1, RS2, RS3, RS4, reduceIte, Nat.reduceEqDiff, Nat.reduceAdd, Nat.reduceLeDiff, Nat.reduceLT, Nat.reduceMul, Int.reduceToNat, Int.reduceLT, Int.reduceLE, Int.reduceAdd, Int.reduceSub, Int.reduceMul, Int.reduceEq, Int.reduceNe, Nat.reduceSub, reduceCtorEq, boxF, if_true, if_false, forall_const, implies_true, ne_eq, beq_self_eq_true, ] | simp (disch := first | assumption | omega | (simp only [LS]; first | done | omega) | (simp only [List.not_mem_nil, List.mem_cons, or_false, not_false_eq_true, not_or]; first | done | omega)) only [CS, beq_self_eq_true] | simp only [condK_B, guardK_Bt, guardK_Bf])
  refine EvK.of (impl_MessageOk_ok m ve vc oe oc (he.of_get (fun k hk => by have := hoe k hk; (first | simp (disch := first | assumption | omega | (simp only [LS]; first | done | omega) | (simp only [List.not_mem_nil, List.mem_cons, or_false, not_false_eq_true, not_or]; first | done | omega)) only [CS, RS3, RS4] | done))) (hc.of_get (fun k hk => by have := hoc k hk; (first | simp (disch := first | assumption | omega | (simp only [LS]; first | done | omega) | (simp only [List.not_mem_nil, List.mem_cons, or_false, not_false_eq_true, not_or]; first | done | omega)) only [CS, RS3, RS4] | done))) (fun k hk => by have := hoe k hk; omega) (fun k hk => by have := hoc k hk; omega) (by omega) (by omega) (fun e he => by have := hw4 e he; omega) (by omega) fun d5 c5 ho5 => ?_)
  have ho5_le := ho5.le
  cases hok : msgOk m with
  | false =>
    repeat (first | simp only [RS0, RS1, RS2, RS3, RS4, reduceIte, Nat.reduceEqDiff, Nat.reduceAdd, Nat.reduceLeDiff, Nat.reduceLT, Nat.reduceMul, Int.reduceToNat, Int.reduceLT, Int.reduceLE, Int.reduceAdd, Int.reduceSub, Int.reduceMul, Int.reduceEq, Int.reduceNe, Nat.reduceSub, reduceCtorEq, boxF, if_true, if_false, forall_const, implies_true, ne_eq, beq_self_eq_true, ] | simp (disch := first | assumption | omega | (simp only [LS]; first | done | omega) | (simp only [List.not_mem_nil, List.mem_cons, or_false, not_false_eq_true, not_or]; first | done | omega)) only [CS, beq_self_eq_true] | simp only [condK_B, guardK_Bt, guardK_Bf])
    refine EvK.of (spec_DrawDecode_ok v ((hv (by omega)).of_get (by (first | simp (disch := first | assumption | omega | (simp only [LS]; first | done | omega) | (simp only [List.not_mem_nil, List.mem_cons, or_false, not_false_eq_true, not_or]; first | done | omega)) only [CS, RS3, RS4] | done))) (by omega) fun d6 c6 t ho6 htl => ?_)
    have ho6_le := ho6.le
    repeat (first | simp only [RS0, RS1, RS2, RS3, RS4, reduceIte, Nat.reduceEqDiff, Nat.reduceAdd, Nat.reduceLeDiff, Nat.reduceLT, Nat.reduceMul, Int.reduceToNat, Int.reduceLT, Int.reduceLE, Int.reduceAdd, Int.reduceSub, Int.reduceMul, Int.reduceEq, Int.reduceNe, Nat.reduceSub, reduceCtorEq, boxF, if_true, if_false, forall_const, implies_true, ne_eq, ] | simp (disch := first | assumption | omega | (simp only [LS]; first | done | omega) | (simp only [List.not_mem_nil, List.mem_cons, or_false, not_false_eq_true, not_or]; first | done | omega)) only [CS] | simp only [condK_B, guardK_Bt, guardK_Bf])
    refine EvK.of (impl_Decode_all t (by omega) fun d7 c7 xe xc qe qc ho7 he3 hc3 hqe hqc hne3 => ?_)
    have ho7_le := ho7.le
    have hinv : decB t = true → msgOk (decM t) = true ∧ msgText (decM t) = t := by
      intro hb
      unfold decB at hb
      unfold decM
      cases hI : decI t with
      | none => rw [hI] at hb; simp at hb
      | some m => exact decI_inv hI
    have hsm := decM_small t
    have hnd : decB t = false → decM t = msg0 := by
      intro hb
      unfold decB at hb
      unfold decM
      cases hI : decI t with
      | none => rfl
      | some m => rw [hI] at hb; simp at hb
    have hdl : (∀ e ∈ (decM t).entries, e.data.length ≤ 100000000) ∧ (decM t).data.length ≤ 100000000 := by
      cases hb : decB t with
      | false => rw [hnd hb]; simp [msg0]
      | true =>
        have g := msgB (hinv hb).1
        exact ⟨fun e he => by have := (entOk_bounds (g.ents e he)).2.2; omega, by have := g.data; omega⟩
    obtain ⟨hdl1, hdl2⟩ := hdl
    generalize hm3 : decM t = m3 at *
    generalize hb3 : decB t = b3 at *
    have hmc3 : ∀ x y, msgC m3 x y = [I m3.kind, I m3.src, I m3.dst, I m3.term, I m3.index, I m3.logTerm, I m3.commit, B m3.ok, x, y, T m3.data, B m3.last] := fun _ _ => rfl
    repeat (first | simp only [RS0, RS1, RS2, RS3, RS4, reduceIte, Nat.reduceEqDiff, Nat.reduceAdd, Nat.reduceLeDiff, Nat.reduceLT, Nat.reduceMul, Int.reduceToNat, Int.reduceLT, Int.reduceLE, Int.reduceAdd, Int.reduceSub, Int.reduceMul, Int.reduceEq, Int.reduceNe, Nat.reduceSub, reduceCtorEq, boxF, if_true, if_false, forall_const, implies_true, ne_eq, hmc3, he3.cl, hc3.cl, he3.isC, hc3.isC, ] | simp (disch := first | assumption | omega | (simp only [LS]; first | done | omega) | (simp only [List.not_mem_nil, List.mem_cons, or_false, not_false_eq_true, not_or]; first | done | omega)) only [CS, hmc3, he3.cl, hc3.cl, he3.isC, hc3.isC] | simp only [condK_B, guardK_Bt, guardK_Bf])
    refine EvK.of (spec_Decode_all t (by omega) fun d8 c8 ye yc re rc ho8 he4 hc4 hre hrc => ?_)
    have ho8_le := ho8.le
    rw [hm3] at he4 hc4 ⊢
    rw [hb3]
    repeat (first | simp only [RS0, RS1, RS2, RS3, RS4, reduceIte, Nat.reduceEqDiff, Nat.reduceAdd, Nat.reduceLeDiff, Nat.reduceLT, Nat.reduceMul, Int.reduceToNat, Int.reduceLT, Int.reduceLE, Int.reduceAdd, Int.reduceSub, Int.reduceMul, Int.reduceEq, Int.reduceNe, Nat.reduceSub, reduceCtorEq, boxF, if_true, if_false, forall_const, implies_true, ne_eq, hmc3, he3.cl, hc3.cl, he3.isC, hc3.isC, he4.cl, hc4.cl, he4.isC, hc4.isC, ] | simp (disch := first | assumption | omega | (simp only [LS]; first | done | omega) | (simp only [List.not_mem_nil, List.mem_cons, or_false, not_false_eq_true, not_or]; first | done | omega)) only [CS, hmc3, he3.cl, hc3.cl, he3.isC, hc3.isC, he4.cl, hc4.cl, he4.isC, hc4.isC] | simp only [condK_B, guardK_Bt, guardK_Bf])
    refine EvK.of (impl_Encode_ok m3 xe xc qe qc (he3.of_get (fun k hk => by have := hqe k hk; (first | simp (disch := first | assumption | omega | (simp only [LS]; first | done | omega) | (simp only [List.not_mem_nil, List.mem_cons, or_false, not_false_eq_true, not_or]; first | done | omega)) only [CS, RS3, RS4] | done))) (hc3.of_get (fun k hk => by have := hqc k hk; (first | simp (disch := first | assumption | omega | (simp only [LS]; first | done | omega) | (simp only [List.not_mem_nil, List.mem_cons, or_false, not_false_eq_true, not_or]; first | done | omega)) only [CS, RS3, RS4] | done))) (fun k hk => by have := hqe k hk; omega) (fun k hk => by have := hqc k hk; omega) (by omega) (by omega) hdl1 hdl2 fun d9 c9 ho9 => ?_)
    have ho9_le := ho9.le
    cases b3 with
    | false => repeat (first | simp only [RS0, RS1, RS2, RS3, RS4, reduceIte, Nat.reduceEqDiff, Nat.reduceAdd, Nat.reduceLeDiff, Nat.reduceLT, Nat.reduceMul, Int.reduceToNat, Int.reduceLT, Int.reduceLE, Int.reduceAdd, Int.reduceSub, Int.reduceMul, Int.reduceEq, Int.reduceNe, Nat.reduceSub, reduceCtorEq, boxF, if_true, if_false, forall_const, implies_true, ne_eq, beq_self_eq_true, ] | simp (disch := first | assumption | omega | (simp only [LS]; first | done | omega) | (simp only [List.not_mem_nil, List.mem_cons, or_false, not_false_eq_true, not_or]; first | done | omega)) only [CS, beq_self_eq_true] | simp only [condK_B, guardK_Bt, guardK_Bf])
    | true =>
      obtain ⟨g1, g2⟩ := hinv rfl
      rw [g1, if_pos rfl, g2]
      repeat (first | simp only [RS0, RS1, RS2, RS3, RS4, reduceIte, Nat.reduceEqDiff, Nat.reduceAdd, Nat.reduceLeDiff, Nat.reduceLT, Nat.reduceMul, Int.reduceToNat, Int.reduceLT, Int.reduceLE, Int.reduceAdd, Int.reduceSub, Int.reduceMul, Int.reduceEq, Int.reduceNe, Nat.reduceSub, reduceCtorEq, boxF, if_true, if_false, forall_const, implies_true, ne_eq, beq_self_eq_true, ] | simp (disch := first | assumption | omega | (simp only [LS]; first | done | omega) | (simp only [List.not_mem_nil, List.mem_cons, or_false, not_false_eq_true, not_or]; first | done | omega)) only [CS, beq_self_eq_true] | simp only [condK_B, guardK_Bt, guardK_Bf])
      simp
  | true =>
    rw [hok, if_pos rfl] at ht
    subst ht
    obtain ⟨e1, e2⟩ := decM_of hok
    rw [e1] at hm2
    subst hm2
    rw [e2] at hb2
    subst hb2
    repeat (first | simp only [RS0, RS1, RS2, RS3, RS4, reduceIte, Nat.reduceEqDiff, Nat.reduceAdd, Nat.reduceLeDiff, Nat.reduceLT, Nat.reduceMul, Int.reduceToNat, Int.reduceLT, Int.reduceLE, Int.reduceAdd, Int.reduceSub, Int.reduceMul, Int.reduceEq, Int.reduceNe, Nat.reduceSub, reduceCtorEq, boxF, if_true, if_false, forall_const, implies_true, ne_eq, beq_self_eq_true, ] | simp (disch := first | assumption | omega | (simp only [LS]; first | done | omega) | (simp only [List.not_mem_nil, List.mem_cons, or_false, not_false_eq_true, not_or]; first | done | omega)) only [CS, beq_self_eq_true] | simp only [condK_B, guardK_Bt, guardK_Bf])
    refine EvK.of (laws_sameMessage_ok m we wc ve vc pe pc oe oc (he2.of_get (fun k hk => by have := hpe k hk; (first | simp (disch := first | assumption | omega | (simp only [LS]; first | done | omega) | (simp only [List.not_mem_nil, List.mem_cons, or_false, not_false_eq_true, not_or]; first | done | omega)) only [CS, RS3, RS4] | done))) (hc2.of_get (fun k hk => by have := hpc k hk; (first | simp (disch := first | assumption | omega | (simp only [LS]; first | done | omega) | (simp only [List.not_mem_nil, List.mem_cons, or_false, not_false_eq_true, not_or]; first | done | omega)) only [CS, RS3, RS4] | done))) (he.of_get (fun k hk => by have := hoe k hk; (first | simp (disch := first | assumption | omega | (simp only [LS]; first | done | omega) | (simp only [List.not_mem_nil, List.mem_cons, or_false, not_false_eq_true, not_or]; first | done | omega)) only [CS, RS3, RS4] | done))) (hc.of_get (fun k hk => by have := hoc k hk; (first | simp (disch := first | assumption | omega | (simp only [LS]; first | done | omega) | (simp only [List.not_mem_nil, List.mem_cons, or_false, not_false_eq_true, not_or]; first | done | omega)) only [CS, RS3, RS4] | done))) (fun k hk => by have := hpe k hk; omega) (fun k hk => by have := hpc k hk; omega) (fun k hk => by have := hoe k hk; omega) (fun k hk => by have := hoc k hk; omega) (by omega) (by omega) fun d55 c55 ho55 => ?_)
    have ho55_le := ho55.le
    repeat (first | simp only [RS0, RS1, RS2, RS3, RS4, reduceIte, Nat.reduceEqDiff, Nat.reduceAdd, Nat.reduceLeDiff, Nat.reduceLT, Nat.reduceMul, Int.reduceToNat, Int.reduceLT, Int.reduceLE, Int.reduceAdd, Int.reduceSub, Int.reduceMul, Int.reduceEq, Int.reduceNe, Nat.reduceSub, reduceCtorEq, boxF, if_true, if_false, forall_const, implies_true, ne_eq, beq_self_eq_true, ] | simp (disch := first | assumption | omega | (simp only [LS]; first | done | omega) | (simp only [List.not_mem_nil, List.mem_cons, or_false, not_false_eq_true, not_or]; first | done | omega)) only [CS, beq_self_eq_true] | simp only [condK_B, guardK_Bt, guardK_Bf])
    refine EvK.of (spec_DrawDecode_ok v ((hv (by omega)).of_get (by (first | simp (disch := first | assumption | omega | (simp only [LS]; first | done | omega) | (simp only [List.not_mem_nil, List.mem_cons, or_false, not_false_eq_true, not_or]; first | done | omega)) only [CS, RS3, RS4] | done))) (by omega) fun d6 c6 t ho6 htl => ?_)
    have ho6_le := ho6.le
    repeat (first | simp only [RS0, RS1, RS2, RS3, RS4, reduceIte, Nat.reduceEqDiff, Nat.reduceAdd, Nat.reduceLeDiff, Nat.reduceLT, Nat.reduceMul, Int.reduceToNat, Int.reduceLT, Int.reduceLE, Int.reduceAdd, Int.reduceSub, Int.reduceMul, Int.reduceEq, Int.reduceNe, Nat.reduceSub, reduceCtorEq, boxF, if_true, if_false, forall_const, implies_true, ne_eq, ] | simp (disch := first | assumption | omega | (simp only [LS]; first | done | omega) | (simp only [List.not_mem_nil, List.mem_cons, or_false, not_false_eq_true, not_or]; first | done | omega)) only [CS] | simp only [condK_B, guardK_Bt, guardK_Bf])
    refine EvK.of (impl_Decode_all t (by omega) fun d7 c7 xe xc qe qc ho7 he3 hc3 hqe hqc hne3 => ?_)
    have ho7_le := ho7.le
    have hinv : decB t = true → msgOk (decM t) = true ∧ msgText (decM t) = t := by
      intro hb
      unfold decB at hb
      unfold decM
      cases hI : decI t with
      | none => rw [hI] at hb; simp at hb
      | some m => exact decI_inv hI
    have hsm := decM_small t
    have hnd : decB t = false → decM t = msg0 := by
      intro hb
      unfold decB at hb
      unfold decM
      cases hI : decI t with
      | none => rfl
      | some m => rw [hI] at hb; simp at hb
    have hdl : (∀ e ∈ (decM t).entries, e.data.length ≤ 100000000) ∧ (decM t).data.length ≤ 100000000 := by
      cases hb : decB t with
      | false => rw [hnd hb]; simp [msg0]
      | true =>
        have g := msgB (hinv hb).1
        exact ⟨fun e he => by have := (entOk_bounds (g.ents e he)).2.2; omega, by have := g.data; omega⟩
    obtain ⟨hdl1, hdl2⟩ := hdl
    generalize hm3 : decM t = m3 at *
    generalize hb3 : decB t = b3 at *
    have hmc3 : ∀ x y, msgC m3 x y = [I m3.kind, I m3.src, I m3.dst, I m3.term, I m3.index, I m3.logTerm, I m3.commit, B m3.ok, x, y, T m3.data, B m3.last] := fun _ _ => rfl
    repeat (first | simp only [RS0, RS1, RS2, RS3, RS4, reduceIte, Nat.reduceEqDiff, Nat.reduceAdd, Nat.reduceLeDiff, Nat.reduceLT, Nat.reduceMul, Int.reduceToNat, Int.reduceLT, Int.reduceLE, Int.reduceAdd, Int.reduceSub, Int.reduceMul, Int.reduceEq, Int.reduceNe, Nat.reduceSub, reduceCtorEq, boxF, if_true, if_false, forall_const, implies_true, ne_eq, hmc3, he3.cl, hc3.cl, he3.isC, hc3.isC, ] | simp (disch := first | assumption | omega | (simp only [LS]; first | done | omega) | (simp only [List.not_mem_nil, List.mem_cons, or_false, not_false_eq_true, not_or]; first | done | omega)) only [CS, hmc3, he3.cl, hc3.cl, he3.isC, hc3.isC] | simp only [condK_B, guardK_Bt, guardK_Bf])
    refine EvK.of (spec_Decode_all t (by omega) fun d8 c8 ye yc re rc ho8 he4 hc4 hre hrc => ?_)
    have ho8_le := ho8.le
    rw [hm3] at he4 hc4 ⊢
    rw [hb3]
    repeat (first | simp only [RS0, RS1, RS2, RS3, RS4, reduceIte, Nat.reduceEqDiff, Nat.reduceAdd, Nat.reduceLeDiff, Nat.reduceLT, Nat.reduceMul, Int.reduceToNat, Int.reduceLT, Int.reduceLE, Int.reduceAdd, Int.reduceSub, Int.reduceMul, Int.reduceEq, Int.reduceNe, Nat.reduceSub, reduceCtorEq, boxF, if_true, if_false, forall_const, implies_true, ne_eq, hmc3, he3.cl, hc3.cl, he3.isC, hc3.isC, he4.cl, hc4.cl, he4.isC, hc4.isC, ] | simp (disch := first | assumption | omega | (simp only [LS]; first | done | omega) | (simp only [List.not_mem_nil, List.mem_cons, or_false, not_false_eq_true, not_or]; first | done | omega)) only [CS, hmc3, he3.cl, hc3.cl, he3.isC, hc3.isC, he4.cl, hc4.cl, he4.isC, hc4.isC] | simp only [condK_B, guardK_Bt, guardK_Bf])
    refine EvK.of (impl_Encode_ok m3 xe xc qe qc (he3.of_get (fun k hk => by have := hqe k hk; (first | simp (disch := first | assumption | omega | (simp only [LS]; first | done | omega) | (simp only [List.not_mem_nil, List.mem_cons, or_false, not_false_eq_true, not_or]; first | done | omega)) only [CS, RS3, RS4] | done))) (hc3.of_get (fun k hk => by have := hqc k hk; (first | simp (disch := first | assumption | omega | (simp only [LS]; first | done | omega) | (simp only [List.not_mem_nil, List.mem_cons, or_false, not_false_eq_true, not_or]; first | done | omega)) only [CS, RS3, RS4] | done))) (fun k hk => by have := hqe k hk; omega) (fun k hk => by have := hqc k hk; omega) (by omega) (by omega) hdl1 hdl2 fun d9 c9 ho9 => ?_)
    have ho9_le := ho9.le
    cases b3 with
    | false => repeat (first | simp only [RS0, RS1, RS2, RS3, RS4, reduceIte, Nat.reduceEqDiff, Nat.reduceAdd, Nat.reduceLeDiff, Nat.reduceLT, Nat.reduceMul, Int.reduceToNat, Int.reduceLT, Int.reduceLE, Int.reduceAdd, Int.reduceSub, Int.reduceMul, Int.reduceEq, Int.reduceNe, Nat.reduceSub, reduceCtorEq, boxF, if_true, if_false, forall_const, implies_true, ne_eq, beq_self_eq_true, ] | simp (disch := first | assumption | omega | (simp only [LS]; first | done | omega) | (simp only [List.not_mem_nil, List.mem_cons, or_false, not_false_eq_true, not_or]; first | done | omega)) only [CS, beq_self_eq_true] | simp only [condK_B, guardK_Bt, guardK_Bf])
    | true =>
      obtain ⟨g1, g2⟩ := hinv rfl
      rw [g1, if_pos rfl, g2]
      repeat (first | simp only [RS0, RS1, RS2, RS3, RS4, reduceIte, Nat.reduceEqDiff, Nat.reduceAdd, Nat.reduceLeDiff, Nat.reduceLT, Nat.reduceMul, Int.reduceToNat, Int.reduceLT, Int.reduceLE, Int.reduceAdd, Int.reduceSub, Int.reduceMul, Int.reduceEq, Int.reduceNe, Nat.reduceSub, reduceCtorEq, boxF, if_true, if_false, forall_const, implies_true, ne_eq, beq_self_eq_true, ] | simp (disch := first | assumption | omega | (simp only [LS]; first | done | omega) | (simp only [List.not_mem_nil, List.mem_cons, or_false, not_false_eq_true, not_or]; first | done | omega)) only [CS, beq_self_eq_true] | simp only [condK_B, guardK_Bt, guardK_Bf])
      simp
end
end Go.Proofs.Ytfcglkajekohiaa
