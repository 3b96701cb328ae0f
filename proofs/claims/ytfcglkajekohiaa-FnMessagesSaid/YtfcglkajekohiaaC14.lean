/- Contracts: texts of messages. -/
import Derived.Test.YtfcglkajekohiaaC13
set_option linter.unusedSimpArgs false
set_option linter.unusedVariables false
set_option maxRecDepth 20000
namespace Go.Proofs.Ytfcglkajekohiaa
open Go Go.Proofs.Ytfcglkajekohiaa.AM

def shortT (t : List UInt8) : List UInt8 := varL t.length ++ t
def entT (e : Ent) : List UInt8 := if entTextOk 1 e = true then entText 1 e else []
def confT (l : List Int) : List UInt8 := if confOk l = true then confText l else []
def flagT (b : Bool) : List UInt8 := [if b = true then 1 else 0]
def headT (m : Msg) : List UInt8 := [by8 m.kind, by8 m.src, by8 m.dst] ++ varL m.term.toNat ++ varL m.index.toNat ++ varL m.logTerm.toNat ++ varL m.commit.toNat ++ flagT m.ok ++ flagT m.last ++ varL m.entries.length
def encE (l : List Ent) : List UInt8 := l.flatMap fun e => shortT (entT e)
def msgText (m : Msg) : List UInt8 := headT m ++ encE m.entries ++ shortT (confT m.conf) ++ shortT m.data

theorem varL_len100 {n : Nat} (h : n ≤ 9223372036854775807) : (varL n).length ≤ 10 := by
  have := varL_len10 n (by omega); simpa using this
theorem entT_len {e : Ent} (h : e.data.length ≤ 100000000) : (entT e).length ≤ 100000030 := by
  unfold entT
  split
  · rename_i g
    have hk : entOk e = true := by unfold entTextOk at g; simp only [Bool.and_eq_true] at g; exact g.1
    have := entOk_term hk
    have l1 := varL_len10 1 (by omega)
    have l2 := varL_len10 e.term (by omega)
    simp only [entText, List.length_append, List.length_cons, List.length_nil]
    omega
  · simp
theorem shortT_len {t : List UInt8} (h : t.length ≤ 1000000000) : (shortT t).length ≤ t.length + 10 := by
  have := varL_len100 (n := t.length) (by omega)
  simp only [shortT, List.length_append]; omega
theorem encE_len {l : List Ent} (h : ∀ e ∈ l, e.data.length ≤ 100000000) : (encE l).length ≤ l.length * 100000040 := by
  induction l with
  | nil => simp [encE]
  | cons e l ih =>
    have h1 := ih (fun x hx => h x (List.mem_cons_of_mem _ hx))
    have h2 := entT_len (h e (by simp))
    have h3 := shortT_len (t := entT e) (by omega)
    simp only [encE, List.flatMap_cons, List.length_append, List.length_cons] at h1 ⊢
    omega
theorem confT_len (l : List Int) : (confT l).length ≤ l.length := by
  unfold confT; split
  · simp [confText]
  · simp

section
variable {prim : Nat → List Value → Option Value} {H : AHeap} {c : Nat} {Q : Value → AHeap → Nat → Prop}

theorem spec_l17Flag_rw {G : AHeap} {kt : Kt} {dst : Option Nat} {ts : TS} {u : AHeap} {Q : AExit → St → Prop} (b : Bool) : EvK (tbl prim) H n_spec_l17Flag [B b] G c kt dst ts u Q ↔ fin (tbl prim) H kt dst ts u c (T (flagT b)) [] c Q := EvK.iff fun _ h => spec_l17Flag_ok b h

theorem spec_Encode_L0_ok (m : Msg) (ve vc : Value) (oe : Option Nat) (he : SlR H 3 ve (entsC m.entries) oe) (hoe : ∀ b, oe = some b → b < c)
    (hld : ∀ e ∈ m.entries, e.data.length ≤ 100000000) (hl : m.entries.length ≤ 4) {K : List AM.Frame} {R : AExit → St → Prop} {ts : TS} {u : AHeap} {c1 : Nat} (pre : List UInt8) (hpre : pre.length ≤ 1000)
    (h1 : ts 1 = P c 0) (h4 : ts 4 = T pre) (h5 : ts 5 = I 0) (hg : get (u ++ H) c = some ⟨msgC m ve vc, 0, false⟩) (ho : Own [] u c c1) (hcc : c < c1)
    (hT : ∀ ts u c1, ts 1 = P c 0 → ts 4 = T (pre ++ encE m.entries) → get (u ++ H) c = some ⟨msgC m ve vc, 0, false⟩ → Own [] u c c1 → c < c1 → post (tbl prim) H K R (.exit 0) ⟨ts, u, c1⟩) : Wloop (tbl prim) H g_spec_Encode_L0 K ⟨ts, u, c1⟩ R := by
  have hle := he.len (ents_len _) (by omega)
  refine Wloop.of (fun k s => ∃ (i : Nat), s.ts 1 = P c 0 ∧ s.ts 4 = T (pre ++ encE (m.entries.take i)) ∧ s.ts 5 = I i ∧ k = m.entries.length - i ∧ i ≤ m.entries.length ∧ get (s.u ++ H) c = some ⟨msgC m ve vc, 0, false⟩ ∧ Own [] s.u c s.c ∧ c < s.c)
    ?_ (n := m.entries.length) ⟨0, h1, by simpa [encE] using h4, by simpa using h5, rfl, by omega, hg, ho, hcc⟩
  clear h1 h4 h5 hg ho hcc
  rintro k ⟨ts, u, c1⟩ ⟨i, h1, h4, h5, rfl, hi, hg, ho, hcc⟩ R hR hE
  simp only at h1 h4 h5 hg ho hcc
  simp only [msgC] at hg
  have he2 := he.own ho (fun b e => ⟨hoe b e, by simp⟩)
  by_cases hin : i < m.entries.length
  · obtain ⟨b, ro, hbc, hob, hia, hgb⟩ := he2.el hoe (ents_len _) (by omega) (k := .i64) hin
    have hinT : ((i : Int) < m.entries.length) = True := eq_true (by omega)
    have hd := hld m.entries[i] (List.getElem_mem hin)
    have hb1 := entT_len hd
    have hb2 := encE_len (l := m.entries.take i) (fun e he => hld e (List.mem_of_mem_take he))
    have hb3 : (m.entries.take i).length ≤ 4 := by simp; omega
    have hb4 := shortT_len (t := entT m.entries[i]) (by omega)
    repeat (first | simp only [RS0, RS1, RS2, RS3, RS4, reduceIte, Nat.reduceEqDiff, Nat.reduceAdd, Nat.reduceLeDiff, Nat.reduceLT, Nat.reduceMul, Int.reduceToNat, Int.reduceLT, Int.reduceLE, Int.reduceAdd, Int.reduceSub, Int.reduceMul, Int.reduceEq, Int.reduceNe, Nat.reduceSub, reduceCtorEq, boxF, if_true, if_false, forall_const, implies_true, ne_eq, g_spec_Encode_L0, h1, h4, h5, hg, hle, hia, hgb, ents_len, ents_N hin, hinT, spec_l01In_rw, impl_within_rw, impl_isNode_rw, impl_isTerm_rw, impl_isIndex_rw, spec_l17Flag_rw] | simp (disch := first | assumption | omega | (simp only [LS] <;> omega) | (simp only [List.not_mem_nil, List.mem_cons, or_false, not_false_eq_true, not_or] <;> omega)) only [CS, g_spec_Encode_L0, h1, h4, h5, hg, hle, hia, hgb, ents_len, ents_N hin, hinT] | simp only [condK_B, guardK_Bt, guardK_Bf])
    refine ⟨by omega, ?_⟩
    refine EvK.of (spec_EntryText_ok 1 m.entries[i] hd fun d2 c2 ho2 => ?_)
    have ho2_le := ho2.le
    repeat (first | simp only [RS0, RS1, RS2, RS3, RS4, reduceIte, Nat.reduceEqDiff, Nat.reduceAdd, Nat.reduceLeDiff, Nat.reduceLT, Nat.reduceMul, Int.reduceToNat, Int.reduceLT, Int.reduceLE, Int.reduceAdd, Int.reduceSub, Int.reduceMul, Int.reduceEq, Int.reduceNe, Nat.reduceSub, reduceCtorEq, boxF, if_true, if_false, forall_const, implies_true, ne_eq, h1, h4, spec_l01In_rw, impl_within_rw, impl_isNode_rw, impl_isTerm_rw, impl_isIndex_rw, spec_l17Flag_rw] | simp (disch := first | assumption | omega | (simp only [LS] <;> omega) | (simp only [List.not_mem_nil, List.mem_cons, or_false, not_false_eq_true, not_or] <;> omega)) only [CS, h1, h4] | simp only [condK_B, guardK_Bt, guardK_Bf])
    refine EvK.of (spec_l05Short_ok (entT m.entries[i]) (by omega) fun d3 c3 ho3 => ?_)
    have ho3_le := ho3.le
    repeat (first | simp only [RS0, RS1, RS2, RS3, RS4, reduceIte, Nat.reduceEqDiff, Nat.reduceAdd, Nat.reduceLeDiff, Nat.reduceLT, Nat.reduceMul, Int.reduceToNat, Int.reduceLT, Int.reduceLE, Int.reduceAdd, Int.reduceSub, Int.reduceMul, Int.reduceEq, Int.reduceNe, Nat.reduceSub, reduceCtorEq, boxF, if_true, if_false, forall_const, implies_true, ne_eq, h1, h4, h5, spec_l01In_rw, impl_within_rw, impl_isNode_rw, impl_isTerm_rw, impl_isIndex_rw, spec_l17Flag_rw] | simp (disch := first | assumption | omega | (simp only [LS] <;> omega) | (simp only [List.not_mem_nil, List.mem_cons, or_false, not_false_eq_true, not_or] <;> omega)) only [CS, h1, h4, h5] | simp only [condK_B, guardK_Bt, guardK_Bf])
    simp only [shortT, List.length_append] at hb4
    refine ⟨by omega, hR (m.entries.length - (i + 1)) _ (by omega) ⟨i + 1, by simp [h1], ?_, by simp, rfl, by omega, by simp (disch := first | assumption | omega | (simp only [LS] <;> omega) | (simp only [List.not_mem_nil, List.mem_cons, or_false, not_false_eq_true, not_or] <;> omega)) only [CS, hg, msgC, RS3, RS4], by ((try dsimp only); refine Own.of (by omega) ?_; repeat (first | exact OwnK.nil | refine OwnK.cons (.inl (by omega)) ?_ | refine OwnK.kill (fun b hb => .inl (by have := hoe b hb; omega)) ?_ | refine OwnK.cons (.inr (by simp)) ?_ | exact OwnK.one (by assumption) (by omega) (by omega) (by simp <;> omega) | refine OwnK.app (by assumption) (by omega) (by omega) (by simp <;> omega) ?_)), by (try dsimp only); omega⟩⟩
    have : encE (m.entries.take (i + 1)) = encE (m.entries.take i) ++ (varL (entT m.entries[i]).length ++ entT m.entries[i]) := by
      rw [List.take_succ_eq_append_getElem hin]; simp only [encE, List.flatMap_append, List.flatMap_cons, List.flatMap_nil, List.append_nil, shortT]
    rw [this]; simp
  · have hinF : ((i : Int) < m.entries.length) = False := eq_false (by omega)
    rw [List.take_of_length_le (by omega)] at h4
    repeat (first | simp only [RS0, RS1, RS2, RS3, RS4, reduceIte, Nat.reduceEqDiff, Nat.reduceAdd, Nat.reduceLeDiff, Nat.reduceLT, Nat.reduceMul, Int.reduceToNat, Int.reduceLT, Int.reduceLE, Int.reduceAdd, Int.reduceSub, Int.reduceMul, Int.reduceEq, Int.reduceNe, Nat.reduceSub, reduceCtorEq, boxF, if_true, if_false, forall_const, implies_true, ne_eq, g_spec_Encode_L0, h1, h4, h5, hg, hle, hinF, spec_l01In_rw, impl_within_rw, impl_isNode_rw, impl_isTerm_rw, impl_isIndex_rw, spec_l17Flag_rw] | simp (disch := first | assumption | omega | (simp only [LS] <;> omega) | (simp only [List.not_mem_nil, List.mem_cons, or_false, not_false_eq_true, not_or] <;> omega)) only [CS, g_spec_Encode_L0, h1, h4, h5, hg, hle, hinF] | simp only [condK_B, guardK_Bt, guardK_Bf])
    exact hE _ _ (by decide) (hT _ _ _ (by simp [h1]) (by simp [h4]) hg ho hcc)

theorem spec_Encode_ok (m : Msg) (ve vc : Value) (oe oc : Option Nat) (he : SlR H 3 ve (entsC m.entries) oe) (hc : SlR H 1 vc (m.conf.map I) oc) (hoe : ∀ b, oe = some b → b < c) (hoc : ∀ b, oc = some b → b < c)
    (hl : m.entries.length ≤ 100000000) (hbc : m.conf.length ≤ 100000000) (hld : ∀ e ∈ m.entries, e.data.length ≤ 100000000) (hd : m.data.length ≤ 100000000)
    (h : ∀ d c', Own [] d c c' → Q (.tuple ⟨[T (if msgOk m = true then msgText m else []), B (msgOk m)]⟩) d c') : Ev (tbl prim) n_spec_Encode [ag (msgC m ve vc)] H c Q := by
  refine Ev.fn (s_spec_Encode prim) rfl ?_
  have hle := he.len (ents_len _) (by omega)
  repeat (first | simp only [RS0, RS1, RS2, RS3, RS4, reduceIte, Nat.reduceEqDiff, Nat.reduceAdd, Nat.reduceLeDiff, Nat.reduceLT, Nat.reduceMul, Int.reduceToNat, Int.reduceLT, Int.reduceLE, Int.reduceAdd, Int.reduceSub, Int.reduceMul, Int.reduceEq, Int.reduceNe, Nat.reduceSub, reduceCtorEq, boxF, if_true, if_false, forall_const, implies_true, ne_eq, g_spec_Encode, msgC, he.cl, hc.cl, he.isC, hc.isC, spec_l01In_rw, impl_within_rw, impl_isNode_rw, impl_isTerm_rw, impl_isIndex_rw, spec_l17Flag_rw] | simp (disch := first | assumption | omega | (simp only [LS] <;> omega) | (simp only [List.not_mem_nil, List.mem_cons, or_false, not_false_eq_true, not_or] <;> omega)) only [CS, g_spec_Encode, msgC, he.cl, hc.cl, he.isC, hc.isC] | simp only [condK_B, guardK_Bt, guardK_Bf])
  have he1 : SlR ((c, some ⟨msgC m ve vc, 0, false⟩) :: H) 3 ve (entsC m.entries) oe := he.own (d := [(c, _)]) ((Own.nil (S := []) c).new) (fun b e => ⟨hoe b e, by simp⟩)
  have hc1 : SlR ((c, some ⟨msgC m ve vc, 0, false⟩) :: H) 1 vc (m.conf.map I) oc := hc.own (d := [(c, _)]) ((Own.nil (S := []) c).new) (fun b e => ⟨hoc b e, by simp⟩)
  refine EvK.of (spec_MessageOk_ok m ve vc oe oc he1 hc1 (fun b e => by have := hoe b e; omega) (fun b e => by have := hoc b e; omega) hl hbc hld hd fun d1 c1 ho1 => ?_)
  have ho1_le := ho1.le
  cases hok : msgOk m with
  | false =>
    simp only [hok] at h
    repeat (first | simp only [RS0, RS1, RS2, RS3, RS4, reduceIte, Nat.reduceEqDiff, Nat.reduceAdd, Nat.reduceLeDiff, Nat.reduceLT, Nat.reduceMul, Int.reduceToNat, Int.reduceLT, Int.reduceLE, Int.reduceAdd, Int.reduceSub, Int.reduceMul, Int.reduceEq, Int.reduceNe, Nat.reduceSub, reduceCtorEq, boxF, if_true, if_false, forall_const, implies_true, ne_eq, spec_l01In_rw, impl_within_rw, impl_isNode_rw, impl_isTerm_rw, impl_isIndex_rw, spec_l17Flag_rw] | simp (disch := first | assumption | omega | (simp only [LS] <;> omega) | (simp only [List.not_mem_nil, List.mem_cons, or_false, not_false_eq_true, not_or] <;> omega)) only [CS] | simp only [condK_B, guardK_Bt, guardK_Bf])
    exact h _ _ (by ((try dsimp only); refine Own.of (by omega) ?_; repeat (first | exact OwnK.nil | refine OwnK.cons (.inl (by omega)) ?_ | refine OwnK.kill (fun b hb => .inl (by have := hoe b hb; omega)) ?_ | refine OwnK.cons (.inr (by simp)) ?_ | exact OwnK.one (by assumption) (by omega) (by omega) (by simp <;> omega) | refine OwnK.app (by assumption) (by omega) (by omega) (by simp <;> omega) ?_)))
  | true =>
    simp only [hok, if_true] at h
    have hmid : msgHead m ∧ msgMid m := by simp only [msgOk, Bool.and_eq_true, decide_eq_true_eq] at hok; exact hok.1.1
    obtain ⟨hhead, hmid⟩ := hmid
    unfold msgHead at hhead
    unfold msgMid at hmid
    repeat (first | simp only [RS0, RS1, RS2, RS3, RS4, reduceIte, Nat.reduceEqDiff, Nat.reduceAdd, Nat.reduceLeDiff, Nat.reduceLT, Nat.reduceMul, Int.reduceToNat, Int.reduceLT, Int.reduceLE, Int.reduceAdd, Int.reduceSub, Int.reduceMul, Int.reduceEq, Int.reduceNe, Nat.reduceSub, reduceCtorEq, boxF, if_true, if_false, forall_const, implies_true, ne_eq, spec_l01In_rw, impl_within_rw, impl_isNode_rw, impl_isTerm_rw, impl_isIndex_rw, spec_l17Flag_rw] | simp (disch := first | assumption | omega | (simp only [LS] <;> omega) | (simp only [List.not_mem_nil, List.mem_cons, or_false, not_false_eq_true, not_or] <;> omega)) only [CS] | simp only [condK_B, guardK_Bt, guardK_Bf])
    have l1 := varL_len10 m.term (by omega)
    refine EvK.of (spec_l01Var_ok m.term (by omega) (by omega) fun d2 c2 ho2 => ?_)
    have ho2_le := ho2.le
    repeat (first | simp only [RS0, RS1, RS2, RS3, RS4, reduceIte, Nat.reduceEqDiff, Nat.reduceAdd, Nat.reduceLeDiff, Nat.reduceLT, Nat.reduceMul, Int.reduceToNat, Int.reduceLT, Int.reduceLE, Int.reduceAdd, Int.reduceSub, Int.reduceMul, Int.reduceEq, Int.reduceNe, Nat.reduceSub, reduceCtorEq, boxF, if_true, if_false, forall_const, implies_true, ne_eq, hle, spec_l01In_rw, impl_within_rw, impl_isNode_rw, impl_isTerm_rw, impl_isIndex_rw, spec_l17Flag_rw] | simp (disch := first | assumption | omega | (simp only [LS] <;> omega) | (simp only [List.not_mem_nil, List.mem_cons, or_false, not_false_eq_true, not_or] <;> omega)) only [CS, hle] | simp only [condK_B, guardK_Bt, guardK_Bf])
    refine ⟨by omega, ?_⟩
    have l2 := varL_len10 m.index (by omega)
    refine EvK.of (spec_l01Var_ok m.index (by omega) (by omega) fun d3 c3 ho3 => ?_)
    have ho3_le := ho3.le
    repeat (first | simp only [RS0, RS1, RS2, RS3, RS4, reduceIte, Nat.reduceEqDiff, Nat.reduceAdd, Nat.reduceLeDiff, Nat.reduceLT, Nat.reduceMul, Int.reduceToNat, Int.reduceLT, Int.reduceLE, Int.reduceAdd, Int.reduceSub, Int.reduceMul, Int.reduceEq, Int.reduceNe, Nat.reduceSub, reduceCtorEq, boxF, if_true, if_false, forall_const, implies_true, ne_eq, hle, spec_l01In_rw, impl_within_rw, impl_isNode_rw, impl_isTerm_rw, impl_isIndex_rw, spec_l17Flag_rw] | simp (disch := first | assumption | omega | (simp only [LS] <;> omega) | (simp only [List.not_mem_nil, List.mem_cons, or_false, not_false_eq_true, not_or] <;> omega)) only [CS, hle] | simp only [condK_B, guardK_Bt, guardK_Bf])
    refine ⟨by omega, ?_⟩
    have l3 := varL_len10 m.logTerm (by omega)
    refine EvK.of (spec_l01Var_ok m.logTerm (by omega) (by omega) fun d4 c4 ho4 => ?_)
    have ho4_le := ho4.le
    repeat (first | simp only [RS0, RS1, RS2, RS3, RS4, reduceIte, Nat.reduceEqDiff, Nat.reduceAdd, Nat.reduceLeDiff, Nat.reduceLT, Nat.reduceMul, Int.reduceToNat, Int.reduceLT, Int.reduceLE, Int.reduceAdd, Int.reduceSub, Int.reduceMul, Int.reduceEq, Int.reduceNe, Nat.reduceSub, reduceCtorEq, boxF, if_true, if_false, forall_const, implies_true, ne_eq, hle, spec_l01In_rw, impl_within_rw, impl_isNode_rw, impl_isTerm_rw, impl_isIndex_rw, spec_l17Flag_rw] | simp (disch := first | assumption | omega | (simp only [LS] <;> omega) | (simp only [List.not_mem_nil, List.mem_cons, or_false, not_false_eq_true, not_or] <;> omega)) only [CS, hle] | simp only [condK_B, guardK_Bt, guardK_Bf])
    refine ⟨by omega, ?_⟩
    have l4 := varL_len10 m.commit (by omega)
    refine EvK.of (spec_l01Var_ok m.commit (by omega) (by omega) fun d5 c5 ho5 => ?_)
    have ho5_le := ho5.le
    repeat (first | simp only [RS0, RS1, RS2, RS3, RS4, reduceIte, Nat.reduceEqDiff, Nat.reduceAdd, Nat.reduceLeDiff, Nat.reduceLT, Nat.reduceMul, Int.reduceToNat, Int.reduceLT, Int.reduceLE, Int.reduceAdd, Int.reduceSub, Int.reduceMul, Int.reduceEq, Int.reduceNe, Nat.reduceSub, reduceCtorEq, boxF, if_true, if_false, forall_const, implies_true, ne_eq, hle, flagT, spec_l01In_rw, impl_within_rw, impl_isNode_rw, impl_isTerm_rw, impl_isIndex_rw, spec_l17Flag_rw] | simp (disch := first | assumption | omega | (simp only [LS] <;> omega) | (simp only [List.not_mem_nil, List.mem_cons, or_false, not_false_eq_true, not_or] <;> omega)) only [CS, hle, flagT] | simp only [condK_B, guardK_Bt, guardK_Bf])
    refine ⟨by omega, by omega, by omega, ?_⟩
    have l5 := varL_len100 (n := m.entries.length) (by omega)
    refine EvK.of (spec_l01Var_ok m.entries.length (by omega) (by omega) fun d6 c6 ho6 => ?_)
    have ho6_le := ho6.le
    repeat (first | simp only [RS0, RS1, RS2, RS3, RS4, reduceIte, Nat.reduceEqDiff, Nat.reduceAdd, Nat.reduceLeDiff, Nat.reduceLT, Nat.reduceMul, Int.reduceToNat, Int.reduceLT, Int.reduceLE, Int.reduceAdd, Int.reduceSub, Int.reduceMul, Int.reduceEq, Int.reduceNe, Nat.reduceSub, reduceCtorEq, boxF, if_true, if_false, forall_const, implies_true, ne_eq, hle, flagT, spec_l01In_rw, impl_within_rw, impl_isNode_rw, impl_isTerm_rw, impl_isIndex_rw, spec_l17Flag_rw] | simp (disch := first | assumption | omega | (simp only [LS] <;> omega) | (simp only [List.not_mem_nil, List.mem_cons, or_false, not_false_eq_true, not_or] <;> omega)) only [CS, hle, flagT] | simp only [condK_B, guardK_Bt, guardK_Bf])
    refine ⟨by omega, ?_⟩
    have hhl : (headT m).length ≤ 1000 := by simp only [headT, flagT, List.length_append, List.length_cons, List.length_nil]; omega
    refine spec_Encode_L0_ok m ve vc oe he hoe hld hmid.2.2.1 (headT m) hhl (by simp) (by simp [headT, flagT]) (by simp) (by simp (disch := first | assumption | omega | (simp only [LS] <;> omega) | (simp only [List.not_mem_nil, List.mem_cons, or_false, not_false_eq_true, not_or] <;> omega)) only [CS, msgC, RS3, RS4]) (by ((try dsimp only); refine Own.of (by omega) ?_; repeat (first | exact OwnK.nil | refine OwnK.cons (.inl (by omega)) ?_ | refine OwnK.kill (fun b hb => .inl (by have := hoe b hb; omega)) ?_ | refine OwnK.cons (.inr (by simp)) ?_ | exact OwnK.one (by assumption) (by omega) (by omega) (by simp <;> omega) | refine OwnK.app (by assumption) (by omega) (by omega) (by simp <;> omega) ?_))) (by (try dsimp only); omega) (fun ts u c1 h1 h4 hg ho hcc => ?_)
    simp only [msgC] at hg
    have hc2 := hc.own ho (fun b e => ⟨hoc b e, by simp⟩)
    repeat (first | simp only [RS0, RS1, RS2, RS3, RS4, reduceIte, Nat.reduceEqDiff, Nat.reduceAdd, Nat.reduceLeDiff, Nat.reduceLT, Nat.reduceMul, Int.reduceToNat, Int.reduceLT, Int.reduceLE, Int.reduceAdd, Int.reduceSub, Int.reduceMul, Int.reduceEq, Int.reduceNe, Nat.reduceSub, reduceCtorEq, boxF, if_true, if_false, forall_const, implies_true, ne_eq, h1, h4, hg, spec_l01In_rw, impl_within_rw, impl_isNode_rw, impl_isTerm_rw, impl_isIndex_rw, spec_l17Flag_rw] | simp (disch := first | assumption | omega | (simp only [LS] <;> omega) | (simp only [List.not_mem_nil, List.mem_cons, or_false, not_false_eq_true, not_or] <;> omega)) only [CS, h1, h4, hg] | simp only [condK_B, guardK_Bt, guardK_Bf])
    refine EvK.of (spec_ConfText_ok vc m.conf oc hc2 (fun b e => by have := hoc b e; omega) (by omega) fun d7 c7 ho7 => ?_)
    have ho7_le := ho7.le
    repeat (first | simp only [RS0, RS1, RS2, RS3, RS4, reduceIte, Nat.reduceEqDiff, Nat.reduceAdd, Nat.reduceLeDiff, Nat.reduceLT, Nat.reduceMul, Int.reduceToNat, Int.reduceLT, Int.reduceLE, Int.reduceAdd, Int.reduceSub, Int.reduceMul, Int.reduceEq, Int.reduceNe, Nat.reduceSub, reduceCtorEq, boxF, if_true, if_false, forall_const, implies_true, ne_eq, h1, h4, hg, spec_l01In_rw, impl_within_rw, impl_isNode_rw, impl_isTerm_rw, impl_isIndex_rw, spec_l17Flag_rw] | simp (disch := first | assumption | omega | (simp only [LS] <;> omega) | (simp only [List.not_mem_nil, List.mem_cons, or_false, not_false_eq_true, not_or] <;> omega)) only [CS, h1, h4, hg] | simp only [condK_B, guardK_Bt, guardK_Bf])
    have b1 := confT_len m.conf
    have b2 := encE_len hld
    have b3 := shortT_len (t := confT m.conf) (by omega)
    have b4 := shortT_len (t := m.data) (by omega)
    have b5 : m.entries.length ≤ 4 := hmid.2.2.1
    refine EvK.of (spec_l05Short_ok (confT m.conf) (by omega) fun d8 c8 ho8 => ?_)
    have ho8_le := ho8.le
    repeat (first | simp only [RS0, RS1, RS2, RS3, RS4, reduceIte, Nat.reduceEqDiff, Nat.reduceAdd, Nat.reduceLeDiff, Nat.reduceLT, Nat.reduceMul, Int.reduceToNat, Int.reduceLT, Int.reduceLE, Int.reduceAdd, Int.reduceSub, Int.reduceMul, Int.reduceEq, Int.reduceNe, Nat.reduceSub, reduceCtorEq, boxF, if_true, if_false, forall_const, implies_true, ne_eq, h1, h4, hg, spec_l01In_rw, impl_within_rw, impl_isNode_rw, impl_isTerm_rw, impl_isIndex_rw, spec_l17Flag_rw] | simp (disch := first | assumption | omega | (simp only [LS] <;> omega) | (simp only [List.not_mem_nil, List.mem_cons, or_false, not_false_eq_true, not_or] <;> omega)) only [CS, h1, h4, hg] | simp only [condK_B, guardK_Bt, guardK_Bf])
    refine ⟨?_, ?_⟩
    · simp only [shortT, List.length_append] at b3; omega
    refine EvK.of (spec_l05Short_ok m.data (by omega) fun d9 c9 ho9 => ?_)
    have ho9_le := ho9.le
    repeat (first | simp only [RS0, RS1, RS2, RS3, RS4, reduceIte, Nat.reduceEqDiff, Nat.reduceAdd, Nat.reduceLeDiff, Nat.reduceLT, Nat.reduceMul, Int.reduceToNat, Int.reduceLT, Int.reduceLE, Int.reduceAdd, Int.reduceSub, Int.reduceMul, Int.reduceEq, Int.reduceNe, Nat.reduceSub, reduceCtorEq, boxF, if_true, if_false, forall_const, implies_true, ne_eq, h1, h4, hg, spec_l01In_rw, impl_within_rw, impl_isNode_rw, impl_isTerm_rw, impl_isIndex_rw, spec_l17Flag_rw] | simp (disch := first | assumption | omega | (simp only [LS] <;> omega) | (simp only [List.not_mem_nil, List.mem_cons, or_false, not_false_eq_true, not_or] <;> omega)) only [CS, h1, h4, hg] | simp only [condK_B, guardK_Bt, guardK_Bf])
    refine ⟨?_, ?_⟩
    · simp only [shortT, List.length_append] at b3 b4; omega
    have e : msgText m = headT m ++ (encE m.entries ++ (varL (confT m.conf).length ++ (confT m.conf ++ (varL m.data.length ++ m.data)))) := by simp [msgText, shortT]
    rw [← e]
    exact h _ _ (by ((try dsimp only); refine Own.of (by omega) ?_; repeat (first | exact OwnK.nil | refine OwnK.cons (.inl (by omega)) ?_ | refine OwnK.kill (fun b hb => .inl (by have := hoe b hb; omega)) ?_ | refine OwnK.cons (.inr (by simp)) ?_ | exact OwnK.one (by assumption) (by omega) (by omega) (by simp <;> omega) | refine OwnK.app (by assumption) (by omega) (by omega) (by simp <;> omega) ?_)))
end
end Go.Proofs.Ytfcglkajekohiaa
