/- Contracts: the program's texts. -/
import Derived.Test.YtfcglkajekohiaaC14
import Derived.Test.YtfcglkajekohiaaD2
set_option linter.unusedSimpArgs false
set_option linter.unusedVariables false
set_option maxRecDepth 20000
namespace Go.Proofs.Ytfcglkajekohiaa
open Go Go.Proofs.Ytfcglkajekohiaa.AM

section
variable {prim : Nat → List Value → Option Value} {H : AHeap} {c : Nat} {Q : Value → AHeap → Nat → Prop}

theorem impl_flag_ok (b : Bool) (h : Q (I (if b = true then 1 else 0)) [] c) : Ev (tbl prim) n_impl_flag [B b] H c Q := by
  refine Ev.fn (s_impl_flag prim) rfl ?_
  cases b <;> repeat (first | simp only [RS0, RS1, RS2, RS3, RS4, reduceIte, Nat.reduceEqDiff, Nat.reduceAdd, Nat.reduceLeDiff, Nat.reduceLT, Nat.reduceMul, Int.reduceToNat, Int.reduceLT, Int.reduceLE, Int.reduceAdd, Int.reduceSub, Int.reduceMul, Int.reduceEq, Int.reduceNe, Nat.reduceSub, reduceCtorEq, boxF, if_true, if_false, forall_const, implies_true, ne_eq, g_impl_flag, impl_within_rw] | simp (disch := first | assumption | omega | (simp only [LS]; first | done | omega) | (simp only [List.not_mem_nil, List.mem_cons, or_false, not_false_eq_true, not_or]; first | done | omega)) only [CS, g_impl_flag] | simp only [condK_B, guardK_Bt, guardK_Bf]) <;> simpa using h
theorem impl_flag_rw {G : AHeap} {kt : Kt} {dst : Option Nat} {ts : TS} {u : AHeap} {Q : AExit → St → Prop} (b : Bool) : EvK (tbl prim) H n_impl_flag [B b] G c kt dst ts u Q ↔ fin (tbl prim) H kt dst ts u c (I (if b = true then 1 else 0)) [] c Q := EvK.iff fun _ h => impl_flag_ok b h

theorem impl_VarText_ok (n : Int) (h0 : 0 ≤ n ∧ n ≤ 1000000000) (h : ∀ d c', Own [] d c c' → Q (.tuple ⟨[T (varL n.toNat), B true]⟩) d c') : Ev (tbl prim) n_impl_VarText [I n] H c Q := by
  refine Ev.fn (s_impl_VarText prim) rfl ?_
  have hlen := varL_len10 n (by omega)
  have hT : (0 ≤ n ∧ n ≤ 1000000000) = True := eq_true h0
  repeat (first | simp only [RS0, RS1, RS2, RS3, RS4, reduceIte, Nat.reduceEqDiff, Nat.reduceAdd, Nat.reduceLeDiff, Nat.reduceLT, Nat.reduceMul, Int.reduceToNat, Int.reduceLT, Int.reduceLE, Int.reduceAdd, Int.reduceSub, Int.reduceMul, Int.reduceEq, Int.reduceNe, Nat.reduceSub, reduceCtorEq, boxF, if_true, if_false, forall_const, implies_true, ne_eq, g_impl_VarText, hT, impl_within_rw] | simp (disch := first | assumption | omega | (simp only [LS]; first | done | omega) | (simp only [List.not_mem_nil, List.mem_cons, or_false, not_false_eq_true, not_or]; first | done | omega)) only [CS, g_impl_VarText, hT] | simp only [condK_B, guardK_Bt, guardK_Bf])
  refine Wloop.of (fun k s => ∃ (m : Nat) (l : List UInt8) (b : Nat), s.ts 0 = I m ∧ s.ts 4 = Sl b l.length 1 ∧ get (s.u ++ H) b = some ⟨l.map U, 1, false⟩ ∧ k = m ∧ (m : Int) ≤ 9223372036854775807 ∧ l ++ varL m = varL n.toNat ∧ Own [] s.u c s.c ∧ c ≤ b ∧ b < s.c) ?_ (n := n.toNat) ?_
  · rintro k ⟨ts, u, c1⟩ ⟨m, l, b, h0, h3, hg, rfl, hm, hl, ho, hb, hb'⟩ R hR hE
    simp only at h0 h3 hg ho hb'
    have hlen2 : l.length + (varL k).length ≤ 10 := by rw [← List.length_append, hl]; exact hlen
    repeat (first | simp only [RS0, RS1, RS2, RS3, RS4, reduceIte, Nat.reduceEqDiff, Nat.reduceAdd, Nat.reduceLeDiff, Nat.reduceLT, Nat.reduceMul, Int.reduceToNat, Int.reduceLT, Int.reduceLE, Int.reduceAdd, Int.reduceSub, Int.reduceMul, Int.reduceEq, Int.reduceNe, Nat.reduceSub, reduceCtorEq, boxF, if_true, if_false, forall_const, implies_true, ne_eq, g_impl_VarText_L0, h0, h3, hg, impl_within_rw] | simp (disch := first | assumption | omega | (simp only [LS]; first | done | omega) | (simp only [List.not_mem_nil, List.mem_cons, or_false, not_false_eq_true, not_or]; first | done | omega)) only [CS, g_impl_VarText_L0, h0, h3, hg] | simp only [condK_B, guardK_Bt, guardK_Bf])
    refine ⟨fun hk => ⟨by unfold maxBytes; omega, hR (k / 128) _ (by omega) ⟨k / 128, l ++ [by8 ((k : Int) % 128 + 128)], c1 + 1, ?_⟩⟩, fun hk => hE _ _ (by decide) ?_⟩
    · refine ⟨by simp, by simp, by simp, rfl, by omega, ?_, (((ho.new).put (.inl ⟨hb, by omega⟩)).new), by omega, by simp⟩
      rw [← hl, varL_big (n := k) (by omega)]; simp
    · repeat (first | simp only [RS0, RS1, RS2, RS3, RS4, reduceIte, Nat.reduceEqDiff, Nat.reduceAdd, Nat.reduceLeDiff, Nat.reduceLT, Nat.reduceMul, Int.reduceToNat, Int.reduceLT, Int.reduceLE, Int.reduceAdd, Int.reduceSub, Int.reduceMul, Int.reduceEq, Int.reduceNe, Nat.reduceSub, reduceCtorEq, boxF, if_true, if_false, forall_const, implies_true, ne_eq, h0, h3, hg, impl_within_rw] | simp (disch := first | assumption | omega | (simp only [LS]; first | done | omega) | (simp only [List.not_mem_nil, List.mem_cons, or_false, not_false_eq_true, not_or]; first | done | omega)) only [CS, h0, h3, hg] | simp only [condK_B, guardK_Bt, guardK_Bf])
      refine ⟨by unfold maxBytes; omega, ?_⟩
      rw [show l ++ [by8 (k : Int)] = varL n.toNat by rw [← hl, varL_small (n := k) (by omega)]]
      exact h _ _ (by ((try dsimp only); refine Own.of (by omega) ?_; repeat (first | exact OwnK.nil | refine OwnK.cons (.inl (by omega)) ?_ | refine OwnK.kill (fun b hb => .inl (by have := hoe b hb; omega)) ?_ | refine OwnK.cons (.inr (by simp)) ?_ | exact OwnK.one (by assumption) (by omega) (by omega) (by simp; first | done | omega) | refine OwnK.app (by assumption) (by omega) (by omega) (by simp; first | done | omega) ?_)))
  · exact ⟨n.toNat, [], c, by simp; omega, by simp, by simp, rfl, by omega, by simp, (Own.nil c).new, by omega, by simp⟩

theorem impl_ShortText_ok (t : List UInt8) (ht : t.length ≤ 20000) (h : ∀ d c', Own [] d c c' → Q (.tuple ⟨[T (shortT t), B true]⟩) d c') : Ev (tbl prim) n_impl_ShortText [T t] H c Q := by
  refine Ev.fn (s_impl_ShortText prim) rfl ?_
  have hT : (20000 < (t.length : Int)) = False := eq_false (by omega)
  have hl := varL_len100 (n := t.length) (by omega)
  repeat (first | simp only [RS0, RS1, RS2, RS3, RS4, reduceIte, Nat.reduceEqDiff, Nat.reduceAdd, Nat.reduceLeDiff, Nat.reduceLT, Nat.reduceMul, Int.reduceToNat, Int.reduceLT, Int.reduceLE, Int.reduceAdd, Int.reduceSub, Int.reduceMul, Int.reduceEq, Int.reduceNe, Nat.reduceSub, reduceCtorEq, boxF, if_true, if_false, forall_const, implies_true, ne_eq, g_impl_ShortText, hT, impl_within_rw] | simp (disch := first | assumption | omega | (simp only [LS]; first | done | omega) | (simp only [List.not_mem_nil, List.mem_cons, or_false, not_false_eq_true, not_or]; first | done | omega)) only [CS, g_impl_ShortText, hT] | simp only [condK_B, guardK_Bt, guardK_Bf])
  refine EvK.of (impl_VarText_ok (t.length : Int) (by omega) fun d1 c1 ho1 => ?_)
  have ho1_le := ho1.le
  repeat (first | simp only [RS0, RS1, RS2, RS3, RS4, reduceIte, Nat.reduceEqDiff, Nat.reduceAdd, Nat.reduceLeDiff, Nat.reduceLT, Nat.reduceMul, Int.reduceToNat, Int.reduceLT, Int.reduceLE, Int.reduceAdd, Int.reduceSub, Int.reduceMul, Int.reduceEq, Int.reduceNe, Nat.reduceSub, reduceCtorEq, boxF, if_true, if_false, forall_const, implies_true, ne_eq, impl_within_rw] | simp (disch := first | assumption | omega | (simp only [LS]; first | done | omega) | (simp only [List.not_mem_nil, List.mem_cons, or_false, not_false_eq_true, not_or]; first | done | omega)) only [CS] | simp only [condK_B, guardK_Bt, guardK_Bf])
  refine ⟨by omega, ?_⟩
  exact h _ _ (by ((try dsimp only); refine Own.of (by omega) ?_; repeat (first | exact OwnK.nil | refine OwnK.cons (.inl (by omega)) ?_ | refine OwnK.kill (fun b hb => .inl (by have := hoe b hb; omega)) ?_ | refine OwnK.cons (.inr (by simp)) ?_ | exact OwnK.one (by assumption) (by omega) (by omega) (by simp; first | done | omega) | refine OwnK.app (by assumption) (by omega) (by omega) (by simp; first | done | omega) ?_)))

theorem impl_byteTexts_ok (vl : Value) (l : List Int) (ol : Option Nat) (hv : SlR H 1 vl (l.map I) ol) (hol : ∀ b, ol = some b → b < c) (hl : l.length ≤ 100000000)
    (h : ∀ d c', Own [] d c c' → Q (T (l.map by8)) d c') : Ev (tbl prim) n_impl_byteTexts [vl] H c Q := by
  refine Ev.fn (s_impl_byteTexts prim) rfl ?_
  have hll : (l.map I).length = l.length * 1 := by simp
  have hlv := hv.len hll (by omega)
  repeat (first | simp only [RS0, RS1, RS2, RS3, RS4, reduceIte, Nat.reduceEqDiff, Nat.reduceAdd, Nat.reduceLeDiff, Nat.reduceLT, Nat.reduceMul, Int.reduceToNat, Int.reduceLT, Int.reduceLE, Int.reduceAdd, Int.reduceSub, Int.reduceMul, Int.reduceEq, Int.reduceNe, Nat.reduceSub, reduceCtorEq, boxF, if_true, if_false, forall_const, implies_true, ne_eq, g_impl_byteTexts, hlv, impl_within_rw] | simp (disch := first | assumption | omega | (simp only [LS]; first | done | omega) | (simp only [List.not_mem_nil, List.mem_cons, or_false, not_false_eq_true, not_or]; first | done | omega)) only [CS, g_impl_byteTexts, hlv] | simp only [condK_B, guardK_Bt, guardK_Bf])
  refine Wloop.of (fun k s => ∃ (i b : Nat), s.ts 7 = vl ∧ s.ts 8 = I l.length ∧ s.ts 3 = Sl b i 1 ∧ s.ts 9 = I i ∧ get (s.u ++ H) b = some ⟨((l.take i).map by8).map U, 1, false⟩ ∧ k = l.length - i ∧ i ≤ l.length ∧ Own [] s.u c s.c ∧ c ≤ b ∧ b < s.c) ?_ (n := l.length) ?_
  · rintro k ⟨ts, u, c1⟩ ⟨i, b, h7, h8, h3, h9, hg, rfl, hi, ho, hb, hb'⟩ R hR hE
    simp only at h7 h8 h3 h9 hg ho hb'
    have hv2 := hv.own ho (fun b e => ⟨hol b e, by simp⟩)
    by_cases hin : i < l.length
    · obtain ⟨b2, ro, hb2c, hob, hia, hgb⟩ := hv2.el hol hll (by omega) (k := .i64) hin
      have hinT : ((i : Int) < l.length) = True := eq_true (by omega)
      have hx : (l.map I)[i * 1]? = some (I l[i]) := by simp [hin]
      have hlt : (((l.take i).map by8).map U).length = i * 1 := by simp; omega
      have hcell : ((l.take i).map by8).map U ++ [U (by8 (l.getD i 0))] = ((l.take (i + 1)).map by8).map U := by
        rw [List.getD_eq_getElem?_getD, List.getElem?_eq_getElem hin, ← List.take_append_getElem hin]
        simp only [List.map_append, List.map_cons, List.map_nil, Option.getD_some]
      repeat (first | simp only [RS0, RS1, RS2, RS3, RS4, reduceIte, Nat.reduceEqDiff, Nat.reduceAdd, Nat.reduceLeDiff, Nat.reduceLT, Nat.reduceMul, Int.reduceToNat, Int.reduceLT, Int.reduceLE, Int.reduceAdd, Int.reduceSub, Int.reduceMul, Int.reduceEq, Int.reduceNe, Nat.reduceSub, reduceCtorEq, boxF, if_true, if_false, forall_const, implies_true, ne_eq, g_impl_byteTexts_L0, h7, h8, h3, h9, hg, hinT, hia, hgb, hx, impl_within_rw] | simp (disch := first | assumption | omega | (simp only [LS]; first | done | omega) | (simp only [List.not_mem_nil, List.mem_cons, or_false, not_false_eq_true, not_or]; first | done | omega)) only [CS, g_impl_byteTexts_L0, h7, h8, h3, h9, hg, hinT, hia, hgb, hx] | simp only [condK_B, guardK_Bt, guardK_Bf])
      refine ⟨by omega, ⟨by unfold maxBytes; omega, by unfold maxBytes; omega, by simp; omega⟩, hR (l.length - (i + 1)) _ (by omega) ⟨i + 1, c1 + 1, by simp [h7], by simp [h8], by simp, by simp, ?_, rfl, by omega, by ((try dsimp only); refine Own.of (by omega) ?_; repeat (first | exact OwnK.nil | refine OwnK.cons (.inl (by omega)) ?_ | refine OwnK.kill (fun b hb => .inl (by have := hoe b hb; omega)) ?_ | refine OwnK.cons (.inr (by simp)) ?_ | exact OwnK.one (by assumption) (by omega) (by omega) (by simp; first | done | omega) | refine OwnK.app (by assumption) (by omega) (by omega) (by simp; first | done | omega) ?_)), by omega, by simp⟩⟩
      simp only [List.cons_append, get_cons_eq]
      rw [← hcell]
    · have hinF : ((i : Int) < l.length) = False := eq_false (by omega)
      have e : i = l.length := by omega
      subst e
      rw [List.take_of_length_le (by omega)] at hg
      repeat (first | simp only [RS0, RS1, RS2, RS3, RS4, reduceIte, Nat.reduceEqDiff, Nat.reduceAdd, Nat.reduceLeDiff, Nat.reduceLT, Nat.reduceMul, Int.reduceToNat, Int.reduceLT, Int.reduceLE, Int.reduceAdd, Int.reduceSub, Int.reduceMul, Int.reduceEq, Int.reduceNe, Nat.reduceSub, reduceCtorEq, boxF, if_true, if_false, forall_const, implies_true, ne_eq, g_impl_byteTexts_L0, h7, h8, h3, h9, hg, hinF, impl_within_rw] | simp (disch := first | assumption | omega | (simp only [LS]; first | done | omega) | (simp only [List.not_mem_nil, List.mem_cons, or_false, not_false_eq_true, not_or]; first | done | omega)) only [CS, g_impl_byteTexts_L0, h7, h8, h3, h9, hg, hinF] | simp only [condK_B, guardK_Bt, guardK_Bf])
      refine hE _ _ (by decide) ?_
      have hlen3 : ((l.map by8).map U).length = l.length * 1 := by simp
      repeat (first | simp only [RS0, RS1, RS2, RS3, RS4, reduceIte, Nat.reduceEqDiff, Nat.reduceAdd, Nat.reduceLeDiff, Nat.reduceLT, Nat.reduceMul, Int.reduceToNat, Int.reduceLT, Int.reduceLE, Int.reduceAdd, Int.reduceSub, Int.reduceMul, Int.reduceEq, Int.reduceNe, Nat.reduceSub, reduceCtorEq, boxF, if_true, if_false, forall_const, implies_true, ne_eq, h3, hg, slC_eq hlen3, impl_within_rw] | simp (disch := first | assumption | omega | (simp only [LS]; first | done | omega) | (simp only [List.not_mem_nil, List.mem_cons, or_false, not_false_eq_true, not_or]; first | done | omega)) only [CS, h3, hg, slC_eq hlen3] | simp only [condK_B, guardK_Bt, guardK_Bf])
      exact h _ _ ho
  · exact ⟨0, c, by simp, by simp, by simp, by simp, by simp, by omega, by omega, (Own.nil c).new, by omega, by simp⟩
theorem impl_varTexts_ok (vl : Value) (l : List Int) (ol : Option Nat) (hv : SlR H 1 vl (l.map I) ol) (hol : ∀ b, ol = some b → b < c) (hl : l.length ≤ 100000) (hr : ∀ x ∈ l, 0 ≤ x ∧ x ≤ 1000000000)
    (h : ∀ d c', Own [] d c c' → Q (T (l.flatMap fun x => varL x.toNat)) d c') : Ev (tbl prim) n_impl_varTexts [vl] H c Q := by
  refine Ev.fn (s_impl_varTexts prim) rfl ?_
  have hll : (l.map I).length = l.length * 1 := by simp
  have hlv := hv.len hll (by omega)
  repeat (first | simp only [RS0, RS1, RS2, RS3, RS4, reduceIte, Nat.reduceEqDiff, Nat.reduceAdd, Nat.reduceLeDiff, Nat.reduceLT, Nat.reduceMul, Int.reduceToNat, Int.reduceLT, Int.reduceLE, Int.reduceAdd, Int.reduceSub, Int.reduceMul, Int.reduceEq, Int.reduceNe, Nat.reduceSub, reduceCtorEq, boxF, if_true, if_false, forall_const, implies_true, ne_eq, g_impl_varTexts, hlv, impl_within_rw] | simp (disch := first | assumption | omega | (simp only [LS]; first | done | omega) | (simp only [List.not_mem_nil, List.mem_cons, or_false, not_false_eq_true, not_or]; first | done | omega)) only [CS, g_impl_varTexts, hlv] | simp only [condK_B, guardK_Bt, guardK_Bf])
  refine Wloop.of (fun k s => ∃ (i : Nat), s.ts 8 = vl ∧ s.ts 9 = I l.length ∧ s.ts 3 = T ((l.take i).flatMap fun x => varL x.toNat) ∧ s.ts 10 = I i ∧ k = l.length - i ∧ i ≤ l.length ∧ ((l.take i).flatMap fun x => varL x.toNat).length ≤ i * 10 ∧ Own [] s.u c s.c) ?_ (n := l.length) ?_
  · rintro k ⟨ts, u, c1⟩ ⟨i, h8, h9, h3, h10, rfl, hi, hbl, ho⟩ R hR hE
    simp only at h8 h9 h3 h10 ho
    have ho_le := ho.le
    have hv2 := hv.own ho (fun b e => ⟨hol b e, by simp⟩)
    by_cases hin : i < l.length
    · obtain ⟨b2, ro, hb2c, hob, hia, hgb⟩ := hv2.el hol hll (by omega) (k := .i64) hin
      have hinT : ((i : Int) < l.length) = True := eq_true (by omega)
      have hx : (l.map I)[i * 1]? = some (I l[i]) := by simp [hin]
      have hxr := hr l[i] (List.getElem_mem hin)
      have hlv := varL_len10 l[i] (by omega)
      have hcell : ((l.take i).flatMap fun x => varL x.toNat) ++ varL l[i].toNat = (l.take (i + 1)).flatMap fun x => varL x.toNat := by
        rw [← List.take_append_getElem hin]
        simp only [List.flatMap_append, List.flatMap_cons, List.flatMap_nil, List.append_nil]
      repeat (first | simp only [RS0, RS1, RS2, RS3, RS4, reduceIte, Nat.reduceEqDiff, Nat.reduceAdd, Nat.reduceLeDiff, Nat.reduceLT, Nat.reduceMul, Int.reduceToNat, Int.reduceLT, Int.reduceLE, Int.reduceAdd, Int.reduceSub, Int.reduceMul, Int.reduceEq, Int.reduceNe, Nat.reduceSub, reduceCtorEq, boxF, if_true, if_false, forall_const, implies_true, ne_eq, g_impl_varTexts_L0, h8, h9, h3, h10, hinT, hia, hgb, hx, impl_within_rw] | simp (disch := first | assumption | omega | (simp only [LS]; first | done | omega) | (simp only [List.not_mem_nil, List.mem_cons, or_false, not_false_eq_true, not_or]; first | done | omega)) only [CS, g_impl_varTexts_L0, h8, h9, h3, h10, hinT, hia, hgb, hx] | simp only [condK_B, guardK_Bt, guardK_Bf])
      have hgD : l.getD i 0 = l[i] := by rw [List.getD_eq_getElem?_getD, List.getElem?_eq_getElem hin]; rfl
      refine ⟨by omega, ?_⟩
      rw [hgD]
      refine EvK.of (impl_VarText_ok l[i] hxr fun d1 c2 ho1 => ?_)
      have ho1_le := ho1.le
      repeat (first | simp only [RS0, RS1, RS2, RS3, RS4, reduceIte, Nat.reduceEqDiff, Nat.reduceAdd, Nat.reduceLeDiff, Nat.reduceLT, Nat.reduceMul, Int.reduceToNat, Int.reduceLT, Int.reduceLE, Int.reduceAdd, Int.reduceSub, Int.reduceMul, Int.reduceEq, Int.reduceNe, Nat.reduceSub, reduceCtorEq, boxF, if_true, if_false, forall_const, implies_true, ne_eq, h8, h9, h3, h10, impl_within_rw] | simp (disch := first | assumption | omega | (simp only [LS]; first | done | omega) | (simp only [List.not_mem_nil, List.mem_cons, or_false, not_false_eq_true, not_or]; first | done | omega)) only [CS, h8, h9, h3, h10] | simp only [condK_B, guardK_Bt, guardK_Bf])
      refine ⟨by omega, hR (l.length - (i + 1)) _ (by omega) ⟨i + 1, by simp [h8], by simp [h9], ?_, by simp, rfl, by omega, ?_, by ((try dsimp only); refine Own.of (by omega) ?_; repeat (first | exact OwnK.nil | refine OwnK.cons (.inl (by omega)) ?_ | refine OwnK.kill (fun b hb => .inl (by have := hoe b hb; omega)) ?_ | refine OwnK.cons (.inr (by simp)) ?_ | exact OwnK.one (by assumption) (by omega) (by omega) (by simp; first | done | omega) | refine OwnK.app (by assumption) (by omega) (by omega) (by simp; first | done | omega) ?_))⟩⟩
      · simp [← hcell]
      · rw [← hcell, List.length_append]; omega
    · have hinF : ((i : Int) < l.length) = False := eq_false (by omega)
      have e : i = l.length := by omega
      subst e
      rw [List.take_of_length_le (by omega)] at h3
      repeat (first | simp only [RS0, RS1, RS2, RS3, RS4, reduceIte, Nat.reduceEqDiff, Nat.reduceAdd, Nat.reduceLeDiff, Nat.reduceLT, Nat.reduceMul, Int.reduceToNat, Int.reduceLT, Int.reduceLE, Int.reduceAdd, Int.reduceSub, Int.reduceMul, Int.reduceEq, Int.reduceNe, Nat.reduceSub, reduceCtorEq, boxF, if_true, if_false, forall_const, implies_true, ne_eq, g_impl_varTexts_L0, h8, h9, h3, h10, hinF, impl_within_rw] | simp (disch := first | assumption | omega | (simp only [LS]; first | done | omega) | (simp only [List.not_mem_nil, List.mem_cons, or_false, not_false_eq_true, not_or]; first | done | omega)) only [CS, g_impl_varTexts_L0, h8, h9, h3, h10, hinF] | simp only [condK_B, guardK_Bt, guardK_Bf])
      refine hE _ _ (by decide) ?_
      repeat (first | simp only [RS0, RS1, RS2, RS3, RS4, reduceIte, Nat.reduceEqDiff, Nat.reduceAdd, Nat.reduceLeDiff, Nat.reduceLT, Nat.reduceMul, Int.reduceToNat, Int.reduceLT, Int.reduceLE, Int.reduceAdd, Int.reduceSub, Int.reduceMul, Int.reduceEq, Int.reduceNe, Nat.reduceSub, reduceCtorEq, boxF, if_true, if_false, forall_const, implies_true, ne_eq, h3, impl_within_rw] | simp (disch := first | assumption | omega | (simp only [LS]; first | done | omega) | (simp only [List.not_mem_nil, List.mem_cons, or_false, not_false_eq_true, not_or]; first | done | omega)) only [CS, h3] | simp only [condK_B, guardK_Bt, guardK_Bf])
      exact h _ _ ho
  · exact ⟨0, by simp, by simp, by simp, by simp, by omega, by omega, by simp, (Own.nil c)⟩

theorem impl_shortTexts_ok (vl : Value) (l : List (List UInt8)) (ol : Option Nat) (hv : SlR H 1 vl (l.map T) ol) (hol : ∀ b, ol = some b → b < c) (hl : l.length ≤ 100000) (hr : ∀ x ∈ l, x.length ≤ 20000)
    (h : ∀ d c', Own [] d c c' → Q (T (l.flatMap shortT)) d c') : Ev (tbl prim) n_impl_shortTexts [vl] H c Q := by
  refine Ev.fn (s_impl_shortTexts prim) rfl ?_
  have hll : (l.map T).length = l.length * 1 := by simp
  have hlv := hv.len hll (by omega)
  repeat (first | simp only [RS0, RS1, RS2, RS3, RS4, reduceIte, Nat.reduceEqDiff, Nat.reduceAdd, Nat.reduceLeDiff, Nat.reduceLT, Nat.reduceMul, Int.reduceToNat, Int.reduceLT, Int.reduceLE, Int.reduceAdd, Int.reduceSub, Int.reduceMul, Int.reduceEq, Int.reduceNe, Nat.reduceSub, reduceCtorEq, boxF, if_true, if_false, forall_const, implies_true, ne_eq, g_impl_shortTexts, hlv, impl_within_rw] | simp (disch := first | assumption | omega | (simp only [LS]; first | done | omega) | (simp only [List.not_mem_nil, List.mem_cons, or_false, not_false_eq_true, not_or]; first | done | omega)) only [CS, g_impl_shortTexts, hlv] | simp only [condK_B, guardK_Bt, guardK_Bf])
  refine Wloop.of (fun k s => ∃ (i : Nat), s.ts 8 = vl ∧ s.ts 9 = I l.length ∧ s.ts 3 = T ((l.take i).flatMap shortT) ∧ s.ts 10 = I i ∧ k = l.length - i ∧ i ≤ l.length ∧ ((l.take i).flatMap shortT).length ≤ i * 20010 ∧ Own [] s.u c s.c) ?_ (n := l.length) ?_
  · rintro k ⟨ts, u, c1⟩ ⟨i, h8, h9, h3, h10, rfl, hi, hbl, ho⟩ R hR hE
    simp only at h8 h9 h3 h10 ho
    have ho_le := ho.le
    have hv2 := hv.own ho (fun b e => ⟨hol b e, by simp⟩)
    by_cases hin : i < l.length
    · obtain ⟨b2, ro, hb2c, hob, hia, hgb⟩ := hv2.el hol hll (by omega) (k := .i64) hin
      have hinT : ((i : Int) < l.length) = True := eq_true (by omega)
      have hx : (l.map T)[i * 1]? = some (T l[i]) := by simp [hin]
      have hxr := hr l[i] (List.getElem_mem hin)
      have hlv := shortT_len (t := l[i]) (by omega)
      have hcell : ((l.take i).flatMap shortT) ++ shortT l[i] = (l.take (i + 1)).flatMap shortT := by
        rw [← List.take_append_getElem hin]
        simp only [List.flatMap_append, List.flatMap_cons, List.flatMap_nil, List.append_nil]
      repeat (first | simp only [RS0, RS1, RS2, RS3, RS4, reduceIte, Nat.reduceEqDiff, Nat.reduceAdd, Nat.reduceLeDiff, Nat.reduceLT, Nat.reduceMul, Int.reduceToNat, Int.reduceLT, Int.reduceLE, Int.reduceAdd, Int.reduceSub, Int.reduceMul, Int.reduceEq, Int.reduceNe, Nat.reduceSub, reduceCtorEq, boxF, if_true, if_false, forall_const, implies_true, ne_eq, g_impl_shortTexts_L0, h8, h9, h3, h10, hinT, hia, hgb, hx, impl_within_rw] | simp (disch := first | assumption | omega | (simp only [LS]; first | done | omega) | (simp only [List.not_mem_nil, List.mem_cons, or_false, not_false_eq_true, not_or]; first | done | omega)) only [CS, g_impl_shortTexts_L0, h8, h9, h3, h10, hinT, hia, hgb, hx] | simp only [condK_B, guardK_Bt, guardK_Bf])
      have hgD : (l.map T).getD i undefA = T l[i] := by simp [List.getD_eq_getElem?_getD, hin]
      refine ⟨by omega, ?_⟩
      rw [hgD]
      refine EvK.of (impl_ShortText_ok l[i] hxr fun d1 c2 ho1 => ?_)
      have ho1_le := ho1.le
      repeat (first | simp only [RS0, RS1, RS2, RS3, RS4, reduceIte, Nat.reduceEqDiff, Nat.reduceAdd, Nat.reduceLeDiff, Nat.reduceLT, Nat.reduceMul, Int.reduceToNat, Int.reduceLT, Int.reduceLE, Int.reduceAdd, Int.reduceSub, Int.reduceMul, Int.reduceEq, Int.reduceNe, Nat.reduceSub, reduceCtorEq, boxF, if_true, if_false, forall_const, implies_true, ne_eq, h8, h9, h3, h10, impl_within_rw] | simp (disch := first | assumption | omega | (simp only [LS]; first | done | omega) | (simp only [List.not_mem_nil, List.mem_cons, or_false, not_false_eq_true, not_or]; first | done | omega)) only [CS, h8, h9, h3, h10] | simp only [condK_B, guardK_Bt, guardK_Bf])
      refine ⟨by omega, hR (l.length - (i + 1)) _ (by omega) ⟨i + 1, by simp [h8], by simp [h9], ?_, by simp, rfl, by omega, ?_, by ((try dsimp only); refine Own.of (by omega) ?_; repeat (first | exact OwnK.nil | refine OwnK.cons (.inl (by omega)) ?_ | refine OwnK.kill (fun b hb => .inl (by have := hoe b hb; omega)) ?_ | refine OwnK.cons (.inr (by simp)) ?_ | exact OwnK.one (by assumption) (by omega) (by omega) (by simp; first | done | omega) | refine OwnK.app (by assumption) (by omega) (by omega) (by simp; first | done | omega) ?_))⟩⟩
      · simp [← hcell]
      · rw [← hcell, List.length_append]; omega
    · have hinF : ((i : Int) < l.length) = False := eq_false (by omega)
      have e : i = l.length := by omega
      subst e
      rw [List.take_of_length_le (by omega)] at h3
      repeat (first | simp only [RS0, RS1, RS2, RS3, RS4, reduceIte, Nat.reduceEqDiff, Nat.reduceAdd, Nat.reduceLeDiff, Nat.reduceLT, Nat.reduceMul, Int.reduceToNat, Int.reduceLT, Int.reduceLE, Int.reduceAdd, Int.reduceSub, Int.reduceMul, Int.reduceEq, Int.reduceNe, Nat.reduceSub, reduceCtorEq, boxF, if_true, if_false, forall_const, implies_true, ne_eq, g_impl_shortTexts_L0, h8, h9, h3, h10, hinF, impl_within_rw] | simp (disch := first | assumption | omega | (simp only [LS]; first | done | omega) | (simp only [List.not_mem_nil, List.mem_cons, or_false, not_false_eq_true, not_or]; first | done | omega)) only [CS, g_impl_shortTexts_L0, h8, h9, h3, h10, hinF] | simp only [condK_B, guardK_Bt, guardK_Bf])
      refine hE _ _ (by decide) ?_
      repeat (first | simp only [RS0, RS1, RS2, RS3, RS4, reduceIte, Nat.reduceEqDiff, Nat.reduceAdd, Nat.reduceLeDiff, Nat.reduceLT, Nat.reduceMul, Int.reduceToNat, Int.reduceLT, Int.reduceLE, Int.reduceAdd, Int.reduceSub, Int.reduceMul, Int.reduceEq, Int.reduceNe, Nat.reduceSub, reduceCtorEq, boxF, if_true, if_false, forall_const, implies_true, ne_eq, h3, impl_within_rw] | simp (disch := first | assumption | omega | (simp only [LS]; first | done | omega) | (simp only [List.not_mem_nil, List.mem_cons, or_false, not_false_eq_true, not_or]; first | done | omega)) only [CS, h3] | simp only [condK_B, guardK_Bt, guardK_Bf])
      exact h _ _ ho
  · exact ⟨0, by simp, by simp, by simp, by simp, by omega, by omega, by simp, (Own.nil c)⟩
theorem impl_EntryText_ok (e : Ent) (he : e.data.length ≤ 100000000)
    (h : ∀ d c', Own [] d c c' → Q (.tuple ⟨[T (entT e), B (entTextOk 1 e)]⟩) d c') : Ev (tbl prim) n_impl_EntryText [I 1, ag (entC e)] H c Q := by
  refine Ev.fn (s_impl_EntryText prim) rfl ?_
  repeat (first | simp only [RS0, RS1, RS2, RS3, RS4, reduceIte, Nat.reduceEqDiff, Nat.reduceAdd, Nat.reduceLeDiff, Nat.reduceLT, Nat.reduceMul, Int.reduceToNat, Int.reduceLT, Int.reduceLE, Int.reduceAdd, Int.reduceSub, Int.reduceMul, Int.reduceEq, Int.reduceNe, Nat.reduceSub, reduceCtorEq, boxF, if_true, if_false, forall_const, implies_true, ne_eq, g_impl_EntryText, entC, impl_within_rw] | simp (disch := first | assumption | omega | (simp only [LS]; first | done | omega) | (simp only [List.not_mem_nil, List.mem_cons, or_false, not_false_eq_true, not_or]; first | done | omega)) only [CS, g_impl_EntryText, entC] | simp only [condK_B, guardK_Bt, guardK_Bf])
  refine EvK.of (impl_EntryOk_ok e he fun d c1 ho => ?_)
  have ho_le := ho.le
  cases hok : entOk e with
  | false =>
    have e1 : entTextOk 1 e = false := by simp [entTextOk, hok]
    simp only [entT, e1] at h
    repeat (first | simp only [RS0, RS1, RS2, RS3, RS4, reduceIte, Nat.reduceEqDiff, Nat.reduceAdd, Nat.reduceLeDiff, Nat.reduceLT, Nat.reduceMul, Int.reduceToNat, Int.reduceLT, Int.reduceLE, Int.reduceAdd, Int.reduceSub, Int.reduceMul, Int.reduceEq, Int.reduceNe, Nat.reduceSub, reduceCtorEq, boxF, if_true, if_false, forall_const, implies_true, ne_eq, entC, impl_within_rw] | simp (disch := first | assumption | omega | (simp only [LS]; first | done | omega) | (simp only [List.not_mem_nil, List.mem_cons, or_false, not_false_eq_true, not_or]; first | done | omega)) only [CS, entC] | simp only [condK_B, guardK_Bt, guardK_Bf])
    exact h _ _ (by ((try dsimp only); refine Own.of (by omega) ?_; repeat (first | exact OwnK.nil | refine OwnK.cons (.inl (by omega)) ?_ | refine OwnK.kill (fun b hb => .inl (by have := hoe b hb; omega)) ?_ | refine OwnK.cons (.inr (by simp)) ?_ | exact OwnK.one (by assumption) (by omega) (by omega) (by simp; first | done | omega) | refine OwnK.app (by assumption) (by omega) (by omega) (by simp; first | done | omega) ?_)))
  | true =>
    have ht := entOk_term hok
    have e1 : entTextOk 1 e = true := by simp [entTextOk, hok]
    simp only [entT, e1, if_true] at h
    repeat (first | simp only [RS0, RS1, RS2, RS3, RS4, reduceIte, Nat.reduceEqDiff, Nat.reduceAdd, Nat.reduceLeDiff, Nat.reduceLT, Nat.reduceMul, Int.reduceToNat, Int.reduceLT, Int.reduceLE, Int.reduceAdd, Int.reduceSub, Int.reduceMul, Int.reduceEq, Int.reduceNe, Nat.reduceSub, reduceCtorEq, boxF, if_true, if_false, forall_const, implies_true, ne_eq, entC, impl_within_rw] | simp (disch := first | assumption | omega | (simp only [LS]; first | done | omega) | (simp only [List.not_mem_nil, List.mem_cons, or_false, not_false_eq_true, not_or]; first | done | omega)) only [CS, entC] | simp only [condK_B, guardK_Bt, guardK_Bf])
    refine EvK.of (impl_varTexts_ok _ [1, e.term] (some c1) (.blk (by first | ((first | simp (disch := first | assumption | omega | (simp only [LS]; first | done | omega) | (simp only [List.not_mem_nil, List.mem_cons, or_false, not_false_eq_true, not_or]; first | done | omega)) only [CS, RS3, RS4] | done); done) | ((first | simp (disch := first | assumption | omega | (simp only [LS]; first | done | omega) | (simp only [List.not_mem_nil, List.mem_cons, or_false, not_false_eq_true, not_or]; first | done | omega)) only [CS, RS3, RS4] | done); rfl)) rfl) (by intro b hb; simp at hb; omega) (by simp) (by intro x hx; simp at hx; omega) fun d2 c2 ho2 => ?_)
    have ho2_le := ho2.le
    have l1 : (varL 1).length ≤ 10 := varL_len10 1 (by omega)
    have l2 := varL_len10 e.term (by omega)
    have hfl : ([1, e.term].flatMap fun x : Int => varL x.toNat) = varL 1 ++ varL e.term.toNat := by simp
    rw [hfl]
    repeat (first | simp only [RS0, RS1, RS2, RS3, RS4, reduceIte, Nat.reduceEqDiff, Nat.reduceAdd, Nat.reduceLeDiff, Nat.reduceLT, Nat.reduceMul, Int.reduceToNat, Int.reduceLT, Int.reduceLE, Int.reduceAdd, Int.reduceSub, Int.reduceMul, Int.reduceEq, Int.reduceNe, Nat.reduceSub, reduceCtorEq, boxF, if_true, if_false, forall_const, implies_true, ne_eq, entC, apart_own ho2, apart_new, impl_within_rw] | simp (disch := first | assumption | omega | (simp only [LS]; first | done | omega) | (simp only [List.not_mem_nil, List.mem_cons, or_false, not_false_eq_true, not_or]; first | done | omega)) only [CS, entC, apart_own ho2, apart_new] | simp only [condK_B, guardK_Bt, guardK_Bf])
    refine ⟨by omega, ?_⟩
    refine EvK.of (impl_byteTexts_ok _ [e.kind] (some c2) (.blk (by first | ((first | simp (disch := first | assumption | omega | (simp only [LS]; first | done | omega) | (simp only [List.not_mem_nil, List.mem_cons, or_false, not_false_eq_true, not_or]; first | done | omega)) only [CS, RS3, RS4] | done); done) | ((first | simp (disch := first | assumption | omega | (simp only [LS]; first | done | omega) | (simp only [List.not_mem_nil, List.mem_cons, or_false, not_false_eq_true, not_or]; first | done | omega)) only [CS, RS3, RS4] | done); rfl)) rfl) (by intro b hb; simp at hb; omega) (by simp) fun d3 c3 ho3 => ?_)
    have ho3_le := ho3.le
    repeat (first | simp only [RS0, RS1, RS2, RS3, RS4, reduceIte, Nat.reduceEqDiff, Nat.reduceAdd, Nat.reduceLeDiff, Nat.reduceLT, Nat.reduceMul, Int.reduceToNat, Int.reduceLT, Int.reduceLE, Int.reduceAdd, Int.reduceSub, Int.reduceMul, Int.reduceEq, Int.reduceNe, Nat.reduceSub, reduceCtorEq, boxF, if_true, if_false, forall_const, implies_true, ne_eq, entC, apart_own ho2, apart_own ho3, apart_new, impl_within_rw] | simp (disch := first | assumption | omega | (simp only [LS]; first | done | omega) | (simp only [List.not_mem_nil, List.mem_cons, or_false, not_false_eq_true, not_or]; first | done | omega)) only [CS, entC, apart_own ho2, apart_own ho3, apart_new] | simp only [condK_B, guardK_Bt, guardK_Bf])
    have e2 : entText 1 e = 69 :: (varL 1 ++ (varL e.term.toNat ++ by8 e.kind :: e.data)) := by simp [entText]
    rw [← e2]
    exact ⟨by omega, by omega, h _ _ (by ((try dsimp only); refine Own.of (by omega) ?_; repeat (first | exact OwnK.nil | refine OwnK.cons (.inl (by omega)) ?_ | refine OwnK.kill (fun b hb => .inl (by have := hoe b hb; omega)) ?_ | refine OwnK.cons (.inr (by simp)) ?_ | exact OwnK.one (by assumption) (by omega) (by omega) (by simp; first | done | omega) | refine OwnK.app (by assumption) (by omega) (by omega) (by simp; first | done | omega) ?_)))⟩

theorem impl_Encode_L0_ok (m : Msg) (ve vc : Value) (oe : Option Nat) (he : SlR H 3 ve (entsC m.entries) oe) (hoe : ∀ b, oe = some b → b < c)
    (hld : ∀ e ∈ m.entries, entOk e = true) (hl : m.entries.length ≤ 4) {K : List AM.Frame} {R : AExit → St → Prop} {ts : TS} {u : AHeap} {c1 : Nat} (pre : List UInt8) (hpre : pre.length ≤ 1000)
    (h1 : ts 1 = P c 0) (h4 : ts 4 = T pre) (h48 : ts 48 = ve) (h49 : ts 49 = I m.entries.length) (h5 : ts 50 = I 0) (hg : get (u ++ H) c = some ⟨msgC m ve vc, 0, false⟩) (ho : Own [] u c c1) (hcc : c < c1)
    (hT : ∀ ts u c1, ts 1 = P c 0 → ts 4 = T (pre ++ encE m.entries) → get (u ++ H) c = some ⟨msgC m ve vc, 0, false⟩ → Own [] u c c1 → c < c1 → post (tbl prim) H K R (.exit 0) ⟨ts, u, c1⟩) : Wloop (tbl prim) H g_impl_Encode_L0 K ⟨ts, u, c1⟩ R := by
  have hle := he.len (ents_len _) (by omega)
  refine Wloop.of (fun k s => ∃ (i : Nat), s.ts 1 = P c 0 ∧ s.ts 4 = T (pre ++ encE (m.entries.take i)) ∧ s.ts 48 = ve ∧ s.ts 49 = I m.entries.length ∧ s.ts 50 = I i ∧ k = m.entries.length - i ∧ i ≤ m.entries.length ∧ get (s.u ++ H) c = some ⟨msgC m ve vc, 0, false⟩ ∧ Own [] s.u c s.c ∧ c < s.c)
    ?_ (n := m.entries.length) ⟨0, h1, by simpa [encE] using h4, h48, h49, by simpa using h5, rfl, by omega, hg, ho, hcc⟩
  clear h1 h4 h5 h48 h49 hg ho hcc
  rintro k ⟨ts, u, c1⟩ ⟨i, h1, h4, h48, h49, h5, rfl, hi, hg, ho, hcc⟩ R hR hE
  simp only at h1 h4 h48 h49 h5 hg ho hcc
  simp only [msgC] at hg
  have he2 := he.own ho (fun b e => ⟨hoe b e, by simp⟩)
  by_cases hin : i < m.entries.length
  · obtain ⟨b, ro, hbc, hob, hia, hgb⟩ := he2.el hoe (ents_len _) (by omega) (k := .i64) hin
    have hinT : ((i : Int) < m.entries.length) = True := eq_true (by omega)
    have hok := hld m.entries[i] (List.getElem_mem hin)
    have hb1 := entT_small hok
    have hdl : m.entries[i].data.length ≤ 100000000 := by have := (entOk_bounds hok).2.2; omega
    have hb2 := encE_len (l := m.entries.take i) (fun e he => by have := (entOk_bounds (hld e (List.mem_of_mem_take he))).2.2; omega)
    have hb3 : (m.entries.take i).length ≤ 4 := by simp; omega
    repeat (first | simp only [RS0, RS1, RS2, RS3, RS4, reduceIte, Nat.reduceEqDiff, Nat.reduceAdd, Nat.reduceLeDiff, Nat.reduceLT, Nat.reduceMul, Int.reduceToNat, Int.reduceLT, Int.reduceLE, Int.reduceAdd, Int.reduceSub, Int.reduceMul, Int.reduceEq, Int.reduceNe, Nat.reduceSub, reduceCtorEq, boxF, if_true, if_false, forall_const, implies_true, ne_eq, g_impl_Encode_L0, h1, h4, h5, h48, h49, hg, hle, hia, hgb, ents_len, ents_N hin, hinT, entC, impl_within_rw] | simp (disch := first | assumption | omega | (simp only [LS]; first | done | omega) | (simp only [List.not_mem_nil, List.mem_cons, or_false, not_false_eq_true, not_or]; first | done | omega)) only [CS, g_impl_Encode_L0, h1, h4, h5, h48, h49, hg, hle, hia, hgb, ents_len, ents_N hin, hinT, entC] | simp only [condK_B, guardK_Bt, guardK_Bf])
    refine ⟨by omega, ?_⟩
    refine EvK.of (impl_EntryText_ok m.entries[i] hdl fun d2 c2 ho2 => ?_)
    have ho2_le := ho2.le
    repeat (first | simp only [RS0, RS1, RS2, RS3, RS4, reduceIte, Nat.reduceEqDiff, Nat.reduceAdd, Nat.reduceLeDiff, Nat.reduceLT, Nat.reduceMul, Int.reduceToNat, Int.reduceLT, Int.reduceLE, Int.reduceAdd, Int.reduceSub, Int.reduceMul, Int.reduceEq, Int.reduceNe, Nat.reduceSub, reduceCtorEq, boxF, if_true, if_false, forall_const, implies_true, ne_eq, h1, h4, impl_within_rw] | simp (disch := first | assumption | omega | (simp only [LS]; first | done | omega) | (simp only [List.not_mem_nil, List.mem_cons, or_false, not_false_eq_true, not_or]; first | done | omega)) only [CS, h1, h4] | simp only [condK_B, guardK_Bt, guardK_Bf])
    refine EvK.of (impl_shortTexts_ok _ [entT m.entries[i]] (some c2) (.blk (by first | ((first | simp (disch := first | assumption | omega | (simp only [LS]; first | done | omega) | (simp only [List.not_mem_nil, List.mem_cons, or_false, not_false_eq_true, not_or]; first | done | omega)) only [CS, RS3, RS4] | done); done) | ((first | simp (disch := first | assumption | omega | (simp only [LS]; first | done | omega) | (simp only [List.not_mem_nil, List.mem_cons, or_false, not_false_eq_true, not_or]; first | done | omega)) only [CS, RS3, RS4] | done); rfl)) rfl) (by intro b hb; simp at hb; omega) (by simp) (by intro x hx; simp at hx; subst hx; omega) fun d3 c3 ho3 => ?_)
    have ho3_le := ho3.le
    rw [show ([entT m.entries[i]].flatMap shortT) = shortT (entT m.entries[i]) by simp]
    have hb4 := shortT_len (t := entT m.entries[i]) (by omega)
    repeat (first | simp only [RS0, RS1, RS2, RS3, RS4, reduceIte, Nat.reduceEqDiff, Nat.reduceAdd, Nat.reduceLeDiff, Nat.reduceLT, Nat.reduceMul, Int.reduceToNat, Int.reduceLT, Int.reduceLE, Int.reduceAdd, Int.reduceSub, Int.reduceMul, Int.reduceEq, Int.reduceNe, Nat.reduceSub, reduceCtorEq, boxF, if_true, if_false, forall_const, implies_true, ne_eq, h1, h4, h48, h49, h5, impl_within_rw] | simp (disch := first | assumption | omega | (simp only [LS]; first | done | omega) | (simp only [List.not_mem_nil, List.mem_cons, or_false, not_false_eq_true, not_or]; first | done | omega)) only [CS, h1, h4, h48, h49, h5] | simp only [condK_B, guardK_Bt, guardK_Bf])
    simp only [shortT, List.length_append] at hb4
    have : encE (m.entries.take (i + 1)) = encE (m.entries.take i) ++ shortT (entT m.entries[i]) := by
      rw [List.take_succ_eq_append_getElem hin]; simp only [encE, List.flatMap_append, List.flatMap_cons, List.flatMap_nil, List.append_nil]
    refine ⟨?_, hR (m.entries.length - (i + 1)) _ (by omega) ⟨i + 1, by simp [h1], by simp [this], by simp [h48], by simp [h49], by simp, rfl, by omega, by (first | simp (disch := first | assumption | omega | (simp only [LS]; first | done | omega) | (simp only [List.not_mem_nil, List.mem_cons, or_false, not_false_eq_true, not_or]; first | done | omega)) only [CS, hg, msgC, RS3, RS4] | done), by ((try dsimp only); refine Own.of (by omega) ?_; repeat (first | exact OwnK.nil | refine OwnK.cons (.inl (by omega)) ?_ | refine OwnK.kill (fun b hb => .inl (by have := hoe b hb; omega)) ?_ | refine OwnK.cons (.inr (by simp)) ?_ | exact OwnK.one (by assumption) (by omega) (by omega) (by simp; first | done | omega) | refine OwnK.app (by assumption) (by omega) (by omega) (by simp; first | done | omega) ?_)), by (try dsimp only); omega⟩⟩
    first | omega | (simp only [shortT, List.length_append]; omega)
  · have hinF : ((i : Int) < m.entries.length) = False := eq_false (by omega)
    rw [List.take_of_length_le (by omega)] at h4
    repeat (first | simp only [RS0, RS1, RS2, RS3, RS4, reduceIte, Nat.reduceEqDiff, Nat.reduceAdd, Nat.reduceLeDiff, Nat.reduceLT, Nat.reduceMul, Int.reduceToNat, Int.reduceLT, Int.reduceLE, Int.reduceAdd, Int.reduceSub, Int.reduceMul, Int.reduceEq, Int.reduceNe, Nat.reduceSub, reduceCtorEq, boxF, if_true, if_false, forall_const, implies_true, ne_eq, g_impl_Encode_L0, h1, h4, h5, h48, h49, hg, hle, hinF, impl_within_rw] | simp (disch := first | assumption | omega | (simp only [LS]; first | done | omega) | (simp only [List.not_mem_nil, List.mem_cons, or_false, not_false_eq_true, not_or]; first | done | omega)) only [CS, g_impl_Encode_L0, h1, h4, h5, h48, h49, hg, hle, hinF] | simp only [condK_B, guardK_Bt, guardK_Bf])
    exact hE _ _ (by decide) (hT _ _ _ (by simp [h1]) (by simp [h4]) hg ho hcc)

set_option maxHeartbeats 1000000 in
theorem impl_Encode_ok (m : Msg) (ve vc : Value) (oe oc : Option Nat) (he : SlR H 3 ve (entsC m.entries) oe) (hc : SlR H 1 vc (m.conf.map I) oc) (hoe : ∀ b, oe = some b → b < c) (hoc : ∀ b, oc = some b → b < c)
    (hl : m.entries.length ≤ 100000000) (hbc : m.conf.length ≤ 100000000) (hld : ∀ e ∈ m.entries, e.data.length ≤ 100000000) (hd : m.data.length ≤ 100000000)
    (h : ∀ d c', Own [] d c c' → Q (.tuple ⟨[T (if msgOk m = true then msgText m else []), B (msgOk m)]⟩) d c') : Ev (tbl prim) n_impl_Encode [ag (msgC m ve vc)] H c Q := by
  refine Ev.fn (s_impl_Encode prim) rfl ?_
  have hle := he.len (ents_len _) (by omega)
  repeat (first | simp only [RS0, RS1, RS2, RS3, RS4, reduceIte, Nat.reduceEqDiff, Nat.reduceAdd, Nat.reduceLeDiff, Nat.reduceLT, Nat.reduceMul, Int.reduceToNat, Int.reduceLT, Int.reduceLE, Int.reduceAdd, Int.reduceSub, Int.reduceMul, Int.reduceEq, Int.reduceNe, Nat.reduceSub, reduceCtorEq, boxF, if_true, if_false, forall_const, implies_true, ne_eq, g_impl_Encode, msgC, he.cl, hc.cl, he.isC, hc.isC, impl_within_rw] | simp (disch := first | assumption | omega | (simp only [LS]; first | done | omega) | (simp only [List.not_mem_nil, List.mem_cons, or_false, not_false_eq_true, not_or]; first | done | omega)) only [CS, g_impl_Encode, msgC, he.cl, hc.cl, he.isC, hc.isC] | simp only [condK_B, guardK_Bt, guardK_Bf])
  have he1 : SlR ((c, some ⟨msgC m ve vc, 0, false⟩) :: H) 3 ve (entsC m.entries) oe := he.own (d := [(c, _)]) ((Own.nil (S := []) c).new) (fun b e => ⟨hoe b e, by simp⟩)
  have hc1 : SlR ((c, some ⟨msgC m ve vc, 0, false⟩) :: H) 1 vc (m.conf.map I) oc := hc.own (d := [(c, _)]) ((Own.nil (S := []) c).new) (fun b e => ⟨hoc b e, by simp⟩)
  refine EvK.of (impl_MessageOk_ok m ve vc oe oc he1 hc1 (fun b e => by have := hoe b e; omega) (fun b e => by have := hoc b e; omega) hl hbc hld hd fun d1 c1 ho1 => ?_)
  have ho1_le := ho1.le
  cases hok : msgOk m with
  | false =>
    simp only [hok] at h
    repeat (first | simp only [RS0, RS1, RS2, RS3, RS4, reduceIte, Nat.reduceEqDiff, Nat.reduceAdd, Nat.reduceLeDiff, Nat.reduceLT, Nat.reduceMul, Int.reduceToNat, Int.reduceLT, Int.reduceLE, Int.reduceAdd, Int.reduceSub, Int.reduceMul, Int.reduceEq, Int.reduceNe, Nat.reduceSub, reduceCtorEq, boxF, if_true, if_false, forall_const, implies_true, ne_eq, impl_within_rw] | simp (disch := first | assumption | omega | (simp only [LS]; first | done | omega) | (simp only [List.not_mem_nil, List.mem_cons, or_false, not_false_eq_true, not_or]; first | done | omega)) only [CS] | simp only [condK_B, guardK_Bt, guardK_Bf])
    exact h _ _ (by ((try dsimp only); refine Own.of (by omega) ?_; repeat (first | exact OwnK.nil | refine OwnK.cons (.inl (by omega)) ?_ | refine OwnK.kill (fun b hb => .inl (by have := hoe b hb; omega)) ?_ | refine OwnK.cons (.inr (by simp)) ?_ | exact OwnK.one (by assumption) (by omega) (by omega) (by simp; first | done | omega) | refine OwnK.app (by assumption) (by omega) (by omega) (by simp; first | done | omega) ?_)))
  | true =>
    simp only [hok, if_true] at h
    obtain ⟨hhead, hmid, heok, hdl, hcc2, hcR, hcl, hc4⟩ := msgB hok
    unfold msgHead at hhead
    unfold msgMid at hmid
    repeat (first | simp only [RS0, RS1, RS2, RS3, RS4, reduceIte, Nat.reduceEqDiff, Nat.reduceAdd, Nat.reduceLeDiff, Nat.reduceLT, Nat.reduceMul, Int.reduceToNat, Int.reduceLT, Int.reduceLE, Int.reduceAdd, Int.reduceSub, Int.reduceMul, Int.reduceEq, Int.reduceNe, Nat.reduceSub, reduceCtorEq, boxF, if_true, if_false, forall_const, implies_true, ne_eq, impl_within_rw] | simp (disch := first | assumption | omega | (simp only [LS]; first | done | omega) | (simp only [List.not_mem_nil, List.mem_cons, or_false, not_false_eq_true, not_or]; first | done | omega)) only [CS] | simp only [condK_B, guardK_Bt, guardK_Bf])
    refine EvK.of (impl_byteTexts_ok _ [m.kind, m.src, m.dst] (some c1) (.blk (by first | ((first | simp (disch := first | assumption | omega | (simp only [LS]; first | done | omega) | (simp only [List.not_mem_nil, List.mem_cons, or_false, not_false_eq_true, not_or]; first | done | omega)) only [CS, RS3, RS4] | done); done) | ((first | simp (disch := first | assumption | omega | (simp only [LS]; first | done | omega) | (simp only [List.not_mem_nil, List.mem_cons, or_false, not_false_eq_true, not_or]; first | done | omega)) only [CS, RS3, RS4] | done); rfl)) rfl) (by intro b hb; simp at hb; omega) (by simp) fun d2 c2 ho2 => ?_)
    have ho2_le := ho2.le
    repeat (first | simp only [RS0, RS1, RS2, RS3, RS4, reduceIte, Nat.reduceEqDiff, Nat.reduceAdd, Nat.reduceLeDiff, Nat.reduceLT, Nat.reduceMul, Int.reduceToNat, Int.reduceLT, Int.reduceLE, Int.reduceAdd, Int.reduceSub, Int.reduceMul, Int.reduceEq, Int.reduceNe, Nat.reduceSub, reduceCtorEq, boxF, if_true, if_false, forall_const, implies_true, ne_eq, apart_own ho2, apart_new, impl_within_rw] | simp (disch := first | assumption | omega | (simp only [LS]; first | done | omega) | (simp only [List.not_mem_nil, List.mem_cons, or_false, not_false_eq_true, not_or]; first | done | omega)) only [CS, apart_own ho2, apart_new] | simp only [condK_B, guardK_Bt, guardK_Bf])
    refine EvK.of (impl_varTexts_ok _ [m.term, m.index, m.logTerm, m.commit] (some c2) (.blk (by first | ((first | simp (disch := first | assumption | omega | (simp only [LS]; first | done | omega) | (simp only [List.not_mem_nil, List.mem_cons, or_false, not_false_eq_true, not_or]; first | done | omega)) only [CS, RS3, RS4] | done); done) | ((first | simp (disch := first | assumption | omega | (simp only [LS]; first | done | omega) | (simp only [List.not_mem_nil, List.mem_cons, or_false, not_false_eq_true, not_or]; first | done | omega)) only [CS, RS3, RS4] | done); rfl)) rfl) (by intro b hb; simp at hb; omega) (by simp) (by intro x hx; simp at hx; omega) fun d3 c3 ho3 => ?_)
    have ho3_le := ho3.le
    have l1 := varL_len10 m.term (by omega)
    have l2 := varL_len10 m.index (by omega)
    have l3 := varL_len10 m.logTerm (by omega)
    have l4 := varL_len10 m.commit (by omega)
    have hfl : ([m.term, m.index, m.logTerm, m.commit].flatMap fun x : Int => varL x.toNat) = varL m.term.toNat ++ varL m.index.toNat ++ varL m.logTerm.toNat ++ varL m.commit.toNat := by simp
    rw [hfl]
    repeat (first | simp only [RS0, RS1, RS2, RS3, RS4, reduceIte, Nat.reduceEqDiff, Nat.reduceAdd, Nat.reduceLeDiff, Nat.reduceLT, Nat.reduceMul, Int.reduceToNat, Int.reduceLT, Int.reduceLE, Int.reduceAdd, Int.reduceSub, Int.reduceMul, Int.reduceEq, Int.reduceNe, Nat.reduceSub, reduceCtorEq, boxF, if_true, if_false, forall_const, implies_true, ne_eq, apart_own ho2, apart_own ho3, apart_new, impl_flag_rw, impl_within_rw] | simp (disch := first | assumption | omega | (simp only [LS]; first | done | omega) | (simp only [List.not_mem_nil, List.mem_cons, or_false, not_false_eq_true, not_or]; first | done | omega)) only [CS, apart_own ho2, apart_own ho3, apart_new, impl_flag_rw] | simp only [condK_B, guardK_Bt, guardK_Bf])
    refine ⟨by omega, ?_⟩
    refine EvK.of (impl_byteTexts_ok _ [if m.ok = true then 1 else 0, if m.last = true then 1 else 0] (some c3) (.blk (by first | ((first | simp (disch := first | assumption | omega | (simp only [LS]; first | done | omega) | (simp only [List.not_mem_nil, List.mem_cons, or_false, not_false_eq_true, not_or]; first | done | omega)) only [CS, RS3, RS4] | done); done) | ((first | simp (disch := first | assumption | omega | (simp only [LS]; first | done | omega) | (simp only [List.not_mem_nil, List.mem_cons, or_false, not_false_eq_true, not_or]; first | done | omega)) only [CS, RS3, RS4] | done); rfl)) rfl) (by intro b hb; simp at hb; omega) (by simp) fun d4 c4 ho4 => ?_)
    have ho4_le := ho4.le
    have hfl2 : ([if m.ok = true then 1 else 0, if m.last = true then 1 else 0] : List Int).map by8 = flagT m.ok ++ flagT m.last := by cases m.ok <;> cases m.last <;> rfl
    have hfl3 : (flagT m.ok).length = 1 := rfl
    have hfl4 : (flagT m.last).length = 1 := rfl
    rw [hfl2]
    repeat (first | simp only [RS0, RS1, RS2, RS3, RS4, reduceIte, Nat.reduceEqDiff, Nat.reduceAdd, Nat.reduceLeDiff, Nat.reduceLT, Nat.reduceMul, Int.reduceToNat, Int.reduceLT, Int.reduceLE, Int.reduceAdd, Int.reduceSub, Int.reduceMul, Int.reduceEq, Int.reduceNe, Nat.reduceSub, reduceCtorEq, boxF, if_true, if_false, forall_const, implies_true, ne_eq, hle, impl_within_rw] | simp (disch := first | assumption | omega | (simp only [LS]; first | done | omega) | (simp only [List.not_mem_nil, List.mem_cons, or_false, not_false_eq_true, not_or]; first | done | omega)) only [CS, hle] | simp only [condK_B, guardK_Bt, guardK_Bf])
    have l5 := varL_len100 (n := m.entries.length) (by omega)
    refine ⟨by omega, ?_⟩
    refine EvK.of (impl_varTexts_ok _ [(m.entries.length : Int)] (some c4) (.blk (by first | ((first | simp (disch := first | assumption | omega | (simp only [LS]; first | done | omega) | (simp only [List.not_mem_nil, List.mem_cons, or_false, not_false_eq_true, not_or]; first | done | omega)) only [CS, RS3, RS4] | done); done) | ((first | simp (disch := first | assumption | omega | (simp only [LS]; first | done | omega) | (simp only [List.not_mem_nil, List.mem_cons, or_false, not_false_eq_true, not_or]; first | done | omega)) only [CS, RS3, RS4] | done); rfl)) rfl) (by intro b hb; simp at hb; omega) (by simp) (by intro x hx; simp at hx; omega) fun d5 c5 ho5 => ?_)
    have ho5_le := ho5.le
    have hfl5 : ([(m.entries.length : Int)].flatMap fun x : Int => varL x.toNat) = varL m.entries.length := by simp
    rw [hfl5]
    repeat (first | simp only [RS0, RS1, RS2, RS3, RS4, reduceIte, Nat.reduceEqDiff, Nat.reduceAdd, Nat.reduceLeDiff, Nat.reduceLT, Nat.reduceMul, Int.reduceToNat, Int.reduceLT, Int.reduceLE, Int.reduceAdd, Int.reduceSub, Int.reduceMul, Int.reduceEq, Int.reduceNe, Nat.reduceSub, reduceCtorEq, boxF, if_true, if_false, forall_const, implies_true, ne_eq, hle, impl_within_rw] | simp (disch := first | assumption | omega | (simp only [LS]; first | done | omega) | (simp only [List.not_mem_nil, List.mem_cons, or_false, not_false_eq_true, not_or]; first | done | omega)) only [CS, hle] | simp only [condK_B, guardK_Bt, guardK_Bf])
    refine ⟨by omega, ?_⟩
    have hhl : (headT m).length ≤ 1000 := by simp only [headT, flagT, List.length_append, List.length_cons, List.length_nil]; omega
    refine impl_Encode_L0_ok m ve vc oe he hoe heok hmid.2.2.1 (headT m) hhl (by simp) (by simp [headT]) (by simp) (by simp) (by simp) (by (first | simp (disch := first | assumption | omega | (simp only [LS]; first | done | omega) | (simp only [List.not_mem_nil, List.mem_cons, or_false, not_false_eq_true, not_or]; first | done | omega)) only [CS, msgC, RS3, RS4] | done)) (by ((try dsimp only); refine Own.of (by omega) ?_; repeat (first | exact OwnK.nil | refine OwnK.cons (.inl (by omega)) ?_ | refine OwnK.kill (fun b hb => .inl (by have := hoe b hb; omega)) ?_ | refine OwnK.cons (.inr (by simp)) ?_ | exact OwnK.one (by assumption) (by omega) (by omega) (by simp; first | done | omega) | refine OwnK.app (by assumption) (by omega) (by omega) (by simp; first | done | omega) ?_))) (by (try dsimp only); omega) (fun ts u c1 h1 h4 hg ho hcc => ?_)
    simp only [msgC] at hg
    have hc2 := hc.own ho (fun b e => ⟨hoc b e, by simp⟩)
    repeat (first | simp only [RS0, RS1, RS2, RS3, RS4, reduceIte, Nat.reduceEqDiff, Nat.reduceAdd, Nat.reduceLeDiff, Nat.reduceLT, Nat.reduceMul, Int.reduceToNat, Int.reduceLT, Int.reduceLE, Int.reduceAdd, Int.reduceSub, Int.reduceMul, Int.reduceEq, Int.reduceNe, Nat.reduceSub, reduceCtorEq, boxF, if_true, if_false, forall_const, implies_true, ne_eq, h1, h4, hg, impl_within_rw] | simp (disch := first | assumption | omega | (simp only [LS]; first | done | omega) | (simp only [List.not_mem_nil, List.mem_cons, or_false, not_false_eq_true, not_or]; first | done | omega)) only [CS, h1, h4, hg] | simp only [condK_B, guardK_Bt, guardK_Bf])
    refine EvK.of (impl_byteTexts_ok vc m.conf oc hc2 (fun b e => by have := hoc b e; omega) (by omega) fun d7 c7 ho7 => ?_)
    have ho7_le := ho7.le
    have hcf : m.conf.map by8 = confT m.conf := by
      unfold confT
      split
      · rfl
      · rename_i g
        unfold confT at hcc2
        rw [if_neg g] at hcc2
        simp [ints] at hcc2
        simp [← hcc2]
    rw [hcf]
    repeat (first | simp only [RS0, RS1, RS2, RS3, RS4, reduceIte, Nat.reduceEqDiff, Nat.reduceAdd, Nat.reduceLeDiff, Nat.reduceLT, Nat.reduceMul, Int.reduceToNat, Int.reduceLT, Int.reduceLE, Int.reduceAdd, Int.reduceSub, Int.reduceMul, Int.reduceEq, Int.reduceNe, Nat.reduceSub, reduceCtorEq, boxF, if_true, if_false, forall_const, implies_true, ne_eq, h1, h4, hg, apart_own ho7, apart_new, impl_within_rw] | simp (disch := first | assumption | omega | (simp only [LS]; first | done | omega) | (simp only [List.not_mem_nil, List.mem_cons, or_false, not_false_eq_true, not_or]; first | done | omega)) only [CS, h1, h4, hg, apart_own ho7, apart_new] | simp only [condK_B, guardK_Bt, guardK_Bf])
    refine EvK.of (impl_shortTexts_ok _ [confT m.conf, m.data] (some c7) (.blk (by first | ((first | simp (disch := first | assumption | omega | (simp only [LS]; first | done | omega) | (simp only [List.not_mem_nil, List.mem_cons, or_false, not_false_eq_true, not_or]; first | done | omega)) only [CS, RS3, RS4] | done); done) | ((first | simp (disch := first | assumption | omega | (simp only [LS]; first | done | omega) | (simp only [List.not_mem_nil, List.mem_cons, or_false, not_false_eq_true, not_or]; first | done | omega)) only [CS, RS3, RS4] | done); rfl)) rfl) (by intro b hb; simp at hb; omega) (by simp) (by intro x hx; simp at hx; rcases hx with rfl | rfl <;> omega) fun d8 c8 ho8 => ?_)
    have ho8_le := ho8.le
    have hfl6 : ([confT m.conf, m.data].flatMap shortT) = shortT (confT m.conf) ++ shortT m.data := by simp
    rw [hfl6]
    have b2 := encE_len hld
    have b3 := shortT_len (t := confT m.conf) (by omega)
    have b4 := shortT_len (t := m.data) (by omega)
    have b5 : m.entries.length ≤ 4 := hmid.2.2.1
    repeat (first | simp only [RS0, RS1, RS2, RS3, RS4, reduceIte, Nat.reduceEqDiff, Nat.reduceAdd, Nat.reduceLeDiff, Nat.reduceLT, Nat.reduceMul, Int.reduceToNat, Int.reduceLT, Int.reduceLE, Int.reduceAdd, Int.reduceSub, Int.reduceMul, Int.reduceEq, Int.reduceNe, Nat.reduceSub, reduceCtorEq, boxF, if_true, if_false, forall_const, implies_true, ne_eq, h1, h4, hg, impl_within_rw] | simp (disch := first | assumption | omega | (simp only [LS]; first | done | omega) | (simp only [List.not_mem_nil, List.mem_cons, or_false, not_false_eq_true, not_or]; first | done | omega)) only [CS, h1, h4, hg] | simp only [condK_B, guardK_Bt, guardK_Bf])
    have e : msgText m = headT m ++ (encE m.entries ++ (shortT (confT m.conf) ++ shortT m.data)) := by simp [msgText]
    rw [e] at h
    exact ⟨by omega, h _ _ (by ((try dsimp only); refine Own.of (by omega) ?_; repeat (first | exact OwnK.nil | refine OwnK.cons (.inl (by omega)) ?_ | refine OwnK.kill (fun b hb => .inl (by have := hoe b hb; omega)) ?_ | refine OwnK.cons (.inr (by simp)) ?_ | exact OwnK.one (by assumption) (by omega) (by omega) (by simp; first | done | omega) | refine OwnK.app (by assumption) (by omega) (by omega) (by simp; first | done | omega) ?_)))⟩
end
end Go.Proofs.Ytfcglkajekohiaa
