/- Contracts: draws of texts and confs. -/
import Derived.Test.YtfcglkajekohiaaE1
set_option linter.unusedSimpArgs false
set_option linter.unusedVariables false
set_option maxRecDepth 20000
namespace Go.Proofs.Ytfcglkajekohiaa
open Go Go.Proofs.Ytfcglkajekohiaa.AM

/-- The bytes that a draw is made from, as they come in. -/
def Code (G : AHeap) (v : Value) : Prop := ∃ l : List UInt8, l.length ≤ 2000000 ∧ ((∃ e, (v = .slice none 0 e ∨ v = Sl 0 0 e) ∧ l = []) ∨ ∃ e ro, v = Sl 0 l.length e ∧ get G 0 = some ⟨l.map U, 1, ro⟩)
theorem Code.of_get {G G' : AHeap} {v : Value} (h : Code G v) (h0 : get G' 0 = get G 0) : Code G' v := by
  obtain ⟨l, h1, h2⟩ := h
  refine ⟨l, h1, ?_⟩
  rcases h2 with h2 | ⟨e, ro, h2, h3⟩
  · exact .inl h2
  · exact .inr ⟨e, ro, h2, by rw [h0]; exact h3⟩
theorem Code.isC {G : AHeap} {v : Value} (h : Code G v) : isCell v = true ∧ v.cells.toList = [v] := by
  obtain ⟨l, h1, h2⟩ := h
  rcases h2 with ⟨e, rfl | rfl, _⟩ | ⟨e, ro, rfl, _⟩ <;> exact ⟨rfl, rfl⟩

section
variable {prim : Nat → List Value → Option Value} {H : AHeap} {c : Nat} {Q : Value → AHeap → Nat → Prop}

theorem spec_l01New_ok (v : Value) (hv : Code H v) (hc : 0 < c) (h : ∀ d c', Own [] d c c' → CurD (d ++ H) c → c < c' → Q (P c 0) d c') : Ev (tbl prim) n_spec_l01New [v] H c Q := by
  refine Ev.fn (s_spec_l01New prim) rfl ?_
  have hv0 := hv
  obtain ⟨l, hl, hv⟩ := hv
  have hlen : lenF false v = some (I l.length) := by rcases hv with ⟨e, rfl | rfl, rfl⟩ | ⟨e, ro, rfl, _⟩ <;> rfl
  have hcl := hv0.isC
  have hia : ∀ i : Nat, i < l.length → iaF 1 v (I i) = some (P 0 i) := fun i hi => by
    rcases hv with ⟨e, rfl | rfl, rfl⟩ | ⟨e, ro, rfl, _⟩
    · simp at hi
    · simp at hi
    · rw [iaF_eq, if_pos ⟨by omega, by omega⟩]; simp
  have hg : ∀ i : Nat, i < l.length → ∃ ro, get H 0 = some ⟨l.map U, 1, ro⟩ := fun i hi => by
    rcases hv with ⟨e, rfl | rfl, rfl⟩ | ⟨e, ro, rfl, h0⟩
    · simp at hi
    · simp at hi
    · exact ⟨ro, h0⟩
  repeat (first | simp only [RS0, RS1, RS2, RS3, RS4, reduceIte, Nat.reduceEqDiff, Nat.reduceAdd, Nat.reduceLeDiff, Nat.reduceLT, Nat.reduceMul, Int.reduceToNat, Int.reduceLT, Int.reduceLE, Int.reduceAdd, Int.reduceSub, Int.reduceMul, Int.reduceEq, Int.reduceNe, Nat.reduceSub, reduceCtorEq, boxF, if_true, if_false, forall_const, implies_true, ne_eq, g_spec_l01New, hlen, spec_l01In_rw, b_and, b_xor, b_or] | simp (disch := first | assumption | omega | (simp only [LS]; first | done | omega) | (simp only [List.not_mem_nil, List.mem_cons, or_false, not_false_eq_true, not_or]; first | done | omega)) only [CS, g_spec_l01New, hlen] | simp only [condK_B, guardK_Bt, guardK_Bf])
  refine Wloop.of (fun k s => ∃ (i : Nat) (x : Int), s.ts 0 = v ∧ s.ts 3 = I x ∧ s.ts 4 = I i ∧ k = l.length - i ∧ i ≤ l.length ∧ s.u = [] ∧ s.c = c) ?_ (n := l.length) ⟨0, _, by simp, by simp; rfl, by simp, rfl, by omega, rfl, rfl⟩
  rintro k ⟨ts, u, c1⟩ ⟨i, x, h1, h2, h3, rfl, hi, hu, hcc⟩ R hR hE
  simp only at h1 h2 h3 hu hcc
  subst hu hcc
  have fin : ∀ ts' : TS, ts' 0 = v → ts' 3 = I x → R (.exit 0) ⟨ts', [], c1⟩ := fun ts' g1 g2 => by
    refine hE _ _ (by decide) ?_
    repeat (first | simp only [RS0, RS1, RS2, RS3, RS4, reduceIte, Nat.reduceEqDiff, Nat.reduceAdd, Nat.reduceLeDiff, Nat.reduceLT, Nat.reduceMul, Int.reduceToNat, Int.reduceLT, Int.reduceLE, Int.reduceAdd, Int.reduceSub, Int.reduceMul, Int.reduceEq, Int.reduceNe, Nat.reduceSub, reduceCtorEq, boxF, if_true, if_false, forall_const, implies_true, ne_eq, g1, g2, hcl.1, hcl.2, spec_l01In_rw, b_and, b_xor, b_or] | simp (disch := first | assumption | omega | (simp only [LS]; first | done | omega) | (simp only [List.not_mem_nil, List.mem_cons, or_false, not_false_eq_true, not_or]; first | done | omega)) only [CS, g1, g2, hcl.1, hcl.2] | simp only [condK_B, guardK_Bt, guardK_Bf])
    refine h _ _ (by ((try dsimp only); refine Own.of (by omega) ?_; repeat (first | exact OwnK.nil | refine OwnK.cons (.inl (by omega)) ?_ | refine OwnK.kill (fun b hb => .inl (by have := hoe b hb; omega)) ?_ | refine OwnK.cons (.inr (by simp)) ?_ | exact OwnK.one (by assumption) (by omega) (by omega) (by simp; first | done | omega) | refine OwnK.app (by assumption) (by omega) (by omega) (by simp; first | done | omega) ?_))) ⟨hc, v, l, 0, x, by (first | simp (disch := first | assumption | omega | (simp only [LS]; first | done | omega) | (simp only [List.not_mem_nil, List.mem_cons, or_false, not_false_eq_true, not_or]; first | done | omega)) only [CS, RS3, RS4] | done), by omega, hl, ?_⟩ (by omega)
    rcases hv with hv | ⟨e, ro, hv, h0⟩
    · exact .inl hv
    · exact .inr ⟨e, ro, hv, by (first | simp (disch := first | assumption | omega | (simp only [LS]; first | done | omega) | (simp only [List.not_mem_nil, List.mem_cons, or_false, not_false_eq_true, not_or]; first | done | omega)) only [CS, h0, RS3, RS4] | done)⟩
  by_cases hin : i < l.length ∧ i < 4000
  · have hT : ((i : Int) < l.length) = True := eq_true (by omega)
    have hT2 : ((i : Int) < 4000) = True := eq_true (by omega)
    obtain ⟨ro, hg⟩ := hg i hin.1
    repeat (first | simp only [RS0, RS1, RS2, RS3, RS4, reduceIte, Nat.reduceEqDiff, Nat.reduceAdd, Nat.reduceLeDiff, Nat.reduceLT, Nat.reduceMul, Int.reduceToNat, Int.reduceLT, Int.reduceLE, Int.reduceAdd, Int.reduceSub, Int.reduceMul, Int.reduceEq, Int.reduceNe, Nat.reduceSub, reduceCtorEq, boxF, if_true, if_false, forall_const, implies_true, ne_eq, g_spec_l01New_L0, h1, h2, h3, hlen, hT, hT2, hia i hin.1, hg, spec_l01In_rw, b_and, b_xor, b_or] | simp (disch := first | assumption | omega | (simp only [LS]; first | done | omega) | (simp only [List.not_mem_nil, List.mem_cons, or_false, not_false_eq_true, not_or]; first | done | omega)) only [CS, g_spec_l01New_L0, h1, h2, h3, hlen, hT, hT2, hia i hin.1, hg] | simp only [condK_B, guardK_Bt, guardK_Bf])
    exact ⟨⟨by omega, by omega⟩, hR (l.length - (i + 1)) _ (by omega) ⟨i + 1, _, by simp [h1], by simp; rfl, by simp, rfl, by omega, rfl, rfl⟩⟩
  · repeat (first | simp only [RS0, RS1, RS2, RS3, RS4, reduceIte, Nat.reduceEqDiff, Nat.reduceAdd, Nat.reduceLeDiff, Nat.reduceLT, Nat.reduceMul, Int.reduceToNat, Int.reduceLT, Int.reduceLE, Int.reduceAdd, Int.reduceSub, Int.reduceMul, Int.reduceEq, Int.reduceNe, Nat.reduceSub, reduceCtorEq, boxF, if_true, if_false, forall_const, implies_true, ne_eq, g_spec_l01New_L0, h1, h2, h3, hlen, spec_l01In_rw, b_and, b_xor, b_or] | simp (disch := first | assumption | omega | (simp only [LS]; first | done | omega) | (simp only [List.not_mem_nil, List.mem_cons, or_false, not_false_eq_true, not_or]; first | done | omega)) only [CS, g_spec_l01New_L0, h1, h2, h3, hlen] | simp only [condK_B, guardK_Bt, guardK_Bf])
    exact ⟨fun g => ⟨fun g2 => absurd ⟨by omega, by omega⟩ hin, fun g2 => fin _ (by simp [h1]) (by simp [h2])⟩, fun g => fin _ (by simp [h1]) (by simp [h2])⟩

theorem spec_l01Text_L0_ok (b : Nat) (n : Int) (hn : n ≤ 5000) (hpos : 0 < b) (hb : b < c) {K : List AM.Frame} {R : AExit → St → Prop} {ts : TS} {u : AHeap} {c1 : Nat} (x : Nat) (hcur : CurD (u ++ H) b) (h0 : ts 0 = P b 0) (h1 : ts 1 = I n) (h5 : ts 5 = Sl x 0 1) (h6 : ts 6 = I 0)
    (hg : get (u ++ H) x = some ⟨[], 1, false⟩) (ho : Own [b] u c c1) (hx : c ≤ x) (hx1 : x < c1)
    (hT : ∀ ts u c1 x (t : List UInt8), ts 5 = Sl x t.length 1 → get (u ++ H) x = some ⟨t.map U, 1, false⟩ → Own [b] u c c1 → CurD (u ++ H) b → t.length = n.toNat → post (tbl prim) H K R (.exit 0) ⟨ts, u, c1⟩) : Wloop (tbl prim) H g_spec_l01Text_L0 K ⟨ts, u, c1⟩ R := by
  refine Wloop.of (fun k s => ∃ (t : List UInt8) (x : Nat), s.ts 0 = P b 0 ∧ s.ts 1 = I n ∧ s.ts 5 = Sl x t.length 1 ∧ s.ts 6 = I t.length ∧ k = n.toNat - t.length ∧ t.length ≤ n.toNat ∧ get (s.u ++ H) x = some ⟨t.map U, 1, false⟩ ∧ CurD (s.u ++ H) b ∧ Own [b] s.u c s.c ∧ c ≤ x ∧ x < s.c) ?_ (n := n.toNat)
    ⟨[], x, h0, h1, h5, by simpa using h6, rfl, by simp, by simpa using hg, hcur, ho, hx, hx1⟩
  clear h0 h1 h5 h6 hg hcur ho hx hx1
  rintro k ⟨ts, u, c1⟩ ⟨t, x, h0, h1, h5, h6, rfl, hi, hg, hcur, ho, hx, hx1⟩ R hR hE
  simp only at h0 h1 h5 h6 hg hcur ho hx1
  have ho_le := ho.le
  by_cases hin : t.length < n.toNat
  · have hT : ((t.length : Int) < n) = True := eq_true (by omega)
    repeat (first | simp only [RS0, RS1, RS2, RS3, RS4, reduceIte, Nat.reduceEqDiff, Nat.reduceAdd, Nat.reduceLeDiff, Nat.reduceLT, Nat.reduceMul, Int.reduceToNat, Int.reduceLT, Int.reduceLE, Int.reduceAdd, Int.reduceSub, Int.reduceMul, Int.reduceEq, Int.reduceNe, Nat.reduceSub, reduceCtorEq, boxF, if_true, if_false, forall_const, implies_true, ne_eq, g_spec_l01Text_L0, h0, h1, h5, h6, hT, spec_l01In_rw, b_and, b_xor, b_or] | simp (disch := first | assumption | omega | (simp only [LS]; first | done | omega) | (simp only [List.not_mem_nil, List.mem_cons, or_false, not_false_eq_true, not_or]; first | done | omega)) only [CS, g_spec_l01Text_L0, h0, h1, h5, h6, hT] | simp only [condK_B, guardK_Bt, guardK_Bf])
    refine EvK.of (spec_l01Byte_ok b hcur (by omega) fun d2 c2 y ho2 hcur2 hy1 hy2 => ?_)
    have ho2_le := ho2.le
    have hl : (t.map U).length = t.length * 1 := by simp
    have hxb : x ≠ b := by omega
    repeat (first | simp only [RS0, RS1, RS2, RS3, RS4, reduceIte, Nat.reduceEqDiff, Nat.reduceAdd, Nat.reduceLeDiff, Nat.reduceLT, Nat.reduceMul, Int.reduceToNat, Int.reduceLT, Int.reduceLE, Int.reduceAdd, Int.reduceSub, Int.reduceMul, Int.reduceEq, Int.reduceNe, Nat.reduceSub, reduceCtorEq, boxF, if_true, if_false, forall_const, implies_true, ne_eq, h6, hg, slC_eq hl, spec_l01In_rw, b_and, b_xor, b_or] | simp (disch := first | assumption | omega | (simp only [LS]; first | done | omega) | (simp only [List.not_mem_nil, List.mem_cons, or_false, not_false_eq_true, not_or]; first | done | omega)) only [CS, h6, hg, slC_eq hl] | simp only [condK_B, guardK_Bt, guardK_Bf])
    refine ⟨by unfold maxBytes; omega, hR (n.toNat - (t.length + 1)) _ (by omega) ⟨t ++ [by8 y], c2 + 1, by simp [h0], by simp [h1], by simp, by simp, by simp, by simp; omega, by (first | simp (disch := first | assumption | omega | (simp only [LS]; first | done | omega) | (simp only [List.not_mem_nil, List.mem_cons, or_false, not_false_eq_true, not_or]; first | done | omega)) only [CS, List.map_append, RS3, RS4] | done), (CurD.of_get hcur2 (by (first | simp (disch := first | assumption | omega | (simp only [LS]; first | done | omega) | (simp only [List.not_mem_nil, List.mem_cons, or_false, not_false_eq_true, not_or]; first | done | omega)) only [CS, RS3, RS4] | done)) (by (first | simp (disch := first | assumption | omega | (simp only [LS]; first | done | omega) | (simp only [List.not_mem_nil, List.mem_cons, or_false, not_false_eq_true, not_or]; first | done | omega)) only [CS, RS3, RS4] | done))), by ((try dsimp only); refine Own.of (by omega) ?_; repeat (first | exact OwnK.nil | refine OwnK.cons (.inl (by omega)) ?_ | refine OwnK.kill (fun b hb => .inl (by have := hoe b hb; omega)) ?_ | refine OwnK.cons (.inr (by simp)) ?_ | exact OwnK.one (by assumption) (by omega) (by omega) (by simp; first | done | omega) | refine OwnK.app (by assumption) (by omega) (by omega) (by simp; first | done | omega) ?_)), by omega, by simp⟩⟩
  · have hF : ((t.length : Int) < n) = False := eq_false (by omega)
    repeat (first | simp only [RS0, RS1, RS2, RS3, RS4, reduceIte, Nat.reduceEqDiff, Nat.reduceAdd, Nat.reduceLeDiff, Nat.reduceLT, Nat.reduceMul, Int.reduceToNat, Int.reduceLT, Int.reduceLE, Int.reduceAdd, Int.reduceSub, Int.reduceMul, Int.reduceEq, Int.reduceNe, Nat.reduceSub, reduceCtorEq, boxF, if_true, if_false, forall_const, implies_true, ne_eq, g_spec_l01Text_L0, h0, h1, h5, h6, hF, spec_l01In_rw, b_and, b_xor, b_or] | simp (disch := first | assumption | omega | (simp only [LS]; first | done | omega) | (simp only [List.not_mem_nil, List.mem_cons, or_false, not_false_eq_true, not_or]; first | done | omega)) only [CS, g_spec_l01Text_L0, h0, h1, h5, h6, hF] | simp only [condK_B, guardK_Bt, guardK_Bf])
    refine hE _ _ (by decide) (hT _ _ _ x t (by simp [h5]) hg ho hcur (by omega))

theorem spec_l01Text_ok (b : Nat) (n : Int) (hcur : CurD H b) (hb : b < c) (h : ∀ d c' (t : List UInt8), Own [b] d c c' → CurD (d ++ H) b → t.length = (min n 5000).toNat → Q (T t) d c') : Ev (tbl prim) n_spec_l01Text [P b 0, I n] H c Q := by
  refine Ev.fn (s_spec_l01Text prim) rfl ?_
  have hpos := hcur.pos
  repeat (first | simp only [RS0, RS1, RS2, RS3, RS4, reduceIte, Nat.reduceEqDiff, Nat.reduceAdd, Nat.reduceLeDiff, Nat.reduceLT, Nat.reduceMul, Int.reduceToNat, Int.reduceLT, Int.reduceLE, Int.reduceAdd, Int.reduceSub, Int.reduceMul, Int.reduceEq, Int.reduceNe, Nat.reduceSub, reduceCtorEq, boxF, if_true, if_false, forall_const, implies_true, ne_eq, g_spec_l01Text, spec_l01In_rw, b_and, b_xor, b_or] | simp (disch := first | assumption | omega | (simp only [LS]; first | done | omega) | (simp only [List.not_mem_nil, List.mem_cons, or_false, not_false_eq_true, not_or]; first | done | omega)) only [CS, g_spec_l01Text] | simp only [condK_B, guardK_Bt, guardK_Bf])
  refine ⟨fun hn => ?_, fun hn => ?_⟩
  · refine spec_l01Text_L0_ok b 5000 (by omega) hpos hb c (CurD.of_get hcur (by (first | simp (disch := first | assumption | omega | (simp only [LS]; first | done | omega) | (simp only [List.not_mem_nil, List.mem_cons, or_false, not_false_eq_true, not_or]; first | done | omega)) only [CS, RS3, RS4] | done)) (by (first | simp (disch := first | assumption | omega | (simp only [LS]; first | done | omega) | (simp only [List.not_mem_nil, List.mem_cons, or_false, not_false_eq_true, not_or]; first | done | omega)) only [CS, RS3, RS4] | done))) (by simp) (by simp) (by simp) (by simp) (by (first | simp (disch := first | assumption | omega | (simp only [LS]; first | done | omega) | (simp only [List.not_mem_nil, List.mem_cons, or_false, not_false_eq_true, not_or]; first | done | omega)) only [CS, RS3, RS4] | done)) (by ((try dsimp only); refine Own.of (by omega) ?_; repeat (first | exact OwnK.nil | refine OwnK.cons (.inl (by omega)) ?_ | refine OwnK.kill (fun b hb => .inl (by have := hoe b hb; omega)) ?_ | refine OwnK.cons (.inr (by simp)) ?_ | exact OwnK.one (by assumption) (by omega) (by omega) (by simp; first | done | omega) | refine OwnK.app (by assumption) (by omega) (by omega) (by simp; first | done | omega) ?_))) (by omega) (by omega) (fun ts u c1 x t h5 hg ho hcur hl => ?_)
    have hl1 : (t.map U).length = t.length * 1 := by simp
    repeat (first | simp only [RS0, RS1, RS2, RS3, RS4, reduceIte, Nat.reduceEqDiff, Nat.reduceAdd, Nat.reduceLeDiff, Nat.reduceLT, Nat.reduceMul, Int.reduceToNat, Int.reduceLT, Int.reduceLE, Int.reduceAdd, Int.reduceSub, Int.reduceMul, Int.reduceEq, Int.reduceNe, Nat.reduceSub, reduceCtorEq, boxF, if_true, if_false, forall_const, implies_true, ne_eq, h5, hg, slC_eq hl1, spec_l01In_rw, b_and, b_xor, b_or] | simp (disch := first | assumption | omega | (simp only [LS]; first | done | omega) | (simp only [List.not_mem_nil, List.mem_cons, or_false, not_false_eq_true, not_or]; first | done | omega)) only [CS, h5, hg, slC_eq hl1] | simp only [condK_B, guardK_Bt, guardK_Bf])
    exact h _ _ t ho hcur (by omega)
  · refine spec_l01Text_L0_ok b n (by omega) hpos hb c (CurD.of_get hcur (by (first | simp (disch := first | assumption | omega | (simp only [LS]; first | done | omega) | (simp only [List.not_mem_nil, List.mem_cons, or_false, not_false_eq_true, not_or]; first | done | omega)) only [CS, RS3, RS4] | done)) (by (first | simp (disch := first | assumption | omega | (simp only [LS]; first | done | omega) | (simp only [List.not_mem_nil, List.mem_cons, or_false, not_false_eq_true, not_or]; first | done | omega)) only [CS, RS3, RS4] | done))) (by simp) (by simp) (by simp) (by simp) (by (first | simp (disch := first | assumption | omega | (simp only [LS]; first | done | omega) | (simp only [List.not_mem_nil, List.mem_cons, or_false, not_false_eq_true, not_or]; first | done | omega)) only [CS, RS3, RS4] | done)) (by ((try dsimp only); refine Own.of (by omega) ?_; repeat (first | exact OwnK.nil | refine OwnK.cons (.inl (by omega)) ?_ | refine OwnK.kill (fun b hb => .inl (by have := hoe b hb; omega)) ?_ | refine OwnK.cons (.inr (by simp)) ?_ | exact OwnK.one (by assumption) (by omega) (by omega) (by simp; first | done | omega) | refine OwnK.app (by assumption) (by omega) (by omega) (by simp; first | done | omega) ?_))) (by omega) (by omega) (fun ts u c1 x t h5 hg ho hcur hl => ?_)
    have hl1 : (t.map U).length = t.length * 1 := by simp
    repeat (first | simp only [RS0, RS1, RS2, RS3, RS4, reduceIte, Nat.reduceEqDiff, Nat.reduceAdd, Nat.reduceLeDiff, Nat.reduceLT, Nat.reduceMul, Int.reduceToNat, Int.reduceLT, Int.reduceLE, Int.reduceAdd, Int.reduceSub, Int.reduceMul, Int.reduceEq, Int.reduceNe, Nat.reduceSub, reduceCtorEq, boxF, if_true, if_false, forall_const, implies_true, ne_eq, h5, hg, slC_eq hl1, spec_l01In_rw, b_and, b_xor, b_or] | simp (disch := first | assumption | omega | (simp only [LS]; first | done | omega) | (simp only [List.not_mem_nil, List.mem_cons, or_false, not_false_eq_true, not_or]; first | done | omega)) only [CS, h5, hg, slC_eq hl1] | simp only [condK_B, guardK_Bt, guardK_Bf])
    exact h _ _ t ho hcur (by omega)

theorem spec_l02Spoilt_ok (b : Nat) (s : List UInt8) (hs : s.length ≤ 4000000000) (hcur : CurD H b) (hb : b < c) (h : ∀ d c' (t : List UInt8), Own [b] d c c' → CurD (d ++ H) b → t.length ≤ s.length + 1 → Q (T t) d c') : Ev (tbl prim) n_spec_l02Spoilt [P b 0, T s] H c Q := by
  refine Ev.fn (s_spec_l02Spoilt prim) rfl ?_
  have hpos := hcur.pos
  repeat (first | simp only [RS0, RS1, RS2, RS3, RS4, reduceIte, Nat.reduceEqDiff, Nat.reduceAdd, Nat.reduceLeDiff, Nat.reduceLT, Nat.reduceMul, Int.reduceToNat, Int.reduceLT, Int.reduceLE, Int.reduceAdd, Int.reduceSub, Int.reduceMul, Int.reduceEq, Int.reduceNe, Nat.reduceSub, reduceCtorEq, boxF, if_true, if_false, forall_const, implies_true, ne_eq, g_spec_l02Spoilt, spec_l01In_rw, b_and, b_xor, b_or] | simp (disch := first | assumption | omega | (simp only [LS]; first | done | omega) | (simp only [List.not_mem_nil, List.mem_cons, or_false, not_false_eq_true, not_or]; first | done | omega)) only [CS, g_spec_l02Spoilt] | simp only [condK_B, guardK_Bt, guardK_Bf])
  refine EvK.of (spec_l01Below_ok b 12 hcur hb (by omega) fun d1 c1 x ho1 hcur1 hx1 hx2 => ?_)
  have ho1_le := ho1.le
  repeat (first | simp only [RS0, RS1, RS2, RS3, RS4, reduceIte, Nat.reduceEqDiff, Nat.reduceAdd, Nat.reduceLeDiff, Nat.reduceLT, Nat.reduceMul, Int.reduceToNat, Int.reduceLT, Int.reduceLE, Int.reduceAdd, Int.reduceSub, Int.reduceMul, Int.reduceEq, Int.reduceNe, Nat.reduceSub, reduceCtorEq, boxF, if_true, if_false, forall_const, implies_true, ne_eq, spec_l01In_rw, b_and, b_xor, b_or] | simp (disch := first | assumption | omega | (simp only [LS]; first | done | omega) | (simp only [List.not_mem_nil, List.mem_cons, or_false, not_false_eq_true, not_or]; first | done | omega)) only [CS] | simp only [condK_B, guardK_Bt, guardK_Bf])
  repeat' (first | with_reducible apply And.intro | with_reducible intro _)
  all_goals first
    | exact h _ _ _ (by ((try dsimp only); refine Own.of (by omega) ?_; repeat (first | exact OwnK.nil | refine OwnK.cons (.inl (by omega)) ?_ | refine OwnK.kill (fun b hb => .inl (by have := hoe b hb; omega)) ?_ | refine OwnK.cons (.inr (by simp)) ?_ | exact OwnK.one (by assumption) (by omega) (by omega) (by simp; first | done | omega) | refine OwnK.app (by assumption) (by omega) (by omega) (by simp; first | done | omega) ?_))) (CurD.of_get hcur1 (by (first | simp (disch := first | assumption | omega | (simp only [LS]; first | done | omega) | (simp only [List.not_mem_nil, List.mem_cons, or_false, not_false_eq_true, not_or]; first | done | omega)) only [CS, RS3, RS4] | done)) (by (first | simp (disch := first | assumption | omega | (simp only [LS]; first | done | omega) | (simp only [List.not_mem_nil, List.mem_cons, or_false, not_false_eq_true, not_or]; first | done | omega)) only [CS, RS3, RS4] | done))) (by omega)
    | skip
  · refine EvK.of (spec_l01Text_ok b 1 hcur1 (by omega) fun d2 c2 t ho2 hcur2 ht => ?_)
    have ho2_le := ho2.le
    repeat (first | simp only [RS0, RS1, RS2, RS3, RS4, reduceIte, Nat.reduceEqDiff, Nat.reduceAdd, Nat.reduceLeDiff, Nat.reduceLT, Nat.reduceMul, Int.reduceToNat, Int.reduceLT, Int.reduceLE, Int.reduceAdd, Int.reduceSub, Int.reduceMul, Int.reduceEq, Int.reduceNe, Nat.reduceSub, reduceCtorEq, boxF, if_true, if_false, forall_const, implies_true, ne_eq, spec_l01In_rw, b_and, b_xor, b_or] | simp (disch := first | assumption | omega | (simp only [LS]; first | done | omega) | (simp only [List.not_mem_nil, List.mem_cons, or_false, not_false_eq_true, not_or]; first | done | omega)) only [CS] | simp only [condK_B, guardK_Bt, guardK_Bf])
    refine ⟨by omega, h _ _ _ (by ((try dsimp only); refine Own.of (by omega) ?_; repeat (first | exact OwnK.nil | refine OwnK.cons (.inl (by omega)) ?_ | refine OwnK.kill (fun b hb => .inl (by have := hoe b hb; omega)) ?_ | refine OwnK.cons (.inr (by simp)) ?_ | exact OwnK.one (by assumption) (by omega) (by omega) (by simp; first | done | omega) | refine OwnK.app (by assumption) (by omega) (by omega) (by simp; first | done | omega) ?_))) (CurD.of_get hcur2 (by (first | simp (disch := first | assumption | omega | (simp only [LS]; first | done | omega) | (simp only [List.not_mem_nil, List.mem_cons, or_false, not_false_eq_true, not_or]; first | done | omega)) only [CS, RS3, RS4] | done)) (by (first | simp (disch := first | assumption | omega | (simp only [LS]; first | done | omega) | (simp only [List.not_mem_nil, List.mem_cons, or_false, not_false_eq_true, not_or]; first | done | omega)) only [CS, RS3, RS4] | done))) (by simp; omega)⟩
  · refine EvK.of (spec_l01Below_ok b (s.length + 1) hcur1 (by omega) (by omega) fun d2 c2 y ho2 hcur2 hy1 hy2 => ?_)
    have ho2_le := ho2.le
    repeat (first | simp only [RS0, RS1, RS2, RS3, RS4, reduceIte, Nat.reduceEqDiff, Nat.reduceAdd, Nat.reduceLeDiff, Nat.reduceLT, Nat.reduceMul, Int.reduceToNat, Int.reduceLT, Int.reduceLE, Int.reduceAdd, Int.reduceSub, Int.reduceMul, Int.reduceEq, Int.reduceNe, Nat.reduceSub, reduceCtorEq, boxF, if_true, if_false, forall_const, implies_true, ne_eq, spec_l01In_rw, b_and, b_xor, b_or] | simp (disch := first | assumption | omega | (simp only [LS]; first | done | omega) | (simp only [List.not_mem_nil, List.mem_cons, or_false, not_false_eq_true, not_or]; first | done | omega)) only [CS] | simp only [condK_B, guardK_Bt, guardK_Bf])
    repeat' (first | with_reducible apply And.intro | with_reducible intro _)
    all_goals first
      | omega
      | exact h _ _ _ (by ((try dsimp only); refine Own.of (by omega) ?_; repeat (first | exact OwnK.nil | refine OwnK.cons (.inl (by omega)) ?_ | refine OwnK.kill (fun b hb => .inl (by have := hoe b hb; omega)) ?_ | refine OwnK.cons (.inr (by simp)) ?_ | exact OwnK.one (by assumption) (by omega) (by omega) (by simp; first | done | omega) | refine OwnK.app (by assumption) (by omega) (by omega) (by simp; first | done | omega) ?_))) (CurD.of_get hcur2 (by (first | simp (disch := first | assumption | omega | (simp only [LS]; first | done | omega) | (simp only [List.not_mem_nil, List.mem_cons, or_false, not_false_eq_true, not_or]; first | done | omega)) only [CS, RS3, RS4] | done)) (by (first | simp (disch := first | assumption | omega | (simp only [LS]; first | done | omega) | (simp only [List.not_mem_nil, List.mem_cons, or_false, not_false_eq_true, not_or]; first | done | omega)) only [CS, RS3, RS4] | done))) (by simp; omega)
  all_goals
    refine EvK.of (spec_l01Below_ok b s.length hcur1 (by omega) (by omega) fun d2 c2 y ho2 hcur2 hy1 hy2 => ?_)
    have ho2_le := ho2.le
    obtain ⟨y, rfl⟩ : ∃ n : Nat, y = n := ⟨y.toNat, by omega⟩
    repeat (first | simp only [RS0, RS1, RS2, RS3, RS4, reduceIte, Nat.reduceEqDiff, Nat.reduceAdd, Nat.reduceLeDiff, Nat.reduceLT, Nat.reduceMul, Int.reduceToNat, Int.reduceLT, Int.reduceLE, Int.reduceAdd, Int.reduceSub, Int.reduceMul, Int.reduceEq, Int.reduceNe, Nat.reduceSub, reduceCtorEq, boxF, if_true, if_false, forall_const, implies_true, ne_eq, spec_l01In_rw, b_and, b_xor, b_or] | simp (disch := first | assumption | omega | (simp only [LS]; first | done | omega) | (simp only [List.not_mem_nil, List.mem_cons, or_false, not_false_eq_true, not_or]; first | done | omega)) only [CS] | simp only [condK_B, guardK_Bt, guardK_Bf])
    refine ⟨by omega, ?_⟩
    refine EvK.of (spec_l01Text_ok b 1 hcur2 (by omega) fun d3 c3 t ho3 hcur3 ht => ?_)
    have ho3_le := ho3.le
    repeat (first | simp only [RS0, RS1, RS2, RS3, RS4, reduceIte, Nat.reduceEqDiff, Nat.reduceAdd, Nat.reduceLeDiff, Nat.reduceLT, Nat.reduceMul, Int.reduceToNat, Int.reduceLT, Int.reduceLE, Int.reduceAdd, Int.reduceSub, Int.reduceMul, Int.reduceEq, Int.reduceNe, Nat.reduceSub, reduceCtorEq, boxF, if_true, if_false, forall_const, implies_true, ne_eq, spec_l01In_rw, b_and, b_xor, b_or] | simp (disch := first | assumption | omega | (simp only [LS]; first | done | omega) | (simp only [List.not_mem_nil, List.mem_cons, or_false, not_false_eq_true, not_or]; first | done | omega)) only [CS] | simp only [condK_B, guardK_Bt, guardK_Bf])
    repeat' (first | with_reducible apply And.intro | with_reducible intro _)
    all_goals first
      | omega
      | (simp only [List.length_append, List.length_take, List.length_drop] <;> omega)
      | exact h _ _ _ (by ((try dsimp only); refine Own.of (by omega) ?_; repeat (first | exact OwnK.nil | refine OwnK.cons (.inl (by omega)) ?_ | refine OwnK.kill (fun b hb => .inl (by have := hoe b hb; omega)) ?_ | refine OwnK.cons (.inr (by simp)) ?_ | exact OwnK.one (by assumption) (by omega) (by omega) (by simp; first | done | omega) | refine OwnK.app (by assumption) (by omega) (by omega) (by simp; first | done | omega) ?_))) (CurD.of_get hcur3 (by (first | simp (disch := first | assumption | omega | (simp only [LS]; first | done | omega) | (simp only [List.not_mem_nil, List.mem_cons, or_false, not_false_eq_true, not_or]; first | done | omega)) only [CS, RS3, RS4] | done)) (by (first | simp (disch := first | assumption | omega | (simp only [LS]; first | done | omega) | (simp only [List.not_mem_nil, List.mem_cons, or_false, not_false_eq_true, not_or]; first | done | omega)) only [CS, RS3, RS4] | done))) (by simp only [List.length_append, List.length_take, List.length_drop]; omega)
      | skip
end
end Go.Proofs.Ytfcglkajekohiaa
