/- Contracts: messages, the program's. -/
import Derived.Test.YtfcglkajekohiaaC11
set_option linter.unusedSimpArgs false
set_option linter.unusedVariables false
set_option maxRecDepth 20000
namespace Go.Proofs.Ytfcglkajekohiaa
open Go Go.Proofs.Ytfcglkajekohiaa.AM
section
variable {prim : Nat → List Value → Option Value} {H : AHeap} {c : Nat} {Q : Value → AHeap → Nat → Prop}

theorem impl_ConfOk_rw {G : AHeap} {kt : Kt} {dst : Option Nat} {ts : TS} {u : AHeap} {Q : AExit → St → Prop} {v : Value} {l : List Int} {ob : Option Nat} (hv : SlR G 1 v (l.map I) ob) (hl : l.length ≤ 1000000000000) :
    EvK (tbl prim) H n_impl_ConfOk [v] G c kt dst ts u Q ↔ fin (tbl prim) H kt dst ts u c (B (confOk l)) [] c Q := EvK.iff fun _ h => impl_ConfOk_ok v l ob hv hl h
theorem spec_ConfOk_rw {G : AHeap} {kt : Kt} {dst : Option Nat} {ts : TS} {u : AHeap} {Q : AExit → St → Prop} {v : Value} {l : List Int} {ob : Option Nat} (hv : SlR G 1 v (l.map I) ob) (hl : l.length ≤ 1000000000000) :
    EvK (tbl prim) H n_spec_ConfOk [v] G c kt dst ts u Q ↔ fin (tbl prim) H kt dst ts u c (B (confOk l)) [] c Q := EvK.iff fun _ h => spec_ConfOk_ok v l ob hv hl h

theorem impl_MessageOk_L0_ok (m : Msg) (ve vc : Value) (oe : Option Nat) (he : SlR H 3 ve (entsC m.entries) oe) (hoe : ∀ b, oe = some b → b < c)
    (hld : ∀ e ∈ m.entries, e.data.length ≤ 100000000) (hl : m.entries.length ≤ 100000000) {K : List AM.Frame} {R : AExit → St → Prop} {ts : TS} {u : AHeap} {c1 : Nat}
    (h1 : ts 1 = P c 0) (h3 : ts 3 = I m.logTerm) (h47 : ts 47 = ve) (h48 : ts 48 = I m.entries.length) (h4 : ts 49 = I 0) (hg : get (u ++ H) c = some ⟨msgC m ve vc, 0, false⟩) (ho : Own [] u c c1) (hcc : c < c1)
    (hT : entsOk m.term m.logTerm m.entries = true → ∀ ts u c1, ts 1 = P c 0 → get (u ++ H) c = some ⟨msgC m ve vc, 0, false⟩ → Own [] u c c1 → c < c1 → post (tbl prim) H K R (.exit 0) ⟨ts, u, c1⟩)
    (hF : entsOk m.term m.logTerm m.entries = false → ∀ ts u c1, ts 2 = .bool false → Own [] u c c1 → post (tbl prim) H K R .ret ⟨ts, u, c1⟩) : Wloop (tbl prim) H g_impl_MessageOk_L0 K ⟨ts, u, c1⟩ R := by
  refine Wloop.of (fun k s => ∃ (i : Nat) (tm : Int), s.ts 1 = P c 0 ∧ s.ts 3 = I tm ∧ s.ts 47 = ve ∧ s.ts 48 = I m.entries.length ∧ s.ts 49 = I i ∧ k = m.entries.length - i ∧ i ≤ m.entries.length ∧ get (s.u ++ H) c = some ⟨msgC m ve vc, 0, false⟩ ∧ Own [] s.u c s.c ∧ c < s.c ∧
    entsOk m.term tm (m.entries.drop i) = entsOk m.term m.logTerm m.entries) ?_ (n := m.entries.length) ⟨0, m.logTerm, h1, h3, h47, h48, by simpa using h4, rfl, by omega, hg, ho, hcc, by simp⟩
  clear h1 h3 h47 h48 h4 hg ho hcc
  rintro k ⟨ts, u, c1⟩ ⟨i, tm, h1, h3, h47, h48, h4, rfl, hi, hg, ho, hcc, hents⟩ R hR hE
  simp only at h1 h3 h4 hg ho hcc h47 h48
  simp only [msgC] at hg
  have he2 := he.own ho (fun b e => ⟨hoe b e, by simp⟩)
  by_cases hin : i < m.entries.length
  · obtain ⟨b, ro, hbc, hob, hia, hgb⟩ := he2.el hoe (ents_len _) (by omega) (k := .i64) hin
    rw [List.drop_eq_getElem_cons hin, entsOk] at hents
    have hinT : ((i : Int) < m.entries.length) = True := eq_true (by omega)
    repeat (first | simp only [RS0, RS1, RS2, RS3, RS4, reduceIte, Nat.reduceEqDiff, Nat.reduceAdd, Nat.reduceLeDiff, Nat.reduceLT, Nat.reduceMul, Int.reduceToNat, Int.reduceLT, Int.reduceLE, Int.reduceAdd, Int.reduceSub, Int.reduceMul, Int.reduceEq, Int.reduceNe, Nat.reduceSub, reduceCtorEq, boxF, if_true, if_false, forall_const, implies_true, ne_eq, g_impl_MessageOk_L0, h1, h3, h4, h47, h48, hg, hia, hgb, ents_len, ents_N hin, hinT, entC, spec_l01In_rw, impl_within_rw, impl_isNode_rw, impl_isTerm_rw, impl_isIndex_rw] | simp (disch := first | assumption | omega | (simp only [LS] <;> omega) | (simp only [List.not_mem_nil, List.mem_cons, or_false, not_false_eq_true, not_or] <;> omega)) only [CS, g_impl_MessageOk_L0, h1, h3, h4, h47, h48, hg, hia, hgb, ents_len, ents_N hin, hinT, entC] | simp only [condK_B, guardK_Bt, guardK_Bf])
    refine ⟨by omega, ?_⟩
    refine EvK.of (impl_EntryOk_ok m.entries[i] (hld _ (List.getElem_mem hin)) fun d2 c2 ho2 => ?_)
    have ho2_le := ho2.le
    repeat (first | simp only [RS0, RS1, RS2, RS3, RS4, reduceIte, Nat.reduceEqDiff, Nat.reduceAdd, Nat.reduceLeDiff, Nat.reduceLT, Nat.reduceMul, Int.reduceToNat, Int.reduceLT, Int.reduceLE, Int.reduceAdd, Int.reduceSub, Int.reduceMul, Int.reduceEq, Int.reduceNe, Nat.reduceSub, reduceCtorEq, boxF, if_true, if_false, forall_const, implies_true, ne_eq, h1, h3, h4, hg, hgb, ents_len, ents_0 hin, spec_l01In_rw, impl_within_rw, impl_isNode_rw, impl_isTerm_rw, impl_isIndex_rw] | simp (disch := first | assumption | omega | (simp only [LS] <;> omega) | (simp only [List.not_mem_nil, List.mem_cons, or_false, not_false_eq_true, not_or] <;> omega)) only [CS, h1, h3, h4, hg, hgb, ents_len, ents_0 hin] | simp only [condK_B, guardK_Bt, guardK_Bf])
    repeat' (first | apply And.intro | intro _)
    all_goals first
      | omega
      | exact hE _ _ (by decide) (hF (by rw [← hents, ‹entOk _ = false›]; rfl) _ _ _ (by simp) (by ((try dsimp only); refine Own.of (by omega) ?_; repeat (first | exact OwnK.nil | refine OwnK.cons (.inl (by omega)) ?_ | refine OwnK.kill (fun b hb => .inl (by have := hoe b hb; omega)) ?_ | refine OwnK.cons (.inr (by simp)) ?_ | exact OwnK.one (by assumption) (by omega) (by omega) (by simp <;> omega) | refine OwnK.app (by assumption) (by omega) (by omega) (by simp <;> omega) ?_))))
      | exact hE _ _ (by decide) (hF (by rw [← hents, decide_eq_false (p := tm ≤ m.entries[i].term ∧ m.entries[i].term ≤ m.term) (by omega)]; simp) _ _ _ (by simp) (by ((try dsimp only); refine Own.of (by omega) ?_; repeat (first | exact OwnK.nil | refine OwnK.cons (.inl (by omega)) ?_ | refine OwnK.kill (fun b hb => .inl (by have := hoe b hb; omega)) ?_ | refine OwnK.cons (.inr (by simp)) ?_ | exact OwnK.one (by assumption) (by omega) (by omega) (by simp <;> omega) | refine OwnK.app (by assumption) (by omega) (by omega) (by simp <;> omega) ?_))))
      | refine hR (m.entries.length - (i + 1)) _ (by omega) ⟨i + 1, m.entries[i].term, by simp [h1], by simp, by simp [h47], by simp [h48], by simp, rfl, by omega, by simp (disch := first | assumption | omega | (simp only [LS] <;> omega) | (simp only [List.not_mem_nil, List.mem_cons, or_false, not_false_eq_true, not_or] <;> omega)) only [CS, hg, msgC, RS3, RS4], by ((try dsimp only); refine Own.of (by omega) ?_; repeat (first | exact OwnK.nil | refine OwnK.cons (.inl (by omega)) ?_ | refine OwnK.kill (fun b hb => .inl (by have := hoe b hb; omega)) ?_ | refine OwnK.cons (.inr (by simp)) ?_ | exact OwnK.one (by assumption) (by omega) (by omega) (by simp <;> omega) | refine OwnK.app (by assumption) (by omega) (by omega) (by simp <;> omega) ?_)), by dsimp only; omega, ?_⟩
        rw [← hents, ‹entOk _ = true›, decide_eq_true (p := tm ≤ m.entries[i].term ∧ m.entries[i].term ≤ m.term) (by omega)]; simp
  · have hinF : ((i : Int) < m.entries.length) = False := eq_false (by omega)
    have hents' : entsOk m.term m.logTerm m.entries = true := by rw [← hents, List.drop_eq_nil_of_le (by omega)]; rfl
    repeat (first | simp only [RS0, RS1, RS2, RS3, RS4, reduceIte, Nat.reduceEqDiff, Nat.reduceAdd, Nat.reduceLeDiff, Nat.reduceLT, Nat.reduceMul, Int.reduceToNat, Int.reduceLT, Int.reduceLE, Int.reduceAdd, Int.reduceSub, Int.reduceMul, Int.reduceEq, Int.reduceNe, Nat.reduceSub, reduceCtorEq, boxF, if_true, if_false, forall_const, implies_true, ne_eq, g_impl_MessageOk_L0, h1, h3, h4, h47, h48, hg, hinF, spec_l01In_rw, impl_within_rw, impl_isNode_rw, impl_isTerm_rw, impl_isIndex_rw] | simp (disch := first | assumption | omega | (simp only [LS] <;> omega) | (simp only [List.not_mem_nil, List.mem_cons, or_false, not_false_eq_true, not_or] <;> omega)) only [CS, g_impl_MessageOk_L0, h1, h3, h4, h47, h48, hg, hinF] | simp only [condK_B, guardK_Bt, guardK_Bf])
    exact hE _ _ (by decide) (hT hents' _ _ _ (by simp [h1]) hg ho hcc)

theorem impl_MessageOk_ok (m : Msg) (ve vc : Value) (oe oc : Option Nat) (he : SlR H 3 ve (entsC m.entries) oe) (hc : SlR H 1 vc (m.conf.map I) oc) (hoe : ∀ b, oe = some b → b < c) (hoc : ∀ b, oc = some b → b < c)
    (hl : m.entries.length ≤ 100000000) (hbc : m.conf.length ≤ 100000000) (hld : ∀ e ∈ m.entries, e.data.length ≤ 100000000) (hd : m.data.length ≤ 100000000)
    (h : ∀ d c', Own [] d c c' → Q (B (msgOk m)) d c') : Ev (tbl prim) n_impl_MessageOk [ag (msgC m ve vc)] H c Q := by
  refine Ev.fn (s_impl_MessageOk prim) rfl ?_
  have hle := he.len (ents_len _) (by omega)
  have hlc := hc.len (n := m.conf.length) (by simp) (by omega)
  repeat (first | simp only [RS0, RS1, RS2, RS3, RS4, reduceIte, Nat.reduceEqDiff, Nat.reduceAdd, Nat.reduceLeDiff, Nat.reduceLT, Nat.reduceMul, Int.reduceToNat, Int.reduceLT, Int.reduceLE, Int.reduceAdd, Int.reduceSub, Int.reduceMul, Int.reduceEq, Int.reduceNe, Nat.reduceSub, reduceCtorEq, boxF, if_true, if_false, forall_const, implies_true, ne_eq, g_impl_MessageOk, msgC, he.cl, hc.cl, he.isC, hc.isC, hle, hlc, spec_l01In_rw, impl_within_rw, impl_isNode_rw, impl_isTerm_rw, impl_isIndex_rw] | simp (disch := first | assumption | omega | (simp only [LS] <;> omega) | (simp only [List.not_mem_nil, List.mem_cons, or_false, not_false_eq_true, not_or] <;> omega)) only [CS, g_impl_MessageOk, msgC, he.cl, hc.cl, he.isC, hc.isC, hle, hlc] | simp only [condK_B, guardK_Bt, guardK_Bf])
  have hF : ∀ ok, msgOk m = ok → ∀ d c', Own [] d c c' → Q (B ok) d c' := fun ok g => by rw [← g]; exact h
  have hH : ¬msgHead m → msgOk m = false := fun g => by simp [msgOk, g]
  have hM : ¬msgMid m → msgOk m = false := fun g => by simp [msgOk, g]
  repeat' (first | apply And.intro | intro _)
  all_goals first
    | exact hF _ (hH (by unfold msgHead; omega)) _ _ (by ((try dsimp only); refine Own.of (by omega) ?_; repeat (first | exact OwnK.nil | refine OwnK.cons (.inl (by omega)) ?_ | refine OwnK.kill (fun b hb => .inl (by have := hoe b hb; omega)) ?_ | refine OwnK.cons (.inr (by simp)) ?_ | exact OwnK.one (by assumption) (by omega) (by omega) (by simp <;> omega) | refine OwnK.app (by assumption) (by omega) (by omega) (by simp <;> omega) ?_)))
    | exact hF _ (hM (by unfold msgMid; rw [← List.length_eq_zero_iff]; omega)) _ _ (by ((try dsimp only); refine Own.of (by omega) ?_; repeat (first | exact OwnK.nil | refine OwnK.cons (.inl (by omega)) ?_ | refine OwnK.kill (fun b hb => .inl (by have := hoe b hb; omega)) ?_ | refine OwnK.cons (.inr (by simp)) ?_ | exact OwnK.one (by assumption) (by omega) (by omega) (by simp <;> omega) | refine OwnK.app (by assumption) (by omega) (by omega) (by simp <;> omega) ?_)))
    | skip
  have hhead : msgHead m := by unfold msgHead; omega
  refine impl_MessageOk_L0_ok m ve vc oe he hoe hld hl (by simp) (by simp) (by simp) (by simp) (by simp) (by simp [msgC]) (by ((try dsimp only); refine Own.of (by omega) ?_; repeat (first | exact OwnK.nil | refine OwnK.cons (.inl (by omega)) ?_ | refine OwnK.kill (fun b hb => .inl (by have := hoe b hb; omega)) ?_ | refine OwnK.cons (.inr (by simp)) ?_ | exact OwnK.one (by assumption) (by omega) (by omega) (by simp <;> omega) | refine OwnK.app (by assumption) (by omega) (by omega) (by simp <;> omega) ?_))) (by omega) (fun hen ts u c1 h1 hg ho hcc => ?_) (fun hen ts u c1 h2 ho => ?_)
  · have hc2 := hc.own ho (fun b e => ⟨hoc b e, by simp⟩)
    have hok : msgOk m = (decide (msgMid m) && msgTail m) := by simp [msgOk, hhead, hen]
    simp only [msgC] at hg
    simp only [post_blk_e, post_seq_n, reduceIte]
    have e : (m.conf.length : Int) = 0 ↔ m.conf = [] := by rw [← List.length_eq_zero_iff]; omega
    have e2 : decide ((m.data.length : Int) ≤ 60) = decide (m.data.length ≤ 60) := by congr 1; exact propext (by omega)
    obtain ⟨x6, hx6⟩ : ∃ x, x = (decide (m.kind = 5) && confOk m.conf && decide (m.data.length ≤ 60)) := ⟨_, rfl⟩
    obtain ⟨x7, hx7⟩ : ∃ x, x = (decide (¬m.kind = 5) && decide (m.conf = [] ∧ m.data = [] ∧ m.last = false)) := ⟨_, rfl⟩
    obtain ⟨x8, hx8⟩ : ∃ x, x = decide (m.entries.length ≤ 4 ∧ (m.entries = [] ∨ m.kind = 3)) := ⟨_, rfl⟩
    have h67 : (x6 || x7) = msgTail m := by
      rw [hx6, hx7, msgTail]
      by_cases h5 : m.kind = 5 <;> simp [h5]
    refine W_seq_cut (fun s => s.ts 1 = P c 0 ∧ s.ts 6 = B x6 ∧ s.u = u ∧ s.c = c1) ?_ ?_
    · repeat (first | simp only [RS0, RS1, RS2, RS3, RS4, reduceIte, Nat.reduceEqDiff, Nat.reduceAdd, Nat.reduceLeDiff, Nat.reduceLT, Nat.reduceMul, Int.reduceToNat, Int.reduceLT, Int.reduceLE, Int.reduceAdd, Int.reduceSub, Int.reduceMul, Int.reduceEq, Int.reduceNe, Nat.reduceSub, reduceCtorEq, boxF, if_true, if_false, forall_const, implies_true, ne_eq, h1, hg, hlc, impl_ConfOk_rw hc2 (by omega : m.conf.length ≤ 1000000000000), spec_l01In_rw, impl_within_rw, impl_isNode_rw, impl_isTerm_rw, impl_isIndex_rw] | simp (disch := first | assumption | omega | (simp only [LS] <;> omega) | (simp only [List.not_mem_nil, List.mem_cons, or_false, not_false_eq_true, not_or] <;> omega)) only [CS, h1, hg, hlc, impl_ConfOk_rw hc2 (by omega : m.conf.length ≤ 1000000000000)] | simp only [condK_B, guardK_Bt, guardK_Bf])
      rw [e2]
      exact ⟨fun g => ⟨fun g2 => by rw [hx6, g2]; simp [g], fun g2 => by rw [hx6, g2]; simp⟩, fun g => by rw [hx6]; simp [g]⟩
    rintro ts u c1 ⟨h1, h6, rfl, rfl⟩
    simp only at h1 h6
    refine W_seq_cut (fun s => s.ts 1 = P c 0 ∧ s.ts 6 = B x6 ∧ s.ts 7 = B x7 ∧ s.u = u ∧ s.c = c1) ?_ ?_
    · repeat (first | simp only [RS0, RS1, RS2, RS3, RS4, reduceIte, Nat.reduceEqDiff, Nat.reduceAdd, Nat.reduceLeDiff, Nat.reduceLT, Nat.reduceMul, Int.reduceToNat, Int.reduceLT, Int.reduceLE, Int.reduceAdd, Int.reduceSub, Int.reduceMul, Int.reduceEq, Int.reduceNe, Nat.reduceSub, reduceCtorEq, boxF, if_true, if_false, forall_const, implies_true, ne_eq, h1, h6, hg, hlc, spec_l01In_rw, impl_within_rw, impl_isNode_rw, impl_isTerm_rw, impl_isIndex_rw] | simp (disch := first | assumption | omega | (simp only [LS] <;> omega) | (simp only [List.not_mem_nil, List.mem_cons, or_false, not_false_eq_true, not_or] <;> omega)) only [CS, h1, h6, hg, hlc] | simp only [condK_B, guardK_Bt, guardK_Bf])
      exact ⟨fun g => by rw [hx7]; simp [g], fun g => ⟨fun g2 => ⟨fun g3 => by rw [hx7]; simp [g, e.mp g2, g3], fun g3 => by rw [hx7]; simp [g3]⟩, fun g2 => by rw [hx7]; simp [mt e.mpr g2]⟩⟩
    rintro ts u c1 ⟨h1, h6, h7, rfl, rfl⟩
    simp only at h1 h6 h7
    refine W_seq_cut (fun s => s.ts 1 = P c 0 ∧ s.ts 6 = B x6 ∧ s.ts 7 = B x7 ∧ s.ts 8 = B x8 ∧ s.u = u ∧ s.c = c1) ?_ ?_
    · repeat (first | simp only [RS0, RS1, RS2, RS3, RS4, reduceIte, Nat.reduceEqDiff, Nat.reduceAdd, Nat.reduceLeDiff, Nat.reduceLT, Nat.reduceMul, Int.reduceToNat, Int.reduceLT, Int.reduceLE, Int.reduceAdd, Int.reduceSub, Int.reduceMul, Int.reduceEq, Int.reduceNe, Nat.reduceSub, reduceCtorEq, boxF, if_true, if_false, forall_const, implies_true, ne_eq, h1, h6, h7, hg, hle, spec_l01In_rw, impl_within_rw, impl_isNode_rw, impl_isTerm_rw, impl_isIndex_rw] | simp (disch := first | assumption | omega | (simp only [LS] <;> omega) | (simp only [List.not_mem_nil, List.mem_cons, or_false, not_false_eq_true, not_or] <;> omega)) only [CS, h1, h6, h7, hg, hle] | simp only [condK_B, guardK_Bt, guardK_Bf])
      have e3 : (m.entries.length : Int) = 0 ↔ m.entries = [] := by rw [← List.length_eq_zero_iff]; omega
      have e4 : decide ((m.entries.length : Int) ≤ 4) = decide (m.entries.length ≤ 4) := by congr 1; exact propext (by omega)
      rw [e4]
      exact ⟨fun g => by rw [hx8]; simp [e3.mp g], fun g => ⟨fun g2 => by rw [hx8]; simp [g2], fun g2 => by rw [hx8]; simp [g2, mt e3.mpr g]⟩⟩
    rintro ts u c1 ⟨h1, h6, h7, h8, rfl, rfl⟩
    simp only at h1 h6 h7 h8
    repeat (first | simp only [RS0, RS1, RS2, RS3, RS4, reduceIte, Nat.reduceEqDiff, Nat.reduceAdd, Nat.reduceLeDiff, Nat.reduceLT, Nat.reduceMul, Int.reduceToNat, Int.reduceLT, Int.reduceLE, Int.reduceAdd, Int.reduceSub, Int.reduceMul, Int.reduceEq, Int.reduceNe, Nat.reduceSub, reduceCtorEq, boxF, if_true, if_false, forall_const, implies_true, ne_eq, h1, h6, h7, h8, hg, spec_l01In_rw, impl_within_rw, impl_isNode_rw, impl_isTerm_rw, impl_isIndex_rw] | simp (disch := first | assumption | omega | (simp only [LS] <;> omega) | (simp only [List.not_mem_nil, List.mem_cons, or_false, not_false_eq_true, not_or] <;> omega)) only [CS, h1, h6, h7, h8, hg] | simp only [condK_B, guardK_Bt, guardK_Bf])
    have hmid : msgMid m ↔ (0 ≤ m.index ∧ m.index ≤ 1000000) ∧ (0 ≤ m.commit ∧ m.commit ≤ 1000000) ∧ x8 = true := by rw [hx8, decide_eq_true_eq]; rfl
    rw [← h67] at hok
    repeat' (first | apply And.intro | intro _)
    all_goals first
      | exact hF _ (by rw [hok, decide_eq_true (hmid.mpr ⟨‹_›, ‹_›, ‹_›⟩), ‹x6 = _›]; rfl) _ _ ho
      | exact hF _ (by rw [hok, decide_eq_false (fun g => by have := hmid.mp g; simp_all)]; rfl) _ _ ho
  · have hok : msgOk m = false := by simp [msgOk, hen]
    repeat (first | simp only [RS0, RS1, RS2, RS3, RS4, reduceIte, Nat.reduceEqDiff, Nat.reduceAdd, Nat.reduceLeDiff, Nat.reduceLT, Nat.reduceMul, Int.reduceToNat, Int.reduceLT, Int.reduceLE, Int.reduceAdd, Int.reduceSub, Int.reduceMul, Int.reduceEq, Int.reduceNe, Nat.reduceSub, reduceCtorEq, boxF, if_true, if_false, forall_const, implies_true, ne_eq, h2, spec_l01In_rw, impl_within_rw, impl_isNode_rw, impl_isTerm_rw, impl_isIndex_rw] | simp (disch := first | assumption | omega | (simp only [LS] <;> omega) | (simp only [List.not_mem_nil, List.mem_cons, or_false, not_false_eq_true, not_or] <;> omega)) only [CS, h2] | simp only [condK_B, guardK_Bt, guardK_Bf])
    exact hF _ hok _ _ ho
end
end Go.Proofs.Ytfcglkajekohiaa
