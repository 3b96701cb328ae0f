/- Contracts: messages. -/
import Derived.Test.YtfcglkajekohiaaC10
import Derived.Test.YtfcglkajekohiaaAmU
set_option linter.unusedSimpArgs false
set_option linter.unusedVariables false
set_option maxRecDepth 20000
namespace Go.Proofs.Ytfcglkajekohiaa
open Go Go.Proofs.Ytfcglkajekohiaa.AM

def entsC (l : List Ent) : List Value := l.flatMap entC
theorem entC_len (e : Ent) : (entC e).length = 3 := rfl
theorem ents_len (l : List Ent) : (entsC l).length = l.length * 3 := flat_len entC_len l
theorem ents_N {l : List Ent} {i : Nat} (h : i < l.length) : ((entsC l).drop (i * 3)).take 3 = entC l[i] := flat_take entC_len h
theorem ents_0 {l : List Ent} {i : Nat} (h : i < l.length) : (entsC l).getD (i * 3) undefA = I l[i].term := flat_get (k := 0) entC_len h (by omega)
theorem ents_1 {l : List Ent} {i : Nat} (h : i < l.length) : (entsC l).getD (i * 3 + 1) undefA = I l[i].kind := flat_get (k := 1) entC_len h (by omega)
theorem ents_2 {l : List Ent} {i : Nat} (h : i < l.length) : (entsC l).getD (i * 3 + 2) undefA = T l[i].data := flat_get (k := 2) entC_len h (by omega)

theorem decide_and_left' {p q : Prop} [Decidable p] [Decidable q] (h : p) : decide (p ∧ q) = decide q := by simp [h]

structure Msg where
  kind : Int
  src : Int
  dst : Int
  term : Int
  index : Int
  logTerm : Int
  commit : Int
  ok : Bool
  entries : List Ent
  conf : List Int
  data : List UInt8
  last : Bool

def msgC (m : Msg) (ve vc : Value) : List Value := [I m.kind, I m.src, I m.dst, I m.term, I m.index, I m.logTerm, I m.commit, B m.ok, ve, vc, T m.data, B m.last]

def entsOk (lim : Int) : Int → List Ent → Bool
  | _, [] => true
  | t, e :: r => entOk e && decide (t ≤ e.term ∧ e.term ≤ lim) && entsOk lim e.term r
def msgHead (m : Msg) : Prop := (1 ≤ m.kind ∧ m.kind ≤ 6) ∧ (1 ≤ m.src ∧ m.src ≤ 4) ∧ (1 ≤ m.dst ∧ m.dst ≤ 4) ∧ m.src ≠ m.dst ∧ (0 ≤ m.term ∧ m.term ≤ 100000) ∧ (0 ≤ m.logTerm ∧ m.logTerm ≤ 100000)
instance (m : Msg) : Decidable (msgHead m) := by unfold msgHead; infer_instance
def msgMid (m : Msg) : Prop := (0 ≤ m.index ∧ m.index ≤ 1000000) ∧ (0 ≤ m.commit ∧ m.commit ≤ 1000000) ∧ m.entries.length ≤ 4 ∧ (m.entries = [] ∨ m.kind = 3)
instance (m : Msg) : Decidable (msgMid m) := by unfold msgMid; infer_instance
def msgTail (m : Msg) : Bool := if m.kind = 5 then confOk m.conf && decide (m.data.length ≤ 60) else decide (m.conf = [] ∧ m.data = [] ∧ m.last = false)
def msgOk (m : Msg) : Bool := decide (msgHead m) && decide (msgMid m) && entsOk m.term m.logTerm m.entries && msgTail m

section
variable {prim : Nat → List Value → Option Value} {H : AHeap} {c : Nat} {Q : Value → AHeap → Nat → Prop}

theorem spec_MessageOk_L0_ok (m : Msg) (ve vc : Value) (oe : Option Nat) (he : SlR H 3 ve (entsC m.entries) oe) (hoe : ∀ b, oe = some b → b < c)
    (hld : ∀ e ∈ m.entries, e.data.length ≤ 100000000) (hl : m.entries.length ≤ 100000000) {K : List AM.Frame} {R : AExit → St → Prop} {ts : TS} {u : AHeap} {c1 : Nat}
    (h1 : ts 1 = P c 0) (h3 : ts 3 = I m.logTerm) (h4 : ts 4 = I 0) (hg : get (u ++ H) c = some ⟨msgC m ve vc, 0, false⟩) (ho : Own [] u c c1) (hcc : c < c1)
    (hT : entsOk m.term m.logTerm m.entries = true → ∀ ts u c1, ts 1 = P c 0 → get (u ++ H) c = some ⟨msgC m ve vc, 0, false⟩ → Own [] u c c1 → c < c1 → post (tbl prim) H K R (.exit 0) ⟨ts, u, c1⟩)
    (hF : entsOk m.term m.logTerm m.entries = false → ∀ ts u c1, ts 2 = .bool false → Own [] u c c1 → post (tbl prim) H K R .ret ⟨ts, u, c1⟩) : Wloop (tbl prim) H g_spec_MessageOk_L0 K ⟨ts, u, c1⟩ R := by
  have hle := he.len (ents_len _) (by omega)
  refine Wloop.of (fun k s => ∃ (i : Nat) (tm : Int), s.ts 1 = P c 0 ∧ s.ts 3 = I tm ∧ s.ts 4 = I i ∧ k = m.entries.length - i ∧ i ≤ m.entries.length ∧ get (s.u ++ H) c = some ⟨msgC m ve vc, 0, false⟩ ∧ Own [] s.u c s.c ∧ c < s.c ∧
    entsOk m.term tm (m.entries.drop i) = entsOk m.term m.logTerm m.entries) ?_ (n := m.entries.length) ⟨0, m.logTerm, h1, h3, by simpa using h4, rfl, by omega, hg, ho, hcc, by simp⟩
  rintro k ⟨ts, u, c1⟩ ⟨i, tm, h1, h3, h4, rfl, hi, hg, ho, hcc, hents⟩ R hR hE
  simp only at h1 h3 h4 hg ho hcc
  simp only [msgC] at hg
  have he2 := he.own ho (fun b e => ⟨hoe b e, by simp⟩)
  by_cases hin : i < m.entries.length
  · obtain ⟨b, ro, hbc, hob, hia, hgb⟩ := he2.el hoe (ents_len _) (by omega) (k := .i64) hin
    rw [List.drop_eq_getElem_cons hin, entsOk] at hents
    have hinT : ((i : Int) < m.entries.length) = True := eq_true (by omega)
    repeat (first | simp only [RS0, RS1, RS2, RS3, RS4, reduceIte, Nat.reduceEqDiff, Nat.reduceAdd, Nat.reduceLeDiff, Nat.reduceLT, Nat.reduceMul, Int.reduceToNat, Int.reduceLT, Int.reduceLE, Int.reduceAdd, Int.reduceSub, Int.reduceMul, Int.reduceEq, Int.reduceNe, Nat.reduceSub, reduceCtorEq, boxF, if_true, if_false, forall_const, implies_true, ne_eq, g_spec_MessageOk_L0, h1, h3, h4, hg, hle, hia, hgb, ents_len, ents_N hin, hinT, spec_l01In_rw, impl_within_rw, impl_isNode_rw, impl_isTerm_rw, impl_isIndex_rw] | simp (disch := first | assumption | omega | (simp only [LS] <;> omega) | (simp only [List.not_mem_nil, List.mem_cons, or_false, not_false_eq_true, not_or] <;> omega)) only [CS, g_spec_MessageOk_L0, h1, h3, h4, hg, hle, hia, hgb, ents_len, ents_N hin, hinT] | simp only [condK_B, guardK_Bt, guardK_Bf])
    refine ⟨by omega, ?_⟩
    refine EvK.of (spec_EntryOk_ok m.entries[i] (hld _ (List.getElem_mem hin)) fun d2 c2 ho2 => ?_)
    have ho2_le := ho2.le
    repeat (first | simp only [RS0, RS1, RS2, RS3, RS4, reduceIte, Nat.reduceEqDiff, Nat.reduceAdd, Nat.reduceLeDiff, Nat.reduceLT, Nat.reduceMul, Int.reduceToNat, Int.reduceLT, Int.reduceLE, Int.reduceAdd, Int.reduceSub, Int.reduceMul, Int.reduceEq, Int.reduceNe, Nat.reduceSub, reduceCtorEq, boxF, if_true, if_false, forall_const, implies_true, ne_eq, h1, h3, h4, hg, hle, hia, hgb, ents_len, ents_0 hin, spec_l01In_rw, impl_within_rw, impl_isNode_rw, impl_isTerm_rw, impl_isIndex_rw] | simp (disch := first | assumption | omega | (simp only [LS] <;> omega) | (simp only [List.not_mem_nil, List.mem_cons, or_false, not_false_eq_true, not_or] <;> omega)) only [CS, h1, h3, h4, hg, hle, hia, hgb, ents_len, ents_0 hin] | simp only [condK_B, guardK_Bt, guardK_Bf])
    repeat' (first | apply And.intro | intro _)
    all_goals first
      | omega
      | exact hE _ _ (by decide) (hF (by rw [← hents, ‹entOk _ = false›]; rfl) _ _ _ (by simp) (by ((try dsimp only); refine Own.of (by omega) ?_; repeat (first | exact OwnK.nil | refine OwnK.cons (.inl (by omega)) ?_ | refine OwnK.kill (fun b hb => .inl (by have := hoe b hb; omega)) ?_ | refine OwnK.cons (.inr (by simp)) ?_ | exact OwnK.one (by assumption) (by omega) (by omega) (by simp <;> omega) | refine OwnK.app (by assumption) (by omega) (by omega) (by simp <;> omega) ?_))))
      | exact hE _ _ (by decide) (hF (by rw [← hents, decide_eq_false (p := tm ≤ m.entries[i].term ∧ m.entries[i].term ≤ m.term) (by omega)]; simp) _ _ _ (by simp) (by ((try dsimp only); refine Own.of (by omega) ?_; repeat (first | exact OwnK.nil | refine OwnK.cons (.inl (by omega)) ?_ | refine OwnK.kill (fun b hb => .inl (by have := hoe b hb; omega)) ?_ | refine OwnK.cons (.inr (by simp)) ?_ | exact OwnK.one (by assumption) (by omega) (by omega) (by simp <;> omega) | refine OwnK.app (by assumption) (by omega) (by omega) (by simp <;> omega) ?_))))
      | refine hR (m.entries.length - (i + 1)) _ (by omega) ⟨i + 1, m.entries[i].term, by simp [h1], by simp, by simp, rfl, by omega, by simp (disch := first | assumption | omega | (simp only [LS] <;> omega) | (simp only [List.not_mem_nil, List.mem_cons, or_false, not_false_eq_true, not_or] <;> omega)) only [CS, hg, msgC, RS3, RS4], by ((try dsimp only); refine Own.of (by omega) ?_; repeat (first | exact OwnK.nil | refine OwnK.cons (.inl (by omega)) ?_ | refine OwnK.kill (fun b hb => .inl (by have := hoe b hb; omega)) ?_ | refine OwnK.cons (.inr (by simp)) ?_ | exact OwnK.one (by assumption) (by omega) (by omega) (by simp <;> omega) | refine OwnK.app (by assumption) (by omega) (by omega) (by simp <;> omega) ?_)), by dsimp only; omega, ?_⟩
        rw [← hents, ‹entOk _ = true›, decide_eq_true (p := tm ≤ m.entries[i].term ∧ m.entries[i].term ≤ m.term) (by omega)]; simp
  · have hinF : ((i : Int) < m.entries.length) = False := eq_false (by omega)
    have hents' : entsOk m.term m.logTerm m.entries = true := by rw [← hents, List.drop_eq_nil_of_le (by omega)]; rfl
    repeat (first | simp only [RS0, RS1, RS2, RS3, RS4, reduceIte, Nat.reduceEqDiff, Nat.reduceAdd, Nat.reduceLeDiff, Nat.reduceLT, Nat.reduceMul, Int.reduceToNat, Int.reduceLT, Int.reduceLE, Int.reduceAdd, Int.reduceSub, Int.reduceMul, Int.reduceEq, Int.reduceNe, Nat.reduceSub, reduceCtorEq, boxF, if_true, if_false, forall_const, implies_true, ne_eq, g_spec_MessageOk_L0, h1, h3, h4, hg, hle, hinF, spec_l01In_rw, impl_within_rw, impl_isNode_rw, impl_isTerm_rw, impl_isIndex_rw] | simp (disch := first | assumption | omega | (simp only [LS] <;> omega) | (simp only [List.not_mem_nil, List.mem_cons, or_false, not_false_eq_true, not_or] <;> omega)) only [CS, g_spec_MessageOk_L0, h1, h3, h4, hg, hle, hinF] | simp only [condK_B, guardK_Bt, guardK_Bf])
    exact hE _ _ (by decide) (hT hents' _ _ _ (by simp [h1]) hg ho hcc)

theorem spec_MessageOk_ok (m : Msg) (ve vc : Value) (oe oc : Option Nat) (he : SlR H 3 ve (entsC m.entries) oe) (hc : SlR H 1 vc (m.conf.map I) oc) (hoe : ∀ b, oe = some b → b < c) (hoc : ∀ b, oc = some b → b < c)
    (hl : m.entries.length ≤ 100000000) (hbc : m.conf.length ≤ 100000000) (hld : ∀ e ∈ m.entries, e.data.length ≤ 100000000) (hd : m.data.length ≤ 100000000)
    (h : ∀ d c', Own [] d c c' → Q (B (msgOk m)) d c') : Ev (tbl prim) n_spec_MessageOk [ag (msgC m ve vc)] H c Q := by
  refine Ev.fn (s_spec_MessageOk prim) rfl ?_
  have hle := he.len (ents_len _) (by omega)
  have hlc := hc.len (n := m.conf.length) (by simp) (by omega)
  repeat (first | simp only [RS0, RS1, RS2, RS3, RS4, reduceIte, Nat.reduceEqDiff, Nat.reduceAdd, Nat.reduceLeDiff, Nat.reduceLT, Nat.reduceMul, Int.reduceToNat, Int.reduceLT, Int.reduceLE, Int.reduceAdd, Int.reduceSub, Int.reduceMul, Int.reduceEq, Int.reduceNe, Nat.reduceSub, reduceCtorEq, boxF, if_true, if_false, forall_const, implies_true, ne_eq, g_spec_MessageOk, msgC, he.cl, hc.cl, he.isC, hc.isC, hle, hlc, spec_l01In_rw, impl_within_rw, impl_isNode_rw, impl_isTerm_rw, impl_isIndex_rw] | simp (disch := first | assumption | omega | (simp only [LS] <;> omega) | (simp only [List.not_mem_nil, List.mem_cons, or_false, not_false_eq_true, not_or] <;> omega)) only [CS, g_spec_MessageOk, msgC, he.cl, hc.cl, he.isC, hc.isC, hle, hlc] | simp only [condK_B, guardK_Bt, guardK_Bf])
  have hF : ∀ ok, msgOk m = ok → ∀ d c', Own [] d c c' → Q (B ok) d c' := fun ok g => by rw [← g]; exact h
  have hH : ¬msgHead m → msgOk m = false := fun g => by simp [msgOk, g]
  have hM : ¬msgMid m → msgOk m = false := fun g => by simp [msgOk, g]
  repeat' (first | apply And.intro | intro _)
  all_goals first
    | exact hF _ (hH (by unfold msgHead; omega)) _ _ (by ((try dsimp only); refine Own.of (by omega) ?_; repeat (first | exact OwnK.nil | refine OwnK.cons (.inl (by omega)) ?_ | refine OwnK.kill (fun b hb => .inl (by have := hoe b hb; omega)) ?_ | refine OwnK.cons (.inr (by simp)) ?_ | exact OwnK.one (by assumption) (by omega) (by omega) (by simp <;> omega) | refine OwnK.app (by assumption) (by omega) (by omega) (by simp <;> omega) ?_)))
    | exact hF _ (hM (by unfold msgMid; rw [← List.length_eq_zero_iff]; omega)) _ _ (by ((try dsimp only); refine Own.of (by omega) ?_; repeat (first | exact OwnK.nil | refine OwnK.cons (.inl (by omega)) ?_ | refine OwnK.kill (fun b hb => .inl (by have := hoe b hb; omega)) ?_ | refine OwnK.cons (.inr (by simp)) ?_ | exact OwnK.one (by assumption) (by omega) (by omega) (by simp <;> omega) | refine OwnK.app (by assumption) (by omega) (by omega) (by simp <;> omega) ?_)))
    | skip
  all_goals
    have hmid : msgMid m := by unfold msgMid; rw [← List.length_eq_zero_iff]; omega
    have hhead : msgHead m := by unfold msgHead; omega
    have hok : msgOk m = (entsOk m.term m.logTerm m.entries && msgTail m) := by simp [msgOk, hhead, hmid]
    refine spec_MessageOk_L0_ok m ve vc oe he hoe hld hl (by simp) (by simp) (by simp) (by simp [msgC]) (by ((try dsimp only); refine Own.of (by omega) ?_; repeat (first | exact OwnK.nil | refine OwnK.cons (.inl (by omega)) ?_ | refine OwnK.kill (fun b hb => .inl (by have := hoe b hb; omega)) ?_ | refine OwnK.cons (.inr (by simp)) ?_ | exact OwnK.one (by assumption) (by omega) (by omega) (by simp <;> omega) | refine OwnK.app (by assumption) (by omega) (by omega) (by simp <;> omega) ?_))) (by omega) (fun hen ts u c1 h1 hg ho hcc => ?_) (fun hen ts u c1 h2 ho => ?_)
    · rw [hen, Bool.true_and] at hok
      have hc2 := hc.own ho (fun b e => ⟨hoc b e, by simp⟩)
      simp only [msgC] at hg
      repeat (first | simp only [RS0, RS1, RS2, RS3, RS4, reduceIte, Nat.reduceEqDiff, Nat.reduceAdd, Nat.reduceLeDiff, Nat.reduceLT, Nat.reduceMul, Int.reduceToNat, Int.reduceLT, Int.reduceLE, Int.reduceAdd, Int.reduceSub, Int.reduceMul, Int.reduceEq, Int.reduceNe, Nat.reduceSub, reduceCtorEq, boxF, if_true, if_false, forall_const, implies_true, ne_eq, h1, hg, hlc, spec_l01In_rw, impl_within_rw, impl_isNode_rw, impl_isTerm_rw, impl_isIndex_rw] | simp (disch := first | assumption | omega | (simp only [LS] <;> omega) | (simp only [List.not_mem_nil, List.mem_cons, or_false, not_false_eq_true, not_or] <;> omega)) only [CS, h1, hg, hlc] | simp only [condK_B, guardK_Bt, guardK_Bf])
      refine ⟨fun h5 => EvK.of (spec_ConfOk_ok vc m.conf oc hc2 (by omega) ?_), fun h5 => ?_⟩
      · have ht : msgTail m = (confOk m.conf && decide (m.data.length ≤ 60)) := by simp [msgTail, h5]
        have e : decide ((m.data.length : Int) ≤ 60) = decide (m.data.length ≤ 60) := by congr 1; exact propext (by omega)
        repeat (first | simp only [RS0, RS1, RS2, RS3, RS4, reduceIte, Nat.reduceEqDiff, Nat.reduceAdd, Nat.reduceLeDiff, Nat.reduceLT, Nat.reduceMul, Int.reduceToNat, Int.reduceLT, Int.reduceLE, Int.reduceAdd, Int.reduceSub, Int.reduceMul, Int.reduceEq, Int.reduceNe, Nat.reduceSub, reduceCtorEq, boxF, if_true, if_false, forall_const, implies_true, ne_eq, h1, hg, hlc, spec_l01In_rw, impl_within_rw, impl_isNode_rw, impl_isTerm_rw, impl_isIndex_rw] | simp (disch := first | assumption | omega | (simp only [LS] <;> omega) | (simp only [List.not_mem_nil, List.mem_cons, or_false, not_false_eq_true, not_or] <;> omega)) only [CS, h1, hg, hlc] | simp only [condK_B, guardK_Bt, guardK_Bf])
        rw [ht] at hok
        exact ⟨fun g => hF _ (by rw [hok, g, e]; rfl) _ _ ho, fun g => hF _ (by rw [hok, g]; rfl) _ _ ho⟩
      · have ht : msgTail m = decide (m.conf = [] ∧ m.data = [] ∧ m.last = false) := by simp [msgTail, h5]
        repeat (first | simp only [RS0, RS1, RS2, RS3, RS4, reduceIte, Nat.reduceEqDiff, Nat.reduceAdd, Nat.reduceLeDiff, Nat.reduceLT, Nat.reduceMul, Int.reduceToNat, Int.reduceLT, Int.reduceLE, Int.reduceAdd, Int.reduceSub, Int.reduceMul, Int.reduceEq, Int.reduceNe, Nat.reduceSub, reduceCtorEq, boxF, if_true, if_false, forall_const, implies_true, ne_eq, h1, hg, hlc, spec_l01In_rw, impl_within_rw, impl_isNode_rw, impl_isTerm_rw, impl_isIndex_rw] | simp (disch := first | assumption | omega | (simp only [LS] <;> omega) | (simp only [List.not_mem_nil, List.mem_cons, or_false, not_false_eq_true, not_or] <;> omega)) only [CS, h1, hg, hlc] | simp only [condK_B, guardK_Bt, guardK_Bf])
        rw [ht] at hok
        have e : (m.conf.length : Int) = 0 ↔ m.conf = [] := by rw [← List.length_eq_zero_iff]; omega
        exact ⟨fun g => ⟨fun g2 => hF _ (by rw [hok, decide_and_left' (e.mp g), decide_and_left' g2]; cases m.last <;> rfl) _ _ ho, fun g2 => hF _ (by rw [hok, decide_eq_false (fun x => g2 x.2.1)]) _ _ ho⟩, fun g => hF _ (by rw [hok, decide_eq_false (fun x => g (e.mpr x.1))]) _ _ ho⟩
    · rw [hen, Bool.false_and] at hok
      repeat (first | simp only [RS0, RS1, RS2, RS3, RS4, reduceIte, Nat.reduceEqDiff, Nat.reduceAdd, Nat.reduceLeDiff, Nat.reduceLT, Nat.reduceMul, Int.reduceToNat, Int.reduceLT, Int.reduceLE, Int.reduceAdd, Int.reduceSub, Int.reduceMul, Int.reduceEq, Int.reduceNe, Nat.reduceSub, reduceCtorEq, boxF, if_true, if_false, forall_const, implies_true, ne_eq, h2, spec_l01In_rw, impl_within_rw, impl_isNode_rw, impl_isTerm_rw, impl_isIndex_rw] | simp (disch := first | assumption | omega | (simp only [LS] <;> omega) | (simp only [List.not_mem_nil, List.mem_cons, or_false, not_false_eq_true, not_or] <;> omega)) only [CS, h2] | simp only [condK_B, guardK_Bt, guardK_Bf])
      exact hF _ hok _ _ ho
end
end Go.Proofs.Ytfcglkajekohiaa
