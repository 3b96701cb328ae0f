/- Contracts: commands and keeps, first part. -/
import Derived.Test.YtfcglkajekohiaaE3
import Derived.Test.YtfcglkajekohiaaC14
set_option linter.unusedSimpArgs false
set_option linter.unusedVariables false
set_option maxRecDepth 20000
namespace Go.Proofs.Ytfcglkajekohiaa
open Go Go.Proofs.Ytfcglkajekohiaa.AM

structure Ses where
  token : Int
  last : Int
  reply : List UInt8
structure Itm where
  key : List UInt8
  val : List UInt8
  ver : Int
structure Cmd where
  op : Int
  token : Int
  seq : Int
  key : List UInt8
  val : List UInt8
  ver : Int
structure Kp where
  ses : List Ses
  items : List Itm
def sesC (s : Ses) : List Value := [I s.token, I s.last, T s.reply]
def itmC (x : Itm) : List Value := [T x.key, T x.val, I x.ver]
def cmdC (x : Cmd) : List Value := [I x.op, I x.token, I x.seq, T x.key, T x.val, I x.ver]
def sessC (l : List Ses) : List Value := l.flatMap sesC
def itmsC (l : List Itm) : List Value := l.flatMap itmC
theorem sesC_len (e : Ses) : (sesC e).length = 3 := rfl
theorem itmC_len (e : Itm) : (itmC e).length = 3 := rfl
theorem sess_len (l : List Ses) : (sessC l).length = l.length * 3 := flat_len sesC_len l
theorem itms_len (l : List Itm) : (itmsC l).length = l.length * 3 := flat_len itmC_len l
theorem sess_N {l : List Ses} {i : Nat} (h : i < l.length) : ((sessC l).drop (i * 3)).take 3 = sesC l[i] := flat_take sesC_len h
theorem itms_N {l : List Itm} {i : Nat} (h : i < l.length) : ((itmsC l).drop (i * 3)).take 3 = itmC l[i] := flat_take itmC_len h
theorem sess_0 {l : List Ses} {i : Nat} (h : i < l.length) : (sessC l).getD (i * 3) undefA = I l[i].token := flat_get (k := 0) sesC_len h (by omega)
theorem sess_1 {l : List Ses} {i : Nat} (h : i < l.length) : (sessC l).getD (i * 3 + 1) undefA = I l[i].last := flat_get (k := 1) sesC_len h (by omega)
theorem sess_2 {l : List Ses} {i : Nat} (h : i < l.length) : (sessC l).getD (i * 3 + 2) undefA = T l[i].reply := flat_get (k := 2) sesC_len h (by omega)
theorem itms_0 {l : List Itm} {i : Nat} (h : i < l.length) : (itmsC l).getD (i * 3) undefA = T l[i].key := flat_get (k := 0) itmC_len h (by omega)
theorem itms_1 {l : List Itm} {i : Nat} (h : i < l.length) : (itmsC l).getD (i * 3 + 1) undefA = T l[i].val := flat_get (k := 1) itmC_len h (by omega)
theorem itms_2 {l : List Itm} {i : Nat} (h : i < l.length) : (itmsC l).getD (i * 3 + 2) undefA = I l[i].ver := flat_get (k := 2) itmC_len h (by omega)
theorem sess_snoc (l : List Ses) (e : Ses) : sessC (l ++ [e]) = sessC l ++ sesC e := by simp [sessC]
theorem itms_snoc (l : List Itm) (e : Itm) : itmsC (l ++ [e]) = itmsC l ++ itmC e := by simp [itmsC]

def cmdOk (x : Cmd) : Bool := decide ((0 ≤ x.token ∧ x.token ≤ 1000000) ∧ (0 ≤ x.seq ∧ x.seq ≤ 1000000) ∧ (1 ≤ x.op ∧ x.op ≤ 5)) &&
  (if x.op = 1 then decide (x.token = 0 ∧ x.seq = 0 ∧ x.key = [] ∧ x.val = [] ∧ x.ver = 0)
   else decide ((1 ≤ x.key.length ∧ x.key.length ≤ 8) ∧ x.val.length ≤ 20) && (if x.op = 2 then decide (x.ver = 0) else if x.op = 5 then decide (1 ≤ x.ver ∧ x.ver ≤ 1000000000) else decide (x.val = [] ∧ x.ver = 0)))
def cmdText (x : Cmd) : List UInt8 := [by8 x.op] ++ varL x.token.toNat ++ varL x.seq.toNat ++ shortT x.key ++ shortT x.val ++ varL x.ver.toNat
def itm0 : Itm := ⟨[], [], 0⟩
def itemOf : List Itm → List UInt8 → Option Itm
  | [], _ => none
  | x :: r, k => if x.key = k then some x else itemOf r k

section
variable {prim : Nat → List Value → Option Value} {H : AHeap} {c : Nat} {Q : Value → AHeap → Nat → Prop}

theorem spec_KeepNew_ok (h : ∀ d c' v ob, Own [] d c c' → SlR (d ++ H) 3 v (itmsC [⟨[114, 111, 111, 116], [], 1⟩]) ob → (∀ k, ob = some k → c ≤ k ∧ k < c') → Q (ag [.slice none 0 0, v]) d c') : Ev (tbl prim) n_spec_KeepNew [] H c Q := by
  refine Ev.fn (s_spec_KeepNew prim) rfl ?_
  repeat (first | simp only [RS0, RS1, RS2, RS3, RS4, reduceIte, Nat.reduceEqDiff, Nat.reduceAdd, Nat.reduceLeDiff, Nat.reduceLT, Nat.reduceMul, Int.reduceToNat, Int.reduceLT, Int.reduceLE, Int.reduceAdd, Int.reduceSub, Int.reduceMul, Int.reduceEq, Int.reduceNe, Nat.reduceSub, reduceCtorEq, boxF, if_true, if_false, forall_const, implies_true, ne_eq, g_spec_KeepNew, spec_l01In_rw, b_and, b_xor, b_or] | simp (disch := first | assumption | omega | (simp only [LS]; first | done | omega) | (simp only [List.not_mem_nil, List.mem_cons, or_false, not_false_eq_true, not_or]; first | done | omega)) only [CS, g_spec_KeepNew] | simp only [condK_B, guardK_Bt, guardK_Bf])
  refine h _ _ _ (some (c + 1)) ?_ ?_ ?_
  · ((try dsimp only); refine Own.of (by omega) ?_; repeat (first | exact OwnK.nil | refine OwnK.cons (.inl (by omega)) ?_ | refine OwnK.kill (fun b hb => .inl (by have := hoe b hb; omega)) ?_ | refine OwnK.cons (.inr (by simp)) ?_ | exact OwnK.one (by assumption) (by omega) (by omega) (by simp; first | done | omega) | refine OwnK.app (by assumption) (by omega) (by omega) (by simp; first | done | omega) ?_))
  · exact .blk (by first | ((first | simp (disch := first | assumption | omega | (simp only [LS]; first | done | omega) | (simp only [List.not_mem_nil, List.mem_cons, or_false, not_false_eq_true, not_or]; first | done | omega)) only [CS, RS3, RS4] | done); done) | ((first | simp (disch := first | assumption | omega | (simp only [LS]; first | done | omega) | (simp only [List.not_mem_nil, List.mem_cons, or_false, not_false_eq_true, not_or]; first | done | omega)) only [CS, RS3, RS4] | done); rfl)) rfl
  · intro k hk; simp at hk; omega

theorem spec_CommandOk_ok (x : Cmd) (h : ∀ d c', Own [] d c c' → Q (B (cmdOk x)) d c') : Ev (tbl prim) n_spec_CommandOk [ag (cmdC x)] H c Q := by
  refine Ev.fn (s_spec_CommandOk prim) rfl ?_
  repeat (first | simp only [RS0, RS1, RS2, RS3, RS4, reduceIte, Nat.reduceEqDiff, Nat.reduceAdd, Nat.reduceLeDiff, Nat.reduceLT, Nat.reduceMul, Int.reduceToNat, Int.reduceLT, Int.reduceLE, Int.reduceAdd, Int.reduceSub, Int.reduceMul, Int.reduceEq, Int.reduceNe, Nat.reduceSub, reduceCtorEq, boxF, if_true, if_false, forall_const, implies_true, ne_eq, g_spec_CommandOk, cmdC, spec_l01In_rw, b_and, b_xor, b_or] | simp (disch := first | assumption | omega | (simp only [LS]; first | done | omega) | (simp only [List.not_mem_nil, List.mem_cons, or_false, not_false_eq_true, not_or]; first | done | omega)) only [CS, g_spec_CommandOk, cmdC] | simp only [condK_B, guardK_Bt, guardK_Bf])
  have hF : ∀ r, cmdOk x = r → ∀ d c', Own [] d c c' → Q (B r) d c' := fun r g => by rw [← g]; exact h
  have e1 : (1 ≤ (x.key.length : Int) ∧ (x.key.length : Int) ≤ 8) ↔ (1 ≤ x.key.length ∧ x.key.length ≤ 8) := by omega
  have e2 : (20 < (x.val.length : Int)) ↔ ¬ x.val.length ≤ 20 := by omega
  rw [e1, e2]
  repeat' (first | with_reducible apply And.intro | with_reducible intro _)
  all_goals
    refine hF _ ?_ _ _ (by ((try dsimp only); refine Own.of (by omega) ?_; repeat (first | exact OwnK.nil | refine OwnK.cons (.inl (by omega)) ?_ | refine OwnK.kill (fun b hb => .inl (by have := hoe b hb; omega)) ?_ | refine OwnK.cons (.inr (by simp)) ?_ | exact OwnK.one (by assumption) (by omega) (by omega) (by simp; first | done | omega) | refine OwnK.app (by assumption) (by omega) (by omega) (by simp; first | done | omega) ?_)))
    simp only [cmdOk]
    simp [*]
  all_goals first
    | done
    | omega

theorem spec_l16Short_ok (t : List UInt8) (ht : t.length ≤ 1000000000000) (h : ∀ d c', Own [] d c c' → Q (T (shortT t)) d c') : Ev (tbl prim) n_spec_l16Short [T t] H c Q := by
  refine Ev.fn (s_spec_l16Short prim) rfl ?_
  repeat (first | simp only [RS0, RS1, RS2, RS3, RS4, reduceIte, Nat.reduceEqDiff, Nat.reduceAdd, Nat.reduceLeDiff, Nat.reduceLT, Nat.reduceMul, Int.reduceToNat, Int.reduceLT, Int.reduceLE, Int.reduceAdd, Int.reduceSub, Int.reduceMul, Int.reduceEq, Int.reduceNe, Nat.reduceSub, reduceCtorEq, boxF, if_true, if_false, forall_const, implies_true, ne_eq, g_spec_l16Short, spec_l01In_rw, b_and, b_xor, b_or] | simp (disch := first | assumption | omega | (simp only [LS]; first | done | omega) | (simp only [List.not_mem_nil, List.mem_cons, or_false, not_false_eq_true, not_or]; first | done | omega)) only [CS, g_spec_l16Short] | simp only [condK_B, guardK_Bt, guardK_Bf])
  refine EvK.of (spec_l01Var_ok t.length (by omega) (by omega) fun d1 c1 ho1 => ?_)
  have ho1_le := ho1.le
  have := varL_len100 (n := t.length) (by omega)
  repeat (first | simp only [RS0, RS1, RS2, RS3, RS4, reduceIte, Nat.reduceEqDiff, Nat.reduceAdd, Nat.reduceLeDiff, Nat.reduceLT, Nat.reduceMul, Int.reduceToNat, Int.reduceLT, Int.reduceLE, Int.reduceAdd, Int.reduceSub, Int.reduceMul, Int.reduceEq, Int.reduceNe, Nat.reduceSub, reduceCtorEq, boxF, if_true, if_false, forall_const, implies_true, ne_eq, spec_l01In_rw, b_and, b_xor, b_or] | simp (disch := first | assumption | omega | (simp only [LS]; first | done | omega) | (simp only [List.not_mem_nil, List.mem_cons, or_false, not_false_eq_true, not_or]; first | done | omega)) only [CS] | simp only [condK_B, guardK_Bt, guardK_Bf])
  exact ⟨by omega, h _ _ (by ((try dsimp only); refine Own.of (by omega) ?_; repeat (first | exact OwnK.nil | refine OwnK.cons (.inl (by omega)) ?_ | refine OwnK.kill (fun b hb => .inl (by have := hoe b hb; omega)) ?_ | refine OwnK.cons (.inr (by simp)) ?_ | exact OwnK.one (by assumption) (by omega) (by omega) (by simp; first | done | omega) | refine OwnK.app (by assumption) (by omega) (by omega) (by simp; first | done | omega) ?_)))⟩

theorem cmdOk_bounds {x : Cmd} (h : cmdOk x = true) : (0 ≤ x.token ∧ x.token ≤ 1000000) ∧ (0 ≤ x.seq ∧ x.seq ≤ 1000000) ∧ (1 ≤ x.op ∧ x.op ≤ 5) ∧ x.key.length ≤ 8 ∧ x.val.length ≤ 20 ∧ (0 ≤ x.ver ∧ x.ver ≤ 1000000000) := by
  simp only [cmdOk, Bool.and_eq_true, decide_eq_true_eq] at h
  obtain ⟨⟨h1, h2, h3⟩, h4⟩ := h
  refine ⟨h1, h2, h3, ?_⟩
  split at h4
  · simp only [decide_eq_true_eq] at h4
    obtain ⟨_, _, h5, h6, h7⟩ := h4
    rw [h5, h6, h7]; simp
  · simp only [Bool.and_eq_true, decide_eq_true_eq] at h4
    obtain ⟨⟨h5, h6⟩, h7⟩ := h4
    refine ⟨by omega, h6, ?_⟩
    split at h7
    · simp only [decide_eq_true_eq] at h7; omega
    · split at h7
      · simp only [decide_eq_true_eq] at h7; omega
      · simp only [decide_eq_true_eq] at h7; omega
theorem cmdText_len {x : Cmd} (h : cmdOk x = true) : (cmdText x).length ≤ 100 := by
  obtain ⟨h1, h2, h3, h4, h5, h6⟩ := cmdOk_bounds h
  have l1 := varL_len10 x.token (by omega)
  have l2 := varL_len10 x.seq (by omega)
  have l3 := varL_len10 x.ver (by omega)
  have l4 := shortT_len (t := x.key) (by omega)
  have l5 := shortT_len (t := x.val) (by omega)
  simp only [cmdText, List.length_append, List.length_cons, List.length_nil]
  omega

theorem spec_CommandText_ok (x : Cmd) (h : ∀ d c', Own [] d c c' → Q (.tuple ⟨[T (if cmdOk x = true then cmdText x else []), B (cmdOk x)]⟩) d c') : Ev (tbl prim) n_spec_CommandText [ag (cmdC x)] H c Q := by
  refine Ev.fn (s_spec_CommandText prim) rfl ?_
  repeat (first | simp only [RS0, RS1, RS2, RS3, RS4, reduceIte, Nat.reduceEqDiff, Nat.reduceAdd, Nat.reduceLeDiff, Nat.reduceLT, Nat.reduceMul, Int.reduceToNat, Int.reduceLT, Int.reduceLE, Int.reduceAdd, Int.reduceSub, Int.reduceMul, Int.reduceEq, Int.reduceNe, Nat.reduceSub, reduceCtorEq, boxF, if_true, if_false, forall_const, implies_true, ne_eq, g_spec_CommandText, cmdC, spec_l01In_rw, b_and, b_xor, b_or] | simp (disch := first | assumption | omega | (simp only [LS]; first | done | omega) | (simp only [List.not_mem_nil, List.mem_cons, or_false, not_false_eq_true, not_or]; first | done | omega)) only [CS, g_spec_CommandText, cmdC] | simp only [condK_B, guardK_Bt, guardK_Bf])
  refine EvK.of (spec_CommandOk_ok x fun d1 c1 ho1 => ?_)
  have ho1_le := ho1.le
  cases hok : cmdOk x with
  | false =>
    simp only [hok] at h
    repeat (first | simp only [RS0, RS1, RS2, RS3, RS4, reduceIte, Nat.reduceEqDiff, Nat.reduceAdd, Nat.reduceLeDiff, Nat.reduceLT, Nat.reduceMul, Int.reduceToNat, Int.reduceLT, Int.reduceLE, Int.reduceAdd, Int.reduceSub, Int.reduceMul, Int.reduceEq, Int.reduceNe, Nat.reduceSub, reduceCtorEq, boxF, if_true, if_false, forall_const, implies_true, ne_eq, spec_l01In_rw, b_and, b_xor, b_or] | simp (disch := first | assumption | omega | (simp only [LS]; first | done | omega) | (simp only [List.not_mem_nil, List.mem_cons, or_false, not_false_eq_true, not_or]; first | done | omega)) only [CS] | simp only [condK_B, guardK_Bt, guardK_Bf])
    exact h _ _ (by ((try dsimp only); refine Own.of (by omega) ?_; repeat (first | exact OwnK.nil | refine OwnK.cons (.inl (by omega)) ?_ | refine OwnK.kill (fun b hb => .inl (by have := hoe b hb; omega)) ?_ | refine OwnK.cons (.inr (by simp)) ?_ | exact OwnK.one (by assumption) (by omega) (by omega) (by simp; first | done | omega) | refine OwnK.app (by assumption) (by omega) (by omega) (by simp; first | done | omega) ?_)))
  | true =>
    simp only [hok, if_true] at h
    obtain ⟨h1, h2, h3, h4, h5, h6⟩ := cmdOk_bounds hok
    have l1 := varL_len10 x.token (by omega)
    have l2 := varL_len10 x.seq (by omega)
    have l3 := varL_len10 x.ver (by omega)
    have l4 := shortT_len (t := x.key) (by omega)
    have l5 := shortT_len (t := x.val) (by omega)
    repeat (first | simp only [RS0, RS1, RS2, RS3, RS4, reduceIte, Nat.reduceEqDiff, Nat.reduceAdd, Nat.reduceLeDiff, Nat.reduceLT, Nat.reduceMul, Int.reduceToNat, Int.reduceLT, Int.reduceLE, Int.reduceAdd, Int.reduceSub, Int.reduceMul, Int.reduceEq, Int.reduceNe, Nat.reduceSub, reduceCtorEq, boxF, if_true, if_false, forall_const, implies_true, ne_eq, spec_l01In_rw, b_and, b_xor, b_or] | simp (disch := first | assumption | omega | (simp only [LS]; first | done | omega) | (simp only [List.not_mem_nil, List.mem_cons, or_false, not_false_eq_true, not_or]; first | done | omega)) only [CS] | simp only [condK_B, guardK_Bt, guardK_Bf])
    refine EvK.of (spec_l01Var_ok x.token (by omega) (by omega) fun d2 c2 ho2 => ?_)
    have ho2_le := ho2.le
    repeat (first | simp only [RS0, RS1, RS2, RS3, RS4, reduceIte, Nat.reduceEqDiff, Nat.reduceAdd, Nat.reduceLeDiff, Nat.reduceLT, Nat.reduceMul, Int.reduceToNat, Int.reduceLT, Int.reduceLE, Int.reduceAdd, Int.reduceSub, Int.reduceMul, Int.reduceEq, Int.reduceNe, Nat.reduceSub, reduceCtorEq, boxF, if_true, if_false, forall_const, implies_true, ne_eq, spec_l01In_rw, b_and, b_xor, b_or] | simp (disch := first | assumption | omega | (simp only [LS]; first | done | omega) | (simp only [List.not_mem_nil, List.mem_cons, or_false, not_false_eq_true, not_or]; first | done | omega)) only [CS] | simp only [condK_B, guardK_Bt, guardK_Bf])
    refine ⟨by omega, ?_⟩
    refine EvK.of (spec_l01Var_ok x.seq (by omega) (by omega) fun d3 c3 ho3 => ?_)
    have ho3_le := ho3.le
    repeat (first | simp only [RS0, RS1, RS2, RS3, RS4, reduceIte, Nat.reduceEqDiff, Nat.reduceAdd, Nat.reduceLeDiff, Nat.reduceLT, Nat.reduceMul, Int.reduceToNat, Int.reduceLT, Int.reduceLE, Int.reduceAdd, Int.reduceSub, Int.reduceMul, Int.reduceEq, Int.reduceNe, Nat.reduceSub, reduceCtorEq, boxF, if_true, if_false, forall_const, implies_true, ne_eq, spec_l01In_rw, b_and, b_xor, b_or] | simp (disch := first | assumption | omega | (simp only [LS]; first | done | omega) | (simp only [List.not_mem_nil, List.mem_cons, or_false, not_false_eq_true, not_or]; first | done | omega)) only [CS] | simp only [condK_B, guardK_Bt, guardK_Bf])
    refine ⟨by omega, ?_⟩
    refine EvK.of (spec_l16Short_ok x.key (by omega) fun d4 c4 ho4 => ?_)
    have ho4_le := ho4.le
    repeat (first | simp only [RS0, RS1, RS2, RS3, RS4, reduceIte, Nat.reduceEqDiff, Nat.reduceAdd, Nat.reduceLeDiff, Nat.reduceLT, Nat.reduceMul, Int.reduceToNat, Int.reduceLT, Int.reduceLE, Int.reduceAdd, Int.reduceSub, Int.reduceMul, Int.reduceEq, Int.reduceNe, Nat.reduceSub, reduceCtorEq, boxF, if_true, if_false, forall_const, implies_true, ne_eq, spec_l01In_rw, b_and, b_xor, b_or] | simp (disch := first | assumption | omega | (simp only [LS]; first | done | omega) | (simp only [List.not_mem_nil, List.mem_cons, or_false, not_false_eq_true, not_or]; first | done | omega)) only [CS] | simp only [condK_B, guardK_Bt, guardK_Bf])
    refine ⟨by omega, ?_⟩
    refine EvK.of (spec_l16Short_ok x.val (by omega) fun d5 c5 ho5 => ?_)
    have ho5_le := ho5.le
    repeat (first | simp only [RS0, RS1, RS2, RS3, RS4, reduceIte, Nat.reduceEqDiff, Nat.reduceAdd, Nat.reduceLeDiff, Nat.reduceLT, Nat.reduceMul, Int.reduceToNat, Int.reduceLT, Int.reduceLE, Int.reduceAdd, Int.reduceSub, Int.reduceMul, Int.reduceEq, Int.reduceNe, Nat.reduceSub, reduceCtorEq, boxF, if_true, if_false, forall_const, implies_true, ne_eq, spec_l01In_rw, b_and, b_xor, b_or] | simp (disch := first | assumption | omega | (simp only [LS]; first | done | omega) | (simp only [List.not_mem_nil, List.mem_cons, or_false, not_false_eq_true, not_or]; first | done | omega)) only [CS] | simp only [condK_B, guardK_Bt, guardK_Bf])
    refine ⟨by omega, ?_⟩
    refine EvK.of (spec_l01Var_ok x.ver (by omega) (by omega) fun d6 c6 ho6 => ?_)
    have ho6_le := ho6.le
    repeat (first | simp only [RS0, RS1, RS2, RS3, RS4, reduceIte, Nat.reduceEqDiff, Nat.reduceAdd, Nat.reduceLeDiff, Nat.reduceLT, Nat.reduceMul, Int.reduceToNat, Int.reduceLT, Int.reduceLE, Int.reduceAdd, Int.reduceSub, Int.reduceMul, Int.reduceEq, Int.reduceNe, Nat.reduceSub, reduceCtorEq, boxF, if_true, if_false, forall_const, implies_true, ne_eq, spec_l01In_rw, b_and, b_xor, b_or] | simp (disch := first | assumption | omega | (simp only [LS]; first | done | omega) | (simp only [List.not_mem_nil, List.mem_cons, or_false, not_false_eq_true, not_or]; first | done | omega)) only [CS] | simp only [condK_B, guardK_Bt, guardK_Bf])
    refine ⟨by omega, ?_⟩
    have e : cmdText x = by8 x.op :: (varL x.token.toNat ++ (varL x.seq.toNat ++ (shortT x.key ++ (shortT x.val ++ varL x.ver.toNat)))) := by simp [cmdText]
    rw [← e]
    exact h _ _ (by ((try dsimp only); refine Own.of (by omega) ?_; repeat (first | exact OwnK.nil | refine OwnK.cons (.inl (by omega)) ?_ | refine OwnK.kill (fun b hb => .inl (by have := hoe b hb; omega)) ?_ | refine OwnK.cons (.inr (by simp)) ?_ | exact OwnK.one (by assumption) (by omega) (by omega) (by simp; first | done | omega) | refine OwnK.app (by assumption) (by omega) (by omega) (by simp; first | done | omega) ?_)))

def kpC (vs vi : Value) : List Value := [vs, vi]
theorem spec_ItemOf_ok (k : Kp) (vs vi : Value) (os oi : Option Nat) (hs : SlR H 3 vs (sessC k.ses) os) (hi : SlR H 3 vi (itmsC k.items) oi) (hos : ∀ b, os = some b → b < c) (hoi : ∀ b, oi = some b → b < c) (hl : k.items.length ≤ 1000000) (key : List UInt8)
    (h : ∀ d c', Own [] d c c' → Q (.tuple ⟨[ag (itmC ((itemOf k.items key).getD itm0)), B (itemOf k.items key).isSome]⟩) d c') : Ev (tbl prim) n_spec_ItemOf [ag (kpC vs vi), T key] H c Q := by
  refine Ev.fn (s_spec_ItemOf prim) rfl ?_
  have hlen := hi.len (itms_len _) (by omega)
  repeat (first | simp only [RS0, RS1, RS2, RS3, RS4, reduceIte, Nat.reduceEqDiff, Nat.reduceAdd, Nat.reduceLeDiff, Nat.reduceLT, Nat.reduceMul, Int.reduceToNat, Int.reduceLT, Int.reduceLE, Int.reduceAdd, Int.reduceSub, Int.reduceMul, Int.reduceEq, Int.reduceNe, Nat.reduceSub, reduceCtorEq, boxF, if_true, if_false, forall_const, implies_true, ne_eq, g_spec_ItemOf, kpC, hs.cl, hi.cl, hs.isC, hi.isC, spec_l01In_rw, b_and, b_xor, b_or] | simp (disch := first | assumption | omega | (simp only [LS]; first | done | omega) | (simp only [List.not_mem_nil, List.mem_cons, or_false, not_false_eq_true, not_or]; first | done | omega)) only [CS, g_spec_ItemOf, kpC, hs.cl, hi.cl, hs.isC, hi.isC] | simp only [condK_B, guardK_Bt, guardK_Bf])
  refine Wloop.of (fun n s => ∃ i : Nat, s.ts 1 = T key ∧ s.ts 2 = P c 0 ∧ s.ts 4 = P (c + 1) 0 ∧ s.ts 6 = I i ∧ n = k.items.length - i ∧ i ≤ k.items.length ∧ s.u = [(c + 1, some ⟨[E, E, I 0], 0, false⟩), (c, some ⟨[vs, vi], 0, false⟩)] ∧ s.c = c + 1 + 1 ∧ itemOf (k.items.drop i) key = itemOf k.items key) ?_ (n := k.items.length)
    ⟨0, by simp, by simp, by simp, by simp, rfl, by omega, rfl, rfl, by simp⟩
  rintro n ⟨ts, u, c1⟩ ⟨i, h1, h2, h4, h6, rfl, hi2, hu, hc, hit⟩ R hR hE
  simp only at h1 h2 h4 h6 hu hc
  subst hu hc
  by_cases hin : i < k.items.length
  · obtain ⟨b, hb, hob, hia, hg⟩ := hi.elw hoi (itms_len _) (by omega) (k := .i64) hin
    have hT : ((i : Int) < k.items.length) = True := eq_true (by omega)
    rw [List.drop_eq_getElem_cons hin, itemOf] at hit
    repeat (first | simp only [RS0, RS1, RS2, RS3, RS4, reduceIte, Nat.reduceEqDiff, Nat.reduceAdd, Nat.reduceLeDiff, Nat.reduceLT, Nat.reduceMul, Int.reduceToNat, Int.reduceLT, Int.reduceLE, Int.reduceAdd, Int.reduceSub, Int.reduceMul, Int.reduceEq, Int.reduceNe, Nat.reduceSub, reduceCtorEq, boxF, if_true, if_false, forall_const, implies_true, ne_eq, g_spec_ItemOf_L0, h1, h2, h4, h6, hlen, hT, hia, hg, itms_len, itms_0 hin, itms_N hin, itmC, spec_l01In_rw, b_and, b_xor, b_or] | simp (disch := first | assumption | omega | (simp only [LS]; first | done | omega) | (simp only [List.not_mem_nil, List.mem_cons, or_false, not_false_eq_true, not_or]; first | done | omega)) only [CS, g_spec_ItemOf_L0, h1, h2, h4, h6, hlen, hT, hia, hg, itms_len, itms_0 hin, itms_N hin, itmC] | simp only [condK_B, guardK_Bt, guardK_Bf])
    refine ⟨⟨by omega, by omega⟩, fun hk => ⟨by omega, ?_⟩, fun hk => ?_⟩
    · rw [if_pos hk] at hit
      refine hE _ _ (by decide) ?_
      repeat (first | simp only [RS0, RS1, RS2, RS3, RS4, reduceIte, Nat.reduceEqDiff, Nat.reduceAdd, Nat.reduceLeDiff, Nat.reduceLT, Nat.reduceMul, Int.reduceToNat, Int.reduceLT, Int.reduceLE, Int.reduceAdd, Int.reduceSub, Int.reduceMul, Int.reduceEq, Int.reduceNe, Nat.reduceSub, reduceCtorEq, boxF, if_true, if_false, forall_const, implies_true, ne_eq, h4, spec_l01In_rw, b_and, b_xor, b_or] | simp (disch := first | assumption | omega | (simp only [LS]; first | done | omega) | (simp only [List.not_mem_nil, List.mem_cons, or_false, not_false_eq_true, not_or]; first | done | omega)) only [CS, h4] | simp only [condK_B, guardK_Bt, guardK_Bf])
      rw [← hit] at h
      exact h _ _ (by ((try dsimp only); refine Own.of (by omega) ?_; repeat (first | exact OwnK.nil | refine OwnK.cons (.inl (by omega)) ?_ | refine OwnK.kill (fun b hb => .inl (by have := hoe b hb; omega)) ?_ | refine OwnK.cons (.inr (by simp)) ?_ | exact OwnK.one (by assumption) (by omega) (by omega) (by simp; first | done | omega) | refine OwnK.app (by assumption) (by omega) (by omega) (by simp; first | done | omega) ?_)))
    · rw [if_neg hk] at hit
      exact hR (k.items.length - (i + 1)) _ (by omega) ⟨i + 1, by simp [h1], by simp [h2], by simp [h4], by simp, rfl, by omega, rfl, rfl, hit⟩
  · have hF : ((i : Int) < k.items.length) = False := eq_false (by omega)
    rw [List.drop_eq_nil_of_le (by omega), itemOf] at hit
    repeat (first | simp only [RS0, RS1, RS2, RS3, RS4, reduceIte, Nat.reduceEqDiff, Nat.reduceAdd, Nat.reduceLeDiff, Nat.reduceLT, Nat.reduceMul, Int.reduceToNat, Int.reduceLT, Int.reduceLE, Int.reduceAdd, Int.reduceSub, Int.reduceMul, Int.reduceEq, Int.reduceNe, Nat.reduceSub, reduceCtorEq, boxF, if_true, if_false, forall_const, implies_true, ne_eq, g_spec_ItemOf_L0, h1, h2, h4, h6, hlen, hF, spec_l01In_rw, b_and, b_xor, b_or] | simp (disch := first | assumption | omega | (simp only [LS]; first | done | omega) | (simp only [List.not_mem_nil, List.mem_cons, or_false, not_false_eq_true, not_or]; first | done | omega)) only [CS, g_spec_ItemOf_L0, h1, h2, h4, h6, hlen, hF] | simp only [condK_B, guardK_Bt, guardK_Bf])
    refine hE _ _ (by decide) ?_
    repeat (first | simp only [RS0, RS1, RS2, RS3, RS4, reduceIte, Nat.reduceEqDiff, Nat.reduceAdd, Nat.reduceLeDiff, Nat.reduceLT, Nat.reduceMul, Int.reduceToNat, Int.reduceLT, Int.reduceLE, Int.reduceAdd, Int.reduceSub, Int.reduceMul, Int.reduceEq, Int.reduceNe, Nat.reduceSub, reduceCtorEq, boxF, if_true, if_false, forall_const, implies_true, ne_eq, h4, spec_l01In_rw, b_and, b_xor, b_or] | simp (disch := first | assumption | omega | (simp only [LS]; first | done | omega) | (simp only [List.not_mem_nil, List.mem_cons, or_false, not_false_eq_true, not_or]; first | done | omega)) only [CS, h4] | simp only [condK_B, guardK_Bt, guardK_Bf])
    rw [← hit] at h
    exact h _ _ (by ((try dsimp only); refine Own.of (by omega) ?_; repeat (first | exact OwnK.nil | refine OwnK.cons (.inl (by omega)) ?_ | refine OwnK.kill (fun b hb => .inl (by have := hoe b hb; omega)) ?_ | refine OwnK.cons (.inr (by simp)) ?_ | exact OwnK.one (by assumption) (by omega) (by omega) (by simp; first | done | omega) | refine OwnK.app (by assumption) (by omega) (by omega) (by simp; first | done | omega) ?_)))
end
end Go.Proofs.Ytfcglkajekohiaa
