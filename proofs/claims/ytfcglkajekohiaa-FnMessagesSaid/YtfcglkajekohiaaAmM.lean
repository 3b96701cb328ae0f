/-
  A region whose order is drawn: whatever the order, the end is the same.
-/
import Derived.Test.YtfcglkajekohiaaAmJ
import Derived.Test.YtfcglkajekohiaaAmL
import Derived.Orders
set_option linter.unusedSimpArgs false
set_option linter.unusedVariables false
namespace Go.Proofs.Ytfcglkajekohiaa.AM
open Go

def shift {α : Type} (a : α) (f : Nat → α) : Nat → α
  | 0 => a
  | k + 1 => f k

/-- The states of such a region, in the text's order. -/
theorem draw_states {cf : CallF} {H : AHeap} : ∀ {l : List (AOper × List Nat)} {s s' : St} {ds : List Did}, drawA cf H l s ds = some s' →
    ∃ (S : Nat → St) (E : Nat → Did) (V : Nat → Value), S 0 = s ∧ S l.length = s' ∧ ∀ j o ps, l[j]? = some (o, ps) →
      drawStep cf H o ps (S j) (ds ++ (List.range j).map E) = some (V j, E j, (S (j + 1)).c) ∧ S (j + 1) = ⟨(S j).ts.put o.dst (V j), (E j).d ++ (S j).u, (S (j + 1)).c⟩ := by
  intro l
  induction l with
  | nil =>
    intro s s' ds h
    simp [drawA] at h
    exact ⟨fun _ => s, fun _ => ⟨[], none, 0, 0⟩, fun _ => undefA, rfl, h, fun j o ps hj => by simp at hj⟩
  | cons p l ih =>
    intro s s' ds h
    obtain ⟨o, ps⟩ := p
    simp only [drawA] at h
    split at h
    · simp at h
    · rename_i v me c' h1
      obtain ⟨S, E, V, hS0, hSn, hstep⟩ := ih h
      refine ⟨shift s S, shift me E, shift v V, rfl, by simpa [shift] using hSn, ?_⟩
      intro j o' ps' hj
      cases j with
      | zero =>
        simp at hj
        obtain ⟨rfl, rfl⟩ := hj
        refine ⟨?_, ?_⟩
        · show drawStep cf H o ps s (ds ++ []) = some (v, me, (S 0).c)
          rw [List.append_nil, h1, hS0]
        · show S 0 = ⟨s.ts.put o.dst v, me.d ++ s.u, (S 0).c⟩
          rw [hS0]
      | succ j =>
        simp only [List.getElem?_cons_succ] at hj
        obtain ⟨g1, g2⟩ := hstep j o' ps' hj
        refine ⟨?_, g2⟩
        have e : ds ++ List.map (shift me E) (List.range (j + 1)) = ds ++ [me] ++ List.map E (List.range j) := by
          rw [List.range_succ_eq_map, List.map_cons, List.map_map]
          simp [shift, Function.comp_def]
        rw [e]
        exact g1

def tsF (t0 : TS) (dst : Nat → Option Nat) (V : Nat → Value) (D : Nat → Bool) : Nat → TS
  | 0 => t0
  | k + 1 => if D k then (tsF t0 dst V D k).put (dst k) (V k) else tsF t0 dst V D k

def SF (H : AHeap) (E : Nat → Did) (D : Nat → Bool) : Nat → AHeap
  | 0 => H
  | k + 1 => if D k then (E k).d ++ SF H E D k else SF H E D k

theorem put_comm {ts : TS} {a b : Option Nat} {v u : Value} (h : ∀ t, a = some t → b ≠ some t) : (ts.put a v).put b u = (ts.put b u).put a v := by
  cases a with
  | none => rfl
  | some a =>
    cases b with
    | none => rfl
    | some b =>
      have hab : a ≠ b := fun e => h a rfl (by rw [e])
      funext j
      simp only [TS.put, TS.set]
      by_cases h1 : j = a
      · subst h1; simp [hab]
      · by_cases h2 : j = b
        · subst h2; simp [h1]
        · simp [h1, h2]

def addTo (D : Nat → Bool) (j : Nat) : Nat → Bool := fun k => decide (k = j) || D k

theorem tsF_set {t0 : TS} {dst : Nat → Option Nat} {V : Nat → Value} {D : Nat → Bool} {j : Nat} (hj : D j = false) : ∀ {N : Nat}, (∀ k, j < k → k < N → D k = true → ∀ t, dst j = some t → dst k ≠ some t) →
    tsF t0 dst V (addTo D j) N = if j < N then (tsF t0 dst V D N).put (dst j) (V j) else tsF t0 dst V D N := by
  intro N
  induction N with
  | zero => intro _; rfl
  | succ N ih =>
    intro h
    have ih' := ih fun k h1 h2 => h k h1 (by omega)
    simp only [tsF, ih']
    by_cases h1 : N = j
    · subst h1
      have e : addTo D N N = true := by simp [addTo]
      rw [if_pos e, if_neg (by omega), if_pos (by omega), hj]
      simp
    · have e : addTo D j N = D N := by simp [addTo, h1]
      rw [e]
      by_cases h2 : j < N
      · have h3 : j < N + 1 := by omega
        simp only [if_pos h2, if_pos h3]
        cases hD : D N
        · simp
        · simp only [if_true]
          exact put_comm (h N h2 (by omega) hD)
      · have h3 : ¬ j < N + 1 := by omega
        simp only [if_neg h2, if_neg h3]

theorem get_app_congr {u H K : AHeap} {i : Nat} (h : get H i = get K i) : get (u ++ H) i = get (u ++ K) i := by
  rw [get_app, get_app, h]

theorem get_app_comm {u v H : AHeap} {i : Nat} (h : ¬ (i ∈ keys u ∧ i ∈ keys v)) : get (u ++ (v ++ H)) i = get (v ++ (u ++ H)) i := by
  by_cases h1 : i ∈ keys u
  · have h2 : i ∉ keys v := fun h2 => h ⟨h1, h2⟩
    rw [get_app_keys h2]
    exact get_app_congr (get_app_keys h2)
  · rw [get_app_keys h1]
    exact get_app_congr (get_app_keys h1).symm

theorem SF_set {H : AHeap} {E : Nat → Did} {D : Nat → Bool} {j : Nat} (hj : D j = false) {i : Nat} : ∀ {N : Nat}, (∀ k, j < k → k < N → D k = true → ¬ (i ∈ keys (E k).d ∧ i ∈ keys (E j).d)) →
    get (SF H E (addTo D j) N) i = if j < N then get ((E j).d ++ SF H E D N) i else get (SF H E D N) i := by
  intro N
  induction N with
  | zero => intro _; rfl
  | succ N ih =>
    intro h
    have ih' := ih fun k h1 h2 => h k h1 (by omega)
    simp only [SF]
    by_cases h1 : N = j
    · subst h1
      have e : addTo D N N = true := by simp [addTo]
      rw [if_neg (Nat.lt_irrefl N)] at ih'
      rw [if_pos e, if_pos (Nat.lt_succ_self N), hj]
      simp only [Bool.false_eq_true, if_false]
      exact get_app_congr ih'
    · have e : addTo D j N = D N := by simp [addTo, h1]
      rw [e]
      by_cases h2 : j < N
      · have h3 : j < N + 1 := by omega
        rw [if_pos h2] at ih'
        simp only [if_pos h3]
        cases hD : D N
        · simpa using ih'
        · simp only [if_true]
          rw [get_app_congr ih']
          exact get_app_comm (h N h2 (by omega) hD)
      · have h3 : ¬ j < N + 1 := by omega
        rw [if_neg h2] at ih'
        simp only [if_neg h3]
        cases hD : D N
        · simpa using ih'
        · simp only [if_true]
          exact get_app_congr ih'

/-- Where none of those that are left out has the key. -/
theorem SF_agree {H : AHeap} {E : Nat → Did} {D R : Nat → Bool} {i : Nat} : ∀ {N : Nat}, (∀ k, k < N → R k = true → D k = true) → (∀ k, k < N → D k = true → R k = false → i ∉ keys (E k).d) →
    get (SF H E D N) i = get (SF H E R N) i := by
  intro N
  induction N with
  | zero => intro _ _; rfl
  | succ N ih =>
    intro h1 h2
    have ih' := ih (fun k hk => h1 k (by omega)) (fun k hk => h2 k (by omega))
    simp only [SF]
    cases hR : R N
    · cases hD : D N
      · simpa using ih'
      · simp only [if_true, Bool.false_eq_true, if_false]
        rw [get_app_keys (h2 N (by omega) hD hR)]
        exact ih'
    · rw [h1 N (by omega) hR]
      simp only [if_true]
      exact get_app_congr ih'

theorem SF_none {H : AHeap} {E : Nat → Did} {R : Nat → Bool} {i : Nat} : ∀ {N : Nat}, (∀ k, k < N → R k = true → i ∉ keys (E k).d) → get (SF H E R N) i = get H i := by
  intro N
  induction N with
  | zero => intro _; rfl
  | succ N ih =>
    intro h
    simp only [SF]
    cases hR : R N
    · simpa using ih fun k hk => h k (by omega)
    · simp only [if_true]
      rw [get_app_keys (h N (by omega) hR)]
      exact ih fun k hk => h k (by omega)

theorem predDeltas_SF {H : AHeap} {E : Nat → Did} {f : Nat → Bool} {j : Nat} : ∀ {N : Nat}, (∀ k, k < N → f k = true → k < j) →
    predDeltas ((List.range j).map E) ((List.range N).filter f).reverse ++ H = SF H E f N := by
  intro N
  induction N with
  | zero => intro _; simp [predDeltas, SF]
  | succ N ih =>
    intro h
    have ih' := ih fun k hk => h k (by omega)
    rw [List.range_succ, List.filter_append, List.reverse_append]
    simp only [SF]
    cases hf : f N
    · have : List.filter f [N] = [] := by simp [hf]
      rw [this]; simpa using ih'
    · have : List.filter f [N] = [N] := by simp [hf]
      rw [this]
      have hN := h N (by omega) hf
      simp only [List.reverse_singleton, List.singleton_append, if_true]
      rw [← ih']
      simp only [predDeltas, List.map_cons, List.flatten_cons, List.append_assoc]
      congr 1
      rw [List.getElem?_map, List.getElem?_range hN]; rfl

def cnt (D : Nat → Bool) : Nat → Nat
  | 0 => 0
  | k + 1 => cnt D k + if D k then 0 else 1

theorem cnt_add {D : Nat → Bool} {j : Nat} (hj : D j = false) : ∀ {N : Nat}, cnt D N = cnt (addTo D j) N + if j < N then 1 else 0 := by
  intro N
  induction N with
  | zero => rfl
  | succ N ih =>
    simp only [cnt, ih]
    by_cases h1 : N = j
    · subst h1
      have e : addTo D N N = true := by simp [addTo]
      simp [e, hj]
    · have e : addTo D j N = D N := by simp [addTo, h1]
      rw [e]
      by_cases h2 : j < N
      · have h3 : j < N + 1 := by omega
        simp only [if_pos h2, if_pos h3]; omega
      · have h3 : ¬ j < N + 1 := by omega
        simp only [if_neg h2, if_neg h3]; omega

theorem cnt_zero {D : Nat → Bool} : ∀ {N : Nat}, cnt D N = 0 → ∀ k, k < N → D k = true := by
  intro N
  induction N with
  | zero => intro _ k hk; omega
  | succ N ih =>
    intro h k hk
    simp only [cnt] at h
    by_cases h1 : k = N
    · subst h1
      cases hD : D k
      · simp [hD] at h
      · rfl
    · exact ih (by omega) k (by omega)

theorem cnt_le {D : Nat → Bool} : ∀ {N : Nat}, cnt D N ≤ N := by
  intro N
  induction N with
  | zero => exact Nat.le_refl _
  | succ N ih => simp only [cnt]; split <;> omega

theorem tsF_congr {t0 : TS} {dst : Nat → Option Nat} {V : Nat → Value} {D R : Nat → Bool} : ∀ {N : Nat}, (∀ k, k < N → D k = R k) → tsF t0 dst V D N = tsF t0 dst V R N := by
  intro N
  induction N with
  | zero => intro _; rfl
  | succ N ih => intro h; simp only [tsF, ih fun k hk => h k (by omega), h N (by omega)]

theorem SF_congr {H : AHeap} {E : Nat → Did} {D R : Nat → Bool} : ∀ {N : Nat}, (∀ k, k < N → D k = R k) → SF H E D N = SF H E R N := by
  intro N
  induction N with
  | zero => intro _; rfl
  | succ N ih => intro h; simp only [SF, ih fun k hk => h k (by omega), h N (by omega)]


/-- All that is known of a region whose order is drawn, and of its run in the text's order. -/
structure DrawFacts (P : Program) (n : Nat) (ops : Array Oper) (l : List (AOper × List Nat)) : Prop where
  len : l.length = ops.size
  low : ∀ (j : Nat) (o : Oper), ops[j]? = some o → ∃ (ao : AOper) (ps : List Nat), l[j]? = some (ao, ps) ∧ lowOper P n ops o = some ao
  lt : ∀ (j : Nat) (ao : AOper) (ps : List Nat), l[j]? = some (ao, ps) → ∀ p ∈ ps, p < j
  tmps : ∀ (j : Nat) (ao : AOper) (ps : List Nat), l[j]? = some (ao, ps) → ∀ (i : Nat), i < j → i ∉ ps → ∃ (bo : AOper) (qs : List Nat), l[i]? = some (bo, qs) ∧ tmpsApart ao bo = true ∧ tmpsApart bo ao = true
  closed : ∀ (j : Nat) (ao : AOper) (ps : List Nat), l[j]? = some (ao, ps) → ∀ p ∈ ps, ∀ (bo : AOper) (qs : List Nat), l[p]? = some (bo, qs) → ∀ q ∈ qs, q ∈ ps
  edges : ∀ (j : Nat) (o : Oper) (ao : AOper) (ps : List Nat), ops[j]? = some o → l[j]? = some (ao, ps) → ∀ e ∈ o.after, Region.binds .any e = true → e.on ∈ ps
  cover : ∀ (j : Nat) (o : Oper) (ao : AOper) (ps : List Nat), ops[j]? = some o → l[j]? = some (ao, ps) → ∀ p ∈ ps, ∃ e ∈ o.after, Region.binds .any e = true ∧ (e.on = p ∨ ∃ (bo : AOper) (qs : List Nat), l[e.on]? = some (bo, qs) ∧ p ∈ qs)
  falls : ∀ (j : Nat) (ao : AOper) (ps : List Nat), l[j]? = some (ao, ps) → ps = ((List.range l.length).filter fun i => ps.contains i).reverse

theorem others_mem {n : Nat} {ps : List Nat} {i : Nat} : i ∈ others n ps ↔ i < n ∧ i ∉ ps := by
  simp [others]

theorem drawOk_facts {P : Program} {n : Nat} {ops : Array Oper} {al : List AOper} {pl : List (List Nat)} (hl : lowOpers P n ops ops.toList = some al) (hp : pl.length = ops.size) (hok : drawOk ops (al.zip pl) = true) :
    DrawFacts P n ops (al.zip pl) := by
  have hlow : ∀ {l : List Oper} {al : List AOper}, lowOpers P n ops l = some al → al.length = l.length ∧ ∀ (j : Nat) o, l[j]? = some o → ∃ ao, al[j]? = some ao ∧ lowOper P n ops o = some ao := by
    intro l
    induction l with
    | nil => intro al h; simp [lowOpers] at h; subst h; exact ⟨rfl, fun j o h => by simp at h⟩
    | cons x l ih =>
      intro al h
      simp only [lowOpers] at h
      split at h
      · rename_i a b ha hb
        simp at h; subst h
        obtain ⟨h1, h2⟩ := ih hb
        refine ⟨by simp [h1], fun j o hj => ?_⟩
        cases j with
        | zero => simp at hj; subst hj; exact ⟨a, rfl, ha⟩
        | succ j => simp only [List.getElem?_cons_succ] at hj ⊢; exact h2 j o hj
      · simp at h
  obtain ⟨ha1, ha2⟩ := hlow hl
  have hsz : al.length = ops.size := by simpa using ha1
  have hlen : (al.zip pl).length = ops.size := by simp [hsz, hp]
  have hlt : ∀ (j : Nat) x, (al.zip pl)[j]? = some x → j < (al.zip pl).length := by
    intro j x h
    rcases Nat.lt_or_ge j (al.zip pl).length with h1 | h1
    · exact h1
    · simp [List.getElem?_eq_none h1] at h
  have hboth : ∀ (j : Nat) x, (al.zip pl)[j]? = some x → drawOkAt (al.zip pl) j = true ∧ closedAt ops (al.zip pl) j = true := by
    intro j x h
    have := List.all_eq_true.mp hok j (List.mem_range.mpr (hlt j x h))
    simpa using this
  generalize hL : al.zip pl = L at *
  have hops : ∀ (j : Nat) x, L[j]? = some x → ∃ o, ops[j]? = some o := by
    intro j x h
    have h1 := hlt j x h
    rw [hlen] at h1
    exact ⟨ops[j], Array.getElem?_eq_getElem h1⟩
  refine ⟨hlen, ?_, ?_, ?_, ?_, ?_, ?_, ?_⟩
  · intro j o ho
    obtain ⟨ao, h1, h2⟩ := ha2 j o (by simpa using ho)
    have hj : j < al.length := by
      rcases Nat.lt_or_ge j al.length with h | h
      · exact h
      · simp [List.getElem?_eq_none h] at h1
    have hj2 : j < pl.length := by omega
    refine ⟨ao, pl[j], ?_, h2⟩
    rw [← hL, List.getElem?_zip_eq_some]
    exact ⟨h1, List.getElem?_eq_getElem hj2⟩
  · intro j ao ps h p hp
    have h1 := (hboth j _ h).1
    simp only [drawOkAt, h, Bool.and_eq_true, List.all_eq_true, decide_eq_true_eq] at h1
    exact h1.1 p hp
  · intro j ao ps h i hi hps
    have h1 := (hboth j _ h).1
    simp only [drawOkAt, h, Bool.and_eq_true, List.all_eq_true, decide_eq_true_eq] at h1
    have h2 := h1.2 i (others_mem.mpr ⟨hi, hps⟩)
    split at h2
    · rename_i q qs hq
      simp only [Bool.and_eq_true] at h2
      exact ⟨q, qs, hq, h2.1, h2.2⟩
    · simp at h2
  · intro j ao ps h p hp bo qs hb q hq
    obtain ⟨o, ho⟩ := hops j _ h
    have h1 := (hboth j _ h).2
    simp only [closedAt, h, ho, Bool.and_eq_true, List.all_eq_true] at h1
    have h2 := h1.1.1.1 p hp
    rw [hb] at h2
    simp only [List.all_eq_true] at h2
    simpa using h2 q hq
  · intro j o ao ps ho h e he hb
    have h1 := (hboth j _ h).2
    simp only [closedAt, h, ho, Bool.and_eq_true, List.all_eq_true] at h1
    have h2 := Array.all_eq_true_iff_forall_mem.mp h1.1.1.2 e he
    simpa [hb] using h2
  · intro j o ao ps ho h p hp
    have h1 := (hboth j _ h).2
    simp only [closedAt, h, ho, Bool.and_eq_true, List.all_eq_true] at h1
    have h2 := h1.1.2 p hp
    obtain ⟨e, he, h3⟩ := Array.any_eq_true'.mp h2
    simp only [Bool.and_eq_true, Bool.or_eq_true, beq_iff_eq] at h3
    refine ⟨e, he, h3.1, ?_⟩
    rcases h3.2 with h4 | h4
    · exact .inl h4
    · split at h4
      · rename_i bo qs hb
        exact .inr ⟨bo, qs, hb, by simpa using h4⟩
      · simp at h4
  · intro j ao ps h
    obtain ⟨o, ho⟩ := hops j _ h
    have h1 := (hboth j _ h).2
    simp only [closedAt, h, ho, Bool.and_eq_true] at h1
    simpa using h1.2

end Go.Proofs.Ytfcglkajekohiaa.AM
