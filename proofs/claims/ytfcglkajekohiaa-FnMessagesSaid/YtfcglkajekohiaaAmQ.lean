/-
  The code of the plain machine in a shorter form, and what a run of it needs.
-/
import Derived.Test.YtfcglkajekohiaaAmP
set_option linter.unusedSimpArgs false
set_option linter.unusedVariables false
namespace Go.Proofs.Ytfcglkajekohiaa.AM
open Go

/-- Does an operation look at no block, and make none? -/
def isPure : AOp → Bool
  | .mov _ | .pick .. | .build .. | .nilChk _ | .bin .. | .un .. | .convInt .. | .convStr _ | .sliceS .. | .sliceA .. | .fieldAddr .. | .field .. | .idxAddr .. | .idxStr .. | .extract .. | .len .. | .minmax .. => true
  | _ => false

inductive SC where
  | skip
  | ops (l : List AOper)
  | draw (l : List (AOper × Option (Nat × List Nat × List Nat)))
  | seq (a b : SC)
  | cond (c : Opnd) (a b : SC)
  | block (id : Nat) (a : SC)
  | loop (a : SC)
  | exit (id : Nat)
  | ret

structure SFn where
  code : SC
  ntmps : Nat
  results : List RV

def slimDraw (i : Nat) (heavy : List Nat) : List (AOper × List Nat) → List (AOper × Option (Nat × List Nat × List Nat))
  | [] => []
  | (o, ps) :: r =>
    if isPure o.op then (o, none) :: slimDraw (i + 1) heavy r
    else (o, some (i, ps.filter fun p => heavy.contains p, heavy.filter fun p => !ps.contains p)) :: slimDraw (i + 1) (i :: heavy) r

def slim : AC → SC
  | .skip => .skip
  | .ops l => .ops l
  | .draw l => .draw (slimDraw 0 [] l)
  | .seq a b => .seq (slim a) (slim b)
  | .cond c a b => .cond c (slim a) (slim b)
  | .block id a => .block id (slim a)
  | .loop a => .loop (slim a)
  | .exit id => .exit id
  | .ret => .ret

def slimFn (f : AFn) : SFn := ⟨slim f.code, f.ntmps, f.results⟩

/-- What an operation needs. -/
def wpOp (A : Table) (ts : TS) (G : AHeap) (c : Nat) (op : AOp) (Q : Value → AHeap → Nat → Prop) : Prop :=
  match op with
  | .call f args => Ev A f (args.map (ev ts)) G c Q
  | op => ∃ v d c', opA (fun _ _ _ _ => none) ts G c op = some (v, d, c') ∧ Q v d c'

/-- By a temporary that was set: the operation is done, or left out. -/
def guardP (r : Value) (t : Nat) (b : Bool) (yes no : TS → Prop) (ts : TS) : Prop :=
  match r with
  | .bool true => if b then yes (ts.set t (.bool true)) else no (ts.set t (.bool true))
  | .bool false => if b then no (ts.set t (.bool false)) else yes (ts.set t (.bool false))
  | _ => no ts

def wpOps (A : Table) (H : AHeap) : List AOper → St → (St → Prop) → Prop
  | [], s, Q => Q s
  | o :: r, s, Q =>
    match o.guard with
    | none => wpOp A s.ts (s.u ++ H) s.c o.op fun v d c' => wpOps A H r ⟨s.ts.put o.dst v, d ++ s.u, c'⟩ Q
    | some (t, b) => guardP (s.ts t) t b (fun ts => wpOp A ts (s.u ++ H) s.c o.op fun v d c' => wpOps A H r ⟨ts.put o.dst v, d ++ s.u, c'⟩ Q) (fun ts => wpOps A H r ⟨ts.put o.dst undefA, s.u, s.c⟩ Q) s.ts

def heavyDeltas (hs : List (Nat × Did)) (ps : List Nat) : AHeap := (ps.map fun p => ((hs.lookup p).map (·.d)).getD []).flatten

def apartAll (me : Did) (hs : List (Nat × Did)) : List Nat → Prop
  | [] => True
  | j :: r =>
    match hs.lookup j with
    | some b => apart me b = true ∧ apart b me = true ∧ apartAll me hs r
    | none => False

def wpDraw (A : Table) (G : AHeap) : List (AOper × Option (Nat × List Nat × List Nat)) → St → List (Nat × Did) → (St → Prop) → Prop
  | [], s, _, Q => Q s
  | (o, none) :: r, s, hs, Q =>
    match o.guard with
    | none => wpOp A s.ts [] s.c o.op fun v _ _ => wpDraw A G r ⟨s.ts.put o.dst v, s.u, s.c⟩ hs Q
    | some (t, b) => guardP (s.ts t) t b (fun ts => wpOp A ts [] s.c o.op fun v _ _ => wpDraw A G r ⟨ts.put o.dst v, s.u, s.c⟩ hs Q) (fun ts => wpDraw A G r ⟨ts.put o.dst undefA, s.u, s.c⟩ hs Q) s.ts
  | (o, some (i, ps, os)) :: r, s, hs, Q =>
    match o.guard with
    | none => wpOp A s.ts (heavyDeltas hs ps ++ G) s.c o.op fun v d c' => apartAll ⟨d, reads s.ts o.op, s.c, c'⟩ hs os ∧ wpDraw A G r ⟨s.ts.put o.dst v, d ++ s.u, c'⟩ ((i, ⟨d, reads s.ts o.op, s.c, c'⟩) :: hs) Q
    | some (t, b) => guardP (s.ts t) t b
      (fun ts => wpOp A ts (heavyDeltas hs ps ++ G) s.c o.op fun v d c' => apartAll ⟨d, reads ts o.op, s.c, c'⟩ hs os ∧ wpDraw A G r ⟨ts.put o.dst v, d ++ s.u, c'⟩ ((i, ⟨d, reads ts o.op, s.c, c'⟩) :: hs) Q)
      (fun ts => wpDraw A G r ⟨ts.put o.dst undefA, s.u, s.c⟩ ((i, ⟨[], some [], s.c, s.c⟩) :: hs) Q) s.ts

/-- A run of a loop of the shorter form. -/
def RunL (A : Table) (H : AHeap) (a : SC) (s : St) (Q : AExit → St → Prop) : Prop := ∀ code, slim code = a → Run A H (.loop code) s Q

def onNormal (k : St → Prop) (Q : AExit → St → Prop) : AExit → St → Prop
  | .normal, s => k s
  | e, s => Q e s

def onExit (id : Nat) (Q : AExit → St → Prop) : AExit → St → Prop
  | .exit id', s => if id' = id then Q .normal s else Q (.exit id') s
  | e, s => Q e s

def WP (A : Table) (H : AHeap) : SC → St → (AExit → St → Prop) → Prop
  | .skip, s, Q => Q .normal s
  | .ops l, s, Q => wpOps A H l s (Q .normal)
  | .draw l, s, Q => wpDraw A (s.u ++ H) l ⟨s.ts, [], s.c⟩ [] fun r => Q .normal ⟨r.ts, r.u ++ s.u, r.c⟩
  | .seq a b, s, Q => WP A H a s (onNormal (fun s' => WP A H b s' Q) Q)
  | .cond x a b, s, Q => ∃ t, ev s.ts x = .bool t ∧ (t = true → WP A H a s Q) ∧ (t = false → WP A H b s Q)
  | .block id a, s, Q => WP A H a s (onExit id Q)
  | .loop a, s, Q => RunL A H a s Q
  | .exit id, s, Q => Q (.exit id) s
  | .ret, s, Q => Q .ret s

/-! ### it is enough -/

section
variable {A : Table}

theorem wpOp_sound {ts : TS} {G : AHeap} {c : Nat} {op : AOp} {Q : Value → AHeap → Nat → Prop} (h : wpOp A ts G c op Q) : ∃ m v d c', opA (callA A m) ts G c op = some (v, d, c') ∧ Q v d c' := by
  cases op with
  | call f args => exact h
  | _ => exact ⟨0, h⟩

theorem TS.set_same {ts : TS} {t : Nat} {v : Value} (h : ts t = v) : ts.set t v = ts := by
  funext j
  simp only [TS.set]
  split
  · rename_i e; rw [e, h]
  · rfl

theorem guardP_cases {t : Nat} {b : Bool} {yes no : TS → Prop} {ts : TS} (h : guardP (ts t) t b yes no ts) {o : AOper} (ho : o.guard = some (t, b)) : (wanted o ts = true ∧ yes ts) ∨ (wanted o ts = false ∧ no ts) := by
  unfold guardP at h
  simp only [wanted, ho]
  split at h
  · rename_i e
    rw [TS.set_same e] at h
    rw [e]
    cases b <;> simp_all
  · rename_i e
    rw [TS.set_same e] at h
    rw [e]
    cases b <;> simp_all
  · rename_i h1 h2
    split
    · rename_i r hr
      cases r
      · exact absurd hr h2
      · exact absurd hr h1
    · exact Or.inr ⟨rfl, h⟩

theorem wpOps_sound {H : AHeap} : ∀ {l : List AOper} {s : St} {Q : St → Prop}, wpOps A H l s Q → ∃ m s', opsA (callA A m) H l s = some s' ∧ Q s' := by
  intro l
  induction l with
  | nil => intro s Q h; exact ⟨0, s, rfl, h⟩
  | cons o r ih =>
    intro s Q h
    have key : ∀ ts, ts = s.ts → wanted o s.ts = true → (wpOp A ts (s.u ++ H) s.c o.op fun v d c' => wpOps A H r ⟨ts.put o.dst v, d ++ s.u, c'⟩ Q) → ∃ m s', opsA (callA A m) H (o :: r) s = some s' ∧ Q s' := by
      intro ts hts hw h
      subst hts
      obtain ⟨m, v, d, c', h1, h2⟩ := wpOp_sound h
      obtain ⟨m', s', h3, h4⟩ := ih h2
      refine ⟨max m m', s', ?_, h4⟩
      have e1 := opA_up (callA_up A (Nat.le_max_left m m')) h1
      have e2 := opsA_up (callA_up A (Nat.le_max_right m m')) h3
      simp only [opsA, stepA, hw, e1]
      exact e2
    cases hg : o.guard with
    | none =>
      simp only [wpOps, hg] at h
      exact key s.ts rfl (by simp [wanted, hg]) h
    | some tb =>
      obtain ⟨t, b⟩ := tb
      simp only [wpOps, hg] at h
      rcases guardP_cases h hg with ⟨hw, h⟩ | ⟨hw, h⟩
      · exact key s.ts rfl hw h
      · obtain ⟨m', s', h3, h4⟩ := ih h
        refine ⟨m', s', ?_, h4⟩
        simp only [opsA, stepA, hw]
        exact h3

/-- The operations that look at blocks, among all. -/
structure Held (hs : List (Nat × Did)) (ds : List Did) : Prop where
  yes : ∀ j b, hs.lookup j = some b → ds[j]? = some b
  no : ∀ j b, hs.lookup j = none → ds[j]? = some b → b.d = [] ∧ b.r = some []

theorem apart_bare {me b : Did} (hd : b.d = []) (hr : b.r = some []) : apart me b = true ∧ apart b me = true := by
  constructor
  · simp [apart, hr]
  · simp [apart, hd, keys]

theorem Held.deltas {hs : List (Nat × Did)} {ds : List Did} (h : Held hs ds) {heavy : List Nat} (hh : ∀ j, heavy.contains j = true ↔ (hs.lookup j).isSome = true) (ps : List Nat) :
    predDeltas ds ps = heavyDeltas hs (ps.filter fun p => heavy.contains p) := by
  unfold predDeltas heavyDeltas
  induction ps with
  | nil => rfl
  | cons p ps ih =>
    rw [List.map_cons, List.flatten_cons, ih, List.filter_cons]
    cases hl : hs.lookup p with
    | some b =>
      have : heavy.contains p = true := (hh p).mpr (by rw [hl]; rfl)
      rw [if_pos this, List.map_cons, List.flatten_cons, hl, h.yes p b hl]
    | none =>
      have : ¬ heavy.contains p = true := fun e => by have := (hh p).mp e; rw [hl] at this; simp at this
      rw [if_neg this]
      cases hd : ds[p]? with
      | none => simp
      | some b => simp [(h.no p b hl hd).1]

theorem apartAll_of {me : Did} {hs : List (Nat × Did)} : ∀ {os : List Nat}, apartAll me hs os → ∀ j ∈ os, ∃ b, hs.lookup j = some b ∧ apart me b = true ∧ apart b me = true := by
  intro os
  induction os with
  | nil => intro _ j hj; cases hj
  | cons o os ih =>
    intro h j hj
    unfold apartAll at h
    split at h
    · rename_i b hb
      cases hj with
      | head => exact ⟨b, hb, h.1, h.2.1⟩
      | tail _ hj => exact ih h.2.2 j hj
    · exact h.elim

theorem Held.others {hs : List (Nat × Did)} {ds : List Did} (h : Held hs ds) {heavy : List Nat} (hh : ∀ j, heavy.contains j = true ↔ (hs.lookup j).isSome = true) {ps : List Nat} {me : Did}
    (ha : apartAll me hs (heavy.filter fun p => !ps.contains p)) :
    (others ds.length ps).all (fun i => match ds[i]? with | some b => apart me b && apart b me | none => false) = true := by
  rw [List.all_eq_true]
  intro i hi
  simp only [AM.others, List.mem_filter, List.mem_range] at hi
  have hlt := hi.1
  rw [List.getElem?_eq_getElem hlt]
  show (apart me ds[i] && apart ds[i] me) = true
  rw [Bool.and_eq_true]
  cases hl : hs.lookup i with
  | none => exact apart_bare (h.no i _ hl (List.getElem?_eq_getElem hlt)).1 (h.no i _ hl (List.getElem?_eq_getElem hlt)).2
  | some b =>
    have hc : heavy.contains i = true := (hh i).mpr (by rw [hl]; rfl)
    have hm : i ∈ heavy.filter fun p => !ps.contains p := by
      rw [List.mem_filter]
      exact ⟨by simpa using hc, hi.2⟩
    obtain ⟨b', h1, h2⟩ := apartAll_of ha i hm
    have h3 := h.yes i b' h1
    rw [List.getElem?_eq_getElem hlt] at h3
    simp only [Option.some.injEq] at h3
    rw [h3]; exact h2

theorem Held.light {hs : List (Nat × Did)} {ds : List Did} (h : Held hs ds) (hn : hs.lookup ds.length = none) {me : Did} (hd : me.d = []) (hr : me.r = some []) : Held hs (ds ++ [me]) where
  yes j b hj := by
    have := h.yes j b hj
    rw [List.getElem?_append_left (by obtain ⟨h1, _⟩ := List.getElem?_eq_some_iff.mp this; exact h1)]
    exact this
  no j b hj hb := by
    by_cases hlt : j < ds.length
    · rw [List.getElem?_append_left hlt] at hb; exact h.no j b hj hb
    · rw [List.getElem?_append_right (by omega)] at hb
      by_cases he : j - ds.length = 0
      · rw [he] at hb; simp at hb; subst hb; exact ⟨hd, hr⟩
      · rw [List.getElem?_singleton, if_neg he] at hb; simp at hb

theorem Held.heavy {hs : List (Nat × Did)} {ds : List Did} (h : Held hs ds) (me : Did) : Held ((ds.length, me) :: hs) (ds ++ [me]) where
  yes j b hj := by
    rw [List.lookup_cons] at hj
    cases he : (j == ds.length) with
    | true =>
      rw [he] at hj
      have : j = ds.length := by simpa using he
      subst this
      simpa using hj
    | false =>
      rw [he] at hj
      have := h.yes j b hj
      rw [List.getElem?_append_left (by obtain ⟨h1, _⟩ := List.getElem?_eq_some_iff.mp this; exact h1)]
      exact this
  no j b hj hb := by
    rw [List.lookup_cons] at hj
    cases he : (j == ds.length) with
    | true => rw [he] at hj; simp at hj
    | false =>
      rw [he] at hj
      have hne : j ≠ ds.length := by simpa using he
      by_cases hlt : j < ds.length
      · rw [List.getElem?_append_left hlt] at hb; exact h.no j b hj hb
      · rw [List.getElem?_append_right (by omega)] at hb
        rw [List.getElem?_singleton, if_neg (by omega)] at hb; simp at hb

/-- What an operation that looks at no block yields. -/
theorem isPure_opA {op : AOp} (h : isPure op = true) {cf cf' : CallF} {ts : TS} {H H' : AHeap} {c : Nat} : opA cf ts H c op = opA cf' ts H' c op ∧ reads ts op = some [] ∧ ∀ v d c', opA cf ts H c op = some (v, d, c') → d = [] ∧ c' = c := by
  refine ⟨?_, ?_, ?_⟩
  · cases op <;> first | (simp [isPure] at h; done) | rfl
  · cases op <;> first | (simp [isPure] at h; done) | rfl
  · intro v d c' hv
    cases op <;> first | (simp [isPure] at h; done) | skip
    all_goals
      simp only [opA] at hv
      repeat' split at hv
    all_goals first
      | (simp at hv; done)
      | (simp only [Option.some.injEq, Prod.mk.injEq] at hv; exact ⟨hv.2.1.symm, hv.2.2.symm⟩)
      | (simp only [Option.map_eq_some_iff, Prod.mk.injEq] at hv; obtain ⟨_, _, _, h2, h3⟩ := hv; exact ⟨h2.symm, h3.symm⟩)

theorem wpDraw_sound {G : AHeap} : ∀ {l : List (AOper × List Nat)} {heavy : List Nat} {s : St} {hs : List (Nat × Did)} {ds : List Did} {Q : St → Prop},
    wpDraw A G (slimDraw ds.length heavy l) s hs Q → Held hs ds → (∀ j, heavy.contains j = true ↔ (hs.lookup j).isSome = true) → (∀ j, (hs.lookup j).isSome = true → j < ds.length) →
    ∃ m s', drawA (callA A m) G l s ds = some s' ∧ Q s' := by
  intro l
  induction l with
  | nil => intro heavy s hs ds Q h _ _ _; exact ⟨0, s, rfl, h⟩
  | cons x r ih =>
    obtain ⟨o, ps⟩ := x
    intro heavy s hs ds Q h hH hh hlt
    have hno : hs.lookup ds.length = none := by
      cases hl : hs.lookup ds.length with
      | none => rfl
      | some b => exact absurd (hlt ds.length (by rw [hl]; rfl)) (Nat.lt_irrefl _)
    have hlen : ∀ me : Did, (ds ++ [me]).length = ds.length + 1 := fun me => by simp
    by_cases hp : isPure o.op = true
    · rw [slimDraw, if_pos hp] at h
      -- what follows
      have next : ∀ (me : Did) (s1 : St), me.d = [] → me.r = some [] → wpDraw A G (slimDraw (ds.length + 1) heavy r) s1 hs Q → ∃ m s', drawA (callA A m) G r s1 (ds ++ [me]) = some s' ∧ Q s' := by
        intro me s1 hd hr h2
        refine ih (heavy := heavy) (hs := hs) (by rw [hlen]; exact h2) (hH.light hno hd hr) hh (fun j hj => ?_)
        rw [hlen]; exact Nat.lt_succ_of_lt (hlt j hj)
      have key : ∀ ts, ts = s.ts → wanted o s.ts = true → (wpOp A ts [] s.c o.op fun v _ _ => wpDraw A G (slimDraw (ds.length + 1) heavy r) ⟨ts.put o.dst v, s.u, s.c⟩ hs Q) → ∃ m s', drawA (callA A m) G ((o, ps) :: r) s ds = some s' ∧ Q s' := by
        intro ts hts hw h
        subst hts
        obtain ⟨m, v, d, c', h1, h2⟩ := wpOp_sound h
        have hpu := isPure_opA (cf := callA A m) (cf' := callA A m) (ts := s.ts) (H := []) (H' := []) (c := s.c) hp
        obtain ⟨rfl, rfl⟩ := hpu.2.2 v d c' h1
        have hno' : (others ds.length ps).all (fun i => match ds[i]? with | some b => apart ⟨[], some [], s.c, s.c⟩ b && apart b ⟨[], some [], s.c, s.c⟩ | none => false) = true := by
          rw [List.all_eq_true]
          intro i hi
          simp only [AM.others, List.mem_filter, List.mem_range] at hi
          rw [List.getElem?_eq_getElem hi.1]
          show (apart _ _ && apart _ _) = true
          rw [Bool.and_eq_true]
          exact (apart_bare (b := ⟨[], some [], s.c, s.c⟩) rfl rfl).symm
        obtain ⟨m', s', h3, h4⟩ := next ⟨[], some [], s.c, s.c⟩ _ rfl rfl h2
        refine ⟨max m m', s', ?_, h4⟩
        have e1 := opA_up (callA_up A (Nat.le_max_left m m')) h1
        rw [(isPure_opA (cf' := callA A (max m m')) (H' := predDeltas ds ps ++ G) hp).1] at e1
        have e2 := drawA_up (callA_up A (Nat.le_max_right m m')) h3
        have e3 : drawStep (callA A (max m m')) G o ps s ds = some (v, ⟨[], some [], s.c, s.c⟩, s.c) := by
          simp only [drawStep, hw, e1, hpu.2.1]
          exact if_pos hno'
        simp only [drawA, e3]
        exact e2
      cases hg : o.guard with
      | none =>
        simp only [wpDraw, hg] at h
        exact key s.ts rfl (by simp [wanted, hg]) h
      | some tb =>
        obtain ⟨t, b⟩ := tb
        simp only [wpDraw, hg] at h
        rcases guardP_cases h hg with ⟨hw, h⟩ | ⟨hw, h⟩
        · exact key s.ts rfl hw h
        · obtain ⟨m', s', h3, h4⟩ := next ⟨[], some [], s.c, s.c⟩ _ rfl rfl h
          refine ⟨m', s', ?_, h4⟩
          simp only [drawA, drawStep, hw]
          exact h3
    · rw [slimDraw, if_neg hp] at h
      have next : ∀ (me : Did) (s1 : St), wpDraw A G (slimDraw (ds.length + 1) (ds.length :: heavy) r) s1 ((ds.length, me) :: hs) Q → ∃ m s', drawA (callA A m) G r s1 (ds ++ [me]) = some s' ∧ Q s' := by
        intro me s1 h2
        refine ih (heavy := ds.length :: heavy) (hs := (ds.length, me) :: hs) (by rw [hlen]; exact h2) (hH.heavy me) (fun j => ?_) (fun j hj => ?_)
        · rw [List.lookup_cons, List.contains_cons]
          cases he : (j == ds.length) with
          | true => simp
          | false => simpa using hh j
        · rw [hlen]
          rw [List.lookup_cons] at hj
          cases he : (j == ds.length) with
          | true => have : j = ds.length := by simpa using he
                    omega
          | false => rw [he] at hj; have := hlt j hj; omega
      have key : ∀ ts, ts = s.ts → wanted o s.ts = true → (wpOp A ts (heavyDeltas hs (ps.filter fun p => heavy.contains p) ++ G) s.c o.op fun v d c' => apartAll ⟨d, reads ts o.op, s.c, c'⟩ hs (heavy.filter fun p => !ps.contains p) ∧
          wpDraw A G (slimDraw (ds.length + 1) (ds.length :: heavy) r) ⟨ts.put o.dst v, d ++ s.u, c'⟩ ((ds.length, ⟨d, reads ts o.op, s.c, c'⟩) :: hs) Q) → ∃ m s', drawA (callA A m) G ((o, ps) :: r) s ds = some s' ∧ Q s' := by
        intro ts hts hw h
        subst hts
        obtain ⟨m, v, d, c', h1, ha, h2⟩ := wpOp_sound h
        obtain ⟨m', s', h3, h4⟩ := next _ _ h2
        refine ⟨max m m', s', ?_, h4⟩
        have e1 := opA_up (callA_up A (Nat.le_max_left m m')) h1
        rw [← hH.deltas hh] at e1
        have e2 := drawA_up (callA_up A (Nat.le_max_right m m')) h3
        have e3 : drawStep (callA A (max m m')) G o ps s ds = some (v, ⟨d, reads s.ts o.op, s.c, c'⟩, c') := by
          simp only [drawStep, hw, e1]
          exact if_pos (hH.others hh ha)
        simp only [drawA, e3]
        exact e2
      cases hg : o.guard with
      | none =>
        simp only [wpDraw, hg] at h
        exact key s.ts rfl (by simp [wanted, hg]) h
      | some tb =>
        obtain ⟨t, b⟩ := tb
        simp only [wpDraw, hg] at h
        rcases guardP_cases h hg with ⟨hw, h⟩ | ⟨hw, h⟩
        · exact key s.ts rfl hw h
        · obtain ⟨m', s', h3, h4⟩ := next ⟨[], some [], s.c, s.c⟩ _ h
          refine ⟨m', s', ?_, h4⟩
          simp only [drawA, drawStep, hw]
          exact h3

theorem exec_pos {n : Nat} {H : AHeap} {code : AC} {s : St} {r} (h : exec A n H code s = some r) : ∃ k, n = k + 1 := by
  cases n with
  | zero => simp [exec] at h
  | succ k => exact ⟨k, rfl⟩

theorem WP_sound {H : AHeap} : ∀ {code : AC} {s : St} {Q : AExit → St → Prop}, WP A H (slim code) s Q → Run A H code s Q := by
  intro code
  induction code with
  | skip => intro s Q h; exact ⟨1, .normal, s, rfl, h⟩
  | ops l =>
    intro s Q h
    obtain ⟨m, s', h1, h2⟩ := wpOps_sound h
    refine ⟨m + 1, .normal, s', ?_, h2⟩
    show Option.map _ (opsA (callA A m) H l s) = _
    rw [h1]; rfl
  | draw l =>
    intro s Q h
    obtain ⟨m, s', h1, h2⟩ := wpDraw_sound (ds := []) h ⟨fun j b hj => by simp at hj, fun j b _ hb => by simp at hb⟩ (fun j => by simp) (fun j hj => by simp at hj)
    refine ⟨m + 1, .normal, ⟨s'.ts, s'.u ++ s.u, s'.c⟩, ?_, h2⟩
    show Option.map _ (drawA (callA A m) (s.u ++ H) l ⟨s.ts, [], s.c⟩ []) = _
    rw [h1]; rfl
  | seq a b iha ihb =>
    intro s Q h
    obtain ⟨n, e, s', h1, h2⟩ := iha h
    obtain ⟨n, rfl⟩ := exec_pos h1
    cases e with
    | normal =>
      obtain ⟨m, e', s'', h3, h4⟩ := ihb (show WP A H (slim b) s' Q from h2)
      obtain ⟨m, rfl⟩ := exec_pos h3
      refine ⟨max n m + 1, e', s'', ?_, h4⟩
      have e1 := exec_up A (show n + 1 ≤ max n m + 1 by omega) _ _ _ _ h1
      have e2 := exec_up A (show m + 1 ≤ max n m + 1 by omega) _ _ _ _ h3
      show (match exec A (max n m + 1) H a s with | some (AExit.normal, s') => exec A (max n m + 1) H b s' | r => r) = _
      rw [e1]; exact e2
    | exit id =>
      refine ⟨n + 1, _, s', ?_, h2⟩
      show (match exec A (n + 1) H a s with | some (AExit.normal, s') => exec A (n + 1) H b s' | r => r) = _
      rw [h1]
    | ret =>
      refine ⟨n + 1, _, s', ?_, h2⟩
      show (match exec A (n + 1) H a s with | some (AExit.normal, s') => exec A (n + 1) H b s' | r => r) = _
      rw [h1]
  | cond x a b iha ihb =>
    intro s Q h
    obtain ⟨t, ht, h1, h2⟩ := h
    cases t with
    | true =>
      obtain ⟨n, e, s', h3, h4⟩ := iha (h1 rfl)
      obtain ⟨n, rfl⟩ := exec_pos h3
      refine ⟨n + 1, e, s', ?_, h4⟩
      show (match ev s.ts x with | .bool t => if t then exec A (n + 1) H a s else exec A (n + 1) H b s | _ => none) = _
      rw [ht]; exact h3
    | false =>
      obtain ⟨n, e, s', h3, h4⟩ := ihb (h2 rfl)
      obtain ⟨n, rfl⟩ := exec_pos h3
      refine ⟨n + 1, e, s', ?_, h4⟩
      show (match ev s.ts x with | .bool t => if t then exec A (n + 1) H a s else exec A (n + 1) H b s | _ => none) = _
      rw [ht]; exact h3
  | block id a ih =>
    intro s Q h
    obtain ⟨n, e, s', h1, h2⟩ := ih h
    obtain ⟨n, rfl⟩ := exec_pos h1
    cases e with
    | exit id' =>
      simp only [onExit] at h2
      by_cases hid : id' = id
      · rw [if_pos hid] at h2
        refine ⟨n + 1, .normal, s', ?_, h2⟩
        show (match exec A (n + 1) H a s with | some (AExit.exit id', s') => if id' = id then some (AExit.normal, s') else some (AExit.exit id', s') | r => r) = _
        rw [h1]; simp [hid]
      · rw [if_neg hid] at h2
        refine ⟨n + 1, _, s', ?_, h2⟩
        show (match exec A (n + 1) H a s with | some (AExit.exit id', s') => if id' = id then some (AExit.normal, s') else some (AExit.exit id', s') | r => r) = _
        rw [h1]; simp [hid]
    | normal =>
      refine ⟨n + 1, _, s', ?_, h2⟩
      show (match exec A (n + 1) H a s with | some (AExit.exit id', s') => if id' = id then some (AExit.normal, s') else some (AExit.exit id', s') | r => r) = _
      rw [h1]
    | ret =>
      refine ⟨n + 1, _, s', ?_, h2⟩
      show (match exec A (n + 1) H a s with | some (AExit.exit id', s') => if id' = id then some (AExit.normal, s') else some (AExit.exit id', s') | r => r) = _
      rw [h1]
  | loop a ih => intro s Q h; exact h a rfl
  | exit id => intro s Q h; exact ⟨1, .exit id, s, rfl, h⟩
  | ret => intro s Q h; exact ⟨1, .ret, s, rfl, h⟩

/-- A loop, by what stays and a number that falls. -/
theorem RunL.of {H : AHeap} {a : SC} {Q : AExit → St → Prop} (I : Nat → St → Prop)
    (h : ∀ n s, I n s → WP A H a s (onNormal (fun s' => ∃ m, m < n ∧ I m s') Q)) {n : Nat} {s : St} (hs : I n s) : RunL A H a s Q := by
  intro code hc
  subst hc
  refine Run.loop I (fun n s hi => ?_) n s hs
  refine (WP_sound (h n s hi)).mono fun e s' he => ?_
  cases e <;> exact he

theorem RunL.mono {H : AHeap} {a : SC} {s : St} {Q R : AExit → St → Prop} (h : RunL A H a s Q) (hQ : ∀ e s', Q e s' → R e s') : RunL A H a s R :=
  fun code hc => (h code hc).mono hQ

/-- A function, by its shorter form. -/
theorem Ev.of_slim {f : Nat} {sd : SFn} {args : List Value} {H : AHeap} {c : Nat} {Q : Value → AHeap → Nat → Prop} (hf : (A.fn f).map slimFn = some sd) (hl : args.length ≤ sd.ntmps)
    (h : WP A H sd.code ⟨initTS args, [], c⟩ fun e s => (e = .normal ∨ e = .ret) ∧ ∃ vs, resultsA (s.u ++ H) s.ts sd.results = some vs ∧ Q (oneOf vs) s.u s.c) : Ev A f args H c Q := by
  rw [Option.map_eq_some_iff] at hf
  obtain ⟨fd, h1, rfl⟩ := hf
  exact Ev.of_fn h1 hl (WP_sound h)

end

end Go.Proofs.Ytfcglkajekohiaa.AM
