/-
  Slices that are read and added to, step by step.
-/
import Derived.Test.YtfcglkajekohiaaAmR
set_option linter.unusedSimpArgs false
set_option linter.unusedVariables false
namespace Go.Proofs.Ytfcglkajekohiaa.AM
open Go

def slC (n es : Nat) (o : Option AObj) : Option (List Value) :=
  if n = 0 then some [] else match o with
    | some o => if o.es = es ∧ n * es ≤ o.cells.length then some (o.cells.take (n * es)) else none
    | none => none
theorem sliceCells_P (G : AHeap) (es b n e : Nat) : sliceCells G es (.slice (some ⟨b, 0, none⟩) n e) = slC n es (get G b) := by
  simp only [sliceCells, slC]
  by_cases h : n = 0
  · rw [if_pos h, if_pos h]
  · rw [if_neg h, if_neg h]
    cases get G b with
    | none => rfl
    | some o => simp
theorem slC_eq {n es : Nat} {cs : List Value} {ro : Bool} (h : cs.length = n * es) : slC n es (some ⟨cs, es, ro⟩) = some cs := by
  unfold slC
  by_cases h0 : n = 0
  · rw [if_pos h0]
    subst h0
    simp at h; rw [h]
  · rw [if_neg h0]
    simp only
    rw [if_pos ⟨trivial, by omega⟩, ← h, List.take_length]
theorem slC_0 (es : Nat) (o : Option AObj) : slC 0 es o = some [] := by simp [slC]

def kiC (b es : Nat) (o : Option AObj) : Option (List Nat) := match o with | some o => if o.ro = false ∧ o.es = es then some [b] else none | none => none
theorem killOf_P (G : AHeap) (es b n e : Nat) : killOf G es (.slice (some ⟨b, 0, none⟩) n e) = kiC b es (get G b) := by
  simp only [killOf, kiC]
  cases get G b with
  | none => rfl
  | some o => simp
theorem kiC_eq (b es : Nat) (cs : List Value) : kiC b es (some ⟨cs, es, false⟩) = some [b] := by simp [kiC]

theorem map_U_one (l : List UInt8) (b : UInt8) : l.map U ++ [U b] = (l ++ [b]).map U := by simp
theorem b2sF_snoc (l : List UInt8) (b : UInt8) : b2sF (some (l.map U ++ [U b])) = some (T (l ++ [b])) := by rw [map_U_one, b2sF_map]
theorem b2sF_1 (a : UInt8) : b2sF (some [U a]) = some (T [a]) := b2sF_map [a]
theorem b2sF_2 (a b : UInt8) : b2sF (some [U a, U b]) = some (T [a, b]) := b2sF_map [a, b]
theorem b2sF_3 (a b c : UInt8) : b2sF (some [U a, U b, U c]) = some (T [a, b, c]) := b2sF_map [a, b, c]

/-- A slice, and what it holds; the block, if there is one. -/
inductive SlR (G : AHeap) (es : Nat) : Value → List Value → Option Nat → Prop
  | nil (e : Nat) : SlR G es (.slice none 0 e) [] none
  | blk {b n e : Nat} {cs : List Value} (h : get G b = some ⟨cs, es, false⟩) (hl : cs.length = n * es) : SlR G es (Sl b n e) cs (some b)

theorem SlR.own {G : AHeap} {es : Nat} {v : Value} {cs : List Value} {ob : Option Nat} (h : SlR G es v cs ob) {S : List Nat} {d : AHeap} {c c' : Nat} (ho : Own S d c c') (hb : ∀ b, ob = some b → b < c ∧ b ∉ S) : SlR (d ++ G) es v cs ob := by
  cases h with
  | nil e => exact .nil e
  | blk h hl => exact .blk (by rw [get_own ho (hb _ rfl).1 (hb _ rfl).2]; exact h) hl

theorem SlR.cells {G : AHeap} {es : Nat} {v : Value} {cs : List Value} {ob : Option Nat} (h : SlR G es v cs ob) : sliceCells G es v = some cs := by
  cases h with
  | nil e => rfl
  | blk h hl => rw [sliceCells_P, h, slC_eq hl]

theorem SlR.isC {G : AHeap} {es : Nat} {v : Value} {cs : List Value} {ob : Option Nat} (h : SlR G es v cs ob) : isCell v = true := by
  cases h <;> rfl
theorem SlR.cl {G : AHeap} {es : Nat} {v : Value} {cs : List Value} {ob : Option Nat} (h : SlR G es v cs ob) : v.cells.toList = [v] := by
  cases h <;> rfl
theorem SlR.len {G : AHeap} {es : Nat} {v : Value} {cs : List Value} {ob : Option Nat} (h : SlR G es v cs ob) {n : Nat} (hn : cs.length = n * es) (he : 0 < es) : lenF false v = some (I n) := by
  cases h with
  | nil e =>
    have : n = 0 := by
      have hz : n * es = 0 := hn.symm
      rcases Nat.mul_eq_zero.mp hz with h | h <;> omega
    subst this; rfl
  | blk h hl =>
    rename_i b k e
    have : n = k := Nat.eq_of_mul_eq_mul_right he (hn.symm.trans hl)
    subst this; rfl
theorem SlR.lenA {G : AHeap} {es : Nat} {v : Value} {cs : List Value} {ob : Option Nat} (h : SlR G es v cs ob) {n : Nat} (hn : cs.length = n * es) (he : 0 < es) : lenA v = some n := by
  cases h with
  | nil e =>
    have : n = 0 := by
      have hz : n * es = 0 := hn.symm
      rcases Nat.mul_eq_zero.mp hz with h | h <;> omega
    subst this; rfl
  | blk h hl =>
    rename_i b k e
    have : n = k := Nat.eq_of_mul_eq_mul_right he (hn.symm.trans hl)
    subst this; rfl
/-- An element's place. -/
theorem SlR.at {G : AHeap} {es : Nat} {v : Value} {cs : List Value} {ob : Option Nat} (h : SlR G es v cs ob) {n : Nat} (hn : cs.length = n * es) (he : 0 < es) {k : IntKind} {i : Int} (h0 : 0 ≤ i) (hi : i < n) :
    ∃ b ro, ob = some b ∧ iaF es v (.int k i) = some (P b (i.toNat * es)) ∧ get G b = some ⟨cs, es, ro⟩ := by
  cases h with
  | nil e =>
    have : n = 0 := by
      have hz : n * es = 0 := hn.symm
      rcases Nat.mul_eq_zero.mp hz with h | h <;> omega
    omega
  | blk h hl =>
    rename_i b m e
    have : n = m := Nat.eq_of_mul_eq_mul_right he (hn.symm.trans hl)
    subst this
    refine ⟨b, false, rfl, ?_, h⟩
    rw [iaF_eq, if_pos ⟨h0, hi⟩]; simp

theorem b_shl (e : Option (List FK)) (k k' : IntKind) (a b : Int) : binA .shl e (.int k a) (.int k' b) = if b < 0 then none else some (.int k (k.wrap (a * 2 ^ (min b.toNat k.bits)))) := by simp [binA, shiftI]
theorem b_shr (e : Option (List FK)) (k k' : IntKind) (a b : Int) : binA .shr e (.int k a) (.int k' b) = if b < 0 then none else some (.int k (a.fdiv (2 ^ (min b.toNat k.bits)))) := by simp [binA, shiftI]
theorem drop_getD {α : Type} {l : List α} {i : Nat} (h : i < l.length) (d : α) : l.drop i = l.getD i d :: l.drop (i + 1) := by
  rw [List.getD_eq_getElem?_getD, List.getElem?_eq_getElem h]
  exact List.drop_eq_getElem_cons h

theorem lookup_step {α : Type} (p q : Nat) (x : α) (r : List (Nat × α)) : List.lookup p ((q, x) :: r) = if p = q then some x else List.lookup p r := by
  rw [List.lookup_cons]
  by_cases h : p = q
  · subst h; simp
  · rw [if_neg h, show (p == q) = false by simpa using h]
theorem apart_nil (r : Option (List Nat)) (lo hi : Nat) (b : Did) : apart ⟨[], r, lo, hi⟩ b = true := (rfl)
def apartO (me : Did) (o : Option Did) (hs : List (Nat × Did)) (r : List Nat) : Prop := match o with | some b => apart me b = true ∧ apart b me = true ∧ apartAll me hs r | none => False
theorem apartAll_step (me : Did) (hs : List (Nat × Did)) (j : Nat) (r : List Nat) : apartAll me hs (j :: r) = apartO me (hs.lookup j) hs r := (rfl)
theorem apartO_some (me b : Did) (hs : List (Nat × Did)) (r : List Nat) : apartO me (some b) hs r = (apart me b = true ∧ apart b me = true ∧ apartAll me hs r) := (rfl)

theorem getD_map_I {l : List Int} {i : Nat} (h : i < l.length) : (l.map I).getD i undefA = I (l.getD i 0) := by
  rw [List.getD_eq_getElem?_getD, List.getD_eq_getElem?_getD, List.getElem?_map, List.getElem?_eq_getElem h]; rfl
theorem getD_map_U {l : List UInt8} {i : Nat} (h : i < l.length) : (l.map U).getD i undefA = U (l.getD i 0) := by
  rw [List.getD_eq_getElem?_getD, List.getD_eq_getElem?_getD, List.getElem?_map, List.getElem?_eq_getElem h]; rfl
theorem map_I_one (l : List Int) (b : Int) : l.map I ++ [I b] = (l ++ [b]).map I := by simp

theorem guardK_un {A : Table} {H G : AHeap} {ts : TS} {u : AHeap} {c : Nat} {kt : Kt} {dst : Option Nat} {Q : AExit → St → Prop} (t : Nat) (b : Bool) (op : AOp) :
    guardK A H undefA t b op kt dst ts u G c Q = skipK A H kt dst ts u c Q := (rfl)

theorem Own.nil' {S : List Nat} {c c' : Nat} (h : c ≤ c') : Own S [] c c' := ⟨h, by simp [keys]⟩
theorem Own.wide {S S' : List Nat} {d : AHeap} {c c1 c' : Nat} (h : Own S' d c c1) (hle : c1 ≤ c') (hs : ∀ k ∈ S', (c ≤ k ∧ k < c') ∨ k ∈ S) : Own S d c c' :=
  ⟨Nat.le_trans h.1 hle, fun k hk => by
    rcases h.2 k hk with g | g
    · exact .inl (by omega)
    · exact hs k g⟩
theorem Own.appW {S S' : List Nat} {d e : AHeap} {a b c1 c' : Nat} (h : Own S' e b c1) (h' : Own S d a c') (h1 : a ≤ b) (h2 : c1 ≤ c') (hs : ∀ k ∈ S', (a ≤ k ∧ k < c') ∨ k ∈ S) : Own S (e ++ d) a c' := by
  refine ⟨h'.1, fun k hk => ?_⟩
  rw [keys_app, List.mem_append] at hk
  rcases hk with hk | hk
  · rcases h.2 k hk with g | g
    · exact .inl (by omega)
    · exact hs k g
  · exact h'.2 k hk

/-- The keys of what was written. -/
def OwnK (S : List Nat) (d : AHeap) (c c' : Nat) : Prop := ∀ k ∈ keys d, (c ≤ k ∧ k < c') ∨ k ∈ S
theorem OwnK.nil {S : List Nat} {c c' : Nat} : OwnK S [] c c' := by simp [OwnK, keys]
theorem OwnK.cons {S : List Nat} {r : AHeap} {c c' k : Nat} {o : Option AObj} (hk : (c ≤ k ∧ k < c') ∨ k ∈ S) (h : OwnK S r c c') : OwnK S ((k, o) :: r) c c' := by
  intro j hj
  simp only [keys, List.map_cons, List.mem_cons] at hj
  rcases hj with rfl | hj
  · exact hk
  · exact h j hj
theorem OwnK.one {S S' : List Nat} {d : AHeap} {a b c c' : Nat} (h : Own S' d a b) (ha : c ≤ a) (hb : b ≤ c') (hs : ∀ k ∈ S', (c ≤ k ∧ k < c') ∨ k ∈ S) : OwnK S d c c' := by
  intro k hk
  rcases h.2 k hk with g | g
  · exact .inl (by omega)
  · exact hs k g
theorem OwnK.app {S S' : List Nat} {d r : AHeap} {a b c c' : Nat} (h : Own S' d a b) (ha : c ≤ a) (hb : b ≤ c') (hs : ∀ k ∈ S', (c ≤ k ∧ k < c') ∨ k ∈ S) (hr : OwnK S r c c') : OwnK S (d ++ r) c c' := by
  intro k hk
  rw [keys_app, List.mem_append] at hk
  rcases hk with hk | hk
  · exact OwnK.one h ha hb hs k hk
  · exact hr k hk
theorem Own.of {S : List Nat} {d : AHeap} {c c' : Nat} (hle : c ≤ c') (h : OwnK S d c c') : Own S d c c' := ⟨hle, h⟩
theorem apart_new (o : Option AObj) (r : Option (List Nat)) (c : Nat) (b : Did) : apart ⟨[(c, o)], r, c, c + 1⟩ b = true := apart_own ((Own.nil c).new) b

theorem condK_B {A : Table} {H : AHeap} {K : List Frame} {Q : AExit → St → Prop} (b : Bool) (x y : SC) (s : St) : condK A H (.bool b) x y K s Q ↔ (b = true → W A H x K s Q) ∧ (b = false → W A H y K s Q) := by cases b <;> simp [condK]
theorem guardK_Bt {A : Table} {H G : AHeap} {ts : TS} {u : AHeap} {c : Nat} {kt : Kt} {dst : Option Nat} {Q : AExit → St → Prop} (r : Bool) (t : Nat) (op : AOp) :
    guardK A H (.bool r) t true op kt dst ts u G c Q ↔ (r = true → Wop A H op kt dst (ts.set t (.bool true)) u G c Q) ∧ (r = false → skipK A H kt dst (ts.set t (.bool false)) u c Q) := by cases r <;> simp [guardK_tt, guardK_ft]
theorem guardK_Bf {A : Table} {H G : AHeap} {ts : TS} {u : AHeap} {c : Nat} {kt : Kt} {dst : Option Nat} {Q : AExit → St → Prop} (r : Bool) (t : Nat) (op : AOp) :
    guardK A H (.bool r) t false op kt dst ts u G c Q ↔ (r = true → skipK A H kt dst (ts.set t (.bool true)) u c Q) ∧ (r = false → Wop A H op kt dst (ts.set t (.bool false)) u G c Q) := by cases r <;> simp [guardK_tf, guardK_ff]

/-- What a call comes to, where that is known. -/
theorem Ev.iff {A : Table} {f : Nat} {args : List Value} {G : AHeap} {c : Nat} {v : Value} {d : AHeap} {c' : Nat} (h : ∀ Q : Value → AHeap → Nat → Prop, Q v d c' → Ev A f args G c Q) (Q : Value → AHeap → Nat → Prop) : Ev A f args G c Q ↔ Q v d c' := by
  constructor
  · rintro ⟨m, v1, d1, c1, h1, h2⟩
    obtain ⟨m', v2, d2, c2, h3, rfl, rfl, rfl⟩ := h (fun v2 d2 c2 => v2 = v ∧ d2 = d ∧ c2 = c') ⟨rfl, rfl, rfl⟩
    have e1 := callA_up A (Nat.le_max_left m m') _ _ _ _ _ h1
    have e2 := callA_up A (Nat.le_max_right m m') _ _ _ _ _ h3
    rw [e1] at e2
    simp only [Option.some.injEq, Prod.mk.injEq] at e2
    obtain ⟨rfl, rfl, rfl⟩ := e2
    exact h2
  · exact h Q
theorem EvK.iff {A : Table} {H : AHeap} {f : Nat} {args : List Value} {G : AHeap} {c : Nat} {v : Value} {d : AHeap} {c' : Nat} (h : ∀ Q : Value → AHeap → Nat → Prop, Q v d c' → Ev A f args G c Q) {kt : Kt} {dst : Option Nat} {ts : TS} {u : AHeap} {Q : AExit → St → Prop} :
    EvK A H f args G c kt dst ts u Q ↔ fin A H kt dst ts u c v d c' Q := Ev.iff h _

attribute [simp] set_app get_cons_eq put_some put_none init_app bs_inj

end Go.Proofs.Ytfcglkajekohiaa.AM
