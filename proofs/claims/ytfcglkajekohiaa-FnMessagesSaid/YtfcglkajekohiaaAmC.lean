/-
  How the plain machine's values and blocks stand to the model's.
-/
import Derived.Test.YtfcglkajekohiaaAmB
set_option linter.unusedSimpArgs false
set_option linter.unusedVariables false
namespace Go.Proofs.Ytfcglkajekohiaa.AM
open Go

structure Ext where
  blk : Nat
  base : Nat
  size : Nat
  es : Nat

abbrev Inj := Nat → Option Ext

def Each {α : Type} (R : α → α → Prop) (l l' : List α) : Prop :=
  l.length = l'.length ∧ ∀ (i : Nat) a b, l[i]? = some a → l'[i]? = some b → R a b

inductive CR (φ : Inj) : Value → Value → Prop
  | int (k : IntKind) (n : Int) : CR φ (.int k n) (.int k n)
  | bool (b : Bool) : CR φ (.bool b) (.bool b)
  | string (s : ByteArray) : CR φ (.string s) (.string s)
  | pnil : CR φ (.pointer none) (.pointer none)
  | ptr (a : Addr) (e : Ext) (hs : a.spot = none) (h : φ a.block = some e) : CR φ (.pointer (some a)) (.pointer (some ⟨e.blk, e.base + a.off, none⟩))
  | snil (c : Nat) : CR φ (.slice none 0 c) (.slice none 0 0)
  | slice (a b : Addr) (l c c' : Nat) (e : Ext) (hs : a.spot = none) (h : φ a.block = some e) (he : c = e.es) (hl : l ≤ c')
      (hc : c' = 0 ∨ (b = ⟨e.blk, e.base + a.off, none⟩ ∧ e.base + a.off + c' * e.es ≤ e.size)) : CR φ (.slice (some a) l c) (.slice (some b) l c')
  | nilIface : CR φ .nilIface .nilIface
  | nilFunc : CR φ .nilFunc .nilFunc

inductive AR (φ : Inj) : Value → Value → Prop
  | cell {v v' : Value} (h : CR φ v v') : AR φ v v'
  | agg (cs ds : Array Value) (h : Each (CR φ) cs.toList ds.toList) : AR φ (.agg cs) (.agg ds)

inductive VR (φ : Inj) : Value → Value → Prop
  | one {v v' : Value} (h : AR φ v v') : VR φ v v'
  | tuple (vs ws : Array Value) (h : Each (AR φ) vs.toList ws.toList) : VR φ (.tuple vs) (.tuple ws)

/-- What one knows, the other knows. -/
def Inj.le (φ φ' : Inj) : Prop := ∀ i e, φ i = some e → φ' i = some e

theorem Inj.le_refl (φ : Inj) : φ.le φ := fun _ _ h => h
theorem Inj.le_trans {a b c : Inj} (h : a.le b) (k : b.le c) : a.le c := fun i e x => k i e (h i e x)

theorem Each.mono {α : Type} {R S : α → α → Prop} {l l' : List α} (h : Each R l l') (hRS : ∀ a b, R a b → S a b) : Each S l l' :=
  ⟨h.1, fun i a b ha hb => hRS _ _ (h.2 i a b ha hb)⟩

theorem Each.nil {α : Type} {R : α → α → Prop} : Each R [] [] := ⟨rfl, fun i a b h => by simp at h⟩

theorem Each.cons {α : Type} {R : α → α → Prop} {a b : α} {l l' : List α} (h : R a b) (hl : Each R l l') : Each R (a :: l) (b :: l') := by
  refine ⟨by simp [hl.1], fun i x y hx hy => ?_⟩
  cases i with
  | zero => simp at hx hy; subst hx; subst hy; exact h
  | succ i => simp at hx hy; exact hl.2 i x y hx hy

theorem Each.nil_left {α : Type} {R : α → α → Prop} {l' : List α} (h : Each R [] l') : l' = [] := by
  have := h.1; simp at this; exact (List.length_eq_zero_iff.mp this.symm)

theorem Each.cons_left {α : Type} {R : α → α → Prop} {a : α} {l l' : List α} (h : Each R (a :: l) l') : ∃ b r, l' = b :: r ∧ R a b ∧ Each R l r := by
  cases l' with
  | nil => have := h.1; simp at this
  | cons b r =>
    refine ⟨b, r, rfl, h.2 0 a b rfl rfl, ?_, fun i x y hx hy => ?_⟩
    · have := h.1; simpa using this
    · exact h.2 (i + 1) x y (by simpa using hx) (by simpa using hy)

theorem Each.get {α : Type} {R : α → α → Prop} {l l' : List α} (h : Each R l l') {i : Nat} {a : α} (ha : l[i]? = some a) : ∃ b, l'[i]? = some b ∧ R a b := by
  have hi : i < l.length := by
    rcases Nat.lt_or_ge i l.length with h1 | h1
    · exact h1
    · simp [List.getElem?_eq_none h1] at ha
  have hi' : i < l'.length := h.1 ▸ hi
  exact ⟨l'[i], List.getElem?_eq_getElem hi', h.2 i a _ ha (List.getElem?_eq_getElem hi')⟩

theorem Each.append {α : Type} {R : α → α → Prop} {a b c d : List α} (h : Each R a b) (k : Each R c d) : Each R (a ++ c) (b ++ d) := by
  induction a generalizing b with
  | nil => rw [Each.nil_left h]; simpa using k
  | cons x a ih =>
    obtain ⟨y, r, rfl, hxy, hr⟩ := h.cons_left
    exact Each.cons hxy (ih hr)

theorem Each.drop {α : Type} {R : α → α → Prop} {a b : List α} (h : Each R a b) (n : Nat) : Each R (a.drop n) (b.drop n) := by
  refine ⟨by simp [h.1], fun i x y hx hy => ?_⟩
  rw [List.getElem?_drop] at hx hy
  exact h.2 _ x y hx hy

theorem Each.take {α : Type} {R : α → α → Prop} {a b : List α} (h : Each R a b) (n : Nat) : Each R (a.take n) (b.take n) := by
  refine ⟨by simp [h.1], fun i x y hx hy => ?_⟩
  rw [List.getElem?_take] at hx hy
  split at hx
  · rename_i hlt; rw [if_pos hlt] at hy; exact h.2 _ x y hx hy
  · simp at hx

theorem Each.map {α : Type} {R : α → α → Prop} {a b : List α} (h : Each R a b) (f g : α → α) (hfg : ∀ x y, R x y → R (f x) (g y)) : Each R (a.map f) (b.map g) := by
  refine ⟨by simp [h.1], fun i x y hx hy => ?_⟩
  simp only [List.getElem?_map, Option.map_eq_some_iff] at hx hy
  obtain ⟨x0, hx0, rfl⟩ := hx
  obtain ⟨y0, hy0, rfl⟩ := hy
  exact hfg _ _ (h.2 i _ _ hx0 hy0)

theorem CR.mono {φ φ' : Inj} (h : φ.le φ') {v v' : Value} (k : CR φ v v') : CR φ' v v' := by
  cases k with
  | int k n => exact .int k n
  | bool b => exact .bool b
  | string s => exact .string s
  | pnil => exact .pnil
  | ptr a e hs hφ => exact .ptr a e hs (h _ _ hφ)
  | snil c => exact .snil c
  | slice a b l c c' e hs hφ he hl hc => exact .slice a b l c c' e hs (h _ _ hφ) he hl hc
  | nilIface => exact .nilIface
  | nilFunc => exact .nilFunc

theorem AR.mono {φ φ' : Inj} (h : φ.le φ') {v v' : Value} (k : AR φ v v') : AR φ' v v' := by
  cases k with
  | cell k => exact .cell (k.mono h)
  | agg cs ds k => exact .agg cs ds (k.mono fun _ _ => CR.mono h)

theorem VR.mono {φ φ' : Inj} (h : φ.le φ') {v v' : Value} (k : VR φ v v') : VR φ' v v' := by
  cases k with
  | one k => exact .one (k.mono h)
  | tuple cs ds k => exact .tuple cs ds (k.mono fun _ _ => AR.mono h)

theorem VR.of_cell {φ : Inj} {v v' : Value} (h : CR φ v v') : VR φ v v' := .one (.cell h)

section inv
variable {φ : Inj} {v' : Value}

theorem VR.int_inv {k : IntKind} {n : Int} (h : VR φ (.int k n) v') : v' = .int k n := by
  cases h with | one h => cases h with | cell h => cases h; rfl
theorem VR.bool_inv {b : Bool} (h : VR φ (.bool b) v') : v' = .bool b := by
  cases h with | one h => cases h with | cell h => cases h; rfl
theorem VR.string_inv {s : ByteArray} (h : VR φ (.string s) v') : v' = .string s := by
  cases h with | one h => cases h with | cell h => cases h; rfl
theorem VR.ptr_inv {a : Addr} (h : VR φ (.pointer (some a)) v') : ∃ e, a.spot = none ∧ φ a.block = some e ∧ v' = .pointer (some ⟨e.blk, e.base + a.off, none⟩) := by
  cases h with | one h => cases h with | cell h => cases h with | ptr _ e hs hφ => exact ⟨e, hs, hφ, rfl⟩
theorem VR.snil_inv {l c : Nat} (h : VR φ (.slice none l c) v') : l = 0 ∧ v' = .slice none 0 0 := by
  cases h with | one h => cases h with | cell h => cases h with | snil => exact ⟨rfl, rfl⟩
theorem VR.slice_inv {a : Addr} {l c : Nat} (h : VR φ (.slice (some a) l c) v') : ∃ b c' e, a.spot = none ∧ φ a.block = some e ∧ c = e.es ∧ l ≤ c' ∧
    (c' = 0 ∨ (b = ⟨e.blk, e.base + a.off, none⟩ ∧ e.base + a.off + c' * e.es ≤ e.size)) ∧ v' = .slice (some b) l c' := by
  cases h with | one h => cases h with | cell h => cases h with | slice _ b _ _ c' e hs hφ he hl hc => exact ⟨b, c', e, hs, hφ, he, hl, hc, rfl⟩
theorem VR.agg_inv {cs : Array Value} (h : VR φ (.agg cs) v') : ∃ ds, v' = .agg ds ∧ Each (CR φ) cs.toList ds.toList := by
  cases h with
  | one h => cases h with
    | cell h => cases h
    | agg _ ds k => exact ⟨ds, rfl, k⟩
theorem VR.tuple_inv {cs : Array Value} (h : VR φ (.tuple cs) v') : ∃ ds, v' = .tuple ds ∧ Each (AR φ) cs.toList ds.toList := by
  cases h with
  | one h => cases h with | cell h => cases h
  | tuple _ ds k => exact ⟨ds, rfl, k⟩
end inv

theorem VR.cells {φ : Inj} {v v' : Value} (h : AR φ v v') : Each (CR φ) v.cells.toList v'.cells.toList := by
  cases h with
  | agg cs ds k => simpa [Value.cells] using k
  | cell h => cases h <;> (simp only [Value.cells]; refine Each.cons ?_ Each.nil; constructor <;> assumption)

theorem VR.ar {φ : Inj} {v v' : Value} (h : VR φ v v') (hc : v.cells.toList.all AM.isCell = true) : AR φ v v' := by
  cases h with
  | one h => exact h
  | tuple vs ws h => simp [Value.cells, AM.isCell] at hc

theorem CR.isCell {φ : Inj} {v v' : Value} (h : CR φ v v') : isCell v = true ∧ v'.oneCell' = true := by
  cases h <;> simp [AM.isCell, Value.oneCell']

/-- Both blocks, both worlds. -/
structure Rel (φ : Inj) (w0 w : World) (H : AHeap) : Prop where
  base : RowKit.Below w0.heap.size w0 w
  live : ∀ i o, get H i = some o → ∃ e c el fr, φ i = some e ∧ e.es = o.es ∧ w.heap[e.blk]? = some (.cells c el fr) ∧ c.size = e.size ∧ e.base + o.cells.length ≤ e.size ∧
    (o.ro = false → w0.heap.size ≤ e.blk ∧ ∀ k, k < e.size → ¬ (fr.1 ≤ k ∧ k < fr.2)) ∧
    ∀ (j : Nat) v, o.cells[j]? = some v → ∃ v', c[e.base + j]? = some v' ∧ CR φ v v'
  inj : ∀ i j oi oj ei ej, get H i = some oi → get H j = some oj → φ i = some ei → φ j = some ej → ei.blk = ej.blk → i = j

theorem Rel.mono {φ φ' : Inj} {w0 w : World} {H : AHeap} (h : Rel φ w0 w H) (hφ : φ.le φ') : Rel φ' w0 w H where
  base := h.base
  live i o ho := by
    obtain ⟨e, c, el, fr, h1, h2, h3, h4, h5, h6, h7⟩ := h.live i o ho
    exact ⟨e, c, el, fr, hφ _ _ h1, h2, h3, h4, h5, h6, fun j v hv => let ⟨v', a, b⟩ := h7 j v hv; ⟨v', a, b.mono hφ⟩⟩
  inj i j oi oj ei ej hi hj hei hej he := by
    obtain ⟨e, _, _, _, h1, _⟩ := h.live i oi hi
    obtain ⟨e', _, _, _, h1', _⟩ := h.live j oj hj
    have a := hφ _ _ h1
    have b := hφ _ _ h1'
    rw [hei] at a; rw [hej] at b
    simp only [Option.some.injEq] at a b
    subst a; subst b
    exact h.inj i j oi oj ei ej hi hj h1 h1' he

/-- Temporaries. -/
def TR (φ : Inj) (n : Nat) (ts : TS) (t : Array Value) : Prop := t.size = n ∧ ∀ j, j < n → VR φ (ts j) (t.getD j undef)

theorem TR.mono {φ φ' : Inj} {n : Nat} {ts : TS} {t : Array Value} (h : TR φ n ts t) (hφ : φ.le φ') : TR φ' n ts t :=
  ⟨h.1, fun j hj => (h.2 j hj).mono hφ⟩

/-- Of the numbers from c up to c' none is known yet. -/
def Fresh (φ : Inj) (c c' : Nat) : Prop := ∀ i, c ≤ i → i < c' → φ i = none

/-- More is known, of the numbers from c up to c' alone. -/
def ExtBy (φ φ' : Inj) (c c' : Nat) : Prop := φ.le φ' ∧ ∀ i, φ' i ≠ φ i → c ≤ i ∧ i < c'

theorem ExtBy.refl (φ : Inj) (c c' : Nat) : ExtBy φ φ c c' := ⟨Inj.le_refl φ, fun _ h => (h rfl).elim⟩

theorem ExtBy.trans {a b d : Inj} {c c1 c2 : Nat} (h : ExtBy a b c c1) (k : ExtBy b d c1 c2) (h1 : c ≤ c1) (h2 : c1 ≤ c2) : ExtBy a d c c2 := by
  refine ⟨Inj.le_trans h.1 k.1, fun i hi => ?_⟩
  by_cases hb : b i = a i
  · have := k.2 i (by rw [hb]; exact hi); omega
  · have := h.2 i hb; omega

theorem Fresh.after {a b : Inj} {c c1 c2 : Nat} (h : Fresh a c c2) (k : ExtBy a b c c1) (h1 : c ≤ c1) : Fresh b c1 c2 := by
  intro i hi hi'
  by_cases hb : b i = a i
  · rw [hb]; exact h i (by omega) hi'
  · have := k.2 i hb; omega

theorem Fresh.before {a : Inj} {c c1 c2 : Nat} (h : Fresh a c c2) (h2 : c1 ≤ c2) : Fresh a c c1 := fun i hi hi' => h i hi (by omega)

/-! ### finding -/

theorem find_append (u H : AHeap) (i : Nat) : find (u ++ H) i = (find u i).or (find H i) := by
  induction u with
  | nil => simp [find]
  | cons x u ih => obtain ⟨k, o⟩ := x; simp only [List.cons_append, find]; split <;> simp [ih]

theorem get_append (u H : AHeap) (i : Nat) : get (u ++ H) i = match find u i with | some o => o | none => get H i := by
  simp only [get, find_append]; cases find u i <;> simp

theorem find_none {u : AHeap} {i : Nat} (h : i ∉ keys u) : find u i = none := by
  induction u with
  | nil => rfl
  | cons x u ih => obtain ⟨k, o⟩ := x; simp [keys] at h; simp only [find]; rw [if_neg (by exact fun e => h.1 e.symm)]; exact ih (by simpa [keys] using h.2)

theorem find_some_mem {u : AHeap} {i : Nat} {o : Option AObj} (h : find u i = some o) : i ∈ keys u := by
  apply Classical.byContradiction
  intro hn
  rw [find_none hn] at h; simp at h

end Go.Proofs.Ytfcglkajekohiaa.AM
