/-
  What single operations need, in a form that is good to rewrite with.
-/
import Derived.Test.YtfcglkajekohiaaAmQ
set_option linter.unusedSimpArgs false
set_option linter.unusedVariables false
namespace Go.Proofs.Ytfcglkajekohiaa.AM
open Go

abbrev I (n : Int) : Value := .int .i64 n
abbrev U (b : UInt8) : Value := .int .u8 (b.toNat : Int)
def bs (l : List UInt8) : ByteArray := ⟨⟨l⟩⟩
abbrev T (l : List UInt8) : Value := .string (bs l)
abbrev E : Value := T []
abbrev B (b : Bool) : Value := .bool b
abbrev ag (l : List Value) : Value := .agg ⟨l⟩
abbrev P (b o : Nat) : Value := .pointer (some ⟨b, o, none⟩)
/-- A slice from the beginning of a block on. -/
abbrev Sl (b n es : Nat) : Value := .slice (some ⟨b, 0, none⟩) n es
abbrev Nil (es : Nat) : Value := .slice none 0 es

theorem bs_of (s : ByteArray) : s = bs s.data.toList := (rfl)
theorem bs_inj {a b : List UInt8} : bs a = bs b ↔ a = b := by simp [bs]
theorem bs_size (l : List UInt8) : (bs l).size = l.length := (rfl)
theorem bs_data (l : List UInt8) : (bs l).data.toList = l := (rfl)
theorem bs_append (a b : List UInt8) : bs a ++ bs b = bs (a ++ b) := by
  apply ByteArray.ext
  rw [ByteArray.data_append]
  simp [bs]
theorem bs_extract (l : List UInt8) (a b : Nat) : (bs l).extract a b = bs ((l.take b).drop a) := by
  apply ByteArray.ext
  rw [ByteArray.data_extract]
  apply Array.ext'
  simp [bs, List.drop_take]
theorem bs_get (l : List UInt8) (i : Nat) : (bs l)[i]? = l[i]? := by
  by_cases h : i < l.length
  · rw [List.getElem?_eq_getElem h, getElem?_pos (bs l) i (by rw [bs_size]; exact h)]
    rfl
  · rw [List.getElem?_eq_none (by omega), getElem?_neg (bs l) i (by rw [bs_size]; exact h)]

theorem bs_toList (l : List UInt8) : (bs l).toList = l := by
  have key : ∀ (k i : Nat) (r : List UInt8), l.length - i = k → i ≤ l.length → ByteArray.toList.loop (bs l) i r = r.reverse ++ l.drop i := by
    intro k
    induction k with
    | zero =>
      intro i r h hi
      rw [ByteArray.toList.loop, if_neg (by rw [bs_size]; omega), List.drop_eq_nil_of_le (by omega)]; simp
    | succ k ih =>
      intro i r h hi
      rw [ByteArray.toList.loop, if_pos (by rw [bs_size]; omega), ih (i + 1) _ (by omega) (by omega)]
      have hlt : i < l.length := by omega
      have : (bs l).get! i = l[i] := by
        simp [ByteArray.get!, bs, hlt]
      rw [this, List.drop_eq_getElem_cons hlt]
      simp
  show ByteArray.toList.loop (bs l) 0 [] = l
  rw [key l.length 0 [] (by simp) (by omega)]; simp

theorem get_nil (i : Nat) : get [] i = none := (rfl)
theorem get_cons_eq (k : Nat) (o : Option AObj) (H : AHeap) : get ((k, o) :: H) k = o := by simp [get, find]
theorem get_cons_ne {k i : Nat} (h : k ≠ i) (o : Option AObj) (H : AHeap) : get ((k, o) :: H) i = get H i := by simp [get, find, h]

/-- What was written: new blocks, and none of the old ones but these. -/
def Own (S : List Nat) (d : AHeap) (c c' : Nat) : Prop := c ≤ c' ∧ ∀ k ∈ keys d, (c ≤ k ∧ k < c') ∨ k ∈ S

theorem Own.le {S : List Nat} {d : AHeap} {c c' : Nat} (h : Own S d c c') : c ≤ c' := h.1
theorem Own.nil {S : List Nat} (c : Nat) : Own S [] c c := ⟨Nat.le_refl _, by simp [keys]⟩
theorem Own.app {S : List Nat} {d e : AHeap} {a b c : Nat} (h : Own S e b c) (h' : Own S d a b) : Own S (e ++ d) a c := by
  refine ⟨Nat.le_trans h'.1 h.1, fun k hk => ?_⟩
  rw [keys_app, List.mem_append] at hk
  have h1 := h'.1
  have h2 := h.1
  rcases hk with hk | hk
  · rcases h.2 k hk with g | g
    · exact .inl (by omega)
    · exact .inr g
  · rcases h'.2 k hk with g | g
    · exact .inl (by omega)
    · exact .inr g
theorem Own.sub {S S' : List Nat} {d : AHeap} {c c' : Nat} (h : Own S d c c') (hs : ∀ k ∈ S, k ∈ S') : Own S' d c c' := ⟨h.1, fun k hk => (h.2 k hk).imp id (hs k)⟩
theorem Own.new {S : List Nat} {d : AHeap} {c0 c : Nat} {o : Option AObj} (h : Own S d c0 c) : Own S ((c, o) :: d) c0 (c + 1) :=
  Own.app (d := d) (e := [(c, o)]) ⟨by omega, by simp [keys]⟩ h
theorem Own.put {S : List Nat} {d : AHeap} {c0 c k : Nat} {o : Option AObj} (h : Own S d c0 c) (hk : (c0 ≤ k ∧ k < c) ∨ k ∈ S) : Own S ((k, o) :: d) c0 c :=
  ⟨h.1, fun j hj => by
    simp only [keys, List.map_cons, List.mem_cons] at hj
    rcases hj with rfl | hj
    · exact hk
    · exact h.2 j hj⟩

theorem get_own {S : List Nat} {d H : AHeap} {c c' i : Nat} (h : Own S d c c') (hi : i < c) (hs : i ∉ S) : get (d ++ H) i = get H i :=
  get_app_keys fun hk => by rcases h.2 i hk with g | g; omega; exact hs g

/-- A block that was made later. -/
theorem get_own' {S : List Nat} {d H : AHeap} {c c' i : Nat} (h : Own S d c c') (hi : c' ≤ i) (hs : i ∉ S) : get (d ++ H) i = get H i :=
  get_app_keys fun hk => by rcases h.2 i hk with g | g; omega; exact hs g

theorem apart_own {d : AHeap} {r : Option (List Nat)} {c c' : Nat} (h : Own [] d c c') (b : Did) : apart ⟨d, r, c, c'⟩ b = true := by
  unfold apart
  rw [List.all_eq_true]
  intro k hk
  rcases h.2 k hk with g | g
  · simp [g.1, g.2]
  · simp at g

/-! ### the steps, one after the other -/

inductive Frame where
  | seq (b : SC)
  | blk (id : Nat)

/-- What stands behind an operation. -/
inductive Kt where
  | ops (l : List AOper) (K : List Frame)
  | drawP (l : List (AOper × Option (Nat × List Nat × List Nat))) (hs : List (Nat × Did)) (u0 : AHeap) (K : List Frame)
  | drawH (l : List (AOper × Option (Nat × List Nat × List Nat))) (hs : List (Nat × Did)) (u0 : AHeap) (K : List Frame) (i : Nat) (os : List Nat) (op : AOp)

section
variable (A : Table) (H : AHeap)

def post : List Frame → (AExit → St → Prop) → AExit → St → Prop
  | [], Q => Q
  | .seq b :: K, Q => onNormal (fun s' => WP A H b s' (post K Q)) (post K Q)
  | .blk id :: K, Q => onExit id (post K Q)

def W (a : SC) (K : List Frame) (s : St) (Q : AExit → St → Prop) : Prop := WP A H a s (post A H K Q)
def Wops (l : List AOper) (K : List Frame) (s : St) (Q : AExit → St → Prop) : Prop := wpOps A H l s (post A H K Q .normal)
def Wdraw (l : List (AOper × Option (Nat × List Nat × List Nat))) (hs : List (Nat × Did)) (u0 : AHeap) (K : List Frame) (s : St) (Q : AExit → St → Prop) : Prop :=
  wpDraw A (u0 ++ H) l s hs fun r => post A H K Q .normal ⟨r.ts, r.u ++ u0, r.c⟩
structure Wloop (a : SC) (K : List Frame) (s : St) (Q : AExit → St → Prop) : Prop where
  run : RunL A H a s (post A H K Q)

/-- Behind an operation. -/
def fin (kt : Kt) (dst : Option Nat) (ts : TS) (u : AHeap) (c : Nat) (v : Value) (d : AHeap) (c' : Nat) (Q : AExit → St → Prop) : Prop :=
  match kt with
  | .ops l K => Wops A H l K ⟨ts.put dst v, d ++ u, c'⟩ Q
  | .drawP l hs u0 K => Wdraw A H l hs u0 K ⟨ts.put dst v, u, c⟩ Q
  | .drawH l hs u0 K i os op => apartAll ⟨d, reads ts op, c, c'⟩ hs os ∧ Wdraw A H l ((i, ⟨d, reads ts op, c, c'⟩) :: hs) u0 K ⟨ts.put dst v, d ++ u, c'⟩ Q

/-- Behind an operation that was left out. -/
def skipK (kt : Kt) (dst : Option Nat) (ts : TS) (u : AHeap) (c : Nat) (Q : AExit → St → Prop) : Prop :=
  match kt with
  | .ops l K => Wops A H l K ⟨ts.put dst undefA, u, c⟩ Q
  | .drawP l hs u0 K => Wdraw A H l hs u0 K ⟨ts.put dst undefA, u, c⟩ Q
  | .drawH l hs u0 K i _ _ => Wdraw A H l ((i, ⟨[], some [], c, c⟩) :: hs) u0 K ⟨ts.put dst undefA, u, c⟩ Q

def Wop (op : AOp) (kt : Kt) (dst : Option Nat) (ts : TS) (u G : AHeap) (c : Nat) (Q : AExit → St → Prop) : Prop :=
  wpOp A ts G c op fun v d c' => fin A H kt dst ts u c v d c' Q
def guardK (r : Value) (t : Nat) (b : Bool) (op : AOp) (kt : Kt) (dst : Option Nat) (ts : TS) (u G : AHeap) (c : Nat) (Q : AExit → St → Prop) : Prop :=
  guardP r t b (fun ts => Wop A H op kt dst ts u G c Q) (fun ts => skipK A H kt dst ts u c Q) ts
def finV (o : Option Value) (kt : Kt) (dst : Option Nat) (ts : TS) (u : AHeap) (c : Nat) (Q : AExit → St → Prop) : Prop :=
  ∃ v, o = some v ∧ fin A H kt dst ts u c v [] c Q
def finD (o : Option (Value × AHeap × Nat)) (kt : Kt) (dst : Option Nat) (ts : TS) (u : AHeap) (c : Nat) (Q : AExit → St → Prop) : Prop :=
  ∃ v d c', o = some (v, d, c') ∧ fin A H kt dst ts u c v d c' Q
/-- A call, and what stands behind it. -/
def EvK (f : Nat) (args : List Value) (G : AHeap) (c : Nat) (kt : Kt) (dst : Option Nat) (ts : TS) (u : AHeap) (Q : AExit → St → Prop) : Prop :=
  Ev A f args G c fun v d c' => fin A H kt dst ts u c v d c' Q
def condK (v : Value) (a b : SC) (K : List Frame) (s : St) (Q : AExit → St → Prop) : Prop := ∃ t, v = .bool t ∧ (t = true → W A H a K s Q) ∧ (t = false → W A H b K s Q)
end

section
variable {A : Table} {H G : AHeap} {ts : TS} {u u0 : AHeap} {c c' : Nat} {hs : List (Nat × Did)} {K : List Frame} {kt : Kt} {dst : Option Nat} {Q : AExit → St → Prop}

theorem ev_tmp (ts : TS) (t : Nat) : ev ts (.tmp t) = ts t := (rfl)
theorem ev_const (ts : TS) (v : Value) : ev ts (.const v) = v := (rfl)
theorem put_some (ts : TS) (d : Nat) (v : Value) : ts.put (some d) v = ts.set d v := (rfl)
theorem put_none (ts : TS) (v : Value) : ts.put none v = ts := (rfl)
theorem set_app (ts : TS) (d : Nat) (v : Value) (j : Nat) : ts.set d v j = if j = d then v else ts j := (rfl)
theorem init_app (args : List Value) (j : Nat) : initTS args j = args.getD j undefA := (rfl)

theorem post_nil (e : AExit) (s : St) : post A H [] Q e s = Q e s := (rfl)
theorem post_seq_n (b : SC) (s : St) : post A H (.seq b :: K) Q .normal s = W A H b K s Q := (rfl)
theorem post_seq_e (b : SC) (id : Nat) (s : St) : post A H (.seq b :: K) Q (.exit id) s = post A H K Q (.exit id) s := (rfl)
theorem post_seq_r (b : SC) (s : St) : post A H (.seq b :: K) Q .ret s = post A H K Q .ret s := (rfl)
theorem post_blk_n (id : Nat) (s : St) : post A H (.blk id :: K) Q .normal s = post A H K Q .normal s := (rfl)
theorem post_blk_e (id id' : Nat) (s : St) : post A H (.blk id :: K) Q (.exit id') s = if id' = id then post A H K Q .normal s else post A H K Q (.exit id') s := (rfl)
theorem post_blk_r (id : Nat) (s : St) : post A H (.blk id :: K) Q .ret s = post A H K Q .ret s := (rfl)

theorem W_skip (s : St) : W A H .skip K s Q = post A H K Q .normal s := (rfl)
theorem W_ops (l : List AOper) (s : St) : W A H (.ops l) K s Q = Wops A H l K s Q := (rfl)
theorem W_draw (l : List (AOper × Option (Nat × List Nat × List Nat))) : W A H (.draw l) K ⟨ts, u, c⟩ Q = Wdraw A H l [] u K ⟨ts, [], c⟩ Q := (rfl)
theorem W_seq (a b : SC) (s : St) : W A H (.seq a b) K s Q = W A H a (.seq b :: K) s Q := (rfl)
theorem W_cond (x : Opnd) (a b : SC) : W A H (.cond x a b) K ⟨ts, u, c⟩ Q = condK A H (ev ts x) a b K ⟨ts, u, c⟩ Q := (rfl)
theorem W_block (id : Nat) (a : SC) (s : St) : W A H (.block id a) K s Q = W A H a (.blk id :: K) s Q := (rfl)
theorem W_loop (a : SC) (s : St) : W A H (.loop a) K s Q = Wloop A H a K s Q := propext ⟨fun h => ⟨h⟩, fun h => h.run⟩
theorem W_exit (id : Nat) (s : St) : W A H (.exit id) K s Q = post A H K Q (.exit id) s := (rfl)
theorem W_ret (s : St) : W A H .ret K s Q = post A H K Q .ret s := (rfl)

theorem condK_t (a b : SC) (s : St) : condK A H (.bool true) a b K s Q = W A H a K s Q := by simp [condK]
theorem condK_f (a b : SC) (s : St) : condK A H (.bool false) a b K s Q = W A H b K s Q := by simp [condK]
theorem condK_dec (p : Prop) [Decidable p] (a b : SC) (s : St) : condK A H (.bool (decide p)) a b K s Q ↔ (p → W A H a K s Q) ∧ (¬p → W A H b K s Q) := by by_cases h : p <;> simp [condK, h]
theorem condK_ndec (p : Prop) [Decidable p] (a b : SC) (s : St) : condK A H (.bool (!decide p)) a b K s Q ↔ (p → W A H b K s Q) ∧ (¬p → W A H a K s Q) := by by_cases h : p <;> simp [condK, h]

theorem Wops_nil (s : St) : Wops A H [] K s Q = post A H K Q .normal s := (rfl)
theorem Wops_cons (op : AOp) (r : List AOper) : Wops A H (⟨dst, op, none⟩ :: r) K ⟨ts, u, c⟩ Q = Wop A H op (.ops r K) dst ts u (u ++ H) c Q := (rfl)
theorem Wops_guard (op : AOp) (t : Nat) (b : Bool) (r : List AOper) : Wops A H (⟨dst, op, some (t, b)⟩ :: r) K ⟨ts, u, c⟩ Q = guardK A H (ts t) t b op (.ops r K) dst ts u (u ++ H) c Q := (rfl)
theorem Wdraw_nil : Wdraw A H [] hs u0 K ⟨ts, u, c⟩ Q = post A H K Q .normal ⟨ts, u ++ u0, c⟩ := (rfl)
theorem Wdraw_pure (op : AOp) (r : List (AOper × Option (Nat × List Nat × List Nat))) : Wdraw A H ((⟨dst, op, none⟩, none) :: r) hs u0 K ⟨ts, u, c⟩ Q = Wop A H op (.drawP r hs u0 K) dst ts u [] c Q := (rfl)
theorem Wdraw_pureG (op : AOp) (t : Nat) (b : Bool) (r : List (AOper × Option (Nat × List Nat × List Nat))) :
    Wdraw A H ((⟨dst, op, some (t, b)⟩, none) :: r) hs u0 K ⟨ts, u, c⟩ Q = guardK A H (ts t) t b op (.drawP r hs u0 K) dst ts u [] c Q := rfl
theorem Wdraw_heavy (op : AOp) (i : Nat) (ps os : List Nat) (r : List (AOper × Option (Nat × List Nat × List Nat))) :
    Wdraw A H ((⟨dst, op, none⟩, some (i, ps, os)) :: r) hs u0 K ⟨ts, u, c⟩ Q = Wop A H op (.drawH r hs u0 K i os op) dst ts u (heavyDeltas hs ps ++ (u0 ++ H)) c Q := rfl
theorem Wdraw_heavyG (op : AOp) (t : Nat) (b : Bool) (i : Nat) (ps os : List Nat) (r : List (AOper × Option (Nat × List Nat × List Nat))) :
    Wdraw A H ((⟨dst, op, some (t, b)⟩, some (i, ps, os)) :: r) hs u0 K ⟨ts, u, c⟩ Q = guardK A H (ts t) t b op (.drawH r hs u0 K i os op) dst ts u (heavyDeltas hs ps ++ (u0 ++ H)) c Q := rfl

theorem guardK_tt (t : Nat) (op : AOp) : guardK A H (.bool true) t true op kt dst ts u G c Q = Wop A H op kt dst (ts.set t (.bool true)) u G c Q := (rfl)
theorem guardK_tf (t : Nat) (op : AOp) : guardK A H (.bool true) t false op kt dst ts u G c Q = skipK A H kt dst (ts.set t (.bool true)) u c Q := (rfl)
theorem guardK_ft (t : Nat) (op : AOp) : guardK A H (.bool false) t true op kt dst ts u G c Q = skipK A H kt dst (ts.set t (.bool false)) u c Q := (rfl)
theorem guardK_ff (t : Nat) (op : AOp) : guardK A H (.bool false) t false op kt dst ts u G c Q = Wop A H op kt dst (ts.set t (.bool false)) u G c Q := (rfl)
theorem guardK_dec (p : Prop) [Decidable p] (t : Nat) (b : Bool) (op : AOp) :
    guardK A H (.bool (decide p)) t b op kt dst ts u G c Q ↔ (p → guardK A H (.bool true) t b op kt dst ts u G c Q) ∧ (¬p → guardK A H (.bool false) t b op kt dst ts u G c Q) := by
  by_cases h : p <;> simp [h]
theorem guardK_ndec (p : Prop) [Decidable p] (t : Nat) (b : Bool) (op : AOp) :
    guardK A H (.bool (!decide p)) t b op kt dst ts u G c Q ↔ (p → guardK A H (.bool false) t b op kt dst ts u G c Q) ∧ (¬p → guardK A H (.bool true) t b op kt dst ts u G c Q) := by
  by_cases h : p <;> simp [h]

theorem fin_ops (l : List AOper) (v : Value) (d : AHeap) : fin A H (.ops l K) dst ts u c v d c' Q = Wops A H l K ⟨ts.put dst v, d ++ u, c'⟩ Q := (rfl)
theorem fin_drawP (l : List (AOper × Option (Nat × List Nat × List Nat))) (v : Value) (d : AHeap) : fin A H (.drawP l hs u0 K) dst ts u c v d c' Q = Wdraw A H l hs u0 K ⟨ts.put dst v, u, c⟩ Q := (rfl)
theorem fin_drawH (l : List (AOper × Option (Nat × List Nat × List Nat))) (i : Nat) (os : List Nat) (op : AOp) (v : Value) (d : AHeap) :
    fin A H (.drawH l hs u0 K i os op) dst ts u c v d c' Q = (apartAll ⟨d, reads ts op, c, c'⟩ hs os ∧ Wdraw A H l ((i, ⟨d, reads ts op, c, c'⟩) :: hs) u0 K ⟨ts.put dst v, d ++ u, c'⟩ Q) := rfl
theorem skipK_ops (l : List AOper) : skipK A H (.ops l K) dst ts u c Q = Wops A H l K ⟨ts.put dst undefA, u, c⟩ Q := (rfl)
theorem skipK_drawP (l : List (AOper × Option (Nat × List Nat × List Nat))) : skipK A H (.drawP l hs u0 K) dst ts u c Q = Wdraw A H l hs u0 K ⟨ts.put dst undefA, u, c⟩ Q := (rfl)
theorem skipK_drawH (l : List (AOper × Option (Nat × List Nat × List Nat))) (i : Nat) (os : List Nat) (op : AOp) :
    skipK A H (.drawH l hs u0 K i os op) dst ts u c Q = Wdraw A H l ((i, ⟨[], some [], c, c⟩) :: hs) u0 K ⟨ts.put dst undefA, u, c⟩ Q := rfl

theorem finV_some (v : Value) : finV A H (some v) kt dst ts u c Q = fin A H kt dst ts u c v [] c Q := by simp [finV]
theorem finV_ite (p : Prop) [Decidable p] (v : Value) : finV A H (if p then some v else none) kt dst ts u c Q ↔ p ∧ fin A H kt dst ts u c v [] c Q := by by_cases h : p <;> simp [finV, h]
theorem finV_ite' (p : Prop) [Decidable p] (v : Value) : finV A H (if p then none else some v) kt dst ts u c Q ↔ ¬p ∧ fin A H kt dst ts u c v [] c Q := by by_cases h : p <;> simp [finV, h]
theorem finD_some (v : Value) (d : AHeap) : finD A H (some (v, d, c')) kt dst ts u c Q = fin A H kt dst ts u c v d c' Q := by
  apply propext
  constructor
  · rintro ⟨v, d, c', h, hq⟩
    simp only [Option.some.injEq, Prod.mk.injEq] at h
    obtain ⟨rfl, rfl, rfl⟩ := h
    exact hq
  · intro h; exact ⟨_, _, _, rfl, h⟩
theorem finD_ite (p : Prop) [Decidable p] (x : Option (Value × AHeap × Nat)) : finD A H (if p then x else none) kt dst ts u c Q ↔ p ∧ finD A H x kt dst ts u c Q := by by_cases h : p <;> simp [finD, h]

/-! ### single operations, by what they were given -/

def pickF (x a b : Value) : Option Value := match x with | .bool t => some (if t = true then a else b) | _ => none
def boxF (v : Value) (c : Nat) : Option (Value × AHeap × Nat) := if v.cells.toList.all isCell = true then some (P c 0, [(c, some ⟨v.cells.toList, 0, false⟩)], c + 1) else none
def buildF (o : Option (List Value)) : Option Value := match o with | some cs => some (ag cs) | none => none
def arrF (o : Option (List Value)) (len es c : Nat) : Option (Value × AHeap × Nat) := match o with | some cs => some (Sl c len es, [(c, some ⟨cs, es, false⟩)], c + 1) | none => none
def loadO (g : Bool) (n : Nat) (a : Addr) (o : Option AObj) : Option Value :=
  match o with
  | some o => if a.spot = none ∧ a.off + n ≤ o.cells.length then (if g = true then some (ag ((o.cells.drop a.off).take n)) else if a.off < o.cells.length then some (o.cells.getD a.off undefA) else none) else none
  | none => none
def loadF (g : Bool) (n : Nat) (v : Value) (G : AHeap) : Option Value := match v with | .pointer (some a) => loadO g n a (get G a.block) | _ => none
def storeO (n : Nat) (a : Addr) (v : Value) (o : Option AObj) (c : Nat) : Option (Value × AHeap × Nat) :=
  match o with
  | some o => if a.spot = none ∧ o.ro = false ∧ a.off + n ≤ o.cells.length ∧ v.cells.toList.length = n ∧ v.cells.toList.all isCell = true then
      some (undefA, [(a.block, some ⟨o.cells.take a.off ++ v.cells.toList ++ o.cells.drop (a.off + n), o.es, o.ro⟩)], c) else none
  | none => none
def storeF (n : Nat) (a v : Value) (G : AHeap) (c : Nat) : Option (Value × AHeap × Nat) := match a with | .pointer (some a) => storeO n a v (get G a.block) c | _ => none
def nilF (v : Value) : Option Value := match v with | .pointer (some a) => some (.pointer (some a)) | _ => none
def convF (k : IntKind) (v : Value) : Option Value := match v with | .int _ n => some (.int k (k.wrap n)) | _ => none
def strF (v : Value) : Option Value := match v with | .string s => some (.string s) | _ => none
def s2bF (v : Value) (c : Nat) : Option (Value × AHeap × Nat) := match v with | .string s => some (Sl c s.size 1, [(c, some ⟨s.data.toList.map U, 1, false⟩)], c + 1) | _ => none
def b2sF (o : Option (List Value)) : Option Value := match o.bind bytesOf with | some s => some (.string s) | none => none
def mkF (es bytes : Nat) (zero : List Value) (l cp : Value) (c : Nat) : Option (Value × AHeap × Nat) :=
  match l, cp with
  | .int .i64 n, .int .i64 m => if 0 ≤ n ∧ n = m ∧ n * bytes ≤ maxBytes ∧ n ≤ maxBytes then some (Sl c n.toNat es, [(c, some ⟨rows zero n.toNat, es, false⟩)], c + 1) else none
  | _, _ => none
def subSF (v : Value) (lo hi : Option Value) : Option Value :=
  match v with
  | .string s =>
    match optInt 0 lo, optInt s.size hi with
    | some l, some h => if 0 ≤ l ∧ l ≤ h ∧ h ≤ s.size then some (.string (s.extract l.toNat h.toNat)) else none
    | _, _ => none
  | _ => none
def subAF (es : Nat) (v : Value) (lo hi : Option Value) : Option Value :=
  match v with
  | .slice a n e =>
    match optInt 0 lo, optInt n hi with
    | some l, some h => if 0 ≤ l ∧ l ≤ h ∧ h ≤ n ∧ (a = none ∨ e = es) then some (.slice (a.map fun p => ⟨p.block, p.off + l.toNat * es, none⟩) (h.toNat - l.toNat) e) else none
    | _, _ => none
  | _ => none
def faF (off : Nat) (v : Value) : Option Value := match v with | .pointer (some a) => some (P a.block (a.off + off)) | _ => none
def fieldF (g : Bool) (off n : Nat) (v : Value) : Option Value :=
  match v with
  | .agg ⟨cs⟩ => if off + n ≤ cs.length then (if g = true then some (ag ((cs.drop off).take n)) else if off < cs.length then some (cs.getD off undefA) else none) else none
  | _ => none
def iaF (es : Nat) (x i : Value) : Option Value :=
  match x, i with
  | .slice (some a) n _, .int _ i => if 0 ≤ i ∧ i < n then some (P a.block (a.off + i.toNat * es)) else none
  | _, _ => none
def isF (x i : Value) : Option Value :=
  match x, i with
  | .string s, .int _ i => if 0 ≤ i ∧ i < s.size then some (U (s.data.toList.getD i.toNat 0)) else none
  | _, _ => none
def exF (i : Nat) (v : Value) : Option Value := match v with | .tuple ⟨vs⟩ => vs[i]? | _ => none
def lenF (str : Bool) (v : Value) : Option Value := match str, v with | true, .string s => some (I s.size) | false, .slice _ n _ => some (I n) | _, _ => none
def app3 (es bytes : Nat) (z : Nat) (l n : Nat) (old new : Option (List Value)) (kill : Option (List Nat)) (c : Nat) : Option (Value × AHeap × Nat) :=
  match old, new, kill with
  | some old, some new, some kill => if (l + n) * bytes ≤ maxBytes ∧ l + n ≤ maxBytes ∧ z = es ∧ new.length = n * es ∧ old.length = l * es then
      some (Sl c (l + n) es, (c, some ⟨old ++ new, es, false⟩) :: kill.map (fun k => (k, none)), c + 1) else none
  | _, _, _ => none
def appF (es bytes : Nat) (zero : List Value) (s x : Value) (n : Option Nat) (G : AHeap) (c : Nat) : Option (Value × AHeap × Nat) :=
  match n, s with
  | some n, .slice b l cp => if n = 0 then some (.slice b l cp, [], c) else app3 es bytes zero.length l n (sliceCells G es (.slice b l cp)) (addedCells G es x) (killOf G es (.slice b l cp)) c
  | _, _ => none

theorem Wop_v {op : AOp} {o : Option Value} (h : ∀ cf, opA cf ts G c op = o.map fun v => (v, [], c)) (hn : ∀ f args, op ≠ .call f args) : Wop A H op kt dst ts u G c Q = finV A H o kt dst ts u c Q := by
  unfold Wop wpOp
  apply propext
  cases op with
  | call f args => exact absurd rfl (hn f args)
  | _ =>
    simp only [h, Option.map_eq_some_iff, Prod.mk.injEq, finV]
    constructor
    · rintro ⟨v, d, c', ⟨w, h1, rfl, rfl, rfl⟩, hq⟩; exact ⟨_, h1, hq⟩
    · rintro ⟨v, h1, hq⟩; exact ⟨_, _, _, ⟨v, h1, rfl, rfl, rfl⟩, hq⟩
theorem Wop_d {op : AOp} {o : Option (Value × AHeap × Nat)} (h : ∀ cf, opA cf ts G c op = o) (hn : ∀ f args, op ≠ .call f args) : Wop A H op kt dst ts u G c Q = finD A H o kt dst ts u c Q := by
  unfold Wop wpOp
  cases op with
  | call f args => exact absurd rfl (hn f args)
  | _ => simp only [h, finD]

theorem op_mov (x : Opnd) : Wop A H (.mov x) kt dst ts u G c Q = fin A H kt dst ts u c (ev ts x) [] c Q := by
  rw [Wop_v (op := .mov x) (o := some (ev ts x)) (fun _ => rfl) (fun _ _ h => nomatch h), finV_some]
theorem op_pick (x a b : Opnd) : Wop A H (.pick x a b) kt dst ts u G c Q = finV A H (pickF (ev ts x) (ev ts a) (ev ts b)) kt dst ts u c Q :=
  Wop_v (fun _ => by simp only [opA, pickF]; cases ev ts x <;> rfl) (fun _ _ h => nomatch h)
theorem op_new (cells : List Value) : Wop A H (.new cells) kt dst ts u G c Q = fin A H kt dst ts u c (P c 0) [(c, some ⟨cells, 0, false⟩)] (c + 1) Q := by
  rw [Wop_d (op := .new cells) (o := some (P c 0, [(c, some ⟨cells, 0, false⟩)], c + 1)) (fun _ => rfl) (fun _ _ h => nomatch h), finD_some]
theorem op_box (x : Opnd) : Wop A H (.box x) kt dst ts u G c Q = finD A H (boxF (ev ts x) c) kt dst ts u c Q := Wop_d (fun _ => rfl) (fun _ _ h => nomatch h)
theorem op_build (zero : List Value) (parts : List (Nat × Nat × Opnd)) : Wop A H (.build zero parts) kt dst ts u G c Q = finV A H (buildF (fillA zero (parts.map fun p => (p.1, p.2.1, ev ts p.2.2)))) kt dst ts u c Q :=
  Wop_v (fun _ => by simp only [opA, buildF]; split <;> simp_all) (fun _ _ h => nomatch h)
theorem op_arr (es : Nat) (zero : List Value) (len : Nat) (parts : List (Nat × Nat × Opnd)) : Wop A H (.arr es zero len parts) kt dst ts u G c Q =
    finD A H (arrF (fillA (rows zero len) (parts.map fun p => (p.1, p.2.1, ev ts p.2.2))) len es c) kt dst ts u c Q :=
  Wop_d (fun _ => by simp only [opA, arrF]; split <;> simp_all) (fun _ _ h => nomatch h)
theorem op_load (g : Bool) (n : Nat) (a : Opnd) : Wop A H (.load g n a) kt dst ts u G c Q = finV A H (loadF g n (ev ts a) G) kt dst ts u c Q := by
  refine Wop_v (fun _ => ?_) (fun _ _ h => nomatch h)
  simp only [opA, loadF, loadO]
  split
  · rename_i p hp
    simp only [hp]
    cases get G p.block with
    | none => rfl
    | some o =>
      simp only
      by_cases h1 : p.spot = none ∧ p.off + n ≤ o.cells.length
      · rw [if_pos h1, if_pos h1]
        cases g with
        | true => simp
        | false =>
          simp only [Bool.false_eq_true, if_false]
          by_cases h2 : p.off < o.cells.length
          · rw [if_pos h2, List.getElem?_eq_getElem h2, List.getD_eq_getElem?_getD, List.getElem?_eq_getElem h2]; rfl
          · rw [if_neg h2, List.getElem?_eq_none (by omega)]; rfl
      · rw [if_neg h1, if_neg h1]; rfl
  · rename_i hp
    split
    · rename_i p hp'
      exact absurd hp' (hp p)
    · rfl
theorem op_store (n : Nat) (a v : Opnd) : Wop A H (.store n a v) kt dst ts u G c Q = finD A H (storeF n (ev ts a) (ev ts v) G c) kt dst ts u c Q := by
  refine Wop_d (fun _ => ?_) (fun _ _ h => nomatch h)
  simp only [opA, storeF, storeO]
  split
  · rename_i p hp
    simp only [hp]
    cases get G p.block <;> rfl
  · rename_i hp
    split
    · rename_i p hp'
      exact absurd hp' (hp p)
    · rfl
theorem op_nilChk (x : Opnd) : Wop A H (.nilChk x) kt dst ts u G c Q = finV A H (nilF (ev ts x)) kt dst ts u c Q := Wop_v (fun _ => by simp only [opA, nilF]; split <;> simp_all) (fun _ _ h => nomatch h)
theorem op_bin (op : BinOp) (e : Option (List FK)) (x y : Opnd) : Wop A H (.bin op e x y) kt dst ts u G c Q = finV A H (binA op e (ev ts x) (ev ts y)) kt dst ts u c Q := Wop_v (fun _ => rfl) (fun _ _ h => nomatch h)
theorem op_un (op : UnOp) (x : Opnd) : Wop A H (.un op x) kt dst ts u G c Q = finV A H (unA op (ev ts x)) kt dst ts u c Q := Wop_v (fun _ => rfl) (fun _ _ h => nomatch h)
theorem op_convInt (k : IntKind) (x : Opnd) : Wop A H (.convInt k x) kt dst ts u G c Q = finV A H (convF k (ev ts x)) kt dst ts u c Q := Wop_v (fun _ => by simp only [opA, convF]; split <;> simp_all) (fun _ _ h => nomatch h)
theorem op_convStr (x : Opnd) : Wop A H (.convStr x) kt dst ts u G c Q = finV A H (strF (ev ts x)) kt dst ts u c Q := Wop_v (fun _ => by simp only [opA, strF]; split <;> simp_all) (fun _ _ h => nomatch h)
theorem op_convS2B (x : Opnd) : Wop A H (.convS2B x) kt dst ts u G c Q = finD A H (s2bF (ev ts x) c) kt dst ts u c Q := Wop_d (fun _ => rfl) (fun _ _ h => nomatch h)
theorem op_convB2S (x : Opnd) : Wop A H (.convB2S x) kt dst ts u G c Q = finV A H (b2sF (sliceCells G 1 (ev ts x))) kt dst ts u c Q := Wop_v (fun _ => by simp only [opA, b2sF]; cases (sliceCells G 1 (ev ts x)).bind bytesOf <;> rfl) (fun _ _ h => nomatch h)
theorem op_mkSlice (es bytes : Nat) (zero : List Value) (l cp : Opnd) : Wop A H (.mkSlice es bytes zero l cp) kt dst ts u G c Q = finD A H (mkF es bytes zero (ev ts l) (ev ts cp) c) kt dst ts u c Q := Wop_d (fun _ => rfl) (fun _ _ h => nomatch h)
theorem op_sliceS (x : Opnd) (lo hi : Option Opnd) : Wop A H (.sliceS x lo hi) kt dst ts u G c Q = finV A H (subSF (ev ts x) (lo.map (ev ts)) (hi.map (ev ts))) kt dst ts u c Q := by
  refine Wop_v (fun _ => ?_) (fun _ _ h => nomatch h)
  simp only [opA, subSF]
  cases ev ts x with
  | string s =>
    simp only
    cases optInt 0 (lo.map (ev ts)) with
    | none => rfl
    | some l =>
      cases optInt s.size (hi.map (ev ts)) with
      | none => rfl
      | some h =>
        simp only
        by_cases g : 0 ≤ l ∧ l ≤ h ∧ h ≤ s.size
        · rw [if_pos g, if_pos g]; rfl
        · rw [if_neg g, if_neg g]; rfl
  | _ => rfl
theorem op_sliceA (es : Nat) (x : Opnd) (lo hi : Option Opnd) : Wop A H (.sliceA es x lo hi) kt dst ts u G c Q = finV A H (subAF es (ev ts x) (lo.map (ev ts)) (hi.map (ev ts))) kt dst ts u c Q := by
  refine Wop_v (fun _ => ?_) (fun _ _ h => nomatch h)
  simp only [opA, subAF]
  cases ev ts x with
  | slice a n e =>
    simp only
    cases optInt 0 (lo.map (ev ts)) with
    | none => rfl
    | some l =>
      cases optInt n (hi.map (ev ts)) with
      | none => rfl
      | some h =>
        simp only
        by_cases g : 0 ≤ l ∧ l ≤ h ∧ h ≤ n ∧ (a = none ∨ e = es)
        · rw [if_pos g, if_pos g]; rfl
        · rw [if_neg g, if_neg g]; rfl
  | _ => rfl
theorem op_fieldAddr (off : Nat) (x : Opnd) : Wop A H (.fieldAddr off x) kt dst ts u G c Q = finV A H (faF off (ev ts x)) kt dst ts u c Q := Wop_v (fun _ => by simp only [opA, faF]; split <;> simp_all) (fun _ _ h => nomatch h)
theorem op_field (g : Bool) (off n : Nat) (x : Opnd) : Wop A H (.field g off n x) kt dst ts u G c Q = finV A H (fieldF g off n (ev ts x)) kt dst ts u c Q := by
  have key : ∀ l : List Value, (⟨l⟩ : Array Value).extract off (off + n) = ⟨(l.drop off).take n⟩ := by
    intro l
    apply Array.ext'
    simp
  refine Wop_v (fun _ => ?_) (fun _ _ h => nomatch h)
  simp only [opA, fieldF]
  cases hx : ev ts x with
  | agg cs =>
    obtain ⟨l⟩ := cs
    simp only [key, List.size_toArray]
    by_cases h1 : off + n ≤ l.length
    · rw [if_pos h1, if_pos h1]
      cases g with
      | true => simp
      | false =>
        simp only [Bool.false_eq_true, if_false]
        by_cases h2 : off < l.length
        · have : (⟨l⟩ : Array Value)[off]? = some l[off] := by simp [h2]
          rw [if_pos h2, this, List.getD_eq_getElem?_getD, List.getElem?_eq_getElem h2]; rfl
        · have : (⟨l⟩ : Array Value)[off]? = none := by simp; omega
          rw [if_neg h2, this]; rfl
    · rw [if_neg h1, if_neg h1]; rfl
  | _ => rfl
theorem op_idxAddr (es : Nat) (x i : Opnd) : Wop A H (.idxAddr es x i) kt dst ts u G c Q = finV A H (iaF es (ev ts x) (ev ts i)) kt dst ts u c Q := by
  refine Wop_v (fun _ => ?_) (fun _ _ h => nomatch h)
  simp only [opA, iaF]
  cases ev ts x with
  | slice a n e =>
    cases a with
    | none => rfl
    | some a =>
      cases ev ts i with
      | int k i =>
        simp only
        by_cases g : 0 ≤ i ∧ i < n
        · rw [if_pos g, if_pos g]; rfl
        · rw [if_neg g, if_neg g]; rfl
      | _ => rfl
  | _ => rfl
theorem op_idxStr (x i : Opnd) : Wop A H (.idxStr x i) kt dst ts u G c Q = finV A H (isF (ev ts x) (ev ts i)) kt dst ts u c Q := by
  refine Wop_v (fun _ => ?_) (fun _ _ h => nomatch h)
  simp only [opA, isF]
  cases hx : ev ts x with
  | string s =>
    cases hi : ev ts i with
    | int k i =>
      simp only
      have hs : s = bs s.data.toList := rfl
      generalize s.data.toList = l at hs
      subst hs
      by_cases h0 : 0 ≤ i
      · rw [if_pos h0, bs_get]
        by_cases h1 : i < (bs l).size
        · have hlt : i.toNat < l.length := by rw [bs_size] at h1; omega
          rw [if_pos ⟨h0, h1⟩, List.getElem?_eq_getElem hlt, List.getD_eq_getElem?_getD, List.getElem?_eq_getElem hlt]; rfl
        · have hlt : ¬ i.toNat < l.length := by rw [bs_size] at h1; omega
          rw [if_neg (fun h => h1 h.2), List.getElem?_eq_none (by omega)]; rfl
      · rw [if_neg h0, if_neg (fun h => h0 h.1)]; rfl
    | _ => rfl
  | _ => rfl
theorem op_extract (i : Nat) (x : Opnd) : Wop A H (.extract i x) kt dst ts u G c Q = finV A H (exF i (ev ts x)) kt dst ts u c Q := by
  refine Wop_v (fun _ => ?_) (fun _ _ h => nomatch h)
  simp only [opA, exF]
  cases hx : ev ts x with
  | tuple vs =>
    obtain ⟨l⟩ := vs
    simp only [List.getElem?_toArray]
    cases l[i]? <;> rfl
  | _ => rfl
theorem op_len (str : Bool) (x : Opnd) : Wop A H (.len str x) kt dst ts u G c Q = finV A H (lenF str (ev ts x)) kt dst ts u c Q := by
  refine Wop_v (fun _ => ?_) (fun _ _ h => nomatch h)
  simp only [opA, lenF]
  cases str <;> cases ev ts x <;> rfl
theorem op_append (es bytes : Nat) (zero : List Value) (s x : Opnd) : Wop A H (.append es bytes zero s x) kt dst ts u G c Q = finD A H (appF es bytes zero (ev ts s) (ev ts x) (lenA (ev ts x)) G c) kt dst ts u c Q := by
  refine Wop_d (fun _ => ?_) (fun _ _ h => nomatch h)
  simp only [opA, appF, app3]
  cases lenA (ev ts x) with
  | none => rfl
  | some n =>
    cases ev ts s with
    | slice b l cp =>
      simp only
      by_cases h0 : n = 0
      · rw [if_pos h0, if_pos h0]
      · rw [if_neg h0, if_neg h0]
        cases sliceCells G es (.slice b l cp) <;> cases addedCells G es (ev ts x) <;> cases killOf G es (.slice b l cp) <;> rfl
    | _ => rfl
theorem op_minmax (mx : Bool) (x : Opnd) (r : List Opnd) : Wop A H (.minmax mx x r) kt dst ts u G c Q = finV A H (minmaxA mx (ev ts x) (r.map (ev ts))) kt dst ts u c Q := Wop_v (fun _ => rfl) (fun _ _ h => nomatch h)
theorem op_call (f : Nat) (args : List Opnd) : Wop A H (.call f args) kt dst ts u G c Q = EvK A H f (args.map (ev ts)) G c kt dst ts u Q := (rfl)
theorem EvK.of {f : Nat} {args : List Value} (h : Ev A f args G c fun v d c' => fin A H kt dst ts u c v d c' Q) : EvK A H f args G c kt dst ts u Q := h

end

theorem pickF_eq (t : Bool) (a b : Value) : pickF (.bool t) a b = some (if t = true then a else b) := (rfl)
theorem pickF_dec (p : Prop) [Decidable p] (a b : Value) : pickF (.bool (decide p)) a b = some (if p then a else b) := by by_cases h : p <;> simp [pickF, h]
theorem buildF_some (cs : List Value) : buildF (some cs) = some (ag cs) := (rfl)
theorem arrF_some (cs : List Value) (len es c : Nat) : arrF (some cs) len es c = some (Sl c len es, [(c, some ⟨cs, es, false⟩)], c + 1) := (rfl)
theorem loadF_P (g : Bool) (n b o : Nat) (G : AHeap) : loadF g n (P b o) G = loadO g n ⟨b, o, none⟩ (get G b) := (rfl)
theorem loadO_1 (n b off es : Nat) (cs : List Value) (ro : Bool) : loadO false n ⟨b, off, none⟩ (some ⟨cs, es, ro⟩) = if off + n ≤ cs.length ∧ off < cs.length then some (cs.getD off undefA) else none := by
  simp only [loadO]
  by_cases h1 : off + n ≤ cs.length <;> by_cases h2 : off < cs.length <;> simp [h1, h2]
theorem loadO_N (n b off es : Nat) (cs : List Value) (ro : Bool) : loadO true n ⟨b, off, none⟩ (some ⟨cs, es, ro⟩) = if off + n ≤ cs.length then some (ag ((cs.drop off).take n)) else none := by
  simp only [loadO]
  by_cases h1 : off + n ≤ cs.length <;> simp [h1]
theorem storeF_P (n b o : Nat) (v : Value) (G : AHeap) (c : Nat) : storeF n (P b o) v G c = storeO n ⟨b, o, none⟩ v (get G b) c := (rfl)
theorem storeO_some (n b off es : Nat) (v : Value) (cs : List Value) (c : Nat) : storeO n ⟨b, off, none⟩ v (some ⟨cs, es, false⟩) c =
    if off + n ≤ cs.length ∧ v.cells.toList.length = n ∧ v.cells.toList.all isCell = true then some (undefA, [(b, some ⟨cs.take off ++ v.cells.toList ++ cs.drop (off + n), es, false⟩)], c) else none := by
  simp [storeO]
theorem nilF_P (a : Addr) : nilF (.pointer (some a)) = some (.pointer (some a)) := (rfl)
theorem convF_int (k k' : IntKind) (n : Int) : convF k (.int k' n) = some (.int k (k.wrap n)) := (rfl)
theorem strF_str (s : ByteArray) : strF (.string s) = some (.string s) := (rfl)
theorem s2bF_T (l : List UInt8) (c : Nat) : s2bF (T l) c = some (Sl c l.length 1, [(c, some ⟨l.map U, 1, false⟩)], c + 1) := (rfl)
def bytesL (l : List Value) : Option (List UInt8) := (bytesOf l).map fun b => b.data.toList
theorem numsOf_map (l : List UInt8) : numsOf (l.map U) = some (l.map fun b => (b.toNat : Int)) := by
  induction l with
  | nil => rfl
  | cons b l ih => simp [numsOf, ih]
theorem b2sF_map (l : List UInt8) : b2sF (some (l.map U)) = some (T l) := by
  have h2 : bytesOf (l.map U) = some (bs l) := by
    simp only [bytesOf, numsOf_map, Option.map_some, List.map_map]
    congr 2
    apply congrArg
    induction l with
    | nil => rfl
    | cons b l ih => simp only [List.map_cons, ih]; congr 1; simp
  simp only [b2sF, Option.bind_some, h2]
theorem b2sF_cons (b : UInt8) (r : List UInt8) : b2sF (some (U b :: r.map U)) = some (T (b :: r)) := b2sF_map (b :: r)
theorem b2sF_nil : b2sF (some []) = some (T []) := b2sF_map []
theorem mkF_int (es bytes : Nat) (zero : List Value) (n m : Int) (c : Nat) : mkF es bytes zero (I n) (I m) c =
    if 0 ≤ n ∧ n = m ∧ n * bytes ≤ maxBytes ∧ n ≤ maxBytes then some (Sl c n.toNat es, [(c, some ⟨rows zero n.toNat, es, false⟩)], c + 1) else none := rfl
theorem subSF_T (l : List UInt8) (a b : IntKind) (x y : Int) : subSF (T l) (some (.int a x)) (some (.int b y)) = if 0 ≤ x ∧ x ≤ y ∧ y ≤ l.length then some (T ((l.take y.toNat).drop x.toNat)) else none := by
  simp only [subSF, optInt, bs_extract, bs_size]
theorem subSF_lo (l : List UInt8) (a : IntKind) (x : Int) : subSF (T l) (some (.int a x)) none = if 0 ≤ x ∧ x ≤ l.length then some (T (l.drop x.toNat)) else none := by
  simp only [subSF, optInt, bs_extract, bs_size]
  have e : (l.take ((l.length : Int)).toNat).drop x.toNat = l.drop x.toNat := by rw [Int.toNat_natCast, List.take_length]
  rw [e]
  by_cases h : 0 ≤ x ∧ x ≤ (l.length : Int)
  · rw [if_pos ⟨h.1, h.2, Int.le_refl _⟩, if_pos h]
  · rw [if_neg (fun g => h ⟨g.1, g.2.1⟩), if_neg h]
theorem subSF_hi (l : List UInt8) (b : IntKind) (y : Int) : subSF (T l) none (some (.int b y)) = if 0 ≤ y ∧ y ≤ l.length then some (T (l.take y.toNat)) else none := by
  simp only [subSF, optInt, bs_extract, bs_size]
  by_cases h : 0 ≤ y ∧ y ≤ (l.length : Int)
  · rw [if_pos ⟨by simp, by simpa using h⟩, if_pos h]; simp
  · rw [if_neg (fun g => h (by simpa using g.2)), if_neg h]
theorem subAF_eq (es : Nat) (p : Option Addr) (n e : Nat) (a b : IntKind) (x y : Int) : subAF es (.slice p n e) (some (.int a x)) (some (.int b y)) =
    if 0 ≤ x ∧ x ≤ y ∧ y ≤ n ∧ (p = none ∨ e = es) then some (.slice (p.map fun p => ⟨p.block, p.off + x.toNat * es, none⟩) (y.toNat - x.toNat) e) else none := rfl
theorem subAF_lo (es : Nat) (p : Option Addr) (n e : Nat) (a : IntKind) (x : Int) : subAF es (.slice p n e) (some (.int a x)) none =
    if 0 ≤ x ∧ x ≤ (n : Int) ∧ (n : Int) ≤ n ∧ (p = none ∨ e = es) then some (.slice (p.map fun p => ⟨p.block, p.off + x.toNat * es, none⟩) ((n : Int).toNat - x.toNat) e) else none := rfl
theorem subAF_hi (es : Nat) (p : Option Addr) (n e : Nat) (b : IntKind) (y : Int) : subAF es (.slice p n e) none (some (.int b y)) =
    if (0 : Int) ≤ (0 : Nat) ∧ ((0 : Nat) : Int) ≤ y ∧ y ≤ n ∧ (p = none ∨ e = es) then some (.slice (p.map fun p => ⟨p.block, p.off + ((0 : Nat) : Int).toNat * es, none⟩) (y.toNat - ((0 : Nat) : Int).toNat) e) else none := rfl
theorem faF_P (off b o : Nat) : faF off (P b o) = some (P b (o + off)) := (rfl)
theorem fieldF_1 (off n : Nat) (cs : List Value) : fieldF false off n (ag cs) = if off + n ≤ cs.length ∧ off < cs.length then some (cs.getD off undefA) else none := by
  simp only [fieldF]
  by_cases h1 : off + n ≤ cs.length <;> by_cases h2 : off < cs.length <;> simp [h1, h2]
theorem fieldF_N (off n : Nat) (cs : List Value) : fieldF true off n (ag cs) = if off + n ≤ cs.length then some (ag ((cs.drop off).take n)) else none := by
  simp only [fieldF]
  by_cases h1 : off + n ≤ cs.length <;> simp [h1]
theorem iaF_eq (es : Nat) (a : Addr) (n e : Nat) (k : IntKind) (i : Int) : iaF es (.slice (some a) n e) (.int k i) = if 0 ≤ i ∧ i < n then some (P a.block (a.off + i.toNat * es)) else none := (rfl)
theorem isF_eq (l : List UInt8) (k : IntKind) (i : Int) : isF (T l) (.int k i) = if 0 ≤ i ∧ i < l.length then some (U (l.getD i.toNat 0)) else none := (rfl)
theorem exF_eq (i : Nat) (vs : List Value) : exF i (.tuple ⟨vs⟩) = vs[i]? := (rfl)
theorem lenF_T (l : List UInt8) : lenF true (T l) = some (I l.length) := (rfl)
theorem lenF_S (a : Option Addr) (n e : Nat) : lenF false (.slice a n e) = some (I n) := (rfl)
theorem appF_eq (es bytes : Nat) (zero : List Value) (b : Option Addr) (l cp : Nat) (x : Value) (n : Nat) (G : AHeap) (c : Nat) : appF es bytes zero (.slice b l cp) x (some n) G c =
    if n = 0 then some (.slice b l cp, [], c) else app3 es bytes zero.length l n (sliceCells G es (.slice b l cp)) (addedCells G es x) (killOf G es (.slice b l cp)) c := rfl
theorem app3_some (es bytes z l n : Nat) (old new : List Value) (kill : List Nat) (c : Nat) : app3 es bytes z l n (some old) (some new) (some kill) c =
    if (l + n) * bytes ≤ maxBytes ∧ l + n ≤ maxBytes ∧ z = es ∧ new.length = n * es ∧ old.length = l * es then
      some (Sl c (l + n) es, (c, some ⟨old ++ new, es, false⟩) :: kill.map (fun k => (k, none)), c + 1) else none := rfl

/-! ### numbers -/

theorem wrap_i64 {n : Int} (h0 : -9223372036854775808 ≤ n) (h1 : n ≤ 9223372036854775807) : IntKind.i64.wrap n = n := by
  simp [IntKind.wrap, IntKind.bits, IntKind.signed]; omega
theorem wrap_u8 (n : Int) : IntKind.u8.wrap n = n % 256 := by simp [IntKind.wrap, IntKind.bits, IntKind.signed]
theorem wrap_i64_u8 (b : UInt8) : IntKind.i64.wrap (b.toNat : Int) = (b.toNat : Int) := wrap_i64 (by omega) (by have := b.toNat_lt; omega)

/-- The lowest byte of a number. -/
def by8 (n : Int) : UInt8 := UInt8.ofNat (n % 256).toNat
theorem by8_toNat (n : Int) : ((by8 n).toNat : Int) = n % 256 := by
  unfold by8
  rw [UInt8.toNat_ofNat']
  have : (n % 256).toNat < 2 ^ 8 := by omega
  rw [Nat.mod_eq_of_lt this]; omega
theorem wrap_by8 (n : Int) : IntKind.u8.wrap n = ((by8 n).toNat : Int) := by rw [wrap_u8, by8_toNat]
theorem by8_of (b : UInt8) : by8 (b.toNat : Int) = b := by
  apply UInt8.toNat_inj.mp
  have h := by8_toNat (b.toNat : Int)
  have := b.toNat_lt
  omega
theorem toNat_inj8 {a b : UInt8} : ((a.toNat : Int) = (b.toNat : Int)) ↔ a = b := by
  constructor
  · intro h; exact UInt8.toNat_inj.mp (by omega)
  · intro h; rw [h]

theorem b_add (e : Option (List FK)) (k : IntKind) (a b : Int) : binA .add e (.int k a) (.int k b) = some (.int k (k.wrap (a + b))) := by simp [binA, arithI]
theorem b_sub (e : Option (List FK)) (k : IntKind) (a b : Int) : binA .sub e (.int k a) (.int k b) = some (.int k (k.wrap (a - b))) := by simp [binA, arithI]
theorem b_mul (e : Option (List FK)) (k : IntKind) (a b : Int) : binA .mul e (.int k a) (.int k b) = some (.int k (k.wrap (a * b))) := by simp [binA, arithI]
theorem b_quo (e : Option (List FK)) (k : IntKind) (a b : Int) : binA .quo e (.int k a) (.int k b) = if b = 0 then none else some (.int k (k.wrap (a.tdiv b))) := by simp [binA, arithI]
theorem b_rem (e : Option (List FK)) (k : IntKind) (a b : Int) : binA .rem e (.int k a) (.int k b) = if b = 0 then none else some (.int k (a.tmod b)) := by simp [binA, arithI]
theorem b_lss (e : Option (List FK)) (k : IntKind) (a b : Int) : binA .lss e (.int k a) (.int k b) = some (.bool (decide (a < b))) := by simp [binA, arithI, cmpI]
theorem b_leq (e : Option (List FK)) (k : IntKind) (a b : Int) : binA .leq e (.int k a) (.int k b) = some (.bool (decide (a ≤ b))) := by simp [binA, arithI, cmpI]
theorem b_gtr (e : Option (List FK)) (k : IntKind) (a b : Int) : binA .gtr e (.int k a) (.int k b) = some (.bool (decide (b < a))) := by simp [binA, arithI, cmpI]
theorem b_geq (e : Option (List FK)) (k : IntKind) (a b : Int) : binA .geq e (.int k a) (.int k b) = some (.bool (decide (b ≤ a))) := by simp [binA, arithI, cmpI]
theorem b_eql (e : Option (List FK)) (k : IntKind) (a b : Int) : binA .eql e (.int k a) (.int k b) = some (.bool (decide (a = b))) := by
  simp only [binA, arithI, cmpI, if_true]; congr 2
theorem b_neq (e : Option (List FK)) (k : IntKind) (a b : Int) : binA .neq e (.int k a) (.int k b) = some (.bool (!decide (a = b))) := by
  simp only [binA, arithI, cmpI, if_true]; congr 2
theorem b_beql (a b : Bool) : binA .eql (some [.self]) (.bool a) (.bool b) = some (.bool (a == b)) := (rfl)
theorem b_bneq (a b : Bool) : binA .neq (some [.self]) (.bool a) (.bool b) = some (.bool (!(a == b))) := (rfl)
theorem s_add (e : Option (List FK)) (a b : List UInt8) : binA .add e (T a) (T b) = if a.length + b.length ≤ 9223372036854775807 then some (T (a ++ b)) else none := by
  simp only [binA, binS, bs_size, bs_append]
  have : IntKind.i64.max = 9223372036854775807 := by decide
  rw [this]
  by_cases h : a.length + b.length ≤ 9223372036854775807
  · rw [if_pos h, if_neg (by omega)]
  · rw [if_neg h, if_pos (by omega)]
theorem beq_decide (a b : List UInt8) : (a == b) = decide (a = b) := by
  by_cases h : a = b <;> simp [h]
theorem s_eql (e : Option (List FK)) (a b : List UInt8) : binA .eql e (T a) (T b) = some (.bool (decide (a = b))) := by
  simp only [binA, binS, bs_toList, beq_decide]
theorem s_neq (e : Option (List FK)) (a b : List UInt8) : binA .neq e (T a) (T b) = some (.bool (!decide (a = b))) := by
  simp only [binA, binS, bs_toList, beq_decide]
theorem u_not (b : Bool) : unA .not (.bool b) = some (.bool (!b)) := (rfl)
theorem u_neg (k : IntKind) (n : Int) : unA .neg (.int k n) = some (.int k (k.wrap (0 - n))) := (rfl)
theorem tdiv_pos {a b : Int} (h : 0 ≤ a) : a.tdiv b = a / b := Int.tdiv_eq_ediv_of_nonneg h
theorem tmod_pos {a b : Int} (h : 0 ≤ a) : a.tmod b = a % b := Int.tmod_eq_emod_of_nonneg h

theorem cells_int (k : IntKind) (n : Int) : (Value.int k n).cells = #[.int k n] := (rfl)
theorem cells_bool (b : Bool) : (Value.bool b).cells = #[.bool b] := (rfl)
theorem cells_string (s : ByteArray) : (Value.string s).cells = #[.string s] := (rfl)
theorem cells_pointer (a : Option Addr) : (Value.pointer a).cells = #[.pointer a] := (rfl)
theorem cells_slice (a : Option Addr) (n e : Nat) : (Value.slice a n e).cells = #[.slice a n e] := (rfl)
theorem cells_agg (l : List Value) : (Value.agg ⟨l⟩).cells.toList = l := (rfl)
theorem isCell_int (k : IntKind) (n : Int) : isCell (.int k n) = true := (rfl)
theorem isCell_bool (b : Bool) : isCell (.bool b) = true := (rfl)
theorem isCell_string (s : ByteArray) : isCell (.string s) = true := (rfl)
theorem isCell_pointer (a : Option Addr) : isCell (.pointer a) = true := (rfl)
theorem isCell_slice (a : Option Addr) (n e : Nat) : isCell (.slice a n e) = true := (rfl)

theorem sliceCells_nil (G : AHeap) (es n e : Nat) : sliceCells G es (.slice none n e) = some [] := (rfl)
/-- A whole block as a slice. -/
theorem sliceCells_Sl {G : AHeap} {es b n e : Nat} {cs : List Value} {ro : Bool} (h : get G b = some ⟨cs, es, ro⟩) (hl : cs.length = n * es) : sliceCells G es (Sl b n e) = some cs := by
  show (if n = 0 then some [] else match get G b with | some o => if o.es = es ∧ 0 + n * es ≤ o.cells.length ∧ (none : Option Nat) = none then some ((o.cells.drop 0).take (n * es)) else none | none => none) = some cs
  by_cases h0 : n = 0
  · subst h0
    simp at hl; simp [hl]
  · rw [if_neg h0, h]
    simp only
    rw [if_pos ⟨trivial, by omega, trivial⟩, ← hl]; simp
theorem killOf_nil (G : AHeap) (es n e : Nat) : killOf G es (.slice none n e) = some [] := (rfl)
theorem killOf_Sl {G : AHeap} {es b n e : Nat} {cs : List Value} (h : get G b = some ⟨cs, es, false⟩) : killOf G es (Sl b n e) = some [b] := by
  simp [killOf, h]
theorem added_slice (G : AHeap) (es : Nat) (a : Option Addr) (n e : Nat) : addedCells G es (.slice a n e) = sliceCells G es (.slice a n e) := (rfl)
theorem added_str (G : AHeap) (l : List UInt8) : addedCells G 1 (T l) = some (l.map U) := (rfl)
theorem lenA_slice (a : Option Addr) (n e : Nat) : lenA (.slice a n e) = some n := (rfl)
theorem lenA_str (l : List UInt8) : lenA (T l) = some l.length := (rfl)

theorem reads_load (ts : TS) (g : Bool) (n : Nat) (a : Opnd) : reads ts (.load g n a) = match ev ts a with | .pointer (some a) => some [a.block] | _ => some [] := (rfl)
theorem reads_store (ts : TS) (n : Nat) (a v : Opnd) : reads ts (.store n a v) = match ev ts a with | .pointer (some a) => some [a.block] | _ => some [] := (rfl)
theorem reads_call (ts : TS) (f : Nat) (args : List Opnd) : reads ts (.call f args) = none := (rfl)
theorem reads_append (ts : TS) (es b : Nat) (z : List Value) (s x : Opnd) : reads ts (.append es b z s x) = none := (rfl)
theorem reads_b2s (ts : TS) (x : Opnd) : reads ts (.convB2S x) = none := (rfl)
theorem reads_s2b (ts : TS) (x : Opnd) : reads ts (.convS2B x) = some [] := (rfl)
theorem reads_new (ts : TS) (x : List Value) : reads ts (.new x) = some [] := (rfl)
theorem reads_box (ts : TS) (x : Opnd) : reads ts (.box x) = some [] := (rfl)
theorem reads_arr (ts : TS) (es : Nat) (z : List Value) (n : Nat) (p : List (Nat × Nat × Opnd)) : reads ts (.arr es z n p) = some [] := (rfl)
theorem reads_mk (ts : TS) (es b : Nat) (z : List Value) (n p : Opnd) : reads ts (.mkSlice es b z n p) = some [] := (rfl)

theorem results_nil (H : AHeap) (ts : TS) : resultsA H ts [] = some [] := (rfl)
theorem results_cons {H : AHeap} {ts : TS} {r : RV} {rs : List RV} {v : Value} {vs : List Value} (h : resultA H ts r = some v) (h' : resultsA H ts rs = some vs) : resultsA H ts (r :: rs) = some (v :: vs) := by
  simp [resultsA, h, h']
theorem oneOf_one (v : Value) : oneOf [v] = v := (rfl)
theorem oneOf_two (v w : Value) (r : List Value) : oneOf (v :: w :: r) = .tuple ⟨v :: w :: r⟩ := (rfl)

/-- What is returned. -/
def retP (H : AHeap) (ts : TS) : List RV → List Value → List Value → Prop
  | [], acc, vs => vs = acc.reverse
  | .tmp t :: r, acc, vs => (ts t).cells.toList.all isCell = true ∧ retP H ts r (ts t :: acc) vs
  | .cell g n t :: r, acc, vs => ∃ v, loadF g n (ts t) H = some v ∧ retP H ts r (v :: acc) vs

theorem retP_sound {H : AHeap} {ts : TS} : ∀ {rs : List RV} {acc vs : List Value}, retP H ts rs acc vs → ∃ ws, resultsA H ts rs = some ws ∧ vs = acc.reverse ++ ws := by
  intro rs
  induction rs with
  | nil => intro acc vs h; exact ⟨[], rfl, by simpa [retP] using h⟩
  | cons r rs ih =>
    intro acc vs h
    cases r with
    | tmp t =>
      obtain ⟨h1, h2⟩ := h
      obtain ⟨ws, h3, h4⟩ := ih h2
      refine ⟨ts t :: ws, results_cons ?_ h3, by simpa using h4⟩
      simp only [resultA, h1, if_true]
    | cell g n t =>
      obtain ⟨v, h1, h2⟩ := h
      obtain ⟨ws, h3, h4⟩ := ih h2
      refine ⟨v :: ws, results_cons ?_ h3, by simpa using h4⟩
      have h5 := op_load (A := ⟨fun _ => none, fun _ _ => none⟩) (H := H) (G := H) (ts := ts) (u := []) (c := 0) (kt := .ops [] []) (dst := none) (Q := fun _ _ => True) g n (.tmp t)
      have h6 : finV ⟨fun _ => none, fun _ _ => none⟩ H (loadF g n (ts t) H) (.ops [] []) none ts [] 0 (fun _ _ => True) := ⟨v, h1, trivial⟩
      have e : ∀ cf, opA cf ts H 0 (.load g n (.tmp t)) = (loadF g n (ts t) H).map fun v => (v, [], 0) := by
        intro cf
        simp only [opA, loadF, loadO, ev]
        split
        · rename_i p hp
          simp only [hp]
          cases get H p.block with
          | none => rfl
          | some o =>
            simp only
            by_cases h1 : p.spot = none ∧ p.off + n ≤ o.cells.length
            · rw [if_pos h1, if_pos h1]
              cases g with
              | true => simp
              | false =>
                simp only [Bool.false_eq_true, if_false]
                by_cases h2 : p.off < o.cells.length
                · rw [if_pos h2, List.getElem?_eq_getElem h2, List.getD_eq_getElem?_getD, List.getElem?_eq_getElem h2]; rfl
                · rw [if_neg h2, List.getElem?_eq_none (by omega)]; rfl
            · rw [if_neg h1, if_neg h1]; rfl
        · rename_i hp
          split
          · rename_i p hp'
            exact absurd hp' (hp p)
          · rfl
      simp only [resultA, e, h1, Option.map_some]

/-- What a function ends in. -/
def Done (H : AHeap) (rs : List RV) (Q : Value → AHeap → Nat → Prop) : AExit → St → Prop
  | .exit _, _ => False
  | _, s => ∃ vs, retP (s.u ++ H) s.ts rs [] vs ∧ Q (oneOf vs) s.u s.c
/-- What a function ends in, step by step. -/
def Ret (H : AHeap) (ts : TS) (rs : List RV) (acc : List Value) (u : AHeap) (c : Nat) (Q : Value → AHeap → Nat → Prop) : Prop := ∃ vs, retP H ts rs acc vs ∧ Q (oneOf vs) u c
def RetC (H : AHeap) (ts : TS) (o : Option Value) (rs : List RV) (acc : List Value) (u : AHeap) (c : Nat) (Q : Value → AHeap → Nat → Prop) : Prop := ∃ v, o = some v ∧ Ret H ts rs (v :: acc) u c Q

section
variable {H G u : AHeap} {ts : TS} {c : Nat} {Q : Value → AHeap → Nat → Prop}
theorem Done_ret (rs : List RV) : Done H rs Q .ret ⟨ts, u, c⟩ = Ret (u ++ H) ts rs [] u c Q := (rfl)
theorem Done_normal (rs : List RV) : Done H rs Q .normal ⟨ts, u, c⟩ = Ret (u ++ H) ts rs [] u c Q := (rfl)
theorem Ret_nil (acc : List Value) : Ret G ts [] acc u c Q = Q (oneOf acc.reverse) u c := by simp [Ret, retP]
theorem Ret_tmp (t : Nat) (r : List RV) (acc : List Value) : Ret G ts (.tmp t :: r) acc u c Q = ((ts t).cells.toList.all isCell = true ∧ Ret G ts r (ts t :: acc) u c Q) := by
  simp only [Ret, retP]
  apply propext
  constructor
  · rintro ⟨vs, ⟨h1, h2⟩, h3⟩; exact ⟨h1, vs, h2, h3⟩
  · rintro ⟨h1, vs, h2, h3⟩; exact ⟨vs, ⟨h1, h2⟩, h3⟩
theorem Ret_cell (g : Bool) (n t : Nat) (r : List RV) (acc : List Value) : Ret G ts (.cell g n t :: r) acc u c Q = RetC G ts (loadF g n (ts t) G) r acc u c Q := by
  simp only [Ret, RetC, retP]
  apply propext
  constructor
  · rintro ⟨vs, ⟨v, h1, h2⟩, h3⟩; exact ⟨v, h1, vs, h2, h3⟩
  · rintro ⟨v, h1, vs, h2, h3⟩; exact ⟨vs, ⟨v, h1, h2⟩, h3⟩
theorem RetC_some (v : Value) (r : List RV) (acc : List Value) : RetC G ts (some v) r acc u c Q = Ret G ts r (v :: acc) u c Q := by simp [RetC]
theorem RetC_ite (p : Prop) [Decidable p] (v : Value) (r : List RV) (acc : List Value) : RetC G ts (if p then some v else none) r acc u c Q ↔ p ∧ Ret G ts r (v :: acc) u c Q := by by_cases h : p <;> simp [RetC, h]
end

/-- A function, from its shorter form. -/
theorem Ev.fn {A : Table} {f : Nat} {sd : SFn} {args : List Value} {H : AHeap} {c : Nat} {Q : Value → AHeap → Nat → Prop} (hf : (A.fn f).map slimFn = some sd) (hl : decide (args.length ≤ sd.ntmps) = true)
    (h : W A H sd.code [] ⟨initTS args, [], c⟩ (Done H sd.results Q)) : Ev A f args H c Q := by
  rw [Option.map_eq_some_iff] at hf
  obtain ⟨fd, h1, rfl⟩ := hf
  refine Ev.of_fn h1 (of_decide_eq_true hl) ((WP_sound h).mono ?_)
  intro e s he
  cases e with
  | exit id => exact he.elim
  | normal => obtain ⟨vs, h1, h2⟩ := he; obtain ⟨ws, h3, h4⟩ := retP_sound h1; exact ⟨.inl rfl, ws, h3, by simpa [h4] using h2⟩
  | ret => obtain ⟨vs, h1, h2⟩ := he; obtain ⟨ws, h3, h4⟩ := retP_sound h1; exact ⟨.inr rfl, ws, h3, by simpa [h4] using h2⟩

/-- A loop, by what stays and a number that falls. -/
theorem Wloop.of {A : Table} {H : AHeap} {a : SC} {K : List Frame} {Q : AExit → St → Prop} (I : Nat → St → Prop)
    (h : ∀ n s, I n s → ∀ R : AExit → St → Prop, (∀ m s', m < n → I m s' → R .normal s') → (∀ e s', e ≠ .normal → post A H K Q e s' → R e s') → W A H a [] s R) {n : Nat} {s : St} (hs : I n s) : Wloop A H a K s Q := by
  refine ⟨RunL.of I (fun n s hi => ?_) hs⟩
  refine h n s hi _ (fun m s' hm hi' => ⟨m, hm, hi'⟩) (fun e s' he hq => ?_)
  cases e with
  | normal => exact absurd rfl he
  | exit id => exact hq
  | ret => exact hq

/-- A loop, by what is known behind it. -/
theorem Wloop.out {A : Table} {H : AHeap} {a : SC} {K : List Frame} {s : St} {Q R : AExit → St → Prop} (h : Wloop A H a [] s R) (hQ : ∀ e s', R e s' → post A H K Q e s') : Wloop A H a K s Q :=
  ⟨RunL.mono h.run hQ⟩

theorem cl_int (k : IntKind) (n : Int) : (Value.int k n).cells.toList = [.int k n] := (rfl)
theorem cl_bool (b : Bool) : (Value.bool b).cells.toList = [.bool b] := (rfl)
theorem cl_string (s : ByteArray) : (Value.string s).cells.toList = [.string s] := (rfl)
theorem cl_pointer (a : Option Addr) : (Value.pointer a).cells.toList = [.pointer a] := (rfl)
theorem cl_slice (a : Option Addr) (n e : Nat) : (Value.slice a n e).cells.toList = [.slice a n e] := (rfl)
theorem optInt_none (d : Nat) : optInt d none = some (d : Int) := (rfl)
theorem optInt_some (d : Nat) (k : IntKind) (n : Int) : optInt d (some (.int k n)) = some n := (rfl)
theorem heavyDeltas_nil (hs : List (Nat × Did)) : heavyDeltas hs [] = [] := (rfl)
theorem heavyDeltas_cons (hs : List (Nat × Did)) (p : Nat) (ps : List Nat) : heavyDeltas hs (p :: ps) = ((hs.lookup p).map (·.d)).getD [] ++ heavyDeltas hs ps := (rfl)
theorem lookup_hit {α : Type} (p : Nat) (x : α) (r : List (Nat × α)) : List.lookup p ((p, x) :: r) = some x := by simp
theorem lookup_miss {α : Type} {p q : Nat} (h : (p == q) = false) (x : α) (r : List (Nat × α)) : List.lookup p ((q, x) :: r) = List.lookup p r := by rw [List.lookup_cons, h]
theorem apartAll_nil (me : Did) (hs : List (Nat × Did)) : apartAll me hs [] = True := (rfl)
theorem apartAll_cons (me : Did) (hs : List (Nat × Did)) (j : Nat) (r : List Nat) (b : Did) (h : hs.lookup j = some b) : apartAll me hs (j :: r) ↔ apart me b = true ∧ apart b me = true ∧ apartAll me hs r := by
  show (match hs.lookup j with | some b => apart me b = true ∧ apart b me = true ∧ apartAll me hs r | none => False) ↔ _
  rw [h]
theorem rows_zero (z : List Value) : rows z 0 = [] := (rfl)
theorem rows_succ (z : List Value) (n : Nat) : rows z (n + 1) = z ++ rows z n := (rfl)
theorem fillA_nil (cs : List Value) : fillA cs [] = some cs := (rfl)
theorem fillA_cons (cs : List Value) (off size : Nat) (v : Value) (r : List (Nat × Nat × Value)) : fillA cs ((off, size, v) :: r) =
    if v.cells.toList.length = size ∧ off + size ≤ cs.length ∧ v.cells.toList.all isCell = true then fillA (cs.take off ++ v.cells.toList ++ cs.drop (off + size)) r else none := rfl

end Go.Proofs.Ytfcglkajekohiaa.AM
