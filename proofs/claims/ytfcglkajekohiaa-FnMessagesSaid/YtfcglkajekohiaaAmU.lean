/-
  Rows of structs; more on slices.
-/
import Derived.Test.YtfcglkajekohiaaAmS
set_option linter.unusedSimpArgs false
set_option linter.unusedVariables false
namespace Go.Proofs.Ytfcglkajekohiaa.AM
open Go

/-- Rows of equal width. -/
theorem flat_len {α : Type} {f : α → List Value} {w : Nat} (hf : ∀ a, (f a).length = w) (l : List α) : (l.flatMap f).length = l.length * w := by
  induction l with
  | nil => simp
  | cons a l ih => rw [List.flatMap_cons, List.length_append, hf, ih, List.length_cons, Nat.succ_mul]; omega
theorem flat_drop {α : Type} {f : α → List Value} {w : Nat} (hf : ∀ a, (f a).length = w) {l : List α} {i : Nat} (h : i < l.length) : (l.flatMap f).drop (i * w) = f l[i] ++ (l.drop (i + 1)).flatMap f := by
  induction l generalizing i with
  | nil => simp at h
  | cons a l ih =>
    cases i with
    | zero => simp
    | succ i =>
      have e : (i + 1) * w = w + i * w := by rw [Nat.succ_mul]; omega
      rw [List.flatMap_cons, e, ← List.drop_drop]
      have : (f a ++ l.flatMap f).drop w = l.flatMap f := by rw [← hf a]; simp
      rw [this, ih (by simpa using h)]; simp
theorem flat_take {α : Type} {f : α → List Value} {w : Nat} (hf : ∀ a, (f a).length = w) {l : List α} {i : Nat} (h : i < l.length) : ((l.flatMap f).drop (i * w)).take w = f l[i] := by
  rw [flat_drop hf h, ← hf l[i], List.take_left]
theorem flat_get {α : Type} {f : α → List Value} {w : Nat} (hf : ∀ a, (f a).length = w) {l : List α} {i : Nat} (h : i < l.length) {k : Nat} (hk : k < w) : (l.flatMap f).getD (i * w + k) undefA = (f l[i]).getD k undefA := by
  have := flat_drop hf h
  rw [List.getD_eq_getElem?_getD, ← List.getElem?_drop, this, List.getElem?_append_left (by rw [hf]; exact hk), List.getD_eq_getElem?_getD]

/-- An element's place, and where it lies. -/
theorem SlR.el {G : AHeap} {es : Nat} {v : Value} {cs : List Value} {ob : Option Nat} (h : SlR G es v cs ob) {c : Nat} (hb : ∀ b, ob = some b → b < c) {n : Nat} (hn : cs.length = n * es) (he : 0 < es) {k : IntKind} {i : Nat} (hi : i < n) :
    ∃ b ro, b < c ∧ ob = some b ∧ iaF es v (.int k i) = some (P b (i * es)) ∧ get G b = some ⟨cs, es, ro⟩ := by
  obtain ⟨b, ro, h1, h2, h3⟩ := h.at hn he (k := k) (i := (i : Int)) (by omega) (by omega)
  exact ⟨b, ro, hb b h1, h1, by simpa using h2, h3⟩



theorem wpOp_mono {A : Table} {ts : TS} {G : AHeap} {c : Nat} {op : AOp} {Q R : Value → AHeap → Nat → Prop} (h : wpOp A ts G c op Q) (hq : ∀ v d c', Q v d c' → R v d c') : wpOp A ts G c op R := by
  cases op with
  | call f args => exact Ev.mono (A := A) h hq
  | _ => obtain ⟨v, d, c', h1, h2⟩ := h; exact ⟨v, d, c', h1, hq _ _ _ h2⟩
theorem guardP_mono {r : Value} {t : Nat} {b : Bool} {y n y' n' : TS → Prop} {ts : TS} (h : guardP r t b y n ts) (hy : ∀ ts, y ts → y' ts) (hn : ∀ ts, n ts → n' ts) : guardP r t b y' n' ts := by
  unfold guardP at h ⊢
  split at h
  · cases b
    · exact hn _ h
    · exact hy _ h
  · cases b
    · exact hy _ h
    · exact hn _ h
  · exact hn _ h
theorem wpOps_mono {A : Table} {H : AHeap} {l : List AOper} : ∀ {s : St} {Q R : St → Prop}, wpOps A H l s Q → (∀ s, Q s → R s) → wpOps A H l s R := by
  induction l with
  | nil => intro s Q R h hq; exact hq _ h
  | cons o r ih =>
    intro s Q R h hq
    unfold wpOps at h ⊢
    split
    · rename_i hg
      simp only [hg] at h
      exact wpOp_mono h fun v d c' h => ih h hq
    · rename_i t b hg
      simp only [hg] at h
      exact guardP_mono h (fun ts h => wpOp_mono h fun v d c' h => ih h hq) (fun ts h => ih h hq)
theorem wpDraw_mono {A : Table} {G : AHeap} {l : List (AOper × Option (Nat × List Nat × List Nat))} : ∀ {s : St} {hs : List (Nat × Did)} {Q R : St → Prop}, wpDraw A G l s hs Q → (∀ s, Q s → R s) → wpDraw A G l s hs R := by
  induction l with
  | nil => intro s hs Q R h hq; exact hq _ h
  | cons x r ih =>
    obtain ⟨o, x⟩ := x
    intro s hs Q R h hq
    cases x with
    | none =>
      unfold wpDraw at h ⊢
      split
      · rename_i hg
        simp only [hg] at h
        exact wpOp_mono h fun v d c' h => ih h hq
      · rename_i t b hg
        simp only [hg] at h
        exact guardP_mono h (fun ts h => wpOp_mono h fun v d c' h => ih h hq) (fun ts h => ih h hq)
    | some x =>
      obtain ⟨i, ps, os⟩ := x
      unfold wpDraw at h ⊢
      split
      · rename_i hg
        simp only [hg] at h
        exact wpOp_mono h fun v d c' h => ⟨h.1, ih h.2 hq⟩
      · rename_i t b hg
        simp only [hg] at h
        exact guardP_mono h (fun ts h => wpOp_mono h fun v d c' h => ⟨h.1, ih h.2 hq⟩) (fun ts h => ih h hq)
theorem WP_mono {A : Table} {H : AHeap} {a : SC} : ∀ {s : St} {Q R : AExit → St → Prop}, WP A H a s Q → (∀ e s, Q e s → R e s) → WP A H a s R := by
  induction a with
  | skip => intro s Q R h hq; exact hq _ _ h
  | ops l => intro s Q R h hq; exact wpOps_mono h fun s => hq _ s
  | draw l => intro s Q R h hq; exact wpDraw_mono h fun s => hq _ _
  | seq a b iha ihb =>
    intro s Q R h hq
    refine iha h fun e s' h => ?_
    cases e with
    | normal => exact ihb h hq
    | exit id => exact hq _ _ h
    | ret => exact hq _ _ h
  | cond x a b iha ihb =>
    intro s Q R h hq
    obtain ⟨t, ht, h1, h2⟩ := h
    exact ⟨t, ht, fun e => iha (h1 e) hq, fun e => ihb (h2 e) hq⟩
  | block id a ih =>
    intro s Q R h hq
    refine ih h fun e s' h => ?_
    cases e with
    | normal => exact hq _ _ h
    | exit id' =>
      simp only [onExit] at h ⊢
      split
      · rename_i g; rw [if_pos g] at h; exact hq _ _ h
      · rename_i g; rw [if_neg g] at h; exact hq _ _ h
    | ret => exact hq _ _ h
  | loop a ih => intro s Q R h hq; exact RunL.mono h hq
  | exit id => intro s Q R h hq; exact hq _ _ h
  | ret => intro s Q R h hq; exact hq _ _ h

/-- A piece of code, by what is known behind it. -/
theorem W_cut {A : Table} {H : AHeap} {a : SC} {K : List AM.Frame} {s : St} {Q : AExit → St → Prop} (R : St → Prop) (h : W A H a [] s (fun e s' => e = .normal ∧ R s')) (k : ∀ s', R s' → post A H K Q .normal s') : W A H a K s Q :=
  WP_mono h fun e s' he => by obtain ⟨rfl, hr⟩ := he; exact k s' hr
theorem W_seq_cut {A : Table} {H : AHeap} {a b : SC} {K : List AM.Frame} {s : St} {Q : AExit → St → Prop} (R : St → Prop) (h : W A H a [] s (fun e s' => e = .normal ∧ R s')) (k : ∀ ts u c, R ⟨ts, u, c⟩ → W A H b K ⟨ts, u, c⟩ Q) : W A H (.seq a b) K s Q := by
  rw [W_seq]; exact W_cut R h fun s' hr => by rw [post_seq_n]; exact k _ _ _ hr


theorem SlR.cs {G : AHeap} {es : Nat} {v : Value} {cs : List Value} {ob : Option Nat} (h : SlR G es v cs ob) :
    (∃ e, v = .slice none 0 e ∧ cs = [] ∧ ob = none) ∨ ∃ b n e, v = Sl b n e ∧ ob = some b ∧ get G b = some ⟨cs, es, false⟩ ∧ cs.length = n * es := by
  cases h with
  | nil e => exact .inl ⟨e, rfl, rfl, rfl⟩
  | blk h hl => exact .inr ⟨_, _, _, rfl, rfl, h, hl⟩

/-- What is gone when something was added to a slice. -/
def killL : Option Nat → AHeap
  | none => []
  | some b => [(b, none)]
theorem get_kill {ob : Option Nat} {k : Nat} (h : ∀ b, ob = some b → b ≠ k) (G : AHeap) : get (killL ob ++ G) k = get G k := by
  cases ob with
  | none => rfl
  | some b => exact get_cons_ne (h b rfl) _ _
theorem OwnK.kill {S : List Nat} {r : AHeap} {c c' : Nat} {ob : Option Nat} (h : ∀ b, ob = some b → (c ≤ b ∧ b < c') ∨ b ∈ S) (hr : OwnK S r c c') : OwnK S (killL ob ++ r) c c' := by
  cases ob with
  | none => exact hr
  | some b => exact OwnK.cons (h b rfl) hr
theorem SlR.app {G : AHeap} {es : Nat} {v : Value} {cs : List Value} {ob : Option Nat} (h : SlR G es v cs ob) {n : Nat} (hn : cs.length = n * es) (he : 0 < es) {bytes : Nat} {zero : List Value} (hz : zero.length = es) {x : Value} {xs : List Value} {m : Nat}
    (hx : addedCells G es x = some xs) (hm : m ≠ 0) (hxs : xs.length = m * es) (h1 : (n + m) * bytes ≤ maxBytes) (h2 : n + m ≤ maxBytes) (c : Nat) :
    appF es bytes zero v x (some m) G c = some (Sl c (n + m) es, (c, some ⟨cs ++ xs, es, false⟩) :: killL ob, c + 1) := by
  cases h with
  | nil e =>
    have hn0 : n = 0 := by
      have hzz : n * es = 0 := hn.symm
      rcases Nat.mul_eq_zero.mp hzz with h | h <;> omega
    subst hn0
    rw [appF_eq, if_neg hm, sliceCells_nil, killOf_nil, hx, app3_some, if_pos ⟨h1, h2, hz, hxs, by simp⟩]
    rfl
  | blk hb hl =>
    rename_i b k e
    have : n = k := Nat.eq_of_mul_eq_mul_right he (hn.symm.trans hl)
    subst this
    rw [appF_eq, if_neg hm, sliceCells_P, killOf_P, hb, slC_eq hl, kiC_eq, hx, app3_some, if_pos ⟨h1, h2, hz, hxs, hl⟩]
    rfl


theorem SlR.of_get {G G' : AHeap} {es : Nat} {v : Value} {cs : List Value} {ob : Option Nat} (h : SlR G es v cs ob) (hg : ∀ b, ob = some b → get G' b = get G b) : SlR G' es v cs ob := by
  cases h with
  | nil e => exact .nil e
  | blk hb hl => exact .blk (by rw [hg _ rfl]; exact hb) hl
/-- One element is added. -/
theorem SlR.app1 {G : AHeap} {es : Nat} {v : Value} {cs : List Value} {ob : Option Nat} {c0 : Nat} (h : SlR G es v cs ob) (h0 : ∀ b, ob = some b → b ≠ c0) {n : Nat} (hn : cs.length = n * es) (he : 0 < es) {bytes : Nat} {zero : List Value} (hz : zero.length = es) {xs : List Value} {e : Nat}
    (hxs : xs.length = es) (h1 : (n + 1) * bytes ≤ maxBytes) (h2 : n + 1 ≤ maxBytes) (c : Nat) :
    appF es bytes zero v (Sl c0 1 e) (some 1) ((c0, some ⟨xs, es, false⟩) :: G) c = some (Sl c (n + 1) es, (c, some ⟨cs ++ xs, es, false⟩) :: killL ob, c + 1) := by
  refine SlR.app (h.of_get (fun b hb => get_cons_ne (fun e => h0 b hb e.symm) _ _)) hn he hz ?_ (by omega) (by omega) h1 h2 c
  rw [added_slice, sliceCells_P, get_cons_eq, slC_eq (by omega)]
theorem SlR.app1_len {cs xs : List Value} {n es : Nat} (hn : cs.length = n * es) (hxs : xs.length = es) : (cs ++ xs).length = (n + 1) * es := by
  rw [List.length_append, hn, hxs, Nat.succ_mul]


theorem SlR.elw {G : AHeap} {es : Nat} {v : Value} {cs : List Value} {ob : Option Nat} (h : SlR G es v cs ob) {c : Nat} (hb : ∀ b, ob = some b → b < c) {n : Nat} (hn : cs.length = n * es) (he : 0 < es) {k : IntKind} {i : Nat} (hi : i < n) :
    ∃ b, b < c ∧ ob = some b ∧ iaF es v (.int k i) = some (P b (i * es)) ∧ get G b = some ⟨cs, es, false⟩ := by
  obtain ⟨b, ro, h1, h2, h3, h4⟩ := h.el hb hn he (k := k) hi
  rcases h.cs with ⟨e, rfl, rfl, rfl⟩ | ⟨b', n', e, rfl, rfl, hg, hl⟩
  · simp at h2
  · simp only [Option.some.injEq] at h2
    subst h2
    exact ⟨b', h1, rfl, h3, hg⟩
theorem tset {cs : List Value} {i : Nat} {v : Value} (h : i < cs.length) : cs.take i ++ v :: cs.drop (i + 1) = cs.set i v := by
  rw [List.set_eq_take_append_cons_drop, if_pos h]
theorem mid_set {α : Type} {a l : List α} {i : Nat} (ha : a.length = i) (h : i < l.length) (x : α) : (a ++ l.drop i).set i x = a ++ x :: l.drop (i + 1) := by
  subst ha
  have : l.drop a.length = l[a.length] :: l.drop (a.length + 1) := List.drop_eq_getElem_cons h
  rw [List.set_append_right _ _ (Nat.le_refl _), Nat.sub_self, this]; rfl


theorem SlR.put {G G' : AHeap} {es : Nat} {v : Value} {cs cs' : List Value} {ob : Option Nat} (h : SlR G es v cs ob) {b : Nat} (hb : ob = some b) (hg : get G' b = some ⟨cs', es, false⟩) (hl : cs'.length = cs.length) : SlR G' es v cs' ob := by
  rcases h.cs with ⟨e, rfl, rfl, rfl⟩ | ⟨b', n', e, rfl, rfl, hg', hl'⟩
  · simp at hb
  · simp only [Option.some.injEq] at hb
    subst hb
    exact .blk hg (by rw [hl, hl'])


def andI (k : IntKind) (a b : Int) : Int := k.wrap (BitVec.ofInt k.bits a &&& BitVec.ofInt k.bits b).toNat
def xorI (k : IntKind) (a b : Int) : Int := k.wrap (BitVec.ofInt k.bits a ^^^ BitVec.ofInt k.bits b).toNat
def orI (k : IntKind) (a b : Int) : Int := k.wrap (BitVec.ofInt k.bits a ||| BitVec.ofInt k.bits b).toNat
theorem b_and (e : Option (List FK)) (k : IntKind) (a b : Int) : binA .and e (.int k a) (.int k b) = some (.int k (andI k a b)) := by simp [binA, arithI, bitsI, andI]
theorem b_xor (e : Option (List FK)) (k : IntKind) (a b : Int) : binA .xor e (.int k a) (.int k b) = some (.int k (xorI k a b)) := by simp [binA, arithI, bitsI, xorI]
theorem b_or (e : Option (List FK)) (k : IntKind) (a b : Int) : binA .or e (.int k a) (.int k b) = some (.int k (orI k a b)) := by simp [binA, arithI, bitsI, orI]
theorem andI_mask (a : Int) (m : Nat) (hm : m < 9223372036854775808) : 0 ≤ andI .i64 a m ∧ andI .i64 a m ≤ m := by
  have h64 : IntKind.i64.bits = 64 := rfl
  have e : (BitVec.ofInt 64 (m : Int)).toNat = m := by
    rw [BitVec.ofInt_natCast, BitVec.toNat_ofNat]; omega
  have : (BitVec.ofInt 64 a &&& BitVec.ofInt 64 (m : Int)).toNat ≤ m := by
    rw [BitVec.toNat_and, e]
    exact Nat.and_le_right
  unfold andI
  rw [h64, wrap_i64 (by omega) (by omega)]
  omega


theorem apart_own1 {s : Nat} {d d2 : AHeap} {r : Option (List Nat)} {c c' lo hi : Nat} {l : List Nat} (h : Own [s] d c c') (hs : s ∉ l) : apart ⟨d, r, c, c'⟩ ⟨d2, some l, lo, hi⟩ = true := by
  unfold apart
  rw [List.all_eq_true]
  intro k hk
  rcases h.2 k hk with g | g
  · simp [g.1, g.2]
  · simp only [List.mem_cons, List.not_mem_nil, or_false] at g
    subst g
    simp [hs]


theorem onNormal_mono {k k' : St → Prop} {Q R : AExit → St → Prop} (hk : ∀ s, k s → k' s) (hq : ∀ e s, Q e s → R e s) : ∀ e s, onNormal k Q e s → onNormal k' R e s := by
  intro e s h
  cases e with
  | normal => exact hk _ h
  | exit id => exact hq _ _ h
  | ret => exact hq _ _ h
theorem onExit_mono {id : Nat} {Q R : AExit → St → Prop} (hq : ∀ e s, Q e s → R e s) : ∀ e s, onExit id Q e s → onExit id R e s := by
  intro e s h
  cases e with
  | normal => exact hq _ _ h
  | exit id' =>
    simp only [onExit] at h ⊢
    split
    · rename_i g; rw [if_pos g] at h; exact hq _ _ h
    · rename_i g; rw [if_neg g] at h; exact hq _ _ h
  | ret => exact hq _ _ h
theorem post_mono {A : Table} {H : AHeap} {K : List AM.Frame} {Q R : AExit → St → Prop} (hq : ∀ e s, Q e s → R e s) : ∀ e s, post A H K Q e s → post A H K R e s := by
  induction K with
  | nil => exact hq
  | cons f K ih =>
    cases f with
    | seq b => exact onNormal_mono (fun s h => WP_mono h ih) ih
    | blk id => exact onExit_mono ih
theorem post_append {A : Table} {H : AHeap} {K K' : List AM.Frame} {Q : AExit → St → Prop} : post A H (K ++ K') Q = post A H K (post A H K' Q) := by
  induction K with
  | nil => rfl
  | cons f K ih =>
    cases f with
    | seq b => show onNormal (fun s' => WP A H b s' (post A H (K ++ K') Q)) (post A H (K ++ K') Q) = _; rw [ih]; rfl
    | blk id => show onExit id (post A H (K ++ K') Q) = _; rw [ih]; rfl

/-- A cut behind what a call stands in. -/
theorem EvK_cut {A : Table} {H G : AHeap} {f : Nat} {args : List Value} {c : Nat} {l : List AOper} {K1 K2 : List AM.Frame} {dst : Option Nat} {ts : TS} {u : AHeap} {Q : AExit → St → Prop} (R : St → Prop)
    (h : EvK A H f args G c (.ops l K1) dst ts u (fun e s' => e = .normal ∧ R s')) (k : ∀ ts u c, R ⟨ts, u, c⟩ → post A H K2 Q .normal ⟨ts, u, c⟩) : EvK A H f args G c (.ops l (K1 ++ K2)) dst ts u Q := by
  unfold EvK at h ⊢
  refine h.mono fun v d c' hw => ?_
  rw [fin_ops] at hw ⊢
  unfold Wops at hw ⊢
  refine wpOps_mono hw fun s hs => ?_
  rw [post_append]
  exact post_mono (fun e s' he => by obtain ⟨rfl, hr⟩ := he; exact k _ _ _ hr) _ _ hs

end Go.Proofs.Ytfcglkajekohiaa.AM
