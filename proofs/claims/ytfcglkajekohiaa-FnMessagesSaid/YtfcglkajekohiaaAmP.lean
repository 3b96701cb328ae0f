/-
  Runs of the plain machine, whatever the fuel.
-/
import Derived.Test.YtfcglkajekohiaaAmL
set_option linter.unusedSimpArgs false
set_option linter.unusedVariables false
namespace Go.Proofs.Ytfcglkajekohiaa.AM
open Go

/-- One function of calls answers wherever the other does, and alike. -/
def CfUp (cf cf' : CallF) : Prop := ∀ f args H c r, cf f args H c = some r → cf' f args H c = some r
def ExUp (ex ex' : AHeap → AC → St → Res) : Prop := ∀ H code s r, ex H code s = some r → ex' H code s = some r

theorem opA_up {cf cf' : CallF} (h : CfUp cf cf') {ts : TS} {H : AHeap} {c : Nat} {op : AOp} {r} (hr : opA cf ts H c op = some r) : opA cf' ts H c op = some r := by
  cases op with
  | call f args => exact h _ _ _ _ _ hr
  | _ => exact hr

theorem stepA_up {cf cf' : CallF} (h : CfUp cf cf') {H : AHeap} {o : AOper} {s : St} {r} (hr : stepA cf H o s = some r) : stepA cf' H o s = some r := by
  unfold stepA at hr ⊢
  split at hr
  · exact hr
  · split at hr
    · simp at hr
    · rename_i he
      rw [opA_up h he]; exact hr

theorem opsA_up {cf cf' : CallF} (h : CfUp cf cf') {H : AHeap} : ∀ {l : List AOper} {s : St} {r}, opsA cf H l s = some r → opsA cf' H l s = some r := by
  intro l
  induction l with
  | nil => intro s r hr; exact hr
  | cons o l ih =>
    intro s r hr
    unfold opsA at hr ⊢
    split at hr
    · simp at hr
    · rename_i he
      rw [stepA_up h he]; exact ih hr

theorem drawStep_up {cf cf' : CallF} (h : CfUp cf cf') {H : AHeap} {o : AOper} {ps : List Nat} {s : St} {ds : List Did} {r} (hr : drawStep cf H o ps s ds = some r) : drawStep cf' H o ps s ds = some r := by
  unfold drawStep at hr ⊢
  split at hr
  · exact hr
  · split at hr
    · simp at hr
    · rename_i he
      rw [opA_up h he]; exact hr

theorem drawA_up {cf cf' : CallF} (h : CfUp cf cf') {H : AHeap} : ∀ {l : List (AOper × List Nat)} {s : St} {ds : List Did} {r}, drawA cf H l s ds = some r → drawA cf' H l s ds = some r := by
  intro l
  induction l with
  | nil => intro s ds r hr; exact hr
  | cons o l ih =>
    intro s ds r hr
    obtain ⟨o, ps⟩ := o
    unfold drawA at hr ⊢
    split at hr
    · simp at hr
    · rename_i he
      rw [drawStep_up h he]; exact ih hr

theorem runCode_up {cf cf' : CallF} (h : CfUp cf cf') {lf lf' : AC → St → Res} (hl : ∀ a s r, lf a s = some r → lf' a s = some r) {H : AHeap} :
    ∀ {code : AC} {s : St} {r}, runCode cf lf H code s = some r → runCode cf' lf' H code s = some r := by
  intro code
  induction code with
  | skip => intro s r hr; exact hr
  | ops l =>
    intro s r hr
    simp only [runCode, Option.map_eq_some_iff] at hr ⊢
    obtain ⟨s1, h1, h2⟩ := hr
    exact ⟨s1, opsA_up h h1, h2⟩
  | draw l =>
    intro s r hr
    simp only [runCode, Option.map_eq_some_iff] at hr ⊢
    obtain ⟨s1, h1, h2⟩ := hr
    exact ⟨s1, drawA_up h h1, h2⟩
  | seq a b iha ihb =>
    intro s r hr
    simp only [runCode] at hr ⊢
    split at hr
    · rename_i s1 h1
      rw [iha h1]; exact ihb hr
    · rename_i hne
      rw [iha hr]
      obtain ⟨e, s'⟩ := r
      cases e with
      | normal => exact absurd hr (hne s')
      | exit => rfl
      | ret => rfl
  | cond x a b iha ihb =>
    intro s r hr
    simp only [runCode] at hr ⊢
    split at hr
    · split at hr
      · rename_i h1; rw [if_pos h1]; exact iha hr
      · rename_i h1; rw [if_neg h1]; exact ihb hr
    · simp at hr
  | block id a ih =>
    intro s r hr
    simp only [runCode] at hr ⊢
    split at hr
    · rename_i id' s1 h1
      rw [ih h1]; exact hr
    · rename_i hne
      rw [ih hr]
      obtain ⟨e, s'⟩ := r
      cases e with
      | normal => rfl
      | exit id' => exact absurd hr (hne id' s')
      | ret => rfl
  | loop a => intro s r hr; exact hl _ _ _ hr
  | exit id => intro s r hr; exact hr
  | ret => intro s r hr; exact hr

theorem callWith_up (A : Table) {ex ex' : AHeap → AC → St → Res} (h : ExUp ex ex') : CfUp (callWith A ex) (callWith A ex') := by
  intro f args H c r hr
  unfold callWith at hr ⊢
  split at hr
  · split at hr
    · rename_i hl
      rw [if_pos hl]
      split at hr
      · rename_i e s he
        rw [h _ _ _ _ he]; exact hr
      · simp at hr
    · simp at hr
  · exact hr

theorem exec_succ (A : Table) : ∀ n, ExUp (exec A n) (exec A (n + 1)) := by
  intro n
  induction n with
  | zero => intro H code s r hr; simp [exec] at hr
  | succ n ih =>
    intro H code s r hr
    unfold exec at hr ⊢
    refine runCode_up (callWith_up A ih) ?_ hr
    intro a s r h
    split at h
    · rename_i s1 h1
      rw [ih _ _ _ _ h1]; exact ih _ _ _ _ h
    · rename_i hne
      rw [ih _ _ _ _ h]
      obtain ⟨e, s'⟩ := r
      cases e with
      | normal => exact absurd h (hne s')
      | exit => rfl
      | ret => rfl

theorem exec_up (A : Table) {n m : Nat} (h : n ≤ m) : ExUp (exec A n) (exec A m) := by
  induction h with
  | refl => intro _ _ _ _ h; exact h
  | step _ ih => intro H code s r hr; exact exec_succ A _ _ _ _ _ (ih _ _ _ _ hr)

theorem callA_up (A : Table) {n m : Nat} (h : n ≤ m) : CfUp (callA A n) (callA A m) := callWith_up A (exec_up A h)

/-! ### what a call and a run end in -/

def Ev (A : Table) (f : Nat) (args : List Value) (H : AHeap) (c : Nat) (Q : Value → AHeap → Nat → Prop) : Prop :=
  ∃ m v d c', callA A m f args H c = some (v, d, c') ∧ Q v d c'

theorem Ev.mono {A : Table} {f : Nat} {args : List Value} {H : AHeap} {c : Nat} {Q R : Value → AHeap → Nat → Prop} (h : Ev A f args H c Q) (hQ : ∀ v d c', Q v d c' → R v d c') : Ev A f args H c R := by
  obtain ⟨m, v, d, c', h1, h2⟩ := h
  exact ⟨m, v, d, c', h1, hQ _ _ _ h2⟩

def Run (A : Table) (H : AHeap) (code : AC) (s : St) (Q : AExit → St → Prop) : Prop :=
  ∃ n e s', exec A n H code s = some (e, s') ∧ Q e s'

theorem Run.mono {A : Table} {H : AHeap} {code : AC} {s : St} {Q R : AExit → St → Prop} (h : Run A H code s Q) (hQ : ∀ e s', Q e s' → R e s') : Run A H code s R := by
  obtain ⟨n, e, s', h1, h2⟩ := h
  exact ⟨n, e, s', h1, hQ _ _ h2⟩

theorem Ev.of_fn {A : Table} {f : Nat} {fd : AFn} {args : List Value} {H : AHeap} {c : Nat} {Q : Value → AHeap → Nat → Prop} (hf : A.fn f = some fd) (hl : args.length ≤ fd.ntmps)
    (h : Run A H fd.code ⟨initTS args, [], c⟩ fun e s => (e = .normal ∨ e = .ret) ∧ ∃ vs, resultsA (s.u ++ H) s.ts fd.results = some vs ∧ Q (oneOf vs) s.u s.c) : Ev A f args H c Q := by
  obtain ⟨n, e, s', h1, h2, vs, h3, h4⟩ := h
  refine ⟨n, oneOf vs, s'.u, s'.c, ?_, h4⟩
  simp only [callA, callWith, hf, if_pos hl, h1, if_pos h2, h3]

theorem Ev.of_prim {A : Table} {f : Nat} {args : List Value} {H : AHeap} {c : Nat} {v : Value} {Q : Value → AHeap → Nat → Prop} (hf : A.fn f = none) (hp : A.prim f args = some v) (h : Q v [] c) : Ev A f args H c Q :=
  ⟨0, v, [], c, by simp only [callA, callWith, hf, hp], h⟩

section
variable {A : Table} {H : AHeap}

theorem Run.of_code {n : Nat} {code : AC} {s : St} {Q : AExit → St → Prop} {e : AExit} {s' : St}
    (h : runCode (callWith A (exec A n)) (fun body s => match exec A n H body s with | some (.normal, s') => exec A n H (.loop body) s' | r => r) H code s = some (e, s')) (hQ : Q e s') : Run A H code s Q :=
  ⟨n + 1, e, s', h, hQ⟩

/-- A loop: by a number that falls. -/
theorem Run.loop {a : AC} {Q : AExit → St → Prop} (I : Nat → St → Prop)
    (h : ∀ n s, I n s → Run A H a s fun e s' => match e with | .normal => ∃ m, m < n ∧ I m s' | e => Q e s') : ∀ n s, I n s → Run A H (.loop a) s Q := by
  intro n
  induction n using Nat.strongRecOn with
  | ind n ih =>
    intro s hi
    obtain ⟨k, e, s', h1, h2⟩ := h n s hi
    cases e with
    | normal =>
      obtain ⟨m, hm, hi'⟩ := h2
      obtain ⟨k', e', s'', h3, h4⟩ := ih m hm s' hi'
      refine ⟨max k k' + 1, e', s'', ?_, h4⟩
      simp only [exec, runCode]
      rw [exec_up A (Nat.le_max_left k k') _ _ _ _ h1]
      exact exec_up A (Nat.le_max_right k k') _ _ _ _ h3
    | exit id =>
      refine ⟨k + 1, _, s', ?_, h2⟩
      simp only [exec, runCode]
      rw [h1]
    | ret =>
      refine ⟨k + 1, _, s', ?_, h2⟩
      simp only [exec, runCode]
      rw [h1]

end

end Go.Proofs.Ytfcglkajekohiaa.AM
