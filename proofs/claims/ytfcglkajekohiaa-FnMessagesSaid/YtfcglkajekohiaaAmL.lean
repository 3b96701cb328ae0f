/-
  Runs of the plain machine: what they write, and that more blocks do no harm.
-/
import Derived.Test.YtfcglkajekohiaaAmK
set_option linter.unusedSimpArgs false
set_option linter.unusedVariables false
namespace Go.Proofs.Ytfcglkajekohiaa.AM
open Go

/-- From one state to a later one. -/
def Went (H : AHeap) (s s' : St) : Prop :=
  s.c ≤ s'.c ∧ ∃ v, s'.u = v ++ s.u ∧ ∀ k ∈ keys v, (s.c ≤ k ∧ k < s'.c) ∨ ∃ o, get (s.u ++ H) k = some o

theorem Went.refl (H : AHeap) (s s' : St) (h1 : s'.u = s.u) (h2 : s'.c = s.c) : Went H s s' :=
  ⟨by omega, [], by simp [h1], by simp [keys]⟩

theorem Went.trans {H : AHeap} {a b d : St} (h : Went H a b) (k : Went H b d) : Went H a d := by
  obtain ⟨h1, v, hv, hk⟩ := h
  obtain ⟨g1, x, hx, gk⟩ := k
  refine ⟨by omega, x ++ v, by rw [hx, hv]; simp, fun i hi => ?_⟩
  rw [keys_app, List.mem_append] at hi
  rcases hi with hi | hi
  · rcases gk i hi with h | ⟨o, ho⟩
    · exact .inl ⟨by omega, h.2⟩
    · rw [hv, List.append_assoc] at ho
      by_cases hiv : i ∈ keys v
      · rcases hk i hiv with h | h
        · exact .inl ⟨h.1, by omega⟩
        · exact .inr h
      · rw [get_app_keys hiv] at ho; exact .inr ⟨o, ho⟩
  · rcases hk i hi with h | h
    · exact .inl ⟨h.1, by omega⟩
    · exact .inr h

section
variable {cf : CallF} (hn : CallNice cf)
include hn

theorem stepA_nice {H : AHeap} {o : AOper} {s s' : St} (h : stepA cf H o s = some s') : Went H s s' := by
  unfold stepA at h
  split at h
  · simp only [Option.some.injEq] at h; subst h; exact Went.refl _ _ _ rfl rfl
  · split at h
    · simp at h
    · rename_i v d c' hop
      simp only [Option.some.injEq] at h; subst h
      refine ⟨opA_le hn hop, d, rfl, fun k hk => ?_⟩
      rcases opA_keys hn hop k hk with h | h
      · exact .inl h
      · exact .inr h.1

theorem stepA_mono {H K : AHeap} (hs : Sub H K) {o : AOper} {s s' : St} (h : stepA cf H o s = some s') : stepA cf K o s = some s' := by
  unfold stepA at h ⊢
  split at h
  · exact h
  · split at h
    · simp at h
    · rename_i v d c' hop
      rw [opA_mono hn (fun i o _ => hs.app s.u i o) hop]; exact h

theorem opsA_nice {H : AHeap} : ∀ {l : List AOper} {s s' : St}, opsA cf H l s = some s' → Went H s s' := by
  intro l
  induction l with
  | nil => intro s s' h; simp [opsA] at h; subst h; exact Went.refl _ _ _ rfl rfl
  | cons o l ih =>
    intro s s' h
    simp only [opsA] at h
    split at h
    · simp at h
    · rename_i s1 h1
      exact (stepA_nice hn h1).trans (ih h)

theorem opsA_mono {H K : AHeap} (hs : Sub H K) : ∀ {l : List AOper} {s s' : St}, opsA cf H l s = some s' → opsA cf K l s = some s' := by
  intro l
  induction l with
  | nil => intro s s' h; exact h
  | cons o l ih =>
    intro s s' h
    simp only [opsA] at h ⊢
    split at h
    · simp at h
    · rename_i s1 h1
      rw [stepA_mono hn hs h1]; exact ih h

theorem drawStep_mono {H K : AHeap} (hs : Sub H K) {o : AOper} {ps : List Nat} {s : St} {ds : List Did} {r : Value × Did × Nat} (h : drawStep cf H o ps s ds = some r) : drawStep cf K o ps s ds = some r := by
  unfold drawStep at h ⊢
  split at h
  · exact h
  · split at h
    · simp at h
    · rename_i v d c' hop
      rw [opA_mono hn (fun i o _ => hs.app _ i o) hop]; exact h

theorem drawA_mono {H K : AHeap} (hs : Sub H K) : ∀ {l : List (AOper × List Nat)} {s s' : St} {ds : List Did}, drawA cf H l s ds = some s' → drawA cf K l s ds = some s' := by
  intro l
  induction l with
  | nil => intro s s' ds h; exact h
  | cons p l ih =>
    intro s s' ds h
    obtain ⟨o, ps⟩ := p
    simp only [drawA] at h ⊢
    split at h
    · simp at h
    · rename_i v me c' h1
      rw [drawStep_mono hn hs h1]; exact ih h

omit hn in
theorem predDeltas_keys {ds : List Did} {ps : List Nat} {i : Nat} (h : i ∈ keys (predDeltas ds ps)) : ∃ x ∈ ds, i ∈ keys x.d := by
  simp only [keys, predDeltas, List.mem_map, List.mem_flatten] at h
  obtain ⟨e, ⟨l, ⟨p, _, rfl⟩, he⟩, rfl⟩ := h
  cases hp : ds[p]? with
  | none => simp [hp] at he
  | some x =>
    simp [hp] at he
    exact ⟨x, List.mem_of_getElem? hp, by simp only [keys, List.mem_map]; exact ⟨e, he, rfl⟩⟩

theorem drawStep_nice {H : AHeap} {o : AOper} {ps : List Nat} {s : St} {ds : List Did} {v : Value} {me : Did} {c' : Nat} (h : drawStep cf H o ps s ds = some (v, me, c')) :
    s.c ≤ c' ∧ me.lo = s.c ∧ me.hi = c' ∧ ∀ k ∈ keys me.d, (s.c ≤ k ∧ k < c') ∨ ((∃ o, get (predDeltas ds ps ++ H) k = some o) ∧ Looks me.r k) := by
  unfold drawStep at h
  split at h
  · simp only [Option.some.injEq, Prod.mk.injEq] at h
    obtain ⟨_, rfl, rfl⟩ := h
    exact ⟨Nat.le_refl _, rfl, rfl, by simp [keys]⟩
  · split at h
    · simp at h
    · rename_i v1 d c1 hop
      split at h
      · simp only [Option.some.injEq, Prod.mk.injEq] at h
        obtain ⟨rfl, rfl, rfl⟩ := h
        exact ⟨opA_le hn hop, rfl, rfl, opA_keys hn hop⟩
      · simp at h

theorem drawA_nice {H : AHeap} : ∀ {l : List (AOper × List Nat)} {s s' : St} {ds : List Did} {c0 : Nat}, c0 ≤ s.c → (∀ x ∈ ds, ∀ k ∈ keys x.d, (c0 ≤ k ∧ k < s.c) ∨ ∃ o, get H k = some o) → drawA cf H l s ds = some s' →
    s.c ≤ s'.c ∧ ∃ v, s'.u = v ++ s.u ∧ ∀ k ∈ keys v, (c0 ≤ k ∧ k < s'.c) ∨ ∃ o, get H k = some o := by
  intro l
  induction l with
  | nil => intro s s' ds c0 h0 hds h; simp [drawA] at h; subst h; exact ⟨Nat.le_refl _, [], rfl, by simp [keys]⟩
  | cons p l ih =>
    intro s s' ds c0 h0 hds h
    obtain ⟨o, ps⟩ := p
    simp only [drawA] at h
    split at h
    · simp at h
    · rename_i v me c' h1
      obtain ⟨g1, _, _, g4⟩ := drawStep_nice hn h1
      have hme : ∀ k ∈ keys me.d, (c0 ≤ k ∧ k < c') ∨ ∃ o, get H k = some o := by
        intro k hk
        rcases g4 k hk with h | ⟨⟨o, ho⟩, _⟩
        · exact .inl ⟨by omega, h.2⟩
        · by_cases hp : k ∈ keys (predDeltas ds ps)
          · obtain ⟨x, hx, hkx⟩ := predDeltas_keys hp
            rcases hds x hx k hkx with h | h
            · exact .inl ⟨h.1, by omega⟩
            · exact .inr h
          · rw [get_app_keys hp] at ho; exact .inr ⟨o, ho⟩
      obtain ⟨a1, x, hx, a3⟩ := ih (c0 := c0) (by show c0 ≤ c'; omega) (by
        intro y hy k hk
        rw [List.mem_append] at hy
        rcases hy with hy | hy
        · rcases hds y hy k hk with h | h
          · exact .inl ⟨h.1, by show k < c'; omega⟩
          · exact .inr h
        · simp at hy; subst hy; exact hme k hk) h
      refine ⟨by simp only at a1; omega, x ++ me.d, by rw [hx]; simp, fun k hk => ?_⟩
      rw [keys_app, List.mem_append] at hk
      rcases hk with hk | hk
      · exact a3 k hk
      · rcases hme k hk with h | h
        · exact .inl ⟨h.1, by simp only at a1; omega⟩
        · exact .inr h
end

/-- A run is nice. -/
structure RunNice (ex : AHeap → AC → St → Res) : Prop where
  went : ∀ {H code s e s'}, ex H code s = some (e, s') → Went H s s'
  mono : ∀ {H K code s r}, Sub H K → ex H code s = some r → ex K code s = some r

theorem runCode_nice {cf : CallF} (hn : CallNice cf) {lf : AHeap → AC → St → Res} (hl : RunNice lf) : RunNice (fun H code s => runCode cf (lf H) H code s) := by
  constructor
  · intro H code
    induction code with
    | skip => intro s e s' h; simp [runCode] at h; obtain ⟨_, rfl⟩ := h; exact Went.refl _ _ _ rfl rfl
    | ops l =>
      intro s e s' h
      simp only [runCode, Option.map_eq_some_iff, Prod.mk.injEq] at h
      obtain ⟨s1, h1, _, rfl⟩ := h
      exact opsA_nice hn h1
    | draw l =>
      intro s e s' h
      simp only [runCode, Option.map_eq_some_iff, Prod.mk.injEq] at h
      obtain ⟨s1, h1, _, rfl⟩ := h
      obtain ⟨a1, v, a2, a3⟩ := drawA_nice hn (s := ⟨s.ts, [], s.c⟩) (ds := []) (c0 := s.c) (Nat.le_refl s.c) (fun x hx => by cases hx) h1
      exact ⟨a1, v, by have a2' : s1.u = v := a2.trans (List.append_nil v); show s1.u ++ s.u = _; rw [a2'], a3⟩
    | seq a b iha ihb =>
      intro s e s' h
      simp only [runCode] at h
      split at h
      · rename_i s1 h1; exact (iha h1).trans (ihb h)
      · exact iha h
    | cond x a b iha ihb =>
      intro s e s' h
      simp only [runCode] at h
      split at h
      · split at h
        · exact iha h
        · exact ihb h
      · simp at h
    | block id a iha =>
      intro s e s' h
      simp only [runCode] at h
      split at h
      · rename_i id' s1 h1
        have := iha h1
        split at h
        · simp only [Option.some.injEq, Prod.mk.injEq] at h; obtain ⟨_, rfl⟩ := h; exact this
        · simp only [Option.some.injEq, Prod.mk.injEq] at h; obtain ⟨_, rfl⟩ := h; exact this
      · exact iha h
    | loop a iha => intro s e s' h; exact hl.went h
    | exit id => intro s e s' h; simp [runCode] at h; obtain ⟨_, rfl⟩ := h; exact Went.refl _ _ _ rfl rfl
    | ret => intro s e s' h; simp [runCode] at h; obtain ⟨_, rfl⟩ := h; exact Went.refl _ _ _ rfl rfl
  · intro H K code s r hs
    induction code generalizing s r with
    | skip => intro h; exact h
    | ops l =>
      intro h
      simp only [runCode, Option.map_eq_some_iff] at h ⊢
      obtain ⟨s1, h1, h2⟩ := h
      exact ⟨s1, opsA_mono hn hs h1, h2⟩
    | draw l =>
      intro h
      simp only [runCode, Option.map_eq_some_iff] at h ⊢
      obtain ⟨s1, h1, h2⟩ := h
      exact ⟨s1, drawA_mono hn (hs.app _) h1, h2⟩
    | seq a b iha ihb =>
      intro h
      simp only [runCode] at h ⊢
      split at h
      · rename_i s1 h1; rw [iha h1]; exact ihb h
      · rename_i h1
        rw [iha h]
        split
        · rename_i s1 h2; exact absurd (h.trans h2) (h1 s1)
        · rfl
    | cond x a b iha ihb =>
      intro h
      simp only [runCode] at h ⊢
      split at h
      · split at h
        · rename_i ht; simp only [if_pos ht]; exact iha h
        · rename_i ht; simp only [if_neg ht]; exact ihb h
      · simp at h
    | block id a iha =>
      intro h
      simp only [runCode] at h ⊢
      split at h
      · rename_i id' s1 h1
        rw [iha h1]; exact h
      · rename_i h1
        rw [iha h]
        split
        · rename_i id' s1 h2; exact absurd (h.trans h2) (h1 id' s1)
        · rfl
    | loop a iha => intro h; exact hl.mono hs h
    | exit id => intro h; exact h
    | ret => intro h; exact h

theorem resultA_mono {H K : AHeap} (hs : Sub H K) {ts : TS} {r : RV} {v : Value} (h : resultA H ts r = some v) : resultA K ts r = some v := by
  cases r with
  | tmp t => exact h
  | cell g n t =>
    simp only [resultA] at h ⊢
    split at h
    · rename_i v1 d c hop
      have hnice : CallNice (fun _ _ _ _ => none) := ⟨fun h => by simp at h, fun _ h => by simp at h, fun h => by simp at h⟩
      rw [opA_mono hnice (fun i o _ => hs i o) hop]; exact h
    · simp at h

theorem resultsA_mono {H K : AHeap} (hs : Sub H K) {ts : TS} : ∀ {l : List RV} {vs : List Value}, resultsA H ts l = some vs → resultsA K ts l = some vs := by
  intro l
  induction l with
  | nil => intro vs h; exact h
  | cons r l ih =>
    intro vs h
    simp only [resultsA] at h ⊢
    split at h
    · rename_i v vs' h1 h2
      rw [resultA_mono hs h1, ih h2]; exact h
    · simp at h

theorem callWith_nice (A : Table) {ex : AHeap → AC → St → Res} (hx : RunNice ex) : CallNice (callWith A ex) := by
  constructor
  · intro f args H c v d c' h
    unfold callWith at h
    split at h
    · split at h
      · split at h
        · rename_i e s hs
          split at h
          · split at h
            · simp only [Option.some.injEq, Prod.mk.injEq] at h
              obtain ⟨_, _, rfl⟩ := h
              exact (hx.went hs).1
            · simp at h
          · simp at h
        · simp at h
      · simp at h
    · split at h
      · simp only [Option.some.injEq, Prod.mk.injEq] at h; omega
      · simp at h
  · intro f args H K c r hs h
    unfold callWith at h ⊢
    split at h
    · rename_i fd hfd
      split at h
      · rename_i hl
        rw [if_pos hl]
        split at h
        · rename_i e s hr
          rw [hx.mono hs hr]
          simp only
          split at h
          · rename_i he
            rw [if_pos he]
            split at h
            · rename_i vs hvs
              rw [resultsA_mono (hs.app _) hvs]; exact h
            · simp at h
          · simp at h
        · simp at h
      · simp at h
    · exact h
  · intro f args H c v d c' h
    unfold callWith at h
    split at h
    · split at h
      · split at h
        · rename_i e s hs
          split at h
          · split at h
            · simp only [Option.some.injEq, Prod.mk.injEq] at h
              obtain ⟨_, rfl, rfl⟩ := h
              obtain ⟨_, v, hv, hk⟩ := hx.went hs
              simp only [List.append_nil, List.nil_append] at hv hk
              rw [hv]; exact hk
            · simp at h
          · simp at h
        · simp at h
      · simp at h
    · split at h
      · simp only [Option.some.injEq, Prod.mk.injEq] at h
        obtain ⟨_, rfl, _⟩ := h; simp [keys]
      · simp at h

theorem exec_nice (A : Table) : ∀ n, RunNice (exec A n) := by
  intro n
  induction n with
  | zero => exact ⟨fun h => by simp [exec] at h, fun _ h => by simp [exec] at h⟩
  | succ n ih =>
    have hl : RunNice (fun H body s => match exec A n H body s with
        | some (.normal, s') => exec A n H (.loop body) s'
        | r => r) := by
      constructor
      · intro H code s e s' h
        split at h
        · rename_i s1 h1; exact (ih.went h1).trans (ih.went h)
        · exact ih.went h
      · intro H K code s r hs h
        split at h
        · rename_i s1 h1; rw [ih.mono hs h1]; exact ih.mono hs h
        · rename_i h1
          rw [ih.mono hs h]
          split
          · rename_i s1 h2; exact absurd (h.trans h2) (h1 s1)
          · rfl
    have := runCode_nice (callWith_nice A ih) hl
    exact ⟨fun h => this.went h, fun hs h => this.mono hs h⟩

theorem callA_nice (A : Table) (n : Nat) : CallNice (callA A n) := callWith_nice A (exec_nice A n)

end Go.Proofs.Ytfcglkajekohiaa.AM
