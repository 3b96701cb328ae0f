/-
  What the plain machine's steps hang on: blocks that are read, numbers, temporaries.
-/
import Derived.Test.YtfcglkajekohiaaAmB
set_option linter.unusedSimpArgs false
set_option linter.unusedVariables false
namespace Go.Proofs.Ytfcglkajekohiaa.AM
open Go

/-- What one heap has, the other has. -/
def Sub (H K : AHeap) : Prop := ∀ i o, get H i = some o → get K i = some o

theorem Sub.refl (H : AHeap) : Sub H H := fun _ _ h => h

theorem get_app (u H : AHeap) (i : Nat) : get (u ++ H) i = match find u i with | some o => o | none => get H i := by
  induction u with
  | nil => simp [find]
  | cons x u ih =>
    obtain ⟨k, o⟩ := x
    simp only [List.cons_append, get, find]
    by_cases h : k = i
    · simp [h]
    · simp only [if_neg h]; exact ih

theorem Sub.app {H K : AHeap} (h : Sub H K) (u : AHeap) : Sub (u ++ H) (u ++ K) := by
  intro i o hi
  rw [get_app] at hi ⊢
  cases hf : find u i with
  | some x => rw [hf] at hi; exact hi
  | none => rw [hf] at hi; exact h i o hi

theorem find_keys {u : AHeap} {i : Nat} (h : i ∉ keys u) : find u i = none := by
  induction u with
  | nil => rfl
  | cons x u ih =>
    obtain ⟨k, o⟩ := x
    simp only [keys, List.map_cons, List.mem_cons, not_or] at h
    simp only [find]
    rw [if_neg (fun e => h.1 e.symm)]
    exact ih h.2

theorem get_app_keys {u H : AHeap} {i : Nat} (h : i ∉ keys u) : get (u ++ H) i = get H i := by
  rw [get_app, find_keys h]

theorem keys_app (u v : AHeap) : keys (u ++ v) = keys u ++ keys v := by simp [keys]

structure CallNice (cf : CallF) : Prop where
  le : ∀ {f args H c v d c'}, cf f args H c = some (v, d, c') → c ≤ c'
  mono : ∀ {f args H K c r}, Sub H K → cf f args H c = some r → cf f args K c = some r
  keys : ∀ {f args H c v d c'}, cf f args H c = some (v, d, c') → ∀ k ∈ keys d, (c ≤ k ∧ k < c') ∨ ∃ o, get H k = some o

/-- What an operation may look at. -/
def Looks (l : Option (List Nat)) (i : Nat) : Prop := ∀ l', l = some l' → i ∈ l'

theorem sliceCells_mono {H K : AHeap} (h : ∀ i o, get H i = some o → get K i = some o) {es : Nat} {v : Value} {r : List Value} (hr : sliceCells H es v = some r) : sliceCells K es v = some r := by
  unfold sliceCells at hr ⊢
  split at hr
  · exact hr
  · split at hr
    · rename_i h0; rw [if_pos h0]; exact hr
    · rename_i h0
      rw [if_neg h0]
      split at hr
      · rename_i o ho; rw [h _ _ ho]; exact hr
      · simp at hr
  · simp at hr

theorem addedCells_mono {H K : AHeap} (h : ∀ i o, get H i = some o → get K i = some o) {es : Nat} {v : Value} {r : List Value} (hr : addedCells H es v = some r) : addedCells K es v = some r := by
  unfold addedCells at hr ⊢
  split at hr
  · exact hr
  · exact sliceCells_mono h hr

theorem killOf_mono {H K : AHeap} (h : ∀ i o, get H i = some o → get K i = some o) {es : Nat} {v : Value} {r : List Nat} (hr : killOf H es v = some r) : killOf K es v = some r := by
  unfold killOf at hr ⊢
  split at hr
  · exact hr
  · split at hr
    · rename_i o ho; rw [h _ _ ho]; exact hr
    · simp at hr
  · simp at hr

theorem killOf_live {H : AHeap} {es : Nat} {v : Value} {r : List Nat} (hr : killOf H es v = some r) : ∀ k ∈ r, ∃ o, get H k = some o := by
  unfold killOf at hr
  split at hr
  · simp at hr; subst hr; simp
  · split at hr
    · rename_i o ho
      split at hr
      · simp at hr; subst hr; intro k hk; simp at hk; subst hk; exact ⟨o, ho⟩
      · simp at hr
    · simp at hr
  · simp at hr

section
variable {cf : CallF}

theorem opA_mono (hn : CallNice cf) {ts : TS} {H K : AHeap} {c : Nat} {op : AOp} {r : Value × AHeap × Nat}
    (h : ∀ i o, Looks (reads ts op) i → get H i = some o → get K i = some o) (hr : opA cf ts H c op = some r) : opA cf ts K c op = some r := by
  have hall : reads ts op = none → ∀ i o, get H i = some o → get K i = some o := fun hnone i o => h i o (by intro l' hl'; rw [hnone] at hl'; simp at hl')
  cases op with
  | load g n a =>
    simp only [opA] at hr ⊢
    split at hr
    · rename_i p hp
      split at hr
      · rename_i o ho
        have : get K p.block = some o := h _ _ (by intro l' hl'; simp only [reads, hp, Option.some.injEq] at hl'; subst hl'; simp) ho
        rw [this]; exact hr
      · simp at hr
    · simp at hr
  | store n a v =>
    simp only [opA] at hr ⊢
    split at hr
    · rename_i p hp
      split at hr
      · rename_i o ho
        have : get K p.block = some o := h _ _ (by intro l' hl'; simp only [reads, hp, Option.some.injEq] at hl'; subst hl'; simp) ho
        rw [this]; exact hr
      · simp at hr
    · simp at hr
  | convB2S x =>
    simp only [opA] at hr ⊢
    split at hr
    · rename_i s hs
      obtain ⟨cs, h1, h2⟩ := Option.bind_eq_some_iff.mp hs
      rw [sliceCells_mono (hall rfl) h1]
      simp only [Option.bind_some, h2]; exact hr
    · simp at hr
  | append es b z s x =>
    simp only [opA] at hr ⊢
    split at hr
    · rename_i n b l cp hn' hs
      split at hr
      · rename_i h0; rw [if_pos h0]; exact hr
      · rename_i h0
        rw [if_neg h0]
        split at hr
        · rename_i old new kill h1 h2 h3
          rw [sliceCells_mono (hall rfl) h1, addedCells_mono (hall rfl) h2, killOf_mono (hall rfl) h3]
          exact hr
        · simp at hr
    · simp at hr
  | call f args =>
    simp only [opA] at hr ⊢
    exact hn.mono (hall rfl) hr
  | _ => exact hr

theorem opA_le (hn : CallNice cf) {ts : TS} {H : AHeap} {c : Nat} {op : AOp} {v : Value} {d : AHeap} {c' : Nat} (hr : opA cf ts H c op = some (v, d, c')) : c ≤ c' := by
  cases op <;> simp only [opA] at hr
  case call f args => exact hn.le hr
  all_goals (first
    | (simp only [Option.some.injEq, Prod.mk.injEq] at hr; omega)
    | (simp only [Option.map_eq_some_iff, Prod.mk.injEq] at hr; obtain ⟨_, _, _, _, rfl⟩ := hr; exact Nat.le_refl _)
    | ((repeat' split at hr) <;> first | (simp only [Option.some.injEq, Prod.mk.injEq] at hr; omega) | (simp at hr)))

theorem opA_keys (hn : CallNice cf) {ts : TS} {H : AHeap} {c : Nat} {op : AOp} {v : Value} {d : AHeap} {c' : Nat} (hr : opA cf ts H c op = some (v, d, c')) :
    ∀ k ∈ keys d, (c ≤ k ∧ k < c') ∨ ((∃ o, get H k = some o) ∧ Looks (reads ts op) k) := by
  have none_case : d = [] → ∀ k ∈ keys d, (c ≤ k ∧ k < c') ∨ ((∃ o, get H k = some o) ∧ Looks (reads ts op) k) := by
    intro e k hk; subst e; simp [keys] at hk
  have one_case : ∀ o, d = [(c, o)] → c' = c + 1 → ∀ k ∈ keys d, (c ≤ k ∧ k < c') ∨ ((∃ o, get H k = some o) ∧ Looks (reads ts op) k) := by
    intro o e e2 k hk; subst e; subst e2; simp [keys] at hk; subst hk; exact .inl ⟨Nat.le_refl _, by omega⟩
  cases op with
  | call f args =>
    simp only [opA] at hr
    intro k hk
    rcases hn.keys hr k hk with h | h
    · exact .inl h
    · exact .inr ⟨h, fun l' hl' => by simp [reads] at hl'⟩
  | store n a x =>
    simp only [opA] at hr
    split at hr
    · rename_i p hp
      split at hr
      · rename_i o ho
        split at hr
        · simp only [Option.some.injEq, Prod.mk.injEq] at hr
          obtain ⟨_, rfl, _⟩ := hr
          intro k hk
          simp [keys] at hk; subst hk
          exact .inr ⟨⟨o, ho⟩, by intro l' hl'; simp only [reads, hp, Option.some.injEq] at hl'; subst hl'; simp⟩
        · simp at hr
      · simp at hr
    · simp at hr
  | append es b z s x =>
    simp only [opA] at hr
    split at hr
    · split at hr
      · simp only [Option.some.injEq, Prod.mk.injEq] at hr; exact none_case hr.2.1.symm
      · split at hr
        · rename_i old new kill h1 h2 h3
          split at hr
          · simp only [Option.some.injEq, Prod.mk.injEq] at hr
            obtain ⟨_, rfl, rfl⟩ := hr
            intro k hk
            simp only [keys, List.map_cons, List.mem_cons, List.map_map] at hk
            rcases hk with rfl | hk
            · exact .inl ⟨Nat.le_refl _, by omega⟩
            · simp at hk
              exact .inr ⟨killOf_live h3 k hk, fun l' hl' => by simp [reads] at hl'⟩
          · simp at hr
        · simp at hr
    · simp at hr
  | new cs =>
    simp only [opA, Option.some.injEq, Prod.mk.injEq] at hr
    exact one_case _ hr.2.1.symm hr.2.2.symm
  | box x =>
    simp only [opA] at hr
    split at hr
    · simp only [Option.some.injEq, Prod.mk.injEq] at hr; exact one_case _ hr.2.1.symm hr.2.2.symm
    · simp at hr
  | arr es z l ps =>
    simp only [opA] at hr
    split at hr
    · simp only [Option.some.injEq, Prod.mk.injEq] at hr; exact one_case _ hr.2.1.symm hr.2.2.symm
    · simp at hr
  | convS2B x =>
    simp only [opA] at hr
    split at hr
    · simp only [Option.some.injEq, Prod.mk.injEq] at hr; exact one_case _ hr.2.1.symm hr.2.2.symm
    · simp at hr
  | mkSlice es b z l m =>
    simp only [opA] at hr
    split at hr
    · split at hr
      · simp only [Option.some.injEq, Prod.mk.injEq] at hr; exact one_case _ hr.2.1.symm hr.2.2.symm
      · simp at hr
    · simp at hr
  | _ =>
    simp only [opA] at hr
    first
      | (simp only [Option.some.injEq, Prod.mk.injEq] at hr; exact none_case hr.2.1.symm)
      | (simp only [Option.map_eq_some_iff, Prod.mk.injEq] at hr; obtain ⟨_, _, _, h, _⟩ := hr; exact none_case h.symm)
      | ((repeat' split at hr) <;> first | (simp only [Option.some.injEq, Prod.mk.injEq] at hr; exact none_case hr.2.1.symm) | (simp at hr))

theorem ev_congr {ts ts' : TS} {x : Opnd} (h : ∀ t ∈ opndTmps [x], ts t = ts' t) : ev ts x = ev ts' x := by
  cases x with
  | tmp t => exact h t (by simp [opndTmps])
  | const v => rfl

theorem opndTmps_mem {l : List Opnd} {x : Opnd} (hx : x ∈ l) {t : Nat} (ht : t ∈ opndTmps [x]) : t ∈ opndTmps l := by
  simp only [opndTmps, List.mem_filterMap] at ht ⊢
  obtain ⟨y, hy, h⟩ := ht
  simp at hy; subst hy
  exact ⟨y, hx, h⟩

theorem ev_of {ts ts' : TS} {l : List Opnd} (h : ∀ t ∈ opndTmps l, ts t = ts' t) {x : Opnd} (hx : x ∈ l) : ev ts x = ev ts' x :=
  ev_congr fun t ht => h t (opndTmps_mem hx ht)

theorem map_ev {ts ts' : TS} {l : List Opnd} (h : ∀ t ∈ opndTmps l, ts t = ts' t) : l.map (ev ts) = l.map (ev ts') :=
  List.map_congr_left fun _ hx => ev_of h hx

theorem opt_ev {ts ts' : TS} {l : List Opnd} (h : ∀ t ∈ opndTmps l, ts t = ts' t) {o : Option Opnd} (ho : ∀ x ∈ o.toList, x ∈ l) : o.map (ev ts) = o.map (ev ts') := by
  cases o with
  | none => rfl
  | some x => simp only [Option.map_some]; rw [ev_of h (ho x (by simp))]

theorem opA_congr {ts ts' : TS} {op : AOp} (h : ∀ t ∈ opndTmps (opOpnds op), ts t = ts' t) (H : AHeap) (c : Nat) : opA cf ts H c op = opA cf ts' H c op ∧ reads ts op = reads ts' op := by
  cases op with
  | build z ps =>
    have e : (ps.map fun p => (p.1, p.2.1, ev ts p.2.2)) = ps.map fun p => (p.1, p.2.1, ev ts' p.2.2) :=
      List.map_congr_left fun p hp => by rw [ev_of h (show p.2.2 ∈ opOpnds (.build z ps) by simp only [opOpnds]; exact List.mem_map_of_mem hp)]
    simp only [opA, e, reads, and_self]
  | arr es z l ps =>
    have e : (ps.map fun p => (p.1, p.2.1, ev ts p.2.2)) = ps.map fun p => (p.1, p.2.1, ev ts' p.2.2) :=
      List.map_congr_left fun p hp => by rw [ev_of h (show p.2.2 ∈ opOpnds (.arr es z l ps) by simp only [opOpnds]; exact List.mem_map_of_mem hp)]
    simp only [opA, e, reads, and_self]
  | call f args => simp only [opA, map_ev (l := args) h, reads, and_self]
  | minmax m x r =>
    have e1 : ev ts x = ev ts' x := ev_of h (by simp [opOpnds])
    have e2 : r.map (ev ts) = r.map (ev ts') := List.map_congr_left fun y hy => ev_of h (by simp [opOpnds, hy])
    simp only [opA, e1, e2, reads, and_self]
  | sliceS x lo hi =>
    have e1 : ev ts x = ev ts' x := ev_of h (by simp [opOpnds])
    have e2 := opt_ev h (o := lo) (fun y hy => by simp [opOpnds]; exact .inr (.inl (by simpa using hy)))
    have e3 := opt_ev h (o := hi) (fun y hy => by simp [opOpnds]; exact .inr (.inr (by simpa using hy)))
    simp only [opA, e1, e2, e3, reads, and_self]
  | sliceA es x lo hi =>
    have e1 : ev ts x = ev ts' x := ev_of h (by simp [opOpnds])
    have e2 := opt_ev h (o := lo) (fun y hy => by simp [opOpnds]; exact .inr (.inl (by simpa using hy)))
    have e3 := opt_ev h (o := hi) (fun y hy => by simp [opOpnds]; exact .inr (.inr (by simpa using hy)))
    simp only [opA, e1, e2, e3, reads, and_self]
  | new cs => simp only [opA, reads, and_self]
  | pick a b d =>
    have e1 : ev ts a = ev ts' a := ev_of h (by simp [opOpnds])
    have e2 : ev ts b = ev ts' b := ev_of h (by simp [opOpnds])
    have e3 : ev ts d = ev ts' d := ev_of h (by simp [opOpnds])
    simp only [opA, e1, e2, e3, reads, and_self]
  | mov x | box x | nilChk x | un _ x | convInt _ x | convStr x | convS2B x | convB2S x | fieldAddr _ x | field _ _ _ x | extract _ x | len _ x | load _ _ x =>
    have e1 : ev ts x = ev ts' x := ev_of h (by simp [opOpnds])
    simp only [opA, e1, reads, and_self]
  | store _ x y | bin _ _ x y | mkSlice _ _ _ x y | idxAddr _ x y | idxStr x y | append _ _ _ x y =>
    have e1 : ev ts x = ev ts' x := ev_of h (by simp [opOpnds])
    have e2 : ev ts y = ev ts' y := ev_of h (by simp [opOpnds])
    simp only [opA, e1, e2, reads, and_self]

end
end Go.Proofs.Ytfcglkajekohiaa.AM
