/-
  What append does in the model.
-/
import Derived.Test.YtfcglkajekohiaaAmH
set_option linter.unusedSimpArgs false
set_option linter.unusedVariables false
namespace Go.Proofs.Ytfcglkajekohiaa.AM
open Go

section
variable {φ : Inj} {w0 w : World} {H : AHeap} {P : Program}

theorem cells_drew {a : Addr} {n : Nat} {ds : Array Value} (h : (loadCells a n).run P w = .ok ds w) : (loadCells a n).run P w.drew = .ok ds w.drew := by
  have key : ∀ (n i : Nat) (acc : Array Value) (r : Result (Array Value)), (loadCellsFrom a i n acc).run P w = r →
      ∀ ds, r = .ok ds w → (loadCellsFrom a i n acc).run P w.drew = .ok ds w.drew := by
    intro n
    induction n with
    | zero => intro i acc r hr ds hd; subst hr; simp [loadCellsFrom] at hd ⊢; exact hd
    | succ n ih =>
      intro i acc r hr ds hd
      subst hr
      simp only [loadCellsFrom, Sem.run_bind, run_load] at hd ⊢
      have hc : w.drew.cell? (a.add i) = w.cell? (a.add i) := rfl
      rw [hc]
      cases hcell : w.cell? (a.add i) with
      | some v =>
        rw [hcell] at hd
        simp only [Result.andThen_ok] at hd ⊢
        exact ih _ _ _ rfl ds hd
      | none =>
        rw [hcell] at hd
        have hf : World.farLoad P w.drew (a.add i) (Mode.plain == Mode.atomic) = World.farLoad P w (a.add i) (Mode.plain == Mode.atomic) := rfl
        rw [hf]
        cases hfl : World.farLoad P w (a.add i) (Mode.plain == Mode.atomic) with
        | ok x =>
          rw [hfl] at hd
          simp only [Result.andThen_ok] at hd ⊢
          exact ih _ _ _ rfl ds hd
        | error e => rw [hfl] at hd; simp at hd
  exact key n 0 #[] _ rfl ds h

theorem first_drew {es n : Nat} {v : Value} {ds : Array Value} (h : (Builtin.firstCells es n v).run P w = .ok ds w) : (Builtin.firstCells es n v).run P w.drew = .ok ds w.drew := by
  unfold Builtin.firstCells at h ⊢
  split at h
  · exact cells_drew h
  · simp at h; subst h; rfl
  · simp only [Sem.run_pure, Result.ok.injEq, and_true] at h; subst h; rfl
  · simp at h

theorem s_append (hR : Rel φ w0 w H) {c : Nat} (hc : φ c = none) {t0 t1 e : TypeId} {d1 : TypeDesc} (ht0 : P.underlying t0 = some (.slice e)) (ht1 : P.underlying t1 = some d1) (hd1 : (∃ k, d1 = .slice k) ∨ d1 = .string)
    {z : Nat × List Value} (hz : zeroT P e = some z) (hz0 : 0 < z.1) {argTypes : Array TypeId} (ha0 : argTypes[0]? = some t0) (ha1 : argTypes[1]? = some t1) {ty : TypeId}
    {b : Option Addr} {l cp : Nat} {s' x x' : Value} (hs : VR φ (.slice b l cp) s') (hx : VR φ x x') {n : Nat} (hn : lenA x = some n) (hn0 : n ≠ 0)
    {old new : List Value} {kill : List Nat} (hold : sliceCells H z.1 (.slice b l cp) = some old) (hnew : addedCells H z.1 x = some new) (hkill : killOf H z.1 (.slice b l cp) = some kill)
    (hb1 : (l + n) * P.bytesOf e ≤ maxBytes) (hb2 : l + n ≤ maxBytes) (hzl : z.2.length = z.1) (hnl : new.length = n * z.1) (hol : old.length = l * z.1) :
    ∃ w' φ' r', (Builtin.append_ argTypes ty #[s', x']).run P w = .ok r' w' ∧ VR φ' (.slice (some ⟨c, 0, none⟩) (l + n) z.1) r' ∧
      Rel φ' w0 w' ((c, some ⟨old ++ new, z.1, false⟩) :: (kill.map fun k => (k, none)) ++ H) ∧ ExtBy φ φ' c (c + 1) := by
  obtain ⟨es, zz⟩ := z
  simp only at hz0 hold hnew hkill hzl hnl hol
  have hsz := zeroT_size hz
  obtain ⟨i, _, hi, _⟩ := zeroT_parts hz
  have hbytes : P.bytesOf e = i.bytes := by simp [Program.bytesOf, hi]
  rw [hbytes] at hb1
  obtain ⟨sb, sl, scap, ods, rfl, hsl, horun, hods⟩ := s_cells (P := P) hR hs hold
  simp [lenA] at hsl; subst hsl
  obtain ⟨nds, hxl, hnrun, hnds⟩ := added_run (P := P) hR hx hnew hn
  have hods2 : ods.size = l * es := by have := hods.1; simp at this; omega
  have hnds2 : nds.size = n * es := by have := hnds.1; simp at this; omega
  have hnn : 1 ≤ n := by omega
  -- the model's head
  have hhead : (Builtin.append_ argTypes ty #[.slice sb l scap, x']).run P w =
      (if l + n ≤ scap then
        (do let new ← Builtin.firstCells es n x'
            if let some a := sb then storeCells (a.add (l * es)) new.toList
            pure (.slice sb (l + n) scap) : Sem Value).run P w
      else
        (do let newCap ← choose (.appendCap (l + n) scap e)
            askRoom (newCap * i.bytes)
            let old ← Builtin.firstCells es l (.slice sb l scap)
            let new ← Builtin.firstCells es n x'
            let rest := Builtin.zeroCells (← zeroValue e).cells (newCap - (l + n))
            pure (.slice (some (← newRow e (old ++ new ++ rest))) (l + n) newCap) : Sem Value).run P w) := by
    have hg1 : ¬ (((l + n : Nat) : Int) > IntKind.i64.max ∧ (False ∨ i.bytes = 0)) := by
      intro h
      have : IntKind.i64.max = 9223372036854775807 := by decide
      unfold maxBytes at hb2
      omega
    unfold Builtin.append_
    rcases hd1 with ⟨k1, rfl⟩ | rfl
    all_goals
     simp only [ha0, ha1, List.getElem?_toArray, List.getElem?_cons_zero, List.getElem?_cons_succ, Sem.run_bind, run_underlying ht0, run_underlying ht1, Result.andThen_ok, run_sizeOf hsz, Sem.run_pure, Bool.false_eq_true, if_false, hxl, Bool.not_false, if_true]
     by_cases hfit : l + n ≤ scap
     · rw [if_pos hfit]
       simp only [Sem.run_ite, if_pos hfit]
       cases sb <;> simp [hnrun]
     · rw [if_neg hfit]
       have hcap : scap < l + n := by omega
       have hnext := next_le hcap
       have hg2 : ¬ (Builtin.nextslicecap (l + n) scap * i.bytes > 2 ^ 48) := by
         have h1 : Builtin.nextslicecap (l + n) scap * i.bytes ≤ 16 * (l + n + 768) * i.bytes := Nat.mul_le_mul_right _ hnext
         have h2 : i.bytes ≤ (l + n) * i.bytes := Nat.le_mul_of_pos_left _ (by omega)
         have h3 : 16 * (l + n + 768) * i.bytes = 16 * ((l + n) * i.bytes) + 12288 * i.bytes := by
           rw [Nat.mul_assoc, Nat.add_mul]; omega
         unfold maxBytes at hb1
         omega
       simp only [Sem.run_ite, if_neg hfit, Sem.run_bind, run_typeInfo hi, Result.andThen_ok]
       rw [if_neg (by simpa using hg1), if_neg hg2]
       simp
  rw [hhead]
  by_cases hfit : l + n ≤ scap
  · -- there is room
    rw [if_pos hfit]
    cases b with
    | none =>
      obtain ⟨rfl, h0⟩ := hs.snil_inv
      simp at h0
      omega
    | some a =>
      obtain ⟨bb, c', ex, hsp, he, hce, hl, hcc, heq⟩ := hs.slice_inv
      simp only [Value.slice.injEq] at heq
      obtain ⟨rfl, _, rfl⟩ := heq
      rcases hcc with h0 | ⟨rfl, hsize⟩
      · omega
      · unfold killOf at hkill
        simp only at hkill
        split at hkill
        · rename_i o ho
          split at hkill
          · rename_i hcond
            obtain ⟨hro, hoes, _⟩ := hcond
            simp at hkill; subst hkill
            obtain ⟨e1, cs, el, fr, h1, h2, h3, h4, h5, h6, h7⟩ := hR.live _ _ ho
            rw [he] at h1; cases h1
            have hexes : ex.es = es := by rw [h2, hoes]
            rw [hexes] at hsize
            have hroom : (l + n) * es ≤ scap * es := Nat.mul_le_mul_right _ hfit
            have hadd : (l + n) * es = l * es + n * es := Nat.add_mul _ _ _
            have hone : ∀ v ∈ nds.toList, v.oneCell' = true := by
              intro v hv
              obtain ⟨j, hj⟩ := List.getElem?_of_mem hv
              have hj2 : j < new.length := by
                rw [hnds.1]
                rcases Nat.lt_or_ge j nds.toList.length with h | h
                · exact h
                · simp [List.getElem?_eq_none h] at hj
              exact (hnds.2 j _ v (List.getElem?_eq_getElem hj2) hj).isCell.2
            obtain ⟨w', cs', hr, hh, hsz', hk, hsb⟩ := run_storeCells (P := P) (b := ex.blk) (o := ex.base + a.off + l * es) nds.toList 0 w cs h3 (by simp [hnds2]; omega) (by rw [h4]; exact (h6 hro).2) hone
            have hto := hR.takeOver (o' := ⟨old ++ new, es, false⟩) (off := a.off) hc ho hro he hsb h3 hh hsz' (by simp [hoes]) (by simp [hol, hnl]; omega) (by
              intro j v hv
              rw [hk]
              simp only [List.getElem?_append] at hv
              simp only [Array.length_toList, Nat.add_zero]
              by_cases hj : j < old.length
              · rw [if_pos hj] at hv
                rw [if_neg (by omega)]
                obtain ⟨y, hy, hvy⟩ := hods.get hv
                -- the old cells, as they were loaded
                have hol2 := horun l rfl
                simp only [Builtin.firstCells] at hol2
                rw [run_loadCells h3 (by omega)] at hol2
                simp only [Result.ok.injEq, and_true] at hol2
                rw [← hol2] at hy
                rw [Array.getElem?_toList, Array.getElem?_extract, if_pos (by omega)] at hy
                exact ⟨y, hy, hvy⟩
              · rw [if_neg hj] at hv
                have hjn : j - old.length < new.length := by
                  rcases Nat.lt_or_ge (j - old.length) new.length with h | h
                  · exact h
                  · simp [List.getElem?_eq_none h] at hv
                rw [if_pos (by rw [hnds2]; omega)]
                obtain ⟨y, hy, hvy⟩ := hnds.get hv
                refine ⟨y, ?_, hvy⟩
                rw [← hy]; congr 1; omega)
            refine ⟨w', _, .slice (some ⟨ex.blk, ex.base + a.off, none⟩) (l + n) scap, ?_, .of_cell ?_, hto, Inj.set_ext hc⟩
            · simp only [Sem.run_bind, hnrun, Result.andThen_ok, add_none]
              rw [show ex.base + a.off + l * es = ex.base + a.off + l * es from rfl] at hr
              simp only [hr, Result.andThen_ok, Sem.run_pure]
            · refine .slice ⟨c, 0, none⟩ _ (l + n) es scap ⟨ex.blk, ex.base + a.off, ex.size, ex.es⟩ rfl (Inj.set_same _ _ _) hexes.symm hfit (.inr ⟨rfl, ?_⟩)
              simp only [hexes]; omega
          · simp at hkill
        · simp at hkill
  · -- a new array
    rw [if_neg hfit]
    obtain ⟨cap, hcap⟩ : ∃ cap, cap = (Question.appendCap (l + n) scap e).cut (w.tape w.drawn (.appendCap (l + n) scap e)) := ⟨_, rfl⟩
    have hcs : l + n ≤ cap := by rw [hcap]; simp [Question.cut]
    obtain ⟨zv, hzv, hzvz⟩ := run_zero (w := w.drew) hz
    have hzsz : zv.cells.size = es := by
      have : zv.cells.toList.length = es := by rw [hzvz]; exact hzl
      simpa using this
    obtain ⟨ds, hds⟩ : ∃ ds : Array Value, ds = ods ++ nds ++ Builtin.zeroCells zv.cells (cap - (l + n)) := ⟨_, rfl⟩
    have hdsz : ds.size = cap * es := by
      rw [hds]
      simp only [Array.size_append, hods2, hnds2, Builtin.zeroCells, Array.size_map, Array.size_range, hzsz]
      rw [← Nat.add_mul, ← Nat.add_mul]; congr 1; omega
    have hRk : Rel φ w0 w.drew ((kill.map fun k => (k, none)) ++ H) := by
      have : Rel φ w0 w.drew H := hR.drew
      unfold killOf at hkill
      split at hkill
      · simp at hkill; subst hkill; simpa using this
      · split at hkill
        · split at hkill
          · simp at hkill; subst hkill; simpa using this.kill _
          · simp at hkill
        · simp at hkill
      · simp at hkill
    have hle : (l + n) * es ≤ cap * es := Nat.mul_le_mul_right _ hcs
    have hadd : (l + n) * es = l * es + n * es := Nat.add_mul _ _ _
    have key := s_newArr (t := e) (fr := (0, 0)) hRk hc es (cs := old ++ new) (ds := ds) (by simp only [List.length_append, hol, hnl, hdsz]; omega) (fun j v hv => by
      simp only [List.getElem?_append] at hv
      rw [hds]
      by_cases hj : j < old.length
      · rw [if_pos hj] at hv
        obtain ⟨y, hy, hvy⟩ := hods.get hv
        refine ⟨y, ?_, hvy⟩
        rw [Array.getElem?_append_left (by simp; omega), Array.getElem?_append_left (by omega)]
        simpa using hy
      · rw [if_neg hj] at hv
        have hjn : j - old.length < new.length := by
          rcases Nat.lt_or_ge (j - old.length) new.length with h | h
          · exact h
          · simp [List.getElem?_eq_none h] at hv
        obtain ⟨y, hy, hvy⟩ := hnds.get hv
        refine ⟨y, ?_, hvy⟩
        rw [Array.getElem?_append_left (by simp; omega), Array.getElem?_append_right (by omega), hods2, ← hol]
        simpa using hy) (fun k hk => by simp) hcs (by rw [hdsz]; exact Nat.le_refl _)
    refine ⟨_, _, _, ?_, key.2, key.1, Inj.set_ext hc⟩
    have hq : Question.forced (.appendCap (l + n) scap e) = false := rfl
    simp only [Sem.run_bind, run_choose, hq, Bool.false_eq_true, if_false, ← hcap, World.drew_eq, Result.andThen_ok, run_askRoom, first_drew (horun l rfl), first_drew hnrun, hzv, Sem.run_pure]
    rw [← hds]
    simp [newRow]
    rfl

end
end Go.Proofs.Ytfcglkajekohiaa.AM
