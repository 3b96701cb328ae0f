/-
  What each operation without a call does in the model, the last: makes, conversions, append.
-/
import Derived.Test.YtfcglkajekohiaaAmF
set_option linter.unusedSimpArgs false
set_option linter.unusedVariables false
namespace Go.Proofs.Ytfcglkajekohiaa.AM
open Go

section
variable {φ : Inj} {w0 w : World} {H : AHeap} {P : Program}

theorem wrap_small {m : Int} (h0 : 0 ≤ m) (h1 : m < 9223372036854775808) : IntKind.i64.wrap m = m := by
  have e : IntKind.i64.wrap m = if m % 18446744073709551616 ≥ 9223372036854775808 then m % 18446744073709551616 - 18446744073709551616 else m % 18446744073709551616 := by
    show (if (true && decide (m % 18446744073709551616 ≥ 9223372036854775808)) = true then _ else _) = _
    simp
    rfl
  rw [e, Int.emod_eq_of_lt h0 (by omega), if_neg (by omega)]

theorem modify_push {α : Type} (xs : Array α) (o : α) (f : α → α) : (xs.push o).modify xs.size f = xs.push (f o) := by
  apply Array.ext_getElem?
  intro i
  rw [Array.getElem?_modify, Array.getElem?_push, Array.getElem?_push]
  by_cases h : xs.size = i
  · subst h; simp
  · rw [if_neg h, if_neg (fun e => h e.symm), if_neg (fun e => h e.symm)]

theorem ext_of_none {φ : Inj} {c : Nat} {e : Ext} (h : φ c = none) : ExtBy φ (φ.set c e) c (c + 1) := Inj.set_ext h

theorem s_arr (hR : Rel φ w0 w H) {c : Nat} (hc : φ c = none) {t e : TypeId} (ht : P.underlying t = some (.slice e)) {z : Nat × List Value} (hz : zeroT P e = some z) (hz0 : 0 < z.1) {len : Nat} (hlen : len * z.1 ≤ 2 ^ 24)
    {n : Nat} {ts : TS} {a : Act} (hT : TR φ n ts a.tmps) {parts : Array (Nat × Operand)} {ap : List (Nat × Nat × Opnd)} (hl : lowParts n (fun i => some (i * z.1, z.1)) parts.toList = some ap)
    {cs : List Value} (hf : fillA (rows z.2 len) (ap.map fun p => (p.1, p.2.1, ev ts p.2.2)) = some cs) :
    ∃ w' φ' r', (Instr.buildSlice t len (parts.map fun (i, x) => (i, a.eval x))).run P w = .ok r' w' ∧ VR φ' (.slice (some ⟨c, 0, none⟩) len z.1) r' ∧ Rel φ' w0 w' ((c, some ⟨cs, z.1, false⟩) :: H) ∧ ExtBy φ φ' c (c + 1) := by
  obtain ⟨s, zz⟩ := z
  obtain ⟨v, hv, hvz⟩ := run_zero (w := w) hz
  obtain ⟨_, _, _, _, _, hzl, hsimple, _⟩ := zeroT_parts hz
  have hs := zeroT_size hz
  simp only at hz0 hlen hl hf hzl hsimple hvz hs
  have hzpos : 0 < zz.length := by omega
  have hvs : v.cells.size = s := by rw [← hzl, ← hvz]; simp
  -- the zero cells, as the model lays them
  have hzc : ((Array.range (len * s)).map ((if len * s = 0 then (#[] : Array Value) else v.cells)[· % (if len * s = 0 then (#[] : Array Value) else v.cells).size]!)).toList = rows zz len := by
    by_cases h0 : len * s = 0
    · have : len = 0 := by rcases Nat.mul_eq_zero.mp h0 with h | h <;> omega
      subst this
      simp [rows]
    · simp only [h0, if_false]
      rw [← hzl]; rw [← zeros_eq hvz hzpos len]
  obtain ⟨ds, hd1, hd2⟩ := fill_rel (φ := φ) (ds := (Array.range (len * s)).map ((if len * s = 0 then (#[] : Array Value) else v.cells)[· % (if len * s = 0 then (#[] : Array Value) else v.cells).size]!)) hT hl
    (by rw [hzc]; exact simple_Each (rows_simple hsimple len)) hf
  have hd1' : Instr.fill (fun i => some (i * s, s)) ((Array.range (len * s)).map ((if len * s = 0 then (#[] : Array Value) else v.cells)[· % (if len * s = 0 then (#[] : Array Value) else v.cells).size]!)) (parts.map fun (i, x) => (i, a.eval x)).toList = some ds := by
    rw [Array.toList_map]; exact hd1
  have hlen2 : cs.length = ds.size := by have := hd2.1; simpa using this
  have hfl : ∀ {cs : List Value} {l : List (Nat × Nat × Value)} {r : List Value}, fillA cs l = some r → r.length = cs.length := by
    intro cs l
    induction l generalizing cs with
    | nil => intro r h; simp [fillA] at h; subst h; rfl
    | cons p l ih =>
      intro r h
      obtain ⟨o, sz, x⟩ := p
      simp only [fillA] at h
      split at h
      · rename_i hcc
        rw [ih h]
        simp only [List.length_append, List.length_take, List.length_drop]; omega
      · simp at h
  have hcsl : cs.length = len * s := by rw [hfl hf, rows_length, hzl]
  have key := s_newArr (t := e) (fr := (0, 0)) hR hc s (cs := cs) (ds := ds) (by omega) (fun j x hx => by
    obtain ⟨y, hy, hxy⟩ := hd2.get hx; exact ⟨y, by simpa using hy, hxy⟩) (fun k hk => by simp) (Nat.le_refl len) (by omega)
  refine ⟨_, _, _, ?_, key.2, key.1, Inj.set_ext hc⟩
  have hnot : ¬ (len * s > 2 ^ 24) := by omega
  simp only [Instr.buildSlice, Sem.run_bind, run_underlying ht, Result.andThen_ok, run_sizeOf hs, Sem.run_ite, if_neg hnot]
  by_cases hz9 : len * s = 0
  · rw [if_pos hz9]
    simp only [if_pos hz9] at hd1'
    simp only [Sem.run_pure, Result.andThen_ok]
    rw [hd1']
    simp [newRow]
  · rw [if_neg hz9]
    simp only [if_neg hz9] at hd1'
    simp only [hv, Sem.run_pure, Result.andThen_ok]
    rw [hd1']
    simp [newRow]

theorem s_mkSlice (hR : Rel φ w0 w H) {c : Nat} (hc : φ c = none) {t e : TypeId} (ht : P.underlying t = some (.slice e)) {z : Nat × List Value} (hz : zeroT P e = some z) (hz0 : 0 < z.1)
    {m : Int} (h0 : 0 ≤ m) (hb : m * (P.bytesOf e : Nat) ≤ maxBytes) (hm : m ≤ maxBytes) :
    ∃ w' φ' r', (Instr.makeSlice t (.int .i64 m) (.int .i64 m)).run P w = .ok r' w' ∧ VR φ' (.slice (some ⟨c, 0, none⟩) m.toNat z.1) r' ∧ Rel φ' w0 w' ((c, some ⟨rows z.2 m.toNat, z.1, false⟩) :: H) ∧ ExtBy φ φ' c (c + 1) := by
  obtain ⟨s, zz⟩ := z
  obtain ⟨v, hv, hvz⟩ := run_zero (w := w) hz
  obtain ⟨i, _, hi, _, _, hzl, hsimple, _⟩ := zeroT_parts hz
  have hs := zeroT_size hz
  simp only at hz0 hzl hsimple hvz hs
  have hzpos : 0 < zz.length := by omega
  have hbytes : P.bytesOf e = i.bytes := by simp [Program.bytesOf, hi]
  rw [hbytes] at hb
  have hw : IntKind.i64.wrap m = m := wrap_small h0 (by unfold maxBytes at hm; omega)
  have htl : (decide (m < 0) || decide ((i.bytes : Int) * m > 2 ^ 48)) = false := by
    unfold maxBytes at hb
    rw [Int.mul_comm] at hb
    simp only [Bool.or_eq_false_iff, decide_eq_false_iff_not]
    constructor <;> omega
  have hzc : ((Array.range (m.toNat * s)).map ((if m.toNat * s = 0 then (#[] : Array Value) else v.cells)[· % (if m.toNat * s = 0 then (#[] : Array Value) else v.cells).size]!)).toList = rows zz m.toNat := by
    by_cases h0 : m.toNat * s = 0
    · have : m.toNat = 0 := by rcases Nat.mul_eq_zero.mp h0 with h | h <;> omega
      rw [this]
      simp [rows]
    · simp only [h0, if_false]
      rw [← hzl]; rw [← zeros_eq hvz hzpos m.toNat]
  have hsz : ((Array.range (m.toNat * s)).map ((if m.toNat * s = 0 then (#[] : Array Value) else v.cells)[· % (if m.toNat * s = 0 then (#[] : Array Value) else v.cells).size]!)).size = m.toNat * s := by simp
  have key := s_newArr (t := e) (fr := (0, 0)) hR hc s (cs := rows zz m.toNat) (ds := (Array.range (m.toNat * s)).map ((if m.toNat * s = 0 then (#[] : Array Value) else v.cells)[· % (if m.toNat * s = 0 then (#[] : Array Value) else v.cells).size]!))
    (by rw [rows_length, hsz, hzl]; exact Nat.le_refl _) (fun j x hx => by
      refine ⟨x, ?_, simple_CR (rows_simple hsimple _ x (List.mem_of_getElem? hx))⟩
      rw [← Array.getElem?_toList, hzc]; exact hx) (fun k hk => by simp) (Nat.le_refl m.toNat) (by rw [hsz]; exact Nat.le_refl _)
  refine ⟨_, _, _, ?_, key.2, key.1, Inj.set_ext hc⟩
  simp only [Instr.makeSlice, Sem.run_bind, run_underlying ht, Result.andThen_ok, asInt, asIntOf, Sem.run_pure, run_typeInfo hi, hw]
  rw [Sem.run_ite, if_neg (by rw [htl]; simp; omega)]
  simp only [Sem.run_bind, run_askRoom, Result.andThen_ok, run_sizeOf hs, Sem.run_ite]
  by_cases hz9 : m.toNat * s = 0
  · rw [if_pos hz9]
    simp only [if_pos hz9]
    simp [newRow]
  · rw [if_neg hz9]
    simp only [if_neg hz9]
    simp [newRow, hv]

/-! #### bytes and strings -/

theorem s_S2B (hR : Rel φ w0 w H) {c : Nat} (hc : φ c = none) {src dst e : TypeId} (hs : P.underlying src = some .string) (hd : P.underlying dst = some (.slice e)) (he : P.underlying e = some (.int .u8)) (s : ByteArray) :
    ∃ w' φ' r', (convert src dst (.string s)).run P w = .ok r' w' ∧ VR φ' (.slice (some ⟨c, 0, none⟩) s.size 1) r' ∧ Rel φ' w0 w' ((c, some ⟨s.data.toList.map fun b => .int .u8 b.toNat, 1, false⟩) :: H) ∧ ExtBy φ φ' c (c + 1) := by
  obtain ⟨cap, hcap⟩ : ∃ cap, cap = (Question.appendCap s.size 0 e).cut (w.tape w.drawn (.appendCap s.size 0 e)) := ⟨_, rfl⟩
  have hcs : s.size ≤ cap := by rw [hcap]; simp [Question.cut]
  obtain ⟨ds, hds⟩ : ∃ ds : Array Value, ds = (s.data.map fun b => Value.int .u8 b.toNat) ++ Array.replicate (cap - s.size) (.int .u8 0) := ⟨_, rfl⟩
  have hsd : s.data.size = s.size := rfl
  have hsz : ds.size = cap := by rw [hds]; simp [hsd]; omega
  have hR' : Rel φ w0 w.drew H := hR.drew
  have key := s_newArr (t := e) (fr := (cap, cap + 1)) hR' hc 1 (cs := s.data.toList.map fun b => .int .u8 b.toNat) (ds := ds) (by simp [hsz, hsd]; exact hcs) (fun j x hx => by
      simp only [List.getElem?_map, Option.map_eq_some_iff] at hx
      obtain ⟨b, hb, rfl⟩ := hx
      refine ⟨_, ?_, .int _ _⟩
      have hj : j < s.data.size := by
        rcases Nat.lt_or_ge j s.data.size with h | h
        · exact h
        · simp [Array.getElem?_eq_none h] at hb
      rw [hds, Array.getElem?_append_left (by simpa using hj)]
      rw [Array.getElem?_toList] at hb
      simp [hb]) (fun k hk => by simp; omega) hcs (by omega)
  refine ⟨_, _, _, ?_, key.2, key.1, Inj.set_ext hc⟩
  have hq : Question.forced (.appendCap s.size 0 e) = false := rfl
  simp only [convert, Sem.run_bind, run_underlying hs, run_underlying hd, Result.andThen_ok, run_underlying he, Conv.stringToBytes, run_choose, hq, Bool.false_eq_true, if_false, ← hcap, ← hds]
  have hsh : ((w.drew.alloc (.cells ds e (0, 0))).shape? w.drew.heap.size) = some (e, ds.size) := by
    simp only [World.shape?, alloc_at]
  have hfz : ((w.drew.alloc (.cells ds e (0, 0))).freeze ⟨w.drew.heap.size, ds.size, none⟩ 1) = w.drew.alloc (.cells ds e (cap, cap + 1)) := by
    simp only [World.freeze, World.alloc]
    rw [if_neg (by omega)]
    show ({ w.drew with heap := (w.drew.heap.push (.cells ds e (0, 0))).modify w.drew.heap.size _ } : World) = _
    rw [modify_push]
    simp [hsz]
  simp only [newRow, Sem.run_bind, run_newObj, World.drew_eq, World.alloc_eq, Result.andThen_ok, Sem.run_pure, markStringish, run_shape, hsh, run_freeze, hfz]

end
end Go.Proofs.Ytfcglkajekohiaa.AM
