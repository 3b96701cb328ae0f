/-
  What append does in the model; and the small ones.
-/
import Derived.Test.YtfcglkajekohiaaAmG
set_option linter.unusedSimpArgs false
set_option linter.unusedVariables false
namespace Go.Proofs.Ytfcglkajekohiaa.AM
open Go

section
variable {φ : Inj} {w0 w : World} {H : AHeap} {P : Program}

theorem s_B2S (hR : Rel φ w0 w H) {src dst e : TypeId} (hs : P.underlying src = some (.slice e)) (hd : P.underlying dst = some .string) (he : P.underlying e = some (.int .u8))
    {v v' : Value} (hv : VR φ v v') {cs : List Value} (hc : sliceCells H 1 v = some cs) {s : ByteArray} (hb : bytesOf cs = some s) :
    (convert src dst v').run P w = .ok (.string s) w := by
  unfold bytesOf at hb
  simp only [Option.map_eq_some_iff] at hb
  obtain ⟨ns, hns, rfl⟩ := hb
  have hcs := numsOf_eq hns
  subst hcs
  obtain ⟨a, l, c', ds, rfl, hl, hrun, hds⟩ := s_cells (P := P) hR hv hc
  have hds' := Each.eq_ints hds
  have hda : ds = (ns.map (Value.int .u8)).toArray := by rw [← hds']
  rw [run_convert_bytes_string w src dst e a l c' hs he hd]
  cases a with
  | none =>
    have h0 := hrun l rfl
    simp [Builtin.firstCells] at h0
    have h1 : ns = [] := by rw [hda] at h0; simpa using h0.symm
    subst h1
    simp [Conv.bytesToString]
    rfl
  | some b =>
    have h0 := hrun l rfl
    simp only [Builtin.firstCells, Nat.mul_one] at h0
    rw [hda] at h0
    rw [run_bytesToString w b l c' ns h0, foldl_push_bytes]
    simp [ByteArray.empty, ByteArray.emptyWithCapacity]
    rfl

theorem minmax_run {mx : Bool} {r : Value} : ∀ {l l' : List Value} {v v' : Value}, VR φ v v' → Each (VR φ) l l' → minmaxA mx v l = some r →
    ∃ r', (l'.foldlM (if mx then Builtin.max2 else Builtin.min2) v').run P w = .ok r' w ∧ VR φ r r' := by
  intro l
  induction l with
  | nil =>
    intro l' v v' hv hl h
    rw [hl.nil_left]
    unfold minmaxA at h
    split at h
    · rename_i h0; simp at h0
    · simp at h; subst h
      exact ⟨v', by simp, hv⟩
    · simp at h
  | cons x l ih =>
    intro l' v v' hv hl h
    obtain ⟨x', l'', rfl, hx, hl'⟩ := hl.cons_left
    unfold minmaxA at h
    split at h
    · rename_i k a k' b r0 h0
      simp at h0
      obtain ⟨rfl, rfl⟩ := h0
      split at h
      · rename_i hk; subst hk
        have := hv.int_inv; subst this
        have := hx.int_inv; subst this
        cases mx with
        | true =>
          obtain ⟨r', h1, h2⟩ := ih (v := .int k (if b > a then b else a)) (.of_cell (.int _ _)) hl' h
          refine ⟨r', ?_, h2⟩
          simp only [List.foldlM_cons, if_true, Sem.run_bind, Builtin.max2, Sem.run_pure, Result.andThen_ok]
          exact h1
        | false =>
          obtain ⟨r', h1, h2⟩ := ih (v := .int k (if b < a then b else a)) (.of_cell (.int _ _)) hl' h
          refine ⟨r', ?_, h2⟩
          simp only [List.foldlM_cons, Bool.false_eq_true, if_false, Sem.run_bind, Builtin.min2, Sem.run_pure, Result.andThen_ok]
          exact h1
      · simp at h
    · rename_i h0; simp at h0
    · simp at h

theorem s_field {t : TypeId} {fs : Array Field} {f : Nat} {fd : Field} (ht : P.underlying t = some (.struct fs)) (hf : fs[f]? = some fd) {g : Bool} {s : Nat} (hg : aggT P fd.type = some g) (hs : sizeT P fd.type = some s) (hgs : (g || s == 1) = true)
    {cs : Array Value} {x' : Value} (hx : VR φ (.agg cs) x') {v : Value} (hv : (if g then some (.agg (cs.extract fd.offset (fd.offset + s))) else cs[fd.offset]?) = some v) :
    ∃ v', (Instr.field t x' f).run P w = .ok v' w ∧ VR φ v v' := by
  obtain ⟨ds, rfl, hd⟩ := hx.agg_inv
  have hsz : ds.size = cs.size := by have := hd.1; simpa using this.symm
  simp only [Instr.field, Sem.run_bind, run_underlying ht, Result.andThen_ok, hf, asAgg, Sem.run_pure, part, run_isAgg hg]
  cases g with
  | true =>
    simp only [if_true] at hv ⊢
    simp at hv; subst hv
    refine ⟨_, by simp only [Sem.run_bind, run_sizeOf hs, Result.andThen_ok, Sem.run_pure]; rfl, .one (.agg _ _ ?_)⟩
    simp only [Array.toList_extract, List.extract_eq_take_drop]
    exact (hd.drop _).take _
  | false =>
    simp only [Bool.false_eq_true, if_false] at hv ⊢
    obtain ⟨v', h1, h2⟩ := hd.get (by simpa using hv)
    have h1' : ds[fd.offset]? = some v' := by simpa using h1
    refine ⟨v', by rw [h1']; rfl, .of_cell h2⟩

theorem s_extract {vs : Array Value} {x' : Value} (hx : VR φ (.tuple vs) x') {i : Nat} {v : Value} (hv : vs[i]? = some v) : ∃ v', (Instr.extract x' i).run P w = .ok v' w ∧ VR φ v v' := by
  obtain ⟨ws, rfl, hw⟩ := hx.tuple_inv
  obtain ⟨v', h1, h2⟩ := hw.get (by simpa using hv)
  have h1' : ws[i]? = some v' := by simpa using h1
  exact ⟨v', by simp [Instr.extract, h1'], .one h2⟩

/-- The second half of a block that a slice that grew in place has taken over. -/
theorem Rel.takeOver (hR : Rel φ w0 w H) {i c : Nat} {o o' : AObj} {e : Ext} {w' : World} {cs cs' : Array Value} {el : TypeId} {fr : Nat × Nat} {off : Nat} (hc : φ c = none) (ho : get H i = some o) (hro : o.ro = false) (he : φ i = some e)
    (hs : SameBut w w' e.blk) (hcs : w.heap[e.blk]? = some (.cells cs el fr)) (hcs' : w'.heap[e.blk]? = some (.cells cs' el fr)) (hsz : cs'.size = cs.size)
    (hes : o'.es = o.es) (hlen : e.base + off + o'.cells.length ≤ e.size)
    (hcells : ∀ (j : Nat) v, o'.cells[j]? = some v → ∃ v', cs'[e.base + off + j]? = some v' ∧ CR φ v v') :
    Rel (φ.set c ⟨e.blk, e.base + off, e.size, e.es⟩) w0 w' ((c, some o') :: (i, none) :: H) := by
  have hle := (Inj.set_ext (e := ⟨e.blk, e.base + off, e.size, e.es⟩) hc).1
  obtain ⟨e1, c1, el1, fr1, h1, h2, h3, h4, h5, h6, h7⟩ := hR.live i o ho
  rw [he] at h1; cases h1
  rw [hcs] at h3; cases h3
  have hfr := h6 hro
  have key : ∀ x ox ex, get ((c, some o') :: (i, none) :: H) x = some ox → (φ.set c ⟨e.blk, e.base + off, e.size, e.es⟩) x = some ex →
      (x = c ∧ ex.blk = e.blk ∧ ox = o') ∨ (x ≠ c ∧ get H x = some ox ∧ φ x = some ex ∧ ex.blk ≠ e.blk) := by
    intro x ox ex hx hex
    rw [get_cons] at hx
    by_cases hxc : c = x
    · subst hxc; rw [Inj.set_same] at hex; cases hex
      rw [if_pos rfl] at hx; cases hx
      exact .inl ⟨rfl, rfl, rfl⟩
    · rw [if_neg hxc, get_cons] at hx
      split at hx
      · simp at hx
      · rename_i hix
        unfold Inj.set at hex; rw [if_neg (fun h => hxc h.symm)] at hex
        exact .inr ⟨fun h => hxc h.symm, hx, hex, fun hb => hix (hR.inj i x o ox e ex ho hx he hex hb.symm)⟩
  refine ⟨below_sameBut hR.base hs hfr.1, ?_, ?_⟩
  · intro x ox hx
    rw [get_cons] at hx
    by_cases hxc : c = x
    · subst hxc
      rw [if_pos rfl] at hx; cases hx
      exact ⟨_, cs', el, fr, Inj.set_same _ _ _, by rw [hes]; exact h2, hcs', by rw [hsz, h4], hlen, fun _ => hfr, fun j v hv => let ⟨v', a, b⟩ := hcells j v hv; ⟨v', a, b.mono hle⟩⟩
    · rw [if_neg hxc, get_cons] at hx
      split at hx
      · simp at hx
      · rename_i hix
        obtain ⟨e2, c2, el2, fr2, g1, g2, g3, g4, g5, g6, g7⟩ := hR.live x ox hx
        have hne : e2.blk ≠ e.blk := fun hb => hix (hR.inj i x o ox e e2 ho hx he g1 hb.symm)
        exact ⟨e2, c2, el2, fr2, hle _ _ g1, g2, by rw [hs.block _ hne]; exact g3, g4, g5, g6, fun j v hv => let ⟨v', a, b⟩ := g7 j v hv; ⟨v', a, b.mono hle⟩⟩
  · intro a b oa ob ea eb ha hb hea heb hblk
    rcases key a oa ea ha hea with ⟨a1, a2, _⟩ | ⟨a1, a2, a3, a4⟩ <;> rcases key b ob eb hb heb with ⟨b1, b2, _⟩ | ⟨b1, b2, b3, b4⟩
    · omega
    · exact absurd (hblk ▸ a2) b4
    · exact absurd (hblk ▸ b2 : ea.blk = e.blk) a4
    · exact hR.inj a b oa ob ea eb a2 b2 a3 b3 hblk

theorem growBy_le (newLen : Nat) : ∀ (r c : Nat), Builtin.growBy newLen r c ≤ 2 ^ r * (c + 768) := by
  intro r
  induction r with
  | zero => intro c; simp [Builtin.growBy]
  | succ r ih =>
    intro c
    simp only [Builtin.growBy]
    split
    · have : 1 ≤ 2 ^ (r + 1) := Nat.one_le_two_pow
      calc c ≤ 1 * (c + 768) := by omega
        _ ≤ 2 ^ (r + 1) * (c + 768) := Nat.mul_le_mul_right _ this
    · have h := ih (c + (c + 768) / 4)
      have h2 : c + (c + 768) / 4 + 768 ≤ 2 * (c + 768) := by omega
      calc _ ≤ 2 ^ r * (c + (c + 768) / 4 + 768) := h
        _ ≤ 2 ^ r * (2 * (c + 768)) := Nat.mul_le_mul_left _ h2
        _ = 2 ^ (r + 1) * (c + 768) := by rw [Nat.pow_succ, Nat.mul_assoc]

theorem next_le {need cap : Nat} (h : cap < need) : Builtin.nextslicecap need cap ≤ 16 * (need + 768) := by
  have h3 : Builtin.growBy need 4 cap ≤ 16 * (cap + 768) := growBy_le need 4 cap
  have key : ∀ x, x = (if need > 2 * cap then need else if cap < 256 then 2 * cap else Builtin.growBy need 4 cap) → x ≤ 16 * (need + 768) := by
    intro x hx
    generalize Builtin.growBy need 4 cap = g at h3 hx
    split at hx
    · omega
    · split at hx <;> omega
  exact key _ rfl

theorem added_run (hR : Rel φ w0 w H) {es : Nat} {v v' : Value} (hv : VR φ v v') {cs : List Value} (hc : addedCells H es v = some cs) {n : Nat} (hn : lenA v = some n) :
    ∃ ds, (Builtin.lenOf v').run P w = .ok n w ∧ (Builtin.firstCells es n v').run P w = .ok ds w ∧ Each (CR φ) cs ds.toList := by
  unfold addedCells at hc
  split at hc
  · rename_i s
    have := hv.string_inv; subst this
    simp [lenA] at hn; subst hn
    split at hc
    · rename_i h1; subst h1
      simp at hc; subst hc
      refine ⟨(s.extract 0 s.size).data.map (fun b => .int .u8 b.toNat), rfl, rfl, ?_⟩
      have e : (s.extract 0 s.size).data.toList = s.data.toList := by
        rw [ByteArray.data_extract]
        show (s.data.extract 0 s.data.size).toList = _
        rw [Array.extract_size]
      simp only [Array.toList_map]
      rw [e]
      exact ⟨rfl, fun i a b ha hb => by
        rw [ha] at hb; cases hb
        simp only [List.getElem?_map, Option.map_eq_some_iff] at ha
        obtain ⟨b, _, rfl⟩ := ha; exact .int _ _⟩
    · simp at hc
  · obtain ⟨a, l, c', ds, rfl, hl, hrun, hds⟩ := s_cells (P := P) hR hv hc
    rw [hn] at hl; cases hl
    exact ⟨ds, by simp [Builtin.lenOf], hrun n rfl, hds⟩

end
end Go.Proofs.Ytfcglkajekohiaa.AM
