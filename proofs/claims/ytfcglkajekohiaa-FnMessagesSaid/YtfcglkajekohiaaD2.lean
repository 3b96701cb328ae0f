/- Plain: what the program's reader takes is what is written. -/
import Derived.Test.YtfcglkajekohiaaC18
import Derived.Test.YtfcglkajekohiaaD1
set_option linter.unusedSimpArgs false
set_option linter.unusedVariables false
namespace Go.Proofs.Ytfcglkajekohiaa
open Go Go.Proofs.Ytfcglkajekohiaa.AM

/-! ### what was read stands there -/

theorem cVar_inv {t : List UInt8} {s : Cur} (h : (cVar t s).2.2 = false) : s.2 = false ∧ t.drop s.1 = varL (cVar t s).1 ++ t.drop (cVar t s).2.1 ∧ (cVar t s).1 ≤ 1000000000 := by
  unfold cVar at h ⊢
  split
  · rename_i hb; rw [if_pos hb] at h; rw [hb] at h; simp at h
  · rename_i hb
    rw [if_neg hb] at h
    split
    · rename_i n j hr
      obtain ⟨h1, h2, h3⟩ := rv_inv hr
      refine ⟨by simpa using hb, ?_, h3⟩
      simp only
      rw [← List.drop_drop]
      exact h1
    · rename_i hr; simp [hr] at h
theorem cOne_inv {t : List UInt8} {s : Cur} (h : (cOne t s).2.2 = false) : s.2 = false ∧ t.drop s.1 = by8 ((cOne t s).1 : Int) :: t.drop (cOne t s).2.1 ∧ (cOne t s).1 < 256 := by
  unfold cOne at h ⊢
  split
  · rename_i hb; rw [if_pos hb] at h; simp at h
  · rename_i hb
    rw [not_or] at hb
    refine ⟨by simpa using hb.1, ?_, ?_⟩
    · simp only
      rw [by8_of]
      exact drop_getD (by omega) 0
    · simp only; exact (t.getD s.1 0).toNat_lt
theorem cSign_inv {t : List UInt8} {s : Cur} (h : (cSign t s).2.2 = false) : s.2 = false ∧ t.drop s.1 = flagT (cSign t s).1 ++ t.drop (cSign t s).2.1 := by
  unfold cSign at h ⊢
  simp only at h ⊢
  split
  · rename_i hb; rw [if_pos hb] at h; simp at h
  · rename_i hb
    rw [if_neg hb] at h
    obtain ⟨h1, h2, h3⟩ := cOne_inv h
    refine ⟨h1, ?_⟩
    rw [h2]
    have : (cOne t s).1 = 0 ∨ (cOne t s).1 = 1 := by omega
    rcases this with e | e <;> rw [e] <;> rfl
theorem cCount_inv {t : List UInt8} {s : Cur} {m : Nat} (h : (cCount t s m).2.2 = false) : s.2 = false ∧ t.drop s.1 = varL (cCount t s m).1 ++ t.drop (cCount t s m).2.1 ∧ (cCount t s m).1 ≤ m := by
  unfold cCount at h ⊢
  split
  · rename_i hb; rw [if_pos hb] at h; simp at h
  · rename_i hb
    rw [if_neg hb] at h
    obtain ⟨h1, h2, h3⟩ := cVar_inv h
    exact ⟨h1, h2, by omega⟩
theorem cShortI_inv {t : List UInt8} {s : Cur} (hs : s.1 ≤ t.length) (h : (cShortI t s).2.2 = false) : s.2 = false ∧ t.drop s.1 = shortT (cShortI t s).1 ++ t.drop (cShortI t s).2.1 := by
  unfold cShortI at h ⊢
  split
  · rename_i hb; rw [if_pos hb] at h; rw [hb] at h; simp at h
  · rename_i hb
    rw [if_neg hb] at h
    split
    · rename_i n j hr
      simp only [hr] at h
      split
      · rename_i hc; rw [if_pos hc] at h; simp at h
      · rename_i hc
        obtain ⟨h1, h2, h3⟩ := rv_inv hr
        have hj := rvar_le hr
        rw [not_or] at hc
        refine ⟨by simpa using hb, ?_⟩
        simp only [shortT]
        rw [h1, List.drop_drop]
        have e1 : ((t.drop (s.1 + j)).take n).length = n := by simp; omega
        rw [e1, List.append_assoc]
        congr 1
        have e2 : t.drop (s.1 + j + n) = ((t.drop s.1).drop j).drop n := by rw [List.drop_drop, List.drop_drop, Nat.add_assoc]
        rw [e2, ← List.drop_drop, List.take_append_drop]
    · rename_i hr; simp [hr] at h
theorem cRest_inv {t : List UInt8} {s : Cur} (h : (cRest t s).2.2 = false) : s.2 = false ∧ (cRest t s).1 = t.drop s.1 := by
  unfold cRest at h ⊢
  split
  · rename_i hb; rw [if_pos hb] at h; rw [hb] at h; simp at h
  · rename_i hb; exact ⟨by simpa using hb, rfl⟩

theorem readI_inv {t : List UInt8} {i : Nat} {e : Ent} (h : readI t = some (i, e)) : entTextOk i e = true ∧ t = entText i e := by
  unfold readI at h
  simp only at h
  split at h
  · rename_i hc
    simp only [Option.some.injEq, Prod.mk.injEq] at h
    obtain ⟨rfl, rfl⟩ := h
    obtain ⟨⟨h1, h2⟩, h3, h4, h5⟩ := hc
    obtain ⟨g1, g2⟩ := cRest_inv h1
    obtain ⟨g3, g4, g5⟩ := cOne_inv g1
    obtain ⟨g6, g7, g8⟩ := cVar_inv g3
    obtain ⟨g9, g10, g11⟩ := cVar_inv g6
    obtain ⟨g12, g13, g14⟩ := cOne_inv g9
    refine ⟨?_, ?_⟩
    · simp only [entTextOk, h4, Bool.true_and, decide_eq_true_eq]
      omega
    · simp only [entText, Int.toNat_natCast]
      rw [g2]
      simp only [List.drop_zero] at g13
      rw [h3] at g13
      have e69 : by8 ((69 : Nat) : Int) = 69 := by decide
      rw [e69] at g13
      conv => lhs; rw [g13, g10, g7, g4]
      simp
  · simp at h

theorem decLI_inv {t : List UInt8} {k : Nat} {s : Cur} {es : List Ent} {s' : Cur} (hs : s.1 ≤ t.length) (h : decLI t k s = some (es, s')) (hb : s'.2 = false) : s.2 = false ∧ t.drop s.1 = encE es ++ t.drop s'.1 := by
  induction k generalizing s es with
  | zero =>
    simp only [decLI, Option.some.injEq, Prod.mk.injEq] at h
    obtain ⟨rfl, rfl⟩ := h
    exact ⟨hb, by simp [encE]⟩
  | succ k ih =>
    unfold decLI at h
    split at h
    · rename_i i e hr
      split at h
      · rename_i hi
        rw [Option.map_eq_some_iff] at h
        obtain ⟨⟨es1, s1⟩, h1, h2⟩ := h
        simp only [Prod.mk.injEq] at h2
        obtain ⟨rfl, rfl⟩ := h2
        obtain ⟨h3, h4⟩ := ih (cShortI_le hs) h1
        obtain ⟨h5, h6⟩ := cShortI_inv hs h3
        obtain ⟨h7, h8⟩ := readI_inv hr
        refine ⟨h5, ?_⟩
        rw [h6, h4]
        subst hi
        have h7' : entTextOk 1 e = true := h7
        have h8' : (cShortI t s).1 = entText 1 e := h8
        have : entT e = (cShortI t s).1 := by rw [entT, if_pos h7', h8']
        simp only [encE, List.flatMap_cons, this, List.append_assoc]
      · simp at h
    · simp at h

theorem ints_by8 (l : List UInt8) : (ints l).map by8 = l := by
  have : by8 ∘ (fun b : UInt8 => (b.toNat : Int)) = id := funext by8_of
  rw [ints, List.map_map, this, List.map_id]

theorem decI_inv {t : List UInt8} {m : Msg} (h : decI t = some m) : msgOk m = true ∧ msgText m = t := by
  unfold decI at h
  simp only at h
  generalize h1 : cOne t (0, false) = k at h
  generalize h2 : cOne t k.2 = f at h
  generalize h3 : cOne t f.2 = g at h
  generalize h4 : cVar t g.2 = a at h
  generalize h5 : cVar t a.2 = b at h
  generalize h6 : cVar t b.2 = l at h
  generalize h7 : cVar t l.2 = cm at h
  generalize h8 : cSign t cm.2 = ok at h
  generalize h9 : cSign t ok.2 = la at h
  generalize h10 : cCount t la.2 4 = n at h
  unfold decI2 at h
  split at h
  · simp at h
  · rename_i es s hes
    split at h
    · rename_i hc
      simp only [Option.some.injEq] at h
      obtain ⟨⟨hb, hl⟩, hok⟩ := hc
      have b1 : k.2.1 ≤ t.length := by rw [← h1]; exact (cOne_le (by simp)).1
      have b2 : f.2.1 ≤ t.length := by rw [← h2]; exact (cOne_le b1).1
      have b3 : g.2.1 ≤ t.length := by rw [← h3]; exact (cOne_le b2).1
      have b4 : a.2.1 ≤ t.length := by rw [← h4]; exact (cVar_le b3).1
      have b5 : b.2.1 ≤ t.length := by rw [← h5]; exact (cVar_le b4).1
      have b6 : l.2.1 ≤ t.length := by rw [← h6]; exact (cVar_le b5).1
      have b7 : cm.2.1 ≤ t.length := by rw [← h7]; exact (cVar_le b6).1
      have b8 : ok.2.1 ≤ t.length := by rw [← h8]; exact cSign_le b7
      have b9 : la.2.1 ≤ t.length := by rw [← h9]; exact cSign_le b8
      have b10 : n.2.1 ≤ t.length := by rw [← h10]; exact (cCount_le b9).1
      have b11 := decLI_le b10 hes
      have b12 := cShortI_le b11.1
      obtain ⟨i1, j1⟩ := cShortI_inv b12 hb
      obtain ⟨i2, j2⟩ := cShortI_inv b11.1 i1
      obtain ⟨i3, j3⟩ := decLI_inv b10 hes i2
      obtain ⟨i4, j4, l4⟩ := cCount_inv (t := t) (s := la.2) (m := 4) (by rw [h10]; exact i3)
      obtain ⟨i5, j5⟩ := cSign_inv (t := t) (s := ok.2) (by rw [h9]; exact i4)
      obtain ⟨i6, j6⟩ := cSign_inv (t := t) (s := cm.2) (by rw [h8]; exact i5)
      obtain ⟨i7, j7, _⟩ := cVar_inv (t := t) (s := l.2) (by rw [h7]; exact i6)
      obtain ⟨i8, j8, _⟩ := cVar_inv (t := t) (s := b.2) (by rw [h6]; exact i7)
      obtain ⟨i9, j9, _⟩ := cVar_inv (t := t) (s := a.2) (by rw [h5]; exact i8)
      obtain ⟨i10, j10, _⟩ := cVar_inv (t := t) (s := g.2) (by rw [h4]; exact i9)
      obtain ⟨i11, j11, _⟩ := cOne_inv (t := t) (s := f.2) (by rw [h3]; exact i10)
      obtain ⟨i12, j12, _⟩ := cOne_inv (t := t) (s := k.2) (by rw [h2]; exact i11)
      obtain ⟨i13, j13, _⟩ := cOne_inv (t := t) (s := (0, false)) (by rw [h1]; exact i12)
      rw [h10] at j4
      rw [h9] at j5
      rw [h8] at j6
      rw [h7] at j7
      rw [h6] at j8
      rw [h5] at j9
      rw [h4] at j10
      rw [h3] at j11
      rw [h2] at j12
      rw [h1] at j13
      subst h
      refine ⟨hok, ?_⟩
      have hconf : confT (ints (cShortI t s).1) = (cShortI t s).1 := by
        unfold confT
        split
        · exact ints_by8 _
        · rename_i hcn
          have hmt : msgTail ⟨k.1, f.1, g.1, a.1, b.1, l.1, cm.1, ok.1, es, ints (cShortI t s).1, (cShortI t (cShortI t s).2).1, la.1⟩ = true := by
            simp only [msgOk, Bool.and_eq_true] at hok; exact hok.2
          unfold msgTail at hmt
          simp only at hmt
          split at hmt
          · simp only [Bool.and_eq_true] at hmt; exact absurd hmt.1 hcn
          · simp only [decide_eq_true_eq] at hmt
            have := hmt.1
            simp only [ints, List.map_eq_nil_iff] at this
            exact this.symm
      have e0 : t = t.drop 0 := rfl
      simp only [msgText, headT, hconf, Int.toNat_natCast, b11.2.1]
      conv => rhs; rw [e0, j13, j12, j11, j10, j9, j8, j7, j6, j5, j4, j3, j2, j1, hl, List.drop_length]
      simp
    · simp at h

/-! ### what was written is read -/

theorem cVar_of {t r : List UInt8} {a n : Nat} (h : t.drop a = varL n ++ r) (hn : n ≤ 1000000000) : cVar t (a, false) = (n, (a + (varL n).length, false)) ∧ t.drop (a + (varL n).length) = r := by
  refine ⟨?_, ?_⟩
  · unfold cVar
    rw [if_neg (by simp)]
    simp only [h, rv_varL hn]
  · rw [← List.drop_drop, h, List.drop_left]
theorem drop_len {t w r : List UInt8} {a : Nat} (h : t.drop a = w ++ r) (hw : 0 < w.length) : a + w.length ≤ t.length := by
  have := congrArg List.length h
  simp only [List.length_drop, List.length_append] at this
  omega
theorem drop_add {t w r : List UInt8} {a : Nat} (h : t.drop a = w ++ r) : t.drop (a + w.length) = r := by
  rw [← List.drop_drop, h, List.drop_left]
theorem cOne_of {t r : List UInt8} {a : Nat} {x : UInt8} (h : t.drop a = x :: r) : cOne t (a, false) = (x.toNat, (a + 1, false)) ∧ t.drop (a + 1) = r := by
  have hl := drop_len (w := [x]) h (by simp)
  refine ⟨?_, drop_add (w := [x]) h⟩
  unfold cOne
  simp only [List.length_cons, List.length_nil] at hl
  rw [if_neg (by simp; omega)]
  rw [drop_getD (by omega) 0] at h
  simp only [List.cons.injEq] at h
  simp only [h.1]
theorem cTake_of {t w r : List UInt8} {a : Nat} (h : t.drop a = w ++ r) (hw : 0 < w.length) : cTake t (a, false) w.length = (w, (a + w.length, false)) ∧ t.drop (a + w.length) = r := by
  have hl := drop_len h hw
  refine ⟨?_, drop_add h⟩
  unfold cTake
  rw [if_neg (by simp; omega)]
  simp only [h, List.take_left]
theorem cTake_zero {t : List UInt8} {a : Nat} (ha : a ≤ t.length) : cTake t (a, false) 0 = ([], (a, false)) := by
  unfold cTake
  rw [if_neg (by simp; omega)]; simp
theorem varL_pos (n : Nat) : 0 < (varL n).length := by
  rw [varL]; split <;> simp
theorem cShort_of {t w r : List UInt8} {a : Nat} (h : t.drop a = shortT w ++ r) (hw : w.length ≤ 1000000000) : cShort t (a, false) = (w, (a + (shortT w).length, false)) ∧ t.drop (a + (shortT w).length) = r := by
  have hd := drop_add h
  refine ⟨?_, hd⟩
  simp only [shortT, List.append_assoc] at h
  obtain ⟨h1, h2⟩ := cVar_of h hw
  unfold cShort
  rw [h1]
  simp only
  by_cases h0 : 0 < w.length
  · rw [(cTake_of h2 h0).1]
    simp only [shortT, List.length_append, Nat.add_assoc]
  · have e : w = [] := by cases w with | nil => rfl | cons x l => simp at h0
    subst e
    simp only [List.length_nil]
    have := drop_len h (varL_pos _)
    rw [cTake_zero (by simpa using this)]
    simp [shortT]
theorem cShortI_of {t w r : List UInt8} {a : Nat} (h : t.drop a = shortT w ++ r) (hw : w.length ≤ 20000) : cShortI t (a, false) = (w, (a + (shortT w).length, false)) ∧ t.drop (a + (shortT w).length) = r := by
  have hd := drop_add h
  refine ⟨?_, hd⟩
  have hpos : 0 < (shortT w).length := by have := varL_pos w.length; simp only [shortT, List.length_append]; omega
  have hl := drop_len h hpos
  simp only [shortT, List.length_append] at hl
  simp only [shortT, List.append_assoc] at h
  unfold cShortI
  rw [if_neg (by simp)]
  simp only [h, rv_varL (by omega : w.length ≤ 1000000000)]
  rw [if_neg (by omega)]
  have e : t.drop (a + (varL w.length).length) = w ++ r := drop_add h
  rw [e, List.take_left]
  simp only [shortT, List.length_append, Nat.add_assoc]
theorem cSign_of {t r : List UInt8} {a : Nat} {b : Bool} (h : t.drop a = flagT b ++ r) : cSign t (a, false) = (b, (a + 1, false)) ∧ t.drop (a + 1) = r := by
  obtain ⟨h1, h2⟩ := cOne_of (x := if b = true then 1 else 0) (r := r) (by simpa [flagT] using h)
  refine ⟨?_, h2⟩
  unfold cSign
  rw [h1]
  cases b <;> simp
theorem cCount_of {t r : List UInt8} {a n m : Nat} (h : t.drop a = varL n ++ r) (hn : n ≤ m) (hm : m ≤ 1000000000) : cCount t (a, false) m = (n, (a + (varL n).length, false)) ∧ t.drop (a + (varL n).length) = r := by
  obtain ⟨h1, h2⟩ := cVar_of h (by omega)
  refine ⟨?_, h2⟩
  unfold cCount
  rw [h1, if_neg (by simp; omega)]

theorem entOk_bounds {e : Ent} (h : entOk e = true) : (0 ≤ e.term ∧ e.term ≤ 100000) ∧ (1 ≤ e.kind ∧ e.kind ≤ 3) ∧ e.data.length ≤ 120 := by
  have ht := entOk_term h
  refine ⟨ht, ?_⟩
  unfold entOk at h
  rw [Bool.and_eq_true] at h
  have h2 := h.2
  split at h2
  · rename_i hk
    simp only [decide_eq_true_eq] at h2
    rw [h2]; simp; omega
  · split at h2
    · rename_i hk
      have := confOk_len h2
      rw [ints_len] at this
      omega
    · simp only [decide_eq_true_eq] at h2
      omega

theorem by8_small {x : Int} (h0 : 0 ≤ x) (h : x ≤ 255) : ((by8 x).toNat : Int) = x := by rw [by8_toNat]; omega
theorem entText_shape (i : Int) (e : Ent) : entText i e = 69 :: (varL i.toNat ++ (varL e.term.toNat ++ by8 e.kind :: e.data)) := by simp [entText]

theorem readI_of {i : Nat} {e : Ent} (h : entTextOk i e = true) : readI (entText i e) = some (i, e) := by
  have hok : entOk e = true := by simp only [entTextOk, Bool.and_eq_true] at h; exact h.1
  have hi : 1 ≤ (i : Int) ∧ (i : Int) ≤ 1000000 := by simp only [entTextOk, Bool.and_eq_true, decide_eq_true_eq] at h; exact h.2
  obtain ⟨ht, hk, hd⟩ := entOk_bounds hok
  obtain ⟨t, htx⟩ : ∃ t, t = entText i e := ⟨_, rfl⟩
  rw [← htx]
  rw [entText_shape, Int.toNat_natCast] at htx
  obtain ⟨a1, b1⟩ := cOne_of (t := t) (a := 0) (by rw [List.drop_zero]; exact htx)
  obtain ⟨a2, b2⟩ := cVar_of b1 (by omega)
  obtain ⟨a3, b3⟩ := cVar_of b2 (by omega)
  obtain ⟨a4, b4⟩ := cOne_of b3
  unfold readI
  simp only [a1, a2, a3, a4, cRest, b4]
  have e1 : ((e.term.toNat : Nat) : Int) = e.term := by omega
  have e2 : ((by8 e.kind).toNat : Int) = e.kind := by8_small (by omega) (by omega)
  have e3 : (⟨((e.term.toNat : Nat) : Int), ((by8 e.kind).toNat : Int), e.data⟩ : Ent) = e := by rw [e1, e2]
  simp only [if_neg (by simp : ¬false = true)]
  rw [e3, if_pos ⟨⟨by trivial, by trivial⟩, by decide, hok, by omega⟩]

theorem readE_of {i : Nat} {e : Ent} (h : entTextOk i e = true) : readE (entText i e) = some (i, e) := by
  have hok : entOk e = true := by simp only [entTextOk, Bool.and_eq_true] at h; exact h.1
  have hi : 1 ≤ (i : Int) ∧ (i : Int) ≤ 1000000 := by simp only [entTextOk, Bool.and_eq_true, decide_eq_true_eq] at h; exact h.2
  obtain ⟨ht, hk, hd⟩ := entOk_bounds hok
  obtain ⟨t, htx⟩ : ∃ t, t = entText i e := ⟨_, rfl⟩
  have htx2 := htx
  rw [← htx]
  rw [entText_shape, Int.toNat_natCast] at htx
  obtain ⟨a1, b1⟩ := cTake_of (t := t) (a := 0) (w := [69]) (by rw [List.drop_zero]; exact htx) (by simp)
  obtain ⟨a2, b2⟩ := cVar_of b1 (by omega)
  obtain ⟨a3, b3⟩ := cVar_of b2 (by omega)
  obtain ⟨a4, b4⟩ := cTake_of (w := [by8 e.kind]) b3 (by simp)
  have e1 : ((e.term.toNat : Nat) : Int) = e.term := by omega
  have e2 : ((by8 e.kind).toNat : Int) = e.kind := by8_small (by omega) (by omega)
  have e3 : readES t = (false, i, e) := by
    unfold readES
    simp only [List.length_cons, List.length_nil, Nat.zero_add] at a1 a2 a3 a4 b4
    simp only [a1, Nat.zero_add, a2, a3, a4, b4, List.getD_cons_zero, e1, e2]
  unfold readE
  rw [e3, if_neg (by simp), if_pos ⟨h, htx2.symm⟩]

theorem entT_of {e : Ent} (h : entOk e = true) : entTextOk ((1 : Nat) : Int) e = true ∧ entT e = entText ((1 : Nat) : Int) e := by
  have h1 : entTextOk 1 e = true := by simp [entTextOk, h]
  exact ⟨h1, by rw [entT, if_pos h1]; rfl⟩
theorem entT_small {e : Ent} (h : entOk e = true) : (entT e).length ≤ 200 := by
  obtain ⟨ht, hk, hd⟩ := entOk_bounds h
  have l1 := varL_len10 1 (by omega)
  have l2 := varL_len10 e.term (by omega)
  rw [(entT_of h).2]
  simp only [entText, List.length_append, List.length_cons, List.length_nil]
  have : (((1 : Nat) : Int)).toNat = (1 : Int).toNat := rfl
  rw [this]; omega

theorem decLI_of {t : List UInt8} {es : List Ent} {a : Nat} {r : List UInt8} (h : t.drop a = encE es ++ r) (hok : ∀ e ∈ es, entOk e = true) : decLI t es.length (a, false) = some (es, (a + (encE es).length, false)) := by
  induction es generalizing a with
  | nil => simp [decLI, encE]
  | cons e es ih =>
    have he := hok e (by simp)
    have hs := entT_small he
    have e0 : encE (e :: es) = shortT (entT e) ++ encE es := by simp [encE]
    rw [e0, List.append_assoc] at h
    obtain ⟨h1, h2⟩ := cShortI_of h (by omega)
    rw [List.length_cons, decLI, h1]
    simp only [(entT_of he).2]
    rw [readI_of (entT_of he).1]
    simp only [if_true]
    rw [(entT_of he).2] at h2
    rw [ih h2 (fun x hx => hok x (List.mem_cons_of_mem _ hx))]
    simp only [Option.map_some, e0, List.length_append, (entT_of he).2, Nat.add_assoc]
theorem decL_of {t : List UInt8} {es : List Ent} {a : Nat} {r : List UInt8} (h : t.drop a = encE es ++ r) (hok : ∀ e ∈ es, entOk e = true) : decL t es.length (a, false) = (es, (a + (encE es).length, false)) := by
  induction es generalizing a with
  | nil => simp [decL, encE]
  | cons e es ih =>
    have he := hok e (by simp)
    have hs := entT_small he
    have e0 : encE (e :: es) = shortT (entT e) ++ encE es := by simp [encE]
    rw [e0, List.append_assoc] at h
    obtain ⟨h1, h2⟩ := cShort_of h (by omega)
    rw [List.length_cons, decL, if_neg (by simp), h1]
    have e1 : rdE (entT e) = e := by rw [rdE, (entT_of he).2, readE_of (entT_of he).1]
    simp only [e1]
    rw [ih h2 (fun x hx => hok x (List.mem_cons_of_mem _ hx))]
    simp only [e0, List.length_append, Nat.add_assoc]

theorem entsOk_all {lim t : Int} {l : List Ent} (h : entsOk lim t l = true) : ∀ e ∈ l, entOk e = true := by
  induction l generalizing t with
  | nil => simp
  | cons e l ih =>
    simp only [entsOk, Bool.and_eq_true] at h
    intro x hx
    simp only [List.mem_cons] at hx
    rcases hx with rfl | hx
    · exact h.1.1
    · exact ih h.2 x hx

theorem rise_ints {p : Int} {l : List Int} (hp : 0 ≤ p) (h : rise p l = true) : ints (l.map by8) = l := by
  induction l generalizing p with
  | nil => rfl
  | cons x l ih =>
    simp only [rise, Bool.and_eq_true, decide_eq_true_eq] at h
    have := ih (p := x) (by omega) h.2
    simp only [ints] at this ⊢
    simp only [List.map_cons, this]
    rw [by8_small (by omega) (by omega)]

structure MsgB (m : Msg) : Prop where
  head : msgHead m
  mid : msgMid m
  ents : ∀ e ∈ m.entries, entOk e = true
  data : m.data.length ≤ 60
  conf : ints (confT m.conf) = m.conf
  confR : confR (confT m.conf) = m.conf
  confL : (confT m.conf).length ≤ 4
  conf4 : m.conf.length ≤ 4

theorem msgB {m : Msg} (h : msgOk m = true) : MsgB m := by
  simp only [msgOk, Bool.and_eq_true, decide_eq_true_eq] at h
  obtain ⟨⟨⟨h1, h2⟩, h3⟩, h4⟩ := h
  have key : m.data.length ≤ 60 ∧ ((confOk m.conf = true) ∨ m.conf = []) := by
    unfold msgTail at h4
    split at h4
    · simp only [Bool.and_eq_true, decide_eq_true_eq] at h4
      exact ⟨h4.2, .inl h4.1⟩
    · simp only [decide_eq_true_eq] at h4
      refine ⟨by rw [h4.2.1]; simp, .inr h4.1⟩
  obtain ⟨hd, hc⟩ := key
  have hconf : ints (confT m.conf) = m.conf ∧ Go.Proofs.Ytfcglkajekohiaa.confR (confT m.conf) = m.conf ∧ m.conf.length ≤ 4 := by
    rcases hc with hc | hc
    · have hr : rise 0 m.conf = true := by simp only [confOk, Bool.and_eq_true] at hc; exact hc.2
      have e : ints (confT m.conf) = m.conf := by rw [confT, if_pos hc]; exact rise_ints (by omega) hr
      refine ⟨e, ?_, (confOk_len hc).2⟩
      unfold Go.Proofs.Ytfcglkajekohiaa.confR
      rw [e, if_pos hc]
    · rw [hc]
      exact ⟨rfl, rfl, by simp⟩
  have := confT_len m.conf
  exact ⟨h1, h2, entsOk_all h3, hd, hconf.1, hconf.2.1, by omega, hconf.2.2⟩

theorem decI_of {m : Msg} (h : msgOk m = true) : decI (msgText m) = some m := by
  obtain ⟨hh, hm, he, hd, hc, hcR, hcl, hc4⟩ := msgB h
  unfold msgHead at hh
  unfold msgMid at hm
  obtain ⟨t, ht⟩ : ∃ t, t = msgText m := ⟨_, rfl⟩
  rw [← ht]
  have ht2 : t.drop 0 = by8 m.kind :: by8 m.src :: by8 m.dst :: (varL m.term.toNat ++ (varL m.index.toNat ++ (varL m.logTerm.toNat ++ (varL m.commit.toNat ++ (flagT m.ok ++ (flagT m.last ++ (varL m.entries.length ++ (encE m.entries ++ (shortT (confT m.conf) ++ (shortT m.data ++ [])))))))))) := by
    rw [List.drop_zero, ht]; simp [msgText, headT]
  obtain ⟨a1, b1⟩ := cOne_of ht2
  obtain ⟨a2, b2⟩ := cOne_of b1
  obtain ⟨a3, b3⟩ := cOne_of b2
  obtain ⟨a4, b4⟩ := cVar_of b3 (by omega)
  obtain ⟨a5, b5⟩ := cVar_of b4 (by omega)
  obtain ⟨a6, b6⟩ := cVar_of b5 (by omega)
  obtain ⟨a7, b7⟩ := cVar_of b6 (by omega)
  obtain ⟨a8, b8⟩ := cSign_of b7
  obtain ⟨a9, b9⟩ := cSign_of b8
  obtain ⟨a10, b10⟩ := cCount_of (m := 4) b9 (by omega) (by omega)
  have a11 := decLI_of b10 he
  have b11 := drop_add b10
  obtain ⟨a12, b12⟩ := cShortI_of b11 (by omega)
  obtain ⟨a13, b13⟩ := cShortI_of b12 (by omega)
  have hle : ∀ a, t.drop a = [] → a ≤ t.length → a = t.length := fun a hx hy => by
    have := congrArg List.length hx
    simp only [List.length_drop, List.length_nil] at this; omega
  have hend := drop_len b12 (by have := varL_pos m.data.length; simp only [shortT, List.length_append]; omega)
  have hend2 := hle _ b13 hend
  have hmm : (⟨((by8 m.kind).toNat : Nat), ((by8 m.src).toNat : Nat), ((by8 m.dst).toNat : Nat), (m.term.toNat : Nat), (m.index.toNat : Nat), (m.logTerm.toNat : Nat), (m.commit.toNat : Nat), m.ok, m.entries, ints (confT m.conf), m.data, m.last⟩ : Msg) = m := by
    rw [by8_small (by omega) (by omega), by8_small (by omega) (by omega), by8_small (by omega) (by omega), Int.toNat_of_nonneg (by omega), Int.toNat_of_nonneg (by omega), Int.toNat_of_nonneg (by omega), Int.toNat_of_nonneg (by omega), hc]
  rw [decI_eq a1 a2 a3 a4 a5 a6 a7 a8 a9 a10, decI2, a11]
  simp only [a12, a13]
  rw [hmm, if_pos ⟨⟨by trivial, hend2⟩, h⟩]

theorem decS_of {m : Msg} (h : msgOk m = true) : decS (msgText m) = some m := by
  obtain ⟨hh, hm, he, hd, hc, hcR, hcl, hc4⟩ := msgB h
  unfold msgHead at hh
  unfold msgMid at hm
  obtain ⟨t, ht⟩ : ∃ t, t = msgText m := ⟨_, rfl⟩
  rw [← ht]
  have ht2 : t.drop 0 = [by8 m.kind, by8 m.src, by8 m.dst] ++ (varL m.term.toNat ++ (varL m.index.toNat ++ (varL m.logTerm.toNat ++ (varL m.commit.toNat ++ (flagT m.ok ++ (flagT m.last ++ (varL m.entries.length ++ (encE m.entries ++ (shortT (confT m.conf) ++ (shortT m.data ++ [])))))))))) := by
    rw [List.drop_zero, ht]; simp [msgText, headT]
  obtain ⟨a1, b1⟩ := cTake_of ht2 (by simp)
  obtain ⟨a4, b4⟩ := cVar_of b1 (by omega)
  obtain ⟨a5, b5⟩ := cVar_of b4 (by omega)
  obtain ⟨a6, b6⟩ := cVar_of b5 (by omega)
  obtain ⟨a7, b7⟩ := cVar_of b6 (by omega)
  obtain ⟨a8, b8⟩ := cTake_of b7 (by simp [flagT])
  obtain ⟨a9, b9⟩ := cTake_of b8 (by simp [flagT])
  obtain ⟨a10, b10⟩ := cVar_of b9 (by omega)
  have a11 := decL_of b10 he
  have b11 := drop_add b10
  obtain ⟨a12, b12⟩ := cShort_of b11 (by omega)
  obtain ⟨a13, b13⟩ := cShort_of b12 (by omega)
  have hfl : ∀ b, decide (flagT b = [1]) = b := fun b => by cases b <;> simp [flagT]
  have f1 : (flagT m.ok).length = 1 := rfl
  have f2 : (flagT m.last).length = 1 := rfl
  have f3 : [by8 m.kind, by8 m.src, by8 m.dst].length = 3 := rfl
  have hn : min m.entries.length 5 = m.entries.length := by omega
  rw [f3] at a1 a4 a5 a6 a7 a8 a9 a10 a11 a12 a13
  rw [f1] at a8 a9 a10 a11 a12 a13
  rw [f2] at a9 a10 a11 a12 a13
  have hdec : decSm t = (false, m) := by
    unfold decSm
    simp only [a1, a4, a5, a6, a7, a8, a9, a10, hn, a11, a12, a13, hfl, hcR, List.getD_cons_zero, List.getD_cons_succ]
    rw [by8_small (by omega) (by omega), by8_small (by omega) (by omega), by8_small (by omega) (by omega), Int.toNat_of_nonneg (by omega), Int.toNat_of_nonneg (by omega), Int.toNat_of_nonneg (by omega), Int.toNat_of_nonneg (by omega)]
  unfold decS
  rw [a1, hdec, if_neg (by simp), if_neg (by simp), if_pos ⟨h, ht.symm⟩]

/-- Both readers agree. -/
theorem dec_same (t : List UInt8) : decS t = decI t := by
  cases hI : decI t with
  | some m =>
    obtain ⟨h1, h2⟩ := decI_inv hI
    rw [← h2, decS_of h1]
  | none =>
    cases hS : decS t with
    | none => rfl
    | some m =>
      exfalso
      unfold decS at hS
      split at hS
      · simp at hS
      · split at hS
        · simp at hS
        · split at hS
          · rename_i hc
            simp only [Option.some.injEq] at hS
            rw [hS] at hc
            rw [← hc.2, decI_of hc.1] at hI
            simp at hI
          · simp at hS
end Go.Proofs.Ytfcglkajekohiaa
