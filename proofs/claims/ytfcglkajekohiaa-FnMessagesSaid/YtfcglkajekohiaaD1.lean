/- Plain: what is read is what was written. -/
import Derived.Test.YtfcglkajekohiaaC3
set_option linter.unusedSimpArgs false
set_option linter.unusedVariables false
namespace Go.Proofs.Ytfcglkajekohiaa
open Go Go.Proofs.Ytfcglkajekohiaa.AM

theorem rvar_inv {k i : Nat} {p l : List UInt8} {m j : Nat} (hp : ∀ x ∈ p, 127 < x.toNat) (hl : p.length = i) (h : rvar k i (val p) l = some (m, j)) :
    p ++ l = varL m ++ l.drop (j - i) ∧ j = (varL m).length ∧ m ≤ 1000000000 ∧ i < j := by
  induction k generalizing i p l with
  | zero => simp [rvar] at h
  | succ k ih =>
    cases l with
    | nil => simp [rvar] at h
    | cons b l =>
      rw [rvar] at h
      have hv := val_snoc p b
      rw [hl] at hv
      rw [← hv] at h
      split at h
      · rename_i hb
        have hp' : ∀ x ∈ p ++ [b], 127 < x.toNat := by
          intro x hx
          rcases List.mem_append.mp hx with hx | hx
          · exact hp x hx
          · simp at hx; subst hx; exact hb
        obtain ⟨h1, h2, h3, h4⟩ := ih hp' (by simp [hl]) h
        refine ⟨?_, h2, h3, by omega⟩
        rw [List.append_assoc] at h1
        rw [show j - i = (j - (i + 1)) + 1 by omega, List.drop_succ_cons]
        exact h1
      · rename_i hb
        split at h
        · simp at h
        · rename_i hz
          simp only [Option.some.injEq, Prod.mk.injEq] at h
          obtain ⟨rfl, rfl⟩ := h
          have := (varL_val (b := b) hp (by omega)).mpr (by
            by_cases hp0 : p = []
            · exact .inl hp0
            · refine .inr fun h0 => hz (.inl ⟨?_, h0⟩)
              cases p with
              | nil => exact absurd rfl hp0
              | cons x p => simp at hl; omega)
          rw [this]
          refine ⟨by simp, by simp [hl], by omega, by omega⟩

theorem rv_inv {l : List UInt8} {m j : Nat} (h : rv l = some (m, j)) : l = varL m ++ l.drop j ∧ j = (varL m).length ∧ m ≤ 1000000000 := by
  obtain ⟨h1, h2, h3, _⟩ := rvar_inv (p := []) (by simp) rfl h
  exact ⟨by simpa using h1, h2, h3⟩

theorem by8_nat {n : Nat} (h : n < 256) : (by8 (n : Int)).toNat = n := by
  have := by8_toNat (n : Int)
  omega

theorem rvar_varL {k i a n : Nat} {r : List UInt8} (hn : n < 128 ^ (k + 1)) (h0 : n ≠ 0 ∨ i = 0) (hm : a + n * 128 ^ i ≤ 1000000000) :
    rvar (k + 1) i a (varL n ++ r) = some (a + n * 128 ^ i, i + (varL n).length) := by
  induction k generalizing i a n with
  | zero =>
    have hs : ¬127 < n := by omega
    rw [varL_small hs, List.singleton_append, rvar, by8_nat (by omega), if_neg hs, show n % 128 = n by omega, if_neg (by omega)]
    rfl
  | succ k ih =>
    by_cases hs : 127 < n
    · rw [varL_big hs, List.cons_append, rvar]
      have e : (by8 ((n : Int) % 128 + 128)).toNat = n % 128 + 128 := by
        have := by8_nat (n := n % 128 + 128) (by omega)
        rw [← this]; congr 2
      have e2 : a + (n % 128 + 128) % 128 * 128 ^ i + n / 128 * 128 ^ (i + 1) = a + n * 128 ^ i := by
        rw [show (n % 128 + 128) % 128 = n % 128 by omega, Nat.pow_succ, Nat.add_assoc, Nat.mul_comm (128 ^ i) 128, ← Nat.mul_assoc, ← Nat.add_mul]
        congr 2
        omega
      rw [e, if_pos (by omega), ih (by rw [Nat.pow_succ] at hn; omega) (.inl (by omega)) (by rw [e2]; exact hm), e2, List.length_cons]
      congr 2
      omega
    · rw [varL_small hs, List.singleton_append, rvar, by8_nat (by omega), if_neg hs, show n % 128 = n by omega, if_neg (by omega)]
      rfl

theorem rv_varL {n : Nat} {r : List UInt8} (hn : n ≤ 1000000000) : rv (varL n ++ r) = some (n, (varL n).length) := by
  have := rvar_varL (k := 4) (i := 0) (a := 0) (n := n) (r := r) (by omega) (.inr rfl) (by simpa using hn)
  simpa [rv] using this

end Go.Proofs.Ytfcglkajekohiaa
