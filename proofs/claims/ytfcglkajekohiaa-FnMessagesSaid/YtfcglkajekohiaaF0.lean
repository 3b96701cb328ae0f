/- Contracts: what Decode answers. -/
import Derived.Test.YtfcglkajekohiaaC18
import Derived.Test.YtfcglkajekohiaaD2
set_option linter.unusedSimpArgs false
set_option linter.unusedVariables false
set_option maxRecDepth 20000
namespace Go.Proofs.Ytfcglkajekohiaa
open Go Go.Proofs.Ytfcglkajekohiaa.AM

def decM (t : List UInt8) : Msg := (decI t).getD msg0
def decB (t : List UInt8) : Bool := (decI t).isSome
theorem decM_small (t : List UInt8) : (decM t).entries.length ≤ 4 ∧ (decM t).conf.length ≤ 4 := by
  unfold decM
  cases h : decI t with
  | none => simp [msg0]
  | some m =>
    have hb := msgB (decI_inv h).1
    exact ⟨hb.mid.2.2.1, hb.conf4⟩

section
variable {prim : Nat → List Value → Option Value} {H : AHeap} {c : Nat} {Q : Value → AHeap → Nat → Prop}

theorem spec_Decode_all (t : List UInt8) (ht : t.length ≤ 10000000)
    (h : ∀ d c' ve vc oe oc, Own [] d c c' → SlR (d ++ H) 3 ve (entsC (decM t).entries) oe → SlR (d ++ H) 1 vc ((decM t).conf.map I) oc → (∀ b, oe = some b → c ≤ b ∧ b < c') → (∀ b, oc = some b → c ≤ b ∧ b < c') → Q (.tuple ⟨[ag (msgC (decM t) ve vc), B (decB t)]⟩) d c') :
    Ev (tbl prim) n_spec_Decode [T t] H c Q := by
  refine spec_Decode_ok t ht (fun hn d c' ho => ?_) (fun m hm d c' ve vc oe oc ho h1 h2 h3 h4 => ?_)
  · rw [dec_same] at hn
    have e : decM t = msg0 ∧ decB t = false := by simp [decM, decB, hn]
    rw [e.1, e.2] at h
    exact h d c' _ _ none none ho (.nil 0) (.nil 0) (by simp) (by simp)
  · rw [dec_same] at hm
    have e : decM t = m ∧ decB t = true := by simp [decM, decB, hm]
    rw [e.1, e.2] at h
    exact h d c' ve vc oe oc ho h1 h2 h3 h4

theorem impl_Decode_all (t : List UInt8) (ht : t.length ≤ 10000000)
    (h : ∀ d c' ve vc oe oc, Own [] d c c' → SlR (d ++ H) 3 ve (entsC (decM t).entries) oe → SlR (d ++ H) 1 vc ((decM t).conf.map I) oc → (∀ b, oe = some b → c ≤ b ∧ b < c') → (∀ b, oc = some b → c ≤ b ∧ b < c') → (∀ b, oe = some b → oc ≠ some b) → Q (.tuple ⟨[ag (msgC (decM t) ve vc), B (decB t)]⟩) d c') :
    Ev (tbl prim) n_impl_Decode [T t] H c Q := by
  refine impl_Decode_ok t ht (fun hn d c' ho => ?_) (fun m hm d c' ve vc oe oc ho h1 h2 h3 h4 h5 => ?_)
  · have e : decM t = msg0 ∧ decB t = false := by simp [decM, decB, hn]
    rw [e.1, e.2] at h
    exact h d c' _ _ none none ho (.nil 0) (.nil 0) (by simp) (by simp) (by simp)
  · have e : decM t = m ∧ decB t = true := by simp [decM, decB, hm]
    rw [e.1, e.2] at h
    exact h d c' ve vc oe oc ho h1 h2 h3 h4 h5

end
end Go.Proofs.Ytfcglkajekohiaa
