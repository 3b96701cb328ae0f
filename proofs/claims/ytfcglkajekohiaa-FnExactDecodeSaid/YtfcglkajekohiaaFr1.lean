/- From the plain machine's answer to the row. -/
import Derived.Test.YtfcglkajekohiaaFactsA
import Derived.Test.YtfcglkajekohiaaAmO
import Derived.Below
set_option linter.unusedSimpArgs false
set_option linter.unusedVariables false
namespace Go.Proofs.Ytfcglkajekohiaa.AM
open Go

theorem get_nil_rel (w : World) : Rel (fun _ => none) w w [] := by
  refine ⟨RowKit.Below.refl _ _, fun i o h => ?_, fun i j oi oj ei ej hi => ?_⟩
  · simp [get, find] at h
  · simp [get, find] at hi

/-- A call whose arguments need no block. -/
theorem Ev.calls0 {P : Program} {w0 : World} {A : Table} (hmix : P.follows .mixedOrders = true) (hA : TableOk P A) (hP : PrimOk P w0 A) {f : Nat} {args : List Value} (hargs : Each (VR (fun _ => none)) args args) {r : Value} (hr : ∀ φ v', VR φ r v' → v' = r)
    (h : Ev A f args [] 0 fun v _ _ => v = r) : Calls P f args.toArray w0 fun e w' => e = .returned r ∧ RowKit.Below w0.heap.size w0 w' := by
  obtain ⟨m, v, d, c', h1, rfl⟩ := h
  obtain ⟨_, _, h2⟩ := callA_sound hmix hA hP m f args [] 0 v d c' h1
  refine (h2 _ w0 (get_nil_rel w0) (fun i _ _ => rfl) args hargs).mono ?_
  rintro e w' ⟨φ', v', rfl, hv, hR, _⟩
  rw [hr _ _ hv]
  exact ⟨rfl, hR.base⟩
end Go.Proofs.Ytfcglkajekohiaa.AM
