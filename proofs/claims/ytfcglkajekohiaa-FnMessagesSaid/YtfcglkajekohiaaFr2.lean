/- From the plain machine's answer to the row: one slice of bytes. -/
import Derived.Test.YtfcglkajekohiaaF2
import Derived.Test.YtfcglkajekohiaaFactsA
import Derived.Test.YtfcglkajekohiaaAmO
import Derived.Below
import Derived.OpenShut
import Derived.ChangeSlices
set_option linter.unusedSimpArgs false
set_option linter.unusedVariables false
namespace Go.Proofs.Ytfcglkajekohiaa
open Go Go.Proofs.Ytfcglkajekohiaa.AM

theorem get_nil_rel (w : World) : Rel (fun _ => none) w w [] := by
  refine ⟨RowKit.Below.refl _ _, fun i o h => ?_, fun i j oi oj ei ej hi => ?_⟩
  · simp [AM.get, AM.find] at h
  · simp [AM.get, AM.find] at hi

/-- A slice of bytes as it comes in. -/
def InRow (w : World) (a : Option Addr) (len cap : Nat) (zs : List Int) : Prop :=
  (a = none ∧ len = 0 ∧ cap = 0 ∧ zs = []) ∨
  ∃ x, a = some x ∧ len ≤ cap ∧ zs.length = cap ∧ (∀ i, i < zs.length → w.cell? (x.add i) = some (.int .u8 (zs.getD i 0))) ∧ ∀ n ∈ zs, (Lit.int .u8 n).wf = true

theorem cell_block {w : World} {x : Addr} {v : Value} (h : w.cell? x = some v) : ∃ c el fr, w.heap[x.block]? = some (.cells c el fr) ∧ x.spot = none ∧ c[x.off]? = some v := by
  unfold World.cell? at h
  split at h
  · rename_i c el fr hb
    split at h
    · cases h
    · rename_i hs
      exact ⟨c, el, fr, hb, by cases hx : x.spot <;> simp_all, h⟩
  · cases h

theorem calls_bytes {P : Program} {w0 : World} {A : Table} (hmix : P.follows .mixedOrders = true) (hA : TableOk P A) (hP : PrimOk P w0 A) {f : Nat} {a : Option Addr} {len cap : Nat} {zs : List Int} (hr : InRow w0 a len cap zs)
    (h : ∀ H v, lenF false v = some (I len) → (len ≤ 1048576 → Code H v) → Ev A f [v] H 1 fun v _ _ => v = B true) : Calls P f #[.slice a len cap] w0 fun e w' => e = .returned (B true) ∧ RowKit.Below w0.heap.size w0 w' := by
  have key : ∀ (φ : Inj) (H : AHeap) (v : Value), Rel φ w0 w0 H → (∀ i, 1 ≤ i → φ i = none) → CR φ v (.slice a len cap) → (Ev A f [v] H 1 fun v _ _ => v = B true) → Calls P f #[.slice a len cap] w0 fun e w' => e = .returned (B true) ∧ RowKit.Below w0.heap.size w0 w' := by
    intro φ H v hR hF hC hE
    obtain ⟨m, v2, d, c', h1, rfl⟩ := hE
    obtain ⟨_, _, h2⟩ := callA_sound hmix hA hP m f [v] H 1 _ d c' h1
    refine (h2 φ w0 hR (fun i hi _ => hF i hi) [.slice a len cap] (Each.cons (VR.one (.cell hC)) Each.nil)).mono ?_
    rintro e w' ⟨φ', v', rfl, hv, hR', _⟩
    rw [hv.bool_inv]
    exact ⟨rfl, hR'.base⟩
  rcases hr with ⟨rfl, rfl, rfl, rfl⟩ | ⟨x, rfl, hlc, hzl, hcell, hwf⟩
  · exact key (fun _ => none) [] (.slice none 0 0) (get_nil_rel w0) (fun _ _ => rfl) (.snil 0) (h [] _ rfl fun _ => ⟨[], by simp, .inl ⟨0, .inl rfl, rfl⟩⟩)
  by_cases hcap : cap = 0
  · have hlen : len = 0 := by omega
    subst hcap hlen
    refine key (fun i => if i = 0 then some ⟨0, 0, 0, 1⟩ else none) [] (Sl 0 0 1) ⟨RowKit.Below.refl _ _, fun i o g => ?_, fun i j oi oj ei ej g => ?_⟩ (fun i hi => if_neg (by omega)) ?_ (h [] _ rfl fun _ => ⟨[], by simp, .inl ⟨1, .inr rfl, rfl⟩⟩)
    · simp [AM.get, AM.find] at g
    · simp [AM.get, AM.find] at g
    · exact .slice _ _ _ _ _ ⟨0, 0, 0, 1⟩ rfl (by simp) rfl (by omega) (.inl rfl)
  · have h0 := hcell 0 (by omega)
    have ha0 : x.add 0 = x := rfl
    rw [ha0] at h0
    obtain ⟨c, el, fr, hb, hsp, _⟩ := cell_block h0
    have hat : ∀ i, i < cap → c[x.off + i]? = some (.int .u8 (zs.getD i 0)) := by
      intro i hi
      have g := hcell i (by omega)
      obtain ⟨c2, el2, fr2, hb2, _, hc2⟩ := cell_block g
      have e1 : (x.add i).block = x.block := by unfold Addr.add; split <;> rfl
      have e2 : (x.add i).off = x.off + i := by unfold Addr.add; split <;> simp_all
      rw [e1, hb] at hb2
      cases hb2
      rw [e2] at hc2
      exact hc2
    have hsz : x.off + cap ≤ c.size := by
      have g := hat (cap - 1) (by omega)
      obtain ⟨g1, _⟩ := Array.getElem?_eq_some_iff.mp g
      omega
    have hbnd : ∀ i, i < cap → 0 ≤ zs.getD i 0 ∧ zs.getD i 0 ≤ 255 := by
      intro i hi
      have : zs.getD i 0 ∈ zs := by
        rw [List.getD_eq_getElem?_getD, List.getElem?_eq_getElem (by omega)]
        exact List.getElem_mem _
      exact bounds_u8 (hwf _ this)
    let l : List UInt8 := (zs.take len).map by8
    have hl : l.length = len := by simp [l]; omega
    have hcells : ∀ (j : Nat) v, (l.map U)[j]? = some v → c[x.off + j]? = some v := by
      intro j v hj
      have hjl : j < len := by
        have := (List.getElem?_eq_some_iff.mp hj).1
        simp only [List.length_map, hl] at this
        exact this
      rw [hat j (by omega)]
      have e : (l.map U)[j]? = some (.int .u8 (zs.getD j 0)) := by
        have hb := hbnd j (by omega)
        have hz : zs[j]? = some (zs.getD j 0) := by rw [List.getD_eq_getElem?_getD, List.getElem?_eq_getElem (by omega)]; rfl
        simp only [l, List.map_map, List.getElem?_map, List.getElem?_take, if_pos hjl, hz, Option.map_some, Function.comp, U, by8_toNat]
        rw [Int.emod_eq_of_lt hb.1 (by omega)]
      rw [← hj, e]
    refine key (fun i => if i = 0 then some ⟨x.block, x.off, c.size, 1⟩ else none) [(0, some ⟨l.map U, 1, true⟩)] (Sl 0 len 1) ⟨RowKit.Below.refl _ _, fun i o g => ?_, fun i j oi oj ei ej g1 g2 _ _ _ => ?_⟩ (fun i hi => if_neg (by omega)) ?_ (h _ _ rfl fun hle => ⟨l, by omega, .inr ⟨1, true, by rw [hl], by simp [AM.get, AM.find]⟩⟩)
    · have hi : i = 0 := by
        by_cases e : i = 0
        · exact e
        · simp [AM.get, AM.find, Ne.symm e] at g
      subst hi
      have ho : o = ⟨l.map U, 1, true⟩ := by simp [AM.get, AM.find] at g; exact g.symm
      subst ho
      refine ⟨_, c, el, fr, if_pos rfl, rfl, hb, rfl, ?_, fun k => (by cases k), fun j v hj => ⟨v, hcells j v hj, ?_⟩⟩
      · simp only [List.length_map, hl]; omega
      · obtain ⟨b, _, rfl⟩ := List.mem_map.mp (List.mem_of_getElem? hj)
        exact .int _ _
    · have hz : ∀ (i : Nat) (o : AObj), get [(0, some ⟨l.map U, 1, true⟩)] i = some o → i = 0 := by
        intro i o g
        by_cases e : i = 0
        · exact e
        · simp [AM.get, AM.find, Ne.symm e] at g
      rw [hz i _ g1, hz j _ g2]
    · obtain ⟨xb, xo, xs⟩ := x
      simp only at hsp
      subst hsp
      refine .slice _ _ _ _ _ ⟨xb, xo, c.size, 1⟩ rfl (by simp) rfl hlc (.inr ⟨by simp, by simp only [Nat.mul_one, Nat.add_zero]; exact hsz⟩)
end Go.Proofs.Ytfcglkajekohiaa
