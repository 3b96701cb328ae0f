/-
  No cell of these rows narrows 'for every input' (looked for: loops, veiled, ifaces, maps, wideKeys, modest, calm, conditions, laid).
  DERIVED. THE GIVEN ROWS OF THIS SEAT. 4 by the template 'for every input the law returns true; each argument reads behind the call as it read before'; 0 by the template 'total and deterministic' (their statements: YtfcglkajekohiaaTotals.lean).
  GIVEN WITH THE SEED: the statements are not yours to turn. If you find one false, say at which input.
  Laid BY PROGRAM, IN A SANDBOX (cutbox-rows.mjs): the forced cells as the released guide's own fill.sh prints them over the translation 17d7e891cbdd5434… (all of the seat's roots in one cut). By AI agents, Wed Nov 11 2026. No macro, syntax, notation, axiom, sorry.
-/
import Derived.Test.YtfcglkajekohiaaChecked
import GoSem.Claim
import GoSem.ClaimJoined
import GoSem.ClaimMapViews
import Derived.JoinedTies
import Derived.KernelRfl
namespace Go.Proofs.Ytfcglkajekohiaa
/- THE CELL 'sum', in the pinned program and in every row, IS THE sha256 OF THE DUMP (.gsa) THAT YtfcglkajekohiaaProg.lean LOADS. Nothing in Lean hashes anything: it is a label: what it is worth is what the hold of that sum in a sandbox is worth. -/
noncomputable def Try.pinned : Pinned := { name := "ytfcglkajekohiaa", sum := "17d7e891cbdd543480b6e0cae6d4e0a9148c2b4c3b4a7bc8cf49eca450848a8b", checked := Try.checked }
namespace Rows
def none {H : Type} : Left H := { results := [], args := [] }

/-- 'laws.FnExactConfAt': WHATEVER THE INPUT: true; the input reads as it did. -/
def fnExactConfAtSpec : ChangeSpec := { name := "fnExactConfAt", fn := fun _ => fun
  | [d1, d2] => { results := [.lit (.bool true)], args := [d1, d2] }
  | _ => none }
def fnExactConfAtRow : OpenClaim := { program := "ytfcglkajekohiaa", sum := "17d7e891cbdd543480b6e0cae6d4e0a9148c2b4c3b4a7bc8cf49eca450848a8b", func := "loop.example/g00232/laws.FnExactConfAt", spec := "fnExactConfAt", apart := false }
def FnExactConfAtSaid : Prop := fnExactConfAtRow.holds Try.pinned (OpenSpec.ofChange fnExactConfAtSpec)

/-- ITS FALSE NEIGHBOUR: 'it returns false'. Refute it at one input. -/
def fnExactConfAtWrong : ChangeSpec := { name := "fnExactConfAt", fn := fun _ => fun
  | [d1, d2] => { results := [.lit (.bool false)], args := [d1, d2] }
  | _ => none }
def FnExactConfAtWrongFalsely : Prop := fnExactConfAtRow.holds Try.pinned (OpenSpec.ofChange fnExactConfAtWrong)

/-- 'laws.FnExactConfOf': WHATEVER THE INPUT: true; the input reads as it did. -/
def fnExactConfOfSpec : ChangeSpec := { name := "fnExactConfOf", fn := fun _ => fun
  | [d] => { results := [.lit (.bool true)], args := [d] }
  | _ => none }
def fnExactConfOfRow : OpenClaim := { program := "ytfcglkajekohiaa", sum := "17d7e891cbdd543480b6e0cae6d4e0a9148c2b4c3b4a7bc8cf49eca450848a8b", func := "loop.example/g00232/laws.FnExactConfOf", spec := "fnExactConfOf", apart := false }
def FnExactConfOfSaid : Prop := fnExactConfOfRow.holds Try.pinned (OpenSpec.ofChange fnExactConfOfSpec)

/-- ITS FALSE NEIGHBOUR: 'it returns false'. Refute it at one input. -/
def fnExactConfOfWrong : ChangeSpec := { name := "fnExactConfOf", fn := fun _ => fun
  | [d] => { results := [.lit (.bool false)], args := [d] }
  | _ => none }
def FnExactConfOfWrongFalsely : Prop := fnExactConfOfRow.holds Try.pinned (OpenSpec.ofChange fnExactConfOfWrong)

/-- 'laws.FnExactDecode': WHATEVER THE INPUT: true; the input reads as it did. -/
def fnExactDecodeSpec : ChangeSpec := { name := "fnExactDecode", fn := fun _ => fun
  | [d] => { results := [.lit (.bool true)], args := [d] }
  | _ => none }
def fnExactDecodeRow : OpenClaim := { program := "ytfcglkajekohiaa", sum := "17d7e891cbdd543480b6e0cae6d4e0a9148c2b4c3b4a7bc8cf49eca450848a8b", func := "loop.example/g00232/laws.FnExactDecode", spec := "fnExactDecode", apart := false }
def FnExactDecodeSaid : Prop := fnExactDecodeRow.holds Try.pinned (OpenSpec.ofChange fnExactDecodeSpec)

/-- ITS FALSE NEIGHBOUR: 'it returns false'. Refute it at one input. -/
def fnExactDecodeWrong : ChangeSpec := { name := "fnExactDecode", fn := fun _ => fun
  | [d] => { results := [.lit (.bool false)], args := [d] }
  | _ => none }
def FnExactDecodeWrongFalsely : Prop := fnExactDecodeRow.holds Try.pinned (OpenSpec.ofChange fnExactDecodeWrong)

/-- 'laws.FnMessages': WHATEVER THE INPUT: true; the input reads as it did. -/
def fnMessagesSpec : ChangeSpec := { name := "fnMessages", fn := fun _ => fun
  | [d] => { results := [.lit (.bool true)], args := [d] }
  | _ => none }
def fnMessagesRow : OpenClaim := { program := "ytfcglkajekohiaa", sum := "17d7e891cbdd543480b6e0cae6d4e0a9148c2b4c3b4a7bc8cf49eca450848a8b", func := "loop.example/g00232/laws.FnMessages", spec := "fnMessages", apart := false }
def FnMessagesSaid : Prop := fnMessagesRow.holds Try.pinned (OpenSpec.ofChange fnMessagesSpec)

/-- ITS FALSE NEIGHBOUR: 'it returns false'. Refute it at one input. -/
def fnMessagesWrong : ChangeSpec := { name := "fnMessages", fn := fun _ => fun
  | [d] => { results := [.lit (.bool false)], args := [d] }
  | _ => none }
def FnMessagesWrongFalsely : Prop := fnMessagesRow.holds Try.pinned (OpenSpec.ofChange fnMessagesWrong)

/- THE SECOND FORM. 'bulk': how many values and letters a reading holds, each counted each time it is reached (what is shared counts as often as it is met; a slice's spare places count too). A statement '..UptoSaid' is the law's where the arguments, and the package variables that the reading takes, are together of bulk at most 1048576: NARROWER than '..Said'. Prove '..Said' where nothing that the law and all that it calls make is longer than what came in: it says more and counts as full. Else prove '..UptoSaid'. A law counts once. -/
mutual
def uptoBulk {H : Type} : DataW H → Nat
  | .lit (.string bytes) => bytes.length + 1
  | .lit _ => 1
  | .nil => 1
  | .ptr d => uptoBulk d + 1
  | .slice elems spare => uptoBulkAll elems + uptoBulkAll spare + 1
  | .agg parts => uptoBulkAll parts + 1
  | .iface _ d => uptoBulk d + 1
  | .map entries => uptoBulkEntries entries + 1
  | .held _ => 1
def uptoBulkAll {H : Type} : List (DataW H) → Nat
  | [] => 0
  | d :: r => uptoBulk d + uptoBulkAll r
def uptoBulkEntries {H : Type} : List (Lit × DataW H) → Nat
  | [] => 0
  | x :: r => uptoBulkEntry x + uptoBulkEntries r
def uptoBulkEntry {H : Type} : Lit × DataW H → Nat
  | (.string bytes, d) => bytes.length + uptoBulk d + 1
  | (_, d) => uptoBulk d + 1
 end
def uptoSmall : (H : Type) → List (DataW H) → Bool := fun _ ds => decide (uptoBulkAll ds ≤ 1048576)
def OpenSpec.upto (s : _root_.Go.ChangeSpec) : _root_.Go.OpenSpec := { _root_.Go.OpenSpec.ofChange s with cond := some uptoSmall }

/-- 'laws.FnExactConfAt', WHERE WHAT IT READS IS OF BULK AT MOST 1048576: true; the input reads as it did. -/
def fnExactConfAtUptoRow : OpenClaim := { program := "ytfcglkajekohiaa", sum := "17d7e891cbdd543480b6e0cae6d4e0a9148c2b4c3b4a7bc8cf49eca450848a8b", func := "loop.example/g00232/laws.FnExactConfAt", spec := "fnExactConfAt", apart := false, narrowed := true }
def FnExactConfAtUptoSaid : Prop := fnExactConfAtUptoRow.holds Try.pinned (OpenSpec.upto fnExactConfAtSpec)

/-- 'laws.FnExactConfOf', WHERE WHAT IT READS IS OF BULK AT MOST 1048576: true; the input reads as it did. -/
def fnExactConfOfUptoRow : OpenClaim := { program := "ytfcglkajekohiaa", sum := "17d7e891cbdd543480b6e0cae6d4e0a9148c2b4c3b4a7bc8cf49eca450848a8b", func := "loop.example/g00232/laws.FnExactConfOf", spec := "fnExactConfOf", apart := false, narrowed := true }
def FnExactConfOfUptoSaid : Prop := fnExactConfOfUptoRow.holds Try.pinned (OpenSpec.upto fnExactConfOfSpec)

/-- 'laws.FnExactDecode', WHERE WHAT IT READS IS OF BULK AT MOST 1048576: true; the input reads as it did. -/
def fnExactDecodeUptoRow : OpenClaim := { program := "ytfcglkajekohiaa", sum := "17d7e891cbdd543480b6e0cae6d4e0a9148c2b4c3b4a7bc8cf49eca450848a8b", func := "loop.example/g00232/laws.FnExactDecode", spec := "fnExactDecode", apart := false, narrowed := true }
def FnExactDecodeUptoSaid : Prop := fnExactDecodeUptoRow.holds Try.pinned (OpenSpec.upto fnExactDecodeSpec)

/-- 'laws.FnMessages', WHERE WHAT IT READS IS OF BULK AT MOST 1048576: true; the input reads as it did. -/
def fnMessagesUptoRow : OpenClaim := { program := "ytfcglkajekohiaa", sum := "17d7e891cbdd543480b6e0cae6d4e0a9148c2b4c3b4a7bc8cf49eca450848a8b", func := "loop.example/g00232/laws.FnMessages", spec := "fnMessages", apart := false, narrowed := true }
def FnMessagesUptoSaid : Prop := fnMessagesUptoRow.holds Try.pinned (OpenSpec.upto fnMessagesSpec)

end Rows
end Go.Proofs.Ytfcglkajekohiaa
