/-
  No cell of these rows narrows 'for every input' (looked for: loops, veiled, ifaces, maps, wideKeys, modest, calm, conditions, laid).
  DERIVED. THE GIVEN ROWS OF THIS SEAT. 6 by the template 'for every input the law returns true; each argument reads behind the call as it read before'; 0 by the template 'total and deterministic' (their statements: YtjciahobhaaheaaTotals.lean).
  GIVEN WITH THE SEED: the statements are not yours to turn. If you find one false, say at which input.
  Laid BY PROGRAM, IN A SANDBOX (cutbox-rows.mjs): the forced cells as the released guide's own fill.sh prints them over the translation 2e6767b99967d3d0… (all of the seat's roots in one cut). By AI agents, Wed Nov 11 2026. No macro, syntax, notation, axiom, sorry.
-/
import Derived.Test.YtjciahobhaaheaaChecked
import GoSem.Claim
import GoSem.ClaimJoined
import GoSem.ClaimMapViews
import Derived.JoinedTies
import Derived.KernelRfl
namespace Go.Proofs.Ytjciahobhaaheaa
/- THE CELL 'sum', in the pinned program and in every row, IS THE sha256 OF THE DUMP (.gsa) THAT YtjciahobhaaheaaProg.lean LOADS. Nothing in Lean hashes anything: it is a label: what it is worth is what the hold of that sum in a sandbox is worth. -/
noncomputable def Try.pinned : Pinned := { name := "ytjciahobhaaheaa", sum := "2e6767b99967d3d00e7ea6ad1381590ec3d67053bdcf2bff872d0b2b1ae9bdce", checked := Try.checked }
namespace Rows
def none {H : Type} : Left H := { results := [], args := [] }

/-- 'weighbridgelaw21.DirectFinds': WHATEVER THE INPUT: true; the input reads as it did. -/
def directFindsSpec : ChangeSpec := { name := "directFinds", fn := fun _ => fun
  | [d1, d2, d3] => { results := [.lit (.bool true)], args := [d1, d2, d3] }
  | _ => none }
def directFindsRow : OpenClaim := { program := "ytjciahobhaaheaa", sum := "2e6767b99967d3d00e7ea6ad1381590ec3d67053bdcf2bff872d0b2b1ae9bdce", func := "weighbridge/weighbridgelaw21.DirectFinds", spec := "directFinds", apart := false }
def DirectFindsSaid : Prop := directFindsRow.holds Try.pinned (OpenSpec.ofChange directFindsSpec)

/-- ITS FALSE NEIGHBOUR: 'it returns false'. Refute it at one input. -/
def directFindsWrong : ChangeSpec := { name := "directFinds", fn := fun _ => fun
  | [d1, d2, d3] => { results := [.lit (.bool false)], args := [d1, d2, d3] }
  | _ => none }
def DirectFindsWrongFalsely : Prop := directFindsRow.holds Try.pinned (OpenSpec.ofChange directFindsWrong)

/-- 'weighbridgelaw21.DirectHas': WHATEVER THE INPUT: true; the input reads as it did. -/
def directHasSpec : ChangeSpec := { name := "directHas", fn := fun _ => fun
  | [d1, d2, d3] => { results := [.lit (.bool true)], args := [d1, d2, d3] }
  | _ => none }
def directHasRow : OpenClaim := { program := "ytjciahobhaaheaa", sum := "2e6767b99967d3d00e7ea6ad1381590ec3d67053bdcf2bff872d0b2b1ae9bdce", func := "weighbridge/weighbridgelaw21.DirectHas", spec := "directHas", apart := false }
def DirectHasSaid : Prop := directHasRow.holds Try.pinned (OpenSpec.ofChange directHasSpec)

/-- ITS FALSE NEIGHBOUR: 'it returns false'. Refute it at one input. -/
def directHasWrong : ChangeSpec := { name := "directHas", fn := fun _ => fun
  | [d1, d2, d3] => { results := [.lit (.bool false)], args := [d1, d2, d3] }
  | _ => none }
def DirectHasWrongFalsely : Prop := directHasRow.holds Try.pinned (OpenSpec.ofChange directHasWrong)

/-- 'weighbridgelaw18.BitrowSets': WHATEVER THE INPUT: true; the input reads as it did. -/
def bitrowSetsSpec : ChangeSpec := { name := "bitrowSets", fn := fun _ => fun
  | [d1, d2, d3] => { results := [.lit (.bool true)], args := [d1, d2, d3] }
  | _ => none }
def bitrowSetsRow : OpenClaim := { program := "ytjciahobhaaheaa", sum := "2e6767b99967d3d00e7ea6ad1381590ec3d67053bdcf2bff872d0b2b1ae9bdce", func := "weighbridge/weighbridgelaw18.BitrowSets", spec := "bitrowSets", unfollowed := true, recurses := true, apart := false }
def BitrowSetsSaid : Prop := bitrowSetsRow.holds Try.pinned (OpenSpec.ofChange bitrowSetsSpec)

/-- ITS FALSE NEIGHBOUR: 'it returns false'. Refute it at one input. -/
def bitrowSetsWrong : ChangeSpec := { name := "bitrowSets", fn := fun _ => fun
  | [d1, d2, d3] => { results := [.lit (.bool false)], args := [d1, d2, d3] }
  | _ => none }
def BitrowSetsWrongFalsely : Prop := bitrowSetsRow.holds Try.pinned (OpenSpec.ofChange bitrowSetsWrong)

/-- 'weighbridgelaw18.BitrowJoins': WHATEVER THE INPUT: true; the input reads as it did. -/
def bitrowJoinsSpec : ChangeSpec := { name := "bitrowJoins", fn := fun _ => fun
  | [d] => { results := [.lit (.bool true)], args := [d] }
  | _ => none }
def bitrowJoinsRow : OpenClaim := { program := "ytjciahobhaaheaa", sum := "2e6767b99967d3d00e7ea6ad1381590ec3d67053bdcf2bff872d0b2b1ae9bdce", func := "weighbridge/weighbridgelaw18.BitrowJoins", spec := "bitrowJoins", unfollowed := true, recurses := true, apart := false }
def BitrowJoinsSaid : Prop := bitrowJoinsRow.holds Try.pinned (OpenSpec.ofChange bitrowJoinsSpec)

/-- ITS FALSE NEIGHBOUR: 'it returns false'. Refute it at one input. -/
def bitrowJoinsWrong : ChangeSpec := { name := "bitrowJoins", fn := fun _ => fun
  | [d] => { results := [.lit (.bool false)], args := [d] }
  | _ => none }
def BitrowJoinsWrongFalsely : Prop := bitrowJoinsRow.holds Try.pinned (OpenSpec.ofChange bitrowJoinsWrong)

/-- 'weighbridgelaw18.BitrowBack': WHATEVER THE INPUT: true; the input reads as it did. -/
def bitrowBackSpec : ChangeSpec := { name := "bitrowBack", fn := fun _ => fun
  | [d1, d2] => { results := [.lit (.bool true)], args := [d1, d2] }
  | _ => none }
def bitrowBackRow : OpenClaim := { program := "ytjciahobhaaheaa", sum := "2e6767b99967d3d00e7ea6ad1381590ec3d67053bdcf2bff872d0b2b1ae9bdce", func := "weighbridge/weighbridgelaw18.BitrowBack", spec := "bitrowBack", unfollowed := true, recurses := true, apart := false }
def BitrowBackSaid : Prop := bitrowBackRow.holds Try.pinned (OpenSpec.ofChange bitrowBackSpec)

/-- ITS FALSE NEIGHBOUR: 'it returns false'. Refute it at one input. -/
def bitrowBackWrong : ChangeSpec := { name := "bitrowBack", fn := fun _ => fun
  | [d1, d2] => { results := [.lit (.bool false)], args := [d1, d2] }
  | _ => none }
def BitrowBackWrongFalsely : Prop := bitrowBackRow.holds Try.pinned (OpenSpec.ofChange bitrowBackWrong)

/-- 'weighbridgelaw18.BitrowTexts': WHATEVER THE INPUT: true; the input reads as it did. -/
def bitrowTextsSpec : ChangeSpec := { name := "bitrowTexts", fn := fun _ => fun
  | [d1, d2, d3] => { results := [.lit (.bool true)], args := [d1, d2, d3] }
  | _ => none }
def bitrowTextsRow : OpenClaim := { program := "ytjciahobhaaheaa", sum := "2e6767b99967d3d00e7ea6ad1381590ec3d67053bdcf2bff872d0b2b1ae9bdce", func := "weighbridge/weighbridgelaw18.BitrowTexts", spec := "bitrowTexts", unfollowed := true, recurses := true, apart := false }
def BitrowTextsSaid : Prop := bitrowTextsRow.holds Try.pinned (OpenSpec.ofChange bitrowTextsSpec)

/-- ITS FALSE NEIGHBOUR: 'it returns false'. Refute it at one input. -/
def bitrowTextsWrong : ChangeSpec := { name := "bitrowTexts", fn := fun _ => fun
  | [d1, d2, d3] => { results := [.lit (.bool false)], args := [d1, d2, d3] }
  | _ => none }
def BitrowTextsWrongFalsely : Prop := bitrowTextsRow.holds Try.pinned (OpenSpec.ofChange bitrowTextsWrong)

/- THE SECOND FORM. 'bulk': how many values and letters a reading holds, each counted each time it is reached (what is shared counts as often as it is met; a slice's spare places count too). A statement '..UptoSaid' is the law's where the arguments, and the package variables that the reading takes, are together of bulk at most 1048576: NARROWER than '..Said'. Prove '..Said' where nothing that the law and all that it calls make is longer than what came in: it says more and counts as full. Else prove '..UptoSaid'. A law counts once. -/
mutual
def uptoBulk {H : Type} : DataW H → Nat
  | .lit (.string bytes) => bytes.length + 1
  | .lit _ => 1
  | .nil => 1
  | .ptr d => uptoBulk d + 1
  | .slice elems spare => uptoBulkAll elems + uptoBulkAll spare + 1
  | .agg parts => uptoBulkAll parts + 1
  | .iface _ d => uptoBulk d + 1
  | .map entries => uptoBulkEntries entries + 1
  | .held _ => 1
def uptoBulkAll {H : Type} : List (DataW H) → Nat
  | [] => 0
  | d :: r => uptoBulk d + uptoBulkAll r
def uptoBulkEntries {H : Type} : List (Lit × DataW H) → Nat
  | [] => 0
  | x :: r => uptoBulkEntry x + uptoBulkEntries r
def uptoBulkEntry {H : Type} : Lit × DataW H → Nat
  | (.string bytes, d) => bytes.length + uptoBulk d + 1
  | (_, d) => uptoBulk d + 1
 end
def uptoSmall : (H : Type) → List (DataW H) → Bool := fun _ ds => decide (uptoBulkAll ds ≤ 1048576)
def OpenSpec.upto (s : _root_.Go.ChangeSpec) : _root_.Go.OpenSpec := { _root_.Go.OpenSpec.ofChange s with cond := some uptoSmall }

/-- 'weighbridgelaw21.DirectFinds', WHERE WHAT IT READS IS OF BULK AT MOST 1048576: true; the input reads as it did. -/
def directFindsUptoRow : OpenClaim := { program := "ytjciahobhaaheaa", sum := "2e6767b99967d3d00e7ea6ad1381590ec3d67053bdcf2bff872d0b2b1ae9bdce", func := "weighbridge/weighbridgelaw21.DirectFinds", spec := "directFinds", apart := false, narrowed := true }
def DirectFindsUptoSaid : Prop := directFindsUptoRow.holds Try.pinned (OpenSpec.upto directFindsSpec)

/-- 'weighbridgelaw21.DirectHas', WHERE WHAT IT READS IS OF BULK AT MOST 1048576: true; the input reads as it did. -/
def directHasUptoRow : OpenClaim := { program := "ytjciahobhaaheaa", sum := "2e6767b99967d3d00e7ea6ad1381590ec3d67053bdcf2bff872d0b2b1ae9bdce", func := "weighbridge/weighbridgelaw21.DirectHas", spec := "directHas", apart := false, narrowed := true }
def DirectHasUptoSaid : Prop := directHasUptoRow.holds Try.pinned (OpenSpec.upto directHasSpec)

/-- 'weighbridgelaw18.BitrowSets', WHERE WHAT IT READS IS OF BULK AT MOST 1048576: true; the input reads as it did. -/
def bitrowSetsUptoRow : OpenClaim := { program := "ytjciahobhaaheaa", sum := "2e6767b99967d3d00e7ea6ad1381590ec3d67053bdcf2bff872d0b2b1ae9bdce", func := "weighbridge/weighbridgelaw18.BitrowSets", spec := "bitrowSets", unfollowed := true, recurses := true, apart := false, narrowed := true }
def BitrowSetsUptoSaid : Prop := bitrowSetsUptoRow.holds Try.pinned (OpenSpec.upto bitrowSetsSpec)

/-- 'weighbridgelaw18.BitrowJoins', WHERE WHAT IT READS IS OF BULK AT MOST 1048576: true; the input reads as it did. -/
def bitrowJoinsUptoRow : OpenClaim := { program := "ytjciahobhaaheaa", sum := "2e6767b99967d3d00e7ea6ad1381590ec3d67053bdcf2bff872d0b2b1ae9bdce", func := "weighbridge/weighbridgelaw18.BitrowJoins", spec := "bitrowJoins", unfollowed := true, recurses := true, apart := false, narrowed := true }
def BitrowJoinsUptoSaid : Prop := bitrowJoinsUptoRow.holds Try.pinned (OpenSpec.upto bitrowJoinsSpec)

/-- 'weighbridgelaw18.BitrowBack', WHERE WHAT IT READS IS OF BULK AT MOST 1048576: true; the input reads as it did. -/
def bitrowBackUptoRow : OpenClaim := { program := "ytjciahobhaaheaa", sum := "2e6767b99967d3d00e7ea6ad1381590ec3d67053bdcf2bff872d0b2b1ae9bdce", func := "weighbridge/weighbridgelaw18.BitrowBack", spec := "bitrowBack", unfollowed := true, recurses := true, apart := false, narrowed := true }
def BitrowBackUptoSaid : Prop := bitrowBackUptoRow.holds Try.pinned (OpenSpec.upto bitrowBackSpec)

/-- 'weighbridgelaw18.BitrowTexts', WHERE WHAT IT READS IS OF BULK AT MOST 1048576: true; the input reads as it did. -/
def bitrowTextsUptoRow : OpenClaim := { program := "ytjciahobhaaheaa", sum := "2e6767b99967d3d00e7ea6ad1381590ec3d67053bdcf2bff872d0b2b1ae9bdce", func := "weighbridge/weighbridgelaw18.BitrowTexts", spec := "bitrowTexts", unfollowed := true, recurses := true, apart := false, narrowed := true }
def BitrowTextsUptoSaid : Prop := bitrowTextsUptoRow.holds Try.pinned (OpenSpec.upto bitrowTextsSpec)

end Rows
end Go.Proofs.Ytjciahobhaaheaa
