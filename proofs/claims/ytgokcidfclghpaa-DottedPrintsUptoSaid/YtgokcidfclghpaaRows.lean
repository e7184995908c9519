/-
  No cell of these rows narrows 'for every input' (looked for: loops, veiled, ifaces, maps, wideKeys, modest, calm, conditions, laid).
  DERIVED. THE GIVEN ROWS OF THIS SEAT. 4 by the template 'for every input the law returns true; each argument reads behind the call as it read before'; 0 by the template 'total and deterministic' (their statements: YtgokcidfclghpaaTotals.lean).
  GIVEN WITH THE SEED: the statements are not yours to turn. If you find one false, say at which input.
  Laid BY PROGRAM, IN A SANDBOX (cutbox-rows.mjs): the forced cells as the released guide's own fill.sh prints them over the translation efb1f14def831428… (all of the seat's roots in one cut). By AI agents, Wed Nov 11 2026. No macro, syntax, notation, axiom, sorry.
-/
import Derived.Test.YtgokcidfclghpaaChecked
import GoSem.Claim
import GoSem.ClaimJoined
import GoSem.ClaimMapViews
import Derived.JoinedTies
import Derived.KernelRfl
namespace Go.Proofs.Ytgokcidfclghpaa
/- THE CELL 'sum', in the pinned program and in every row, IS THE sha256 OF THE DUMP (.gsa) THAT YtgokcidfclghpaaProg.lean LOADS. Nothing in Lean hashes anything: it is a label: what it is worth is what the hold of that sum in a sandbox is worth. -/
noncomputable def Try.pinned : Pinned := { name := "ytgokcidfclghpaa", sum := "efb1f14def831428f13ce84ce3a0e1da870dc03321d9e4dac4501f68dfaf7ceb", checked := Try.checked }
namespace Rows
def none {H : Type} : Left H := { results := [], args := [] }

/-- 'weighbridgelaw05.DottedPrints': WHATEVER THE INPUT: true; the input reads as it did. -/
def dottedPrintsSpec : ChangeSpec := { name := "dottedPrints", fn := fun _ => fun
  | [d1, d2] => { results := [.lit (.bool true)], args := [d1, d2] }
  | _ => none }
def dottedPrintsRow : OpenClaim := { program := "ytgokcidfclghpaa", sum := "efb1f14def831428f13ce84ce3a0e1da870dc03321d9e4dac4501f68dfaf7ceb", func := "weighbridge/weighbridgelaw05.DottedPrints", spec := "dottedPrints", recurses := true, apart := false }
def DottedPrintsSaid : Prop := dottedPrintsRow.holds Try.pinned (OpenSpec.ofChange dottedPrintsSpec)

/-- ITS FALSE NEIGHBOUR: 'it returns false'. Refute it at one input. -/
def dottedPrintsWrong : ChangeSpec := { name := "dottedPrints", fn := fun _ => fun
  | [d1, d2] => { results := [.lit (.bool false)], args := [d1, d2] }
  | _ => none }
def DottedPrintsWrongFalsely : Prop := dottedPrintsRow.holds Try.pinned (OpenSpec.ofChange dottedPrintsWrong)

/-- 'weighbridgelaw05.DottedParses': WHATEVER THE INPUT: true; the input reads as it did. -/
def dottedParsesSpec : ChangeSpec := { name := "dottedParses", fn := fun _ => fun
  | [d] => { results := [.lit (.bool true)], args := [d] }
  | _ => none }
def dottedParsesRow : OpenClaim := { program := "ytgokcidfclghpaa", sum := "efb1f14def831428f13ce84ce3a0e1da870dc03321d9e4dac4501f68dfaf7ceb", func := "weighbridge/weighbridgelaw05.DottedParses", spec := "dottedParses", recurses := true, apart := false }
def DottedParsesSaid : Prop := dottedParsesRow.holds Try.pinned (OpenSpec.ofChange dottedParsesSpec)

/-- ITS FALSE NEIGHBOUR: 'it returns false'. Refute it at one input. -/
def dottedParsesWrong : ChangeSpec := { name := "dottedParses", fn := fun _ => fun
  | [d] => { results := [.lit (.bool false)], args := [d] }
  | _ => none }
def DottedParsesWrongFalsely : Prop := dottedParsesRow.holds Try.pinned (OpenSpec.ofChange dottedParsesWrong)

/-- 'weighbridgelaw05.DottedBack': WHATEVER THE INPUT: true; the input reads as it did. -/
def dottedBackSpec : ChangeSpec := { name := "dottedBack", fn := fun _ => fun
  | [d1, d2] => { results := [.lit (.bool true)], args := [d1, d2] }
  | _ => none }
def dottedBackRow : OpenClaim := { program := "ytgokcidfclghpaa", sum := "efb1f14def831428f13ce84ce3a0e1da870dc03321d9e4dac4501f68dfaf7ceb", func := "weighbridge/weighbridgelaw05.DottedBack", spec := "dottedBack", recurses := true, apart := false }
def DottedBackSaid : Prop := dottedBackRow.holds Try.pinned (OpenSpec.ofChange dottedBackSpec)

/-- ITS FALSE NEIGHBOUR: 'it returns false'. Refute it at one input. -/
def dottedBackWrong : ChangeSpec := { name := "dottedBack", fn := fun _ => fun
  | [d1, d2] => { results := [.lit (.bool false)], args := [d1, d2] }
  | _ => none }
def DottedBackWrongFalsely : Prop := dottedBackRow.holds Try.pinned (OpenSpec.ofChange dottedBackWrong)

/-- 'weighbridgelaw05.DottedSorts': WHATEVER THE INPUT: true; the input reads as it did. -/
def dottedSortsSpec : ChangeSpec := { name := "dottedSorts", fn := fun _ => fun
  | [d1, d2] => { results := [.lit (.bool true)], args := [d1, d2] }
  | _ => none }
def dottedSortsRow : OpenClaim := { program := "ytgokcidfclghpaa", sum := "efb1f14def831428f13ce84ce3a0e1da870dc03321d9e4dac4501f68dfaf7ceb", func := "weighbridge/weighbridgelaw05.DottedSorts", spec := "dottedSorts", recurses := true, apart := false }
def DottedSortsSaid : Prop := dottedSortsRow.holds Try.pinned (OpenSpec.ofChange dottedSortsSpec)

/-- ITS FALSE NEIGHBOUR: 'it returns false'. Refute it at one input. -/
def dottedSortsWrong : ChangeSpec := { name := "dottedSorts", fn := fun _ => fun
  | [d1, d2] => { results := [.lit (.bool false)], args := [d1, d2] }
  | _ => none }
def DottedSortsWrongFalsely : Prop := dottedSortsRow.holds Try.pinned (OpenSpec.ofChange dottedSortsWrong)

/- THE SECOND FORM. 'bulk': how many values and letters a reading holds, each counted each time it is reached (what is shared counts as often as it is met; a slice's spare places count too). A statement '..UptoSaid' is the law's where the arguments, and the package variables that the reading takes, are together of bulk at most 1048576: NARROWER than '..Said'. Prove '..Said' where nothing that the law and all that it calls make is longer than what came in: it says more and counts as full. Else prove '..UptoSaid'. A law counts once. -/
mutual
def uptoBulk {H : Type} : DataW H → Nat
  | .lit (.string bytes) => bytes.length + 1
  | .lit _ => 1
  | .nil => 1
  | .ptr d => uptoBulk d + 1
  | .slice elems spare => uptoBulkAll elems + uptoBulkAll spare + 1
  | .agg parts => uptoBulkAll parts + 1
  | .iface _ d => uptoBulk d + 1
  | .map entries => uptoBulkEntries entries + 1
  | .held _ => 1
def uptoBulkAll {H : Type} : List (DataW H) → Nat
  | [] => 0
  | d :: r => uptoBulk d + uptoBulkAll r
def uptoBulkEntries {H : Type} : List (Lit × DataW H) → Nat
  | [] => 0
  | x :: r => uptoBulkEntry x + uptoBulkEntries r
def uptoBulkEntry {H : Type} : Lit × DataW H → Nat
  | (.string bytes, d) => bytes.length + uptoBulk d + 1
  | (_, d) => uptoBulk d + 1
 end
def uptoSmall : (H : Type) → List (DataW H) → Bool := fun _ ds => decide (uptoBulkAll ds ≤ 1048576)
def OpenSpec.upto (s : _root_.Go.ChangeSpec) : _root_.Go.OpenSpec := { _root_.Go.OpenSpec.ofChange s with cond := some uptoSmall }

/-- 'weighbridgelaw05.DottedPrints', WHERE WHAT IT READS IS OF BULK AT MOST 1048576: true; the input reads as it did. -/
def dottedPrintsUptoRow : OpenClaim := { program := "ytgokcidfclghpaa", sum := "efb1f14def831428f13ce84ce3a0e1da870dc03321d9e4dac4501f68dfaf7ceb", func := "weighbridge/weighbridgelaw05.DottedPrints", spec := "dottedPrints", recurses := true, apart := false, narrowed := true }
def DottedPrintsUptoSaid : Prop := dottedPrintsUptoRow.holds Try.pinned (OpenSpec.upto dottedPrintsSpec)

/-- 'weighbridgelaw05.DottedParses', WHERE WHAT IT READS IS OF BULK AT MOST 1048576: true; the input reads as it did. -/
def dottedParsesUptoRow : OpenClaim := { program := "ytgokcidfclghpaa", sum := "efb1f14def831428f13ce84ce3a0e1da870dc03321d9e4dac4501f68dfaf7ceb", func := "weighbridge/weighbridgelaw05.DottedParses", spec := "dottedParses", recurses := true, apart := false, narrowed := true }
def DottedParsesUptoSaid : Prop := dottedParsesUptoRow.holds Try.pinned (OpenSpec.upto dottedParsesSpec)

/-- 'weighbridgelaw05.DottedBack', WHERE WHAT IT READS IS OF BULK AT MOST 1048576: true; the input reads as it did. -/
def dottedBackUptoRow : OpenClaim := { program := "ytgokcidfclghpaa", sum := "efb1f14def831428f13ce84ce3a0e1da870dc03321d9e4dac4501f68dfaf7ceb", func := "weighbridge/weighbridgelaw05.DottedBack", spec := "dottedBack", recurses := true, apart := false, narrowed := true }
def DottedBackUptoSaid : Prop := dottedBackUptoRow.holds Try.pinned (OpenSpec.upto dottedBackSpec)

/-- 'weighbridgelaw05.DottedSorts', WHERE WHAT IT READS IS OF BULK AT MOST 1048576: true; the input reads as it did. -/
def dottedSortsUptoRow : OpenClaim := { program := "ytgokcidfclghpaa", sum := "efb1f14def831428f13ce84ce3a0e1da870dc03321d9e4dac4501f68dfaf7ceb", func := "weighbridge/weighbridgelaw05.DottedSorts", spec := "dottedSorts", recurses := true, apart := false, narrowed := true }
def DottedSortsUptoSaid : Prop := dottedSortsUptoRow.holds Try.pinned (OpenSpec.upto dottedSortsSpec)

end Rows
end Go.Proofs.Ytgokcidfclghpaa
