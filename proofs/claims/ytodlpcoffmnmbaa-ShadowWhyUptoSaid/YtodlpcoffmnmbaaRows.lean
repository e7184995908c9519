/-
  No cell of these rows narrows 'for every input' (looked for: loops, veiled, ifaces, maps, wideKeys, modest, calm, conditions, laid).
  DERIVED. THE GIVEN ROWS OF THIS SEAT. 5 by the template 'for every input the law returns true; each argument reads behind the call as it read before'; 0 by the template 'total and deterministic' (their statements: YtodlpcoffmnmbaaTotals.lean).
  GIVEN WITH THE SEED: the statements are not yours to turn. If you find one false, say at which input.
  Laid BY PROGRAM, IN A SANDBOX (cutbox-rows.mjs): the forced cells as the released guide's own fill.sh prints them over the translation 9a787ad87df586c8… (all of the seat's roots in one cut). By AI agents, Wed Nov 11 2026. No macro, syntax, notation, axiom, sorry.
-/
import Derived.Test.YtodlpcoffmnmbaaChecked
import GoSem.Claim
import GoSem.ClaimJoined
import GoSem.ClaimMapViews
import Derived.JoinedTies
import Derived.KernelRfl
namespace Go.Proofs.Ytodlpcoffmnmbaa
/- THE CELL 'sum', in the pinned program and in every row, IS THE sha256 OF THE DUMP (.gsa) THAT YtodlpcoffmnmbaaProg.lean LOADS. Nothing in Lean hashes anything: it is a label: what it is worth is what the hold of that sum in a sandbox is worth. -/
noncomputable def Try.pinned : Pinned := { name := "ytodlpcoffmnmbaa", sum := "9a787ad87df586c874b3c5106889ed8dbc7d9b335e6acc528e35a7bf7d84b859", checked := Try.checked }
namespace Rows
def none {H : Type} : Left H := { results := [], args := [] }

/-- 'weighbridgelaw23.ShadowTrue': WHATEVER THE INPUT: true; the input reads as it did. -/
def shadowTrueSpec : ChangeSpec := { name := "shadowTrue", fn := fun _ => fun
  | [d1, d2, d3] => { results := [.lit (.bool true)], args := [d1, d2, d3] }
  | _ => none }
def shadowTrueRow : OpenClaim := { program := "ytodlpcoffmnmbaa", sum := "9a787ad87df586c874b3c5106889ed8dbc7d9b335e6acc528e35a7bf7d84b859", func := "weighbridge/weighbridgelaw23.ShadowTrue", spec := "shadowTrue", unfollowed := true, recurses := true, apart := false }
def ShadowTrueSaid : Prop := shadowTrueRow.holds Try.pinned (OpenSpec.ofChange shadowTrueSpec)

/-- ITS FALSE NEIGHBOUR: 'it returns false'. Refute it at one input. -/
def shadowTrueWrong : ChangeSpec := { name := "shadowTrue", fn := fun _ => fun
  | [d1, d2, d3] => { results := [.lit (.bool false)], args := [d1, d2, d3] }
  | _ => none }
def ShadowTrueWrongFalsely : Prop := shadowTrueRow.holds Try.pinned (OpenSpec.ofChange shadowTrueWrong)

/-- 'weighbridgelaw23.ShadowWhy': WHATEVER THE INPUT: true; the input reads as it did. -/
def shadowWhySpec : ChangeSpec := { name := "shadowWhy", fn := fun _ => fun
  | [d1, d2] => { results := [.lit (.bool true)], args := [d1, d2] }
  | _ => none }
def shadowWhyRow : OpenClaim := { program := "ytodlpcoffmnmbaa", sum := "9a787ad87df586c874b3c5106889ed8dbc7d9b335e6acc528e35a7bf7d84b859", func := "weighbridge/weighbridgelaw23.ShadowWhy", spec := "shadowWhy", unfollowed := true, recurses := true, apart := false }
def ShadowWhySaid : Prop := shadowWhyRow.holds Try.pinned (OpenSpec.ofChange shadowWhySpec)

/-- ITS FALSE NEIGHBOUR: 'it returns false'. Refute it at one input. -/
def shadowWhyWrong : ChangeSpec := { name := "shadowWhy", fn := fun _ => fun
  | [d1, d2] => { results := [.lit (.bool false)], args := [d1, d2] }
  | _ => none }
def ShadowWhyWrongFalsely : Prop := shadowWhyRow.holds Try.pinned (OpenSpec.ofChange shadowWhyWrong)

/-- 'weighbridgelaw07.PrefixChecks': WHATEVER THE INPUT: true; the input reads as it did. -/
def prefixChecksSpec : ChangeSpec := { name := "prefixChecks", fn := fun _ => fun
  | [d1, d2, d3] => { results := [.lit (.bool true)], args := [d1, d2, d3] }
  | _ => none }
def prefixChecksRow : OpenClaim := { program := "ytodlpcoffmnmbaa", sum := "9a787ad87df586c874b3c5106889ed8dbc7d9b335e6acc528e35a7bf7d84b859", func := "weighbridge/weighbridgelaw07.PrefixChecks", spec := "prefixChecks", inPlace := ["internal/bytealg.IndexByteString", "internal/bytealg.IndexString"], recurses := true, named := ["internal/bytealg.MaxLen"], apart := false }
def PrefixChecksSaid : Prop := prefixChecksRow.holds Try.pinned (OpenSpec.ofChange prefixChecksSpec)

/-- ITS FALSE NEIGHBOUR: 'it returns false'. Refute it at one input. -/
def prefixChecksWrong : ChangeSpec := { name := "prefixChecks", fn := fun _ => fun
  | [d1, d2, d3] => { results := [.lit (.bool false)], args := [d1, d2, d3] }
  | _ => none }
def PrefixChecksWrongFalsely : Prop := prefixChecksRow.holds Try.pinned (OpenSpec.ofChange prefixChecksWrong)

/-- 'weighbridgelaw07.PrefixHas': WHATEVER THE INPUT: true; the input reads as it did. -/
def prefixHasSpec : ChangeSpec := { name := "prefixHas", fn := fun _ => fun
  | [d1, d2, d3] => { results := [.lit (.bool true)], args := [d1, d2, d3] }
  | _ => none }
def prefixHasRow : OpenClaim := { program := "ytodlpcoffmnmbaa", sum := "9a787ad87df586c874b3c5106889ed8dbc7d9b335e6acc528e35a7bf7d84b859", func := "weighbridge/weighbridgelaw07.PrefixHas", spec := "prefixHas", inPlace := ["internal/bytealg.IndexByteString", "internal/bytealg.IndexString"], recurses := true, named := ["internal/bytealg.MaxLen"], apart := false }
def PrefixHasSaid : Prop := prefixHasRow.holds Try.pinned (OpenSpec.ofChange prefixHasSpec)

/-- ITS FALSE NEIGHBOUR: 'it returns false'. Refute it at one input. -/
def prefixHasWrong : ChangeSpec := { name := "prefixHas", fn := fun _ => fun
  | [d1, d2, d3] => { results := [.lit (.bool false)], args := [d1, d2, d3] }
  | _ => none }
def PrefixHasWrongFalsely : Prop := prefixHasRow.holds Try.pinned (OpenSpec.ofChange prefixHasWrong)

/-- 'weighbridgelaw07.PrefixBack': WHATEVER THE INPUT: true; the input reads as it did. -/
def prefixBackSpec : ChangeSpec := { name := "prefixBack", fn := fun _ => fun
  | [d1, d2, d3] => { results := [.lit (.bool true)], args := [d1, d2, d3] }
  | _ => none }
def prefixBackRow : OpenClaim := { program := "ytodlpcoffmnmbaa", sum := "9a787ad87df586c874b3c5106889ed8dbc7d9b335e6acc528e35a7bf7d84b859", func := "weighbridge/weighbridgelaw07.PrefixBack", spec := "prefixBack", inPlace := ["internal/bytealg.IndexByteString", "internal/bytealg.IndexString"], recurses := true, named := ["internal/bytealg.MaxLen"], apart := false }
def PrefixBackSaid : Prop := prefixBackRow.holds Try.pinned (OpenSpec.ofChange prefixBackSpec)

/-- ITS FALSE NEIGHBOUR: 'it returns false'. Refute it at one input. -/
def prefixBackWrong : ChangeSpec := { name := "prefixBack", fn := fun _ => fun
  | [d1, d2, d3] => { results := [.lit (.bool false)], args := [d1, d2, d3] }
  | _ => none }
def PrefixBackWrongFalsely : Prop := prefixBackRow.holds Try.pinned (OpenSpec.ofChange prefixBackWrong)

/- THE SECOND FORM. 'bulk': how many values and letters a reading holds, each counted each time it is reached (what is shared counts as often as it is met; a slice's spare places count too). A statement '..UptoSaid' is the law's where the arguments, and the package variables that the reading takes, are together of bulk at most 1048576: NARROWER than '..Said'. Prove '..Said' where nothing that the law and all that it calls make is longer than what came in: it says more and counts as full. Else prove '..UptoSaid'. A law counts once. -/
mutual
def uptoBulk {H : Type} : DataW H → Nat
  | .lit (.string bytes) => bytes.length + 1
  | .lit _ => 1
  | .nil => 1
  | .ptr d => uptoBulk d + 1
  | .slice elems spare => uptoBulkAll elems + uptoBulkAll spare + 1
  | .agg parts => uptoBulkAll parts + 1
  | .iface _ d => uptoBulk d + 1
  | .map entries => uptoBulkEntries entries + 1
  | .held _ => 1
def uptoBulkAll {H : Type} : List (DataW H) → Nat
  | [] => 0
  | d :: r => uptoBulk d + uptoBulkAll r
def uptoBulkEntries {H : Type} : List (Lit × DataW H) → Nat
  | [] => 0
  | x :: r => uptoBulkEntry x + uptoBulkEntries r
def uptoBulkEntry {H : Type} : Lit × DataW H → Nat
  | (.string bytes, d) => bytes.length + uptoBulk d + 1
  | (_, d) => uptoBulk d + 1
 end
def uptoSmall : (H : Type) → List (DataW H) → Bool := fun _ ds => decide (uptoBulkAll ds ≤ 1048576)
def OpenSpec.upto (s : _root_.Go.ChangeSpec) : _root_.Go.OpenSpec := { _root_.Go.OpenSpec.ofChange s with cond := some uptoSmall }

/-- 'weighbridgelaw23.ShadowTrue', WHERE WHAT IT READS IS OF BULK AT MOST 1048576: true; the input reads as it did. -/
def shadowTrueUptoRow : OpenClaim := { program := "ytodlpcoffmnmbaa", sum := "9a787ad87df586c874b3c5106889ed8dbc7d9b335e6acc528e35a7bf7d84b859", func := "weighbridge/weighbridgelaw23.ShadowTrue", spec := "shadowTrue", unfollowed := true, recurses := true, apart := false, narrowed := true }
def ShadowTrueUptoSaid : Prop := shadowTrueUptoRow.holds Try.pinned (OpenSpec.upto shadowTrueSpec)

/-- 'weighbridgelaw23.ShadowWhy', WHERE WHAT IT READS IS OF BULK AT MOST 1048576: true; the input reads as it did. -/
def shadowWhyUptoRow : OpenClaim := { program := "ytodlpcoffmnmbaa", sum := "9a787ad87df586c874b3c5106889ed8dbc7d9b335e6acc528e35a7bf7d84b859", func := "weighbridge/weighbridgelaw23.ShadowWhy", spec := "shadowWhy", unfollowed := true, recurses := true, apart := false, narrowed := true }
def ShadowWhyUptoSaid : Prop := shadowWhyUptoRow.holds Try.pinned (OpenSpec.upto shadowWhySpec)

/-- 'weighbridgelaw07.PrefixChecks', WHERE WHAT IT READS IS OF BULK AT MOST 1048576: true; the input reads as it did. -/
def prefixChecksUptoRow : OpenClaim := { program := "ytodlpcoffmnmbaa", sum := "9a787ad87df586c874b3c5106889ed8dbc7d9b335e6acc528e35a7bf7d84b859", func := "weighbridge/weighbridgelaw07.PrefixChecks", spec := "prefixChecks", inPlace := ["internal/bytealg.IndexByteString", "internal/bytealg.IndexString"], recurses := true, named := ["internal/bytealg.MaxLen"], apart := false, narrowed := true }
def PrefixChecksUptoSaid : Prop := prefixChecksUptoRow.holds Try.pinned (OpenSpec.upto prefixChecksSpec)

/-- 'weighbridgelaw07.PrefixHas', WHERE WHAT IT READS IS OF BULK AT MOST 1048576: true; the input reads as it did. -/
def prefixHasUptoRow : OpenClaim := { program := "ytodlpcoffmnmbaa", sum := "9a787ad87df586c874b3c5106889ed8dbc7d9b335e6acc528e35a7bf7d84b859", func := "weighbridge/weighbridgelaw07.PrefixHas", spec := "prefixHas", inPlace := ["internal/bytealg.IndexByteString", "internal/bytealg.IndexString"], recurses := true, named := ["internal/bytealg.MaxLen"], apart := false, narrowed := true }
def PrefixHasUptoSaid : Prop := prefixHasUptoRow.holds Try.pinned (OpenSpec.upto prefixHasSpec)

/-- 'weighbridgelaw07.PrefixBack', WHERE WHAT IT READS IS OF BULK AT MOST 1048576: true; the input reads as it did. -/
def prefixBackUptoRow : OpenClaim := { program := "ytodlpcoffmnmbaa", sum := "9a787ad87df586c874b3c5106889ed8dbc7d9b335e6acc528e35a7bf7d84b859", func := "weighbridge/weighbridgelaw07.PrefixBack", spec := "prefixBack", inPlace := ["internal/bytealg.IndexByteString", "internal/bytealg.IndexString"], recurses := true, named := ["internal/bytealg.MaxLen"], apart := false, narrowed := true }
def PrefixBackUptoSaid : Prop := prefixBackUptoRow.holds Try.pinned (OpenSpec.upto prefixBackSpec)

end Rows
end Go.Proofs.Ytodlpcoffmnmbaa
