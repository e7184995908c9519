/-
  No cell of these rows narrows 'for every input' (looked for: loops, veiled, ifaces, maps, wideKeys, modest, calm, conditions, laid).
  DERIVED. THE GIVEN ROWS OF THIS SEAT. 7 by the template 'for every input the law returns true; each argument reads behind the call as it read before'; 0 by the template 'total and deterministic' (their statements: YtagklimaiognnaaTotals.lean).
  GIVEN WITH THE SEED: the statements are not yours to turn. If you find one false, say at which input.
  Laid BY PROGRAM, IN A SANDBOX (cutbox-rows.mjs): the forced cells as the released guide's own fill.sh prints them over the translation f1b83ce1a55bd634… (all of the seat's roots in one cut). By AI agents, Wed Nov 11 2026. No macro, syntax, notation, axiom, sorry.
-/
import Derived.Test.YtagklimaiognnaaChecked
import GoSem.Claim
import GoSem.ClaimJoined
import GoSem.ClaimMapViews
import Derived.JoinedTies
import Derived.KernelRfl
namespace Go.Proofs.Ytagklimaiognnaa
/- THE CELL 'sum', in the pinned program and in every row, IS THE sha256 OF THE DUMP (.gsa) THAT YtagklimaiognnaaProg.lean LOADS. Nothing in Lean hashes anything: it is a label: what it is worth is what the hold of that sum in a sandbox is worth. -/
noncomputable def Try.pinned : Pinned := { name := "ytagklimaiognnaa", sum := "f1b83ce1a55bd634ed6d2fa268275efc3995334f75909508cf6d3f6778d803a2", checked := Try.checked }
namespace Rows
def none {H : Type} : Left H := { results := [], args := [] }

/-- 'weighbridgelaw08.SpanHas': WHATEVER THE INPUT: true; the input reads as it did. -/
def spanHasSpec : ChangeSpec := { name := "spanHas", fn := fun _ => fun
  | [d1, d2, d3] => { results := [.lit (.bool true)], args := [d1, d2, d3] }
  | _ => none }
def spanHasRow : OpenClaim := { program := "ytagklimaiognnaa", sum := "f1b83ce1a55bd634ed6d2fa268275efc3995334f75909508cf6d3f6778d803a2", func := "weighbridge/weighbridgelaw08.SpanHas", spec := "spanHas", inPlace := ["internal/bytealg.IndexByteString", "internal/bytealg.IndexString"], unfollowed := true, recurses := true, named := ["internal/bytealg.MaxLen"], apart := false }
def SpanHasSaid : Prop := spanHasRow.holds Try.pinned (OpenSpec.ofChange spanHasSpec)

/-- ITS FALSE NEIGHBOUR: 'it returns false'. Refute it at one input. -/
def spanHasWrong : ChangeSpec := { name := "spanHas", fn := fun _ => fun
  | [d1, d2, d3] => { results := [.lit (.bool false)], args := [d1, d2, d3] }
  | _ => none }
def SpanHasWrongFalsely : Prop := spanHasRow.holds Try.pinned (OpenSpec.ofChange spanHasWrong)

/-- 'weighbridgelaw08.SpanTexts': WHATEVER THE INPUT: true; the input reads as it did. -/
def spanTextsSpec : ChangeSpec := { name := "spanTexts", fn := fun _ => fun
  | [d1, d2] => { results := [.lit (.bool true)], args := [d1, d2] }
  | _ => none }
def spanTextsRow : OpenClaim := { program := "ytagklimaiognnaa", sum := "f1b83ce1a55bd634ed6d2fa268275efc3995334f75909508cf6d3f6778d803a2", func := "weighbridge/weighbridgelaw08.SpanTexts", spec := "spanTexts", inPlace := ["internal/bytealg.IndexByteString", "internal/bytealg.IndexString"], unfollowed := true, recurses := true, named := ["internal/bytealg.MaxLen"], apart := false }
def SpanTextsSaid : Prop := spanTextsRow.holds Try.pinned (OpenSpec.ofChange spanTextsSpec)

/-- ITS FALSE NEIGHBOUR: 'it returns false'. Refute it at one input. -/
def spanTextsWrong : ChangeSpec := { name := "spanTexts", fn := fun _ => fun
  | [d1, d2] => { results := [.lit (.bool false)], args := [d1, d2] }
  | _ => none }
def SpanTextsWrongFalsely : Prop := spanTextsRow.holds Try.pinned (OpenSpec.ofChange spanTextsWrong)

/-- 'weighbridgelaw08.SpanUnions': WHATEVER THE INPUT: true; the input reads as it did. -/
def spanUnionsSpec : ChangeSpec := { name := "spanUnions", fn := fun _ => fun
  | [d] => { results := [.lit (.bool true)], args := [d] }
  | _ => none }
def spanUnionsRow : OpenClaim := { program := "ytagklimaiognnaa", sum := "f1b83ce1a55bd634ed6d2fa268275efc3995334f75909508cf6d3f6778d803a2", func := "weighbridge/weighbridgelaw08.SpanUnions", spec := "spanUnions", inPlace := ["internal/bytealg.IndexByteString", "internal/bytealg.IndexString"], unfollowed := true, recurses := true, named := ["internal/bytealg.MaxLen"], apart := false }
def SpanUnionsSaid : Prop := spanUnionsRow.holds Try.pinned (OpenSpec.ofChange spanUnionsSpec)

/-- ITS FALSE NEIGHBOUR: 'it returns false'. Refute it at one input. -/
def spanUnionsWrong : ChangeSpec := { name := "spanUnions", fn := fun _ => fun
  | [d] => { results := [.lit (.bool false)], args := [d] }
  | _ => none }
def SpanUnionsWrongFalsely : Prop := spanUnionsRow.holds Try.pinned (OpenSpec.ofChange spanUnionsWrong)

/-- 'weighbridgelaw08.SpanPieces': WHATEVER THE INPUT: true; the input reads as it did. -/
def spanPiecesSpec : ChangeSpec := { name := "spanPieces", fn := fun _ => fun
  | [d1, d2] => { results := [.lit (.bool true)], args := [d1, d2] }
  | _ => none }
def spanPiecesRow : OpenClaim := { program := "ytagklimaiognnaa", sum := "f1b83ce1a55bd634ed6d2fa268275efc3995334f75909508cf6d3f6778d803a2", func := "weighbridge/weighbridgelaw08.SpanPieces", spec := "spanPieces", inPlace := ["internal/bytealg.IndexByteString", "internal/bytealg.IndexString"], unfollowed := true, recurses := true, named := ["internal/bytealg.MaxLen"], apart := false }
def SpanPiecesSaid : Prop := spanPiecesRow.holds Try.pinned (OpenSpec.ofChange spanPiecesSpec)

/-- ITS FALSE NEIGHBOUR: 'it returns false'. Refute it at one input. -/
def spanPiecesWrong : ChangeSpec := { name := "spanPieces", fn := fun _ => fun
  | [d1, d2] => { results := [.lit (.bool false)], args := [d1, d2] }
  | _ => none }
def SpanPiecesWrongFalsely : Prop := spanPiecesRow.holds Try.pinned (OpenSpec.ofChange spanPiecesWrong)

/-- 'weighbridgelaw08.SpanRests': WHATEVER THE INPUT: true; the input reads as it did. -/
def spanRestsSpec : ChangeSpec := { name := "spanRests", fn := fun _ => fun
  | [d1, d2] => { results := [.lit (.bool true)], args := [d1, d2] }
  | _ => none }
def spanRestsRow : OpenClaim := { program := "ytagklimaiognnaa", sum := "f1b83ce1a55bd634ed6d2fa268275efc3995334f75909508cf6d3f6778d803a2", func := "weighbridge/weighbridgelaw08.SpanRests", spec := "spanRests", inPlace := ["internal/bytealg.IndexByteString", "internal/bytealg.IndexString"], unfollowed := true, recurses := true, named := ["internal/bytealg.MaxLen"], apart := false }
def SpanRestsSaid : Prop := spanRestsRow.holds Try.pinned (OpenSpec.ofChange spanRestsSpec)

/-- ITS FALSE NEIGHBOUR: 'it returns false'. Refute it at one input. -/
def spanRestsWrong : ChangeSpec := { name := "spanRests", fn := fun _ => fun
  | [d1, d2] => { results := [.lit (.bool false)], args := [d1, d2] }
  | _ => none }
def SpanRestsWrongFalsely : Prop := spanRestsRow.holds Try.pinned (OpenSpec.ofChange spanRestsWrong)

/-- 'weighbridgelaw20.EdgesFinds': WHATEVER THE INPUT: true; the input reads as it did. -/
def edgesFindsSpec : ChangeSpec := { name := "edgesFinds", fn := fun _ => fun
  | [d1, d2] => { results := [.lit (.bool true)], args := [d1, d2] }
  | _ => none }
def edgesFindsRow : OpenClaim := { program := "ytagklimaiognnaa", sum := "f1b83ce1a55bd634ed6d2fa268275efc3995334f75909508cf6d3f6778d803a2", func := "weighbridge/weighbridgelaw20.EdgesFinds", spec := "edgesFinds", unfollowed := true, recurses := true, apart := false }
def EdgesFindsSaid : Prop := edgesFindsRow.holds Try.pinned (OpenSpec.ofChange edgesFindsSpec)

/-- ITS FALSE NEIGHBOUR: 'it returns false'. Refute it at one input. -/
def edgesFindsWrong : ChangeSpec := { name := "edgesFinds", fn := fun _ => fun
  | [d1, d2] => { results := [.lit (.bool false)], args := [d1, d2] }
  | _ => none }
def EdgesFindsWrongFalsely : Prop := edgesFindsRow.holds Try.pinned (OpenSpec.ofChange edgesFindsWrong)

/-- 'weighbridgelaw20.EdgesSame': WHATEVER THE INPUT: true; the input reads as it did. -/
def edgesSameSpec : ChangeSpec := { name := "edgesSame", fn := fun _ => fun
  | [d1, d2, d3] => { results := [.lit (.bool true)], args := [d1, d2, d3] }
  | _ => none }
def edgesSameRow : OpenClaim := { program := "ytagklimaiognnaa", sum := "f1b83ce1a55bd634ed6d2fa268275efc3995334f75909508cf6d3f6778d803a2", func := "weighbridge/weighbridgelaw20.EdgesSame", spec := "edgesSame", unfollowed := true, recurses := true, apart := false }
def EdgesSameSaid : Prop := edgesSameRow.holds Try.pinned (OpenSpec.ofChange edgesSameSpec)

/-- ITS FALSE NEIGHBOUR: 'it returns false'. Refute it at one input. -/
def edgesSameWrong : ChangeSpec := { name := "edgesSame", fn := fun _ => fun
  | [d1, d2, d3] => { results := [.lit (.bool false)], args := [d1, d2, d3] }
  | _ => none }
def EdgesSameWrongFalsely : Prop := edgesSameRow.holds Try.pinned (OpenSpec.ofChange edgesSameWrong)

/- THE SECOND FORM. 'bulk': how many values and letters a reading holds, each counted each time it is reached (what is shared counts as often as it is met; a slice's spare places count too). A statement '..UptoSaid' is the law's where the arguments, and the package variables that the reading takes, are together of bulk at most 1048576: NARROWER than '..Said'. Prove '..Said' where nothing that the law and all that it calls make is longer than what came in: it says more and counts as full. Else prove '..UptoSaid'. A law counts once. -/
mutual
def uptoBulk {H : Type} : DataW H → Nat
  | .lit (.string bytes) => bytes.length + 1
  | .lit _ => 1
  | .nil => 1
  | .ptr d => uptoBulk d + 1
  | .slice elems spare => uptoBulkAll elems + uptoBulkAll spare + 1
  | .agg parts => uptoBulkAll parts + 1
  | .iface _ d => uptoBulk d + 1
  | .map entries => uptoBulkEntries entries + 1
  | .held _ => 1
def uptoBulkAll {H : Type} : List (DataW H) → Nat
  | [] => 0
  | d :: r => uptoBulk d + uptoBulkAll r
def uptoBulkEntries {H : Type} : List (Lit × DataW H) → Nat
  | [] => 0
  | x :: r => uptoBulkEntry x + uptoBulkEntries r
def uptoBulkEntry {H : Type} : Lit × DataW H → Nat
  | (.string bytes, d) => bytes.length + uptoBulk d + 1
  | (_, d) => uptoBulk d + 1
 end
def uptoSmall : (H : Type) → List (DataW H) → Bool := fun _ ds => decide (uptoBulkAll ds ≤ 1048576)
def OpenSpec.upto (s : _root_.Go.ChangeSpec) : _root_.Go.OpenSpec := { _root_.Go.OpenSpec.ofChange s with cond := some uptoSmall }

/-- 'weighbridgelaw08.SpanHas', WHERE WHAT IT READS IS OF BULK AT MOST 1048576: true; the input reads as it did. -/
def spanHasUptoRow : OpenClaim := { program := "ytagklimaiognnaa", sum := "f1b83ce1a55bd634ed6d2fa268275efc3995334f75909508cf6d3f6778d803a2", func := "weighbridge/weighbridgelaw08.SpanHas", spec := "spanHas", inPlace := ["internal/bytealg.IndexByteString", "internal/bytealg.IndexString"], unfollowed := true, recurses := true, named := ["internal/bytealg.MaxLen"], apart := false, narrowed := true }
def SpanHasUptoSaid : Prop := spanHasUptoRow.holds Try.pinned (OpenSpec.upto spanHasSpec)

/-- 'weighbridgelaw08.SpanTexts', WHERE WHAT IT READS IS OF BULK AT MOST 1048576: true; the input reads as it did. -/
def spanTextsUptoRow : OpenClaim := { program := "ytagklimaiognnaa", sum := "f1b83ce1a55bd634ed6d2fa268275efc3995334f75909508cf6d3f6778d803a2", func := "weighbridge/weighbridgelaw08.SpanTexts", spec := "spanTexts", inPlace := ["internal/bytealg.IndexByteString", "internal/bytealg.IndexString"], unfollowed := true, recurses := true, named := ["internal/bytealg.MaxLen"], apart := false, narrowed := true }
def SpanTextsUptoSaid : Prop := spanTextsUptoRow.holds Try.pinned (OpenSpec.upto spanTextsSpec)

/-- 'weighbridgelaw08.SpanUnions', WHERE WHAT IT READS IS OF BULK AT MOST 1048576: true; the input reads as it did. -/
def spanUnionsUptoRow : OpenClaim := { program := "ytagklimaiognnaa", sum := "f1b83ce1a55bd634ed6d2fa268275efc3995334f75909508cf6d3f6778d803a2", func := "weighbridge/weighbridgelaw08.SpanUnions", spec := "spanUnions", inPlace := ["internal/bytealg.IndexByteString", "internal/bytealg.IndexString"], unfollowed := true, recurses := true, named := ["internal/bytealg.MaxLen"], apart := false, narrowed := true }
def SpanUnionsUptoSaid : Prop := spanUnionsUptoRow.holds Try.pinned (OpenSpec.upto spanUnionsSpec)

/-- 'weighbridgelaw08.SpanPieces', WHERE WHAT IT READS IS OF BULK AT MOST 1048576: true; the input reads as it did. -/
def spanPiecesUptoRow : OpenClaim := { program := "ytagklimaiognnaa", sum := "f1b83ce1a55bd634ed6d2fa268275efc3995334f75909508cf6d3f6778d803a2", func := "weighbridge/weighbridgelaw08.SpanPieces", spec := "spanPieces", inPlace := ["internal/bytealg.IndexByteString", "internal/bytealg.IndexString"], unfollowed := true, recurses := true, named := ["internal/bytealg.MaxLen"], apart := false, narrowed := true }
def SpanPiecesUptoSaid : Prop := spanPiecesUptoRow.holds Try.pinned (OpenSpec.upto spanPiecesSpec)

/-- 'weighbridgelaw08.SpanRests', WHERE WHAT IT READS IS OF BULK AT MOST 1048576: true; the input reads as it did. -/
def spanRestsUptoRow : OpenClaim := { program := "ytagklimaiognnaa", sum := "f1b83ce1a55bd634ed6d2fa268275efc3995334f75909508cf6d3f6778d803a2", func := "weighbridge/weighbridgelaw08.SpanRests", spec := "spanRests", inPlace := ["internal/bytealg.IndexByteString", "internal/bytealg.IndexString"], unfollowed := true, recurses := true, named := ["internal/bytealg.MaxLen"], apart := false, narrowed := true }
def SpanRestsUptoSaid : Prop := spanRestsUptoRow.holds Try.pinned (OpenSpec.upto spanRestsSpec)

/-- 'weighbridgelaw20.EdgesFinds', WHERE WHAT IT READS IS OF BULK AT MOST 1048576: true; the input reads as it did. -/
def edgesFindsUptoRow : OpenClaim := { program := "ytagklimaiognnaa", sum := "f1b83ce1a55bd634ed6d2fa268275efc3995334f75909508cf6d3f6778d803a2", func := "weighbridge/weighbridgelaw20.EdgesFinds", spec := "edgesFinds", unfollowed := true, recurses := true, apart := false, narrowed := true }
def EdgesFindsUptoSaid : Prop := edgesFindsUptoRow.holds Try.pinned (OpenSpec.upto edgesFindsSpec)

/-- 'weighbridgelaw20.EdgesSame', WHERE WHAT IT READS IS OF BULK AT MOST 1048576: true; the input reads as it did. -/
def edgesSameUptoRow : OpenClaim := { program := "ytagklimaiognnaa", sum := "f1b83ce1a55bd634ed6d2fa268275efc3995334f75909508cf6d3f6778d803a2", func := "weighbridge/weighbridgelaw20.EdgesSame", spec := "edgesSame", unfollowed := true, recurses := true, apart := false, narrowed := true }
def EdgesSameUptoSaid : Prop := edgesSameUptoRow.holds Try.pinned (OpenSpec.upto edgesSameSpec)

end Rows
end Go.Proofs.Ytagklimaiognnaa
