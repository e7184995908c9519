/-
  No cell of these rows narrows 'for every input' (looked for: loops, veiled, ifaces, maps, wideKeys, modest, calm, conditions, laid).
  DERIVED. THE GIVEN ROWS OF THIS SEAT. 3 by the template 'for every input the law returns true; each argument reads behind the call as it read before'; 0 by the template 'total and deterministic' (their statements: YtecmopdncgekhaaTotals.lean).
  GIVEN WITH THE SEED: the statements are not yours to turn. If you find one false, say at which input.
  Laid BY PROGRAM, IN A SANDBOX (cutbox-rows.mjs): the forced cells as the released guide's own fill.sh prints them over the translation ac313638cae8b918… (all of the seat's roots in one cut). By AI agents, Wed Nov 11 2026. No macro, syntax, notation, axiom, sorry.
-/
import Derived.Test.YtecmopdncgekhaaChecked
import GoSem.Claim
import GoSem.ClaimJoined
import GoSem.ClaimMapViews
import Derived.JoinedTies
import Derived.KernelRfl
namespace Go.Proofs.Ytecmopdncgekhaa
/- THE CELL 'sum', in the pinned program and in every row, IS THE sha256 OF THE DUMP (.gsa) THAT YtecmopdncgekhaaProg.lean LOADS. Nothing in Lean hashes anything: it is a label: what it is worth is what the hold of that sum in a sandbox is worth. -/
noncomputable def Try.pinned : Pinned := { name := "ytecmopdncgekhaa", sum := "ac313638cae8b9186c2039ae6ed76d62f4be0e1515121060f9829bb62befc3d8", checked := Try.checked }
namespace Rows
def none {H : Type} : Left H := { results := [], args := [] }

/-- 'weighbridgelaw19.TrieFinds': WHATEVER THE INPUT: true; the input reads as it did. -/
def trieFindsSpec : ChangeSpec := { name := "trieFinds", fn := fun _ => fun
  | [d1, d2, d3] => { results := [.lit (.bool true)], args := [d1, d2, d3] }
  | _ => none }
def trieFindsRow : OpenClaim := { program := "ytecmopdncgekhaa", sum := "ac313638cae8b9186c2039ae6ed76d62f4be0e1515121060f9829bb62befc3d8", func := "weighbridge/weighbridgelaw19.TrieFinds", spec := "trieFinds", unfollowed := true, recurses := true, apart := false }
def TrieFindsSaid : Prop := trieFindsRow.holds Try.pinned (OpenSpec.ofChange trieFindsSpec)

/-- ITS FALSE NEIGHBOUR: 'it returns false'. Refute it at one input. -/
def trieFindsWrong : ChangeSpec := { name := "trieFinds", fn := fun _ => fun
  | [d1, d2, d3] => { results := [.lit (.bool false)], args := [d1, d2, d3] }
  | _ => none }
def TrieFindsWrongFalsely : Prop := trieFindsRow.holds Try.pinned (OpenSpec.ofChange trieFindsWrong)

/-- 'weighbridgelaw19.TrieNodes': WHATEVER THE INPUT: true; the input reads as it did. -/
def trieNodesSpec : ChangeSpec := { name := "trieNodes", fn := fun _ => fun
  | [d] => { results := [.lit (.bool true)], args := [d] }
  | _ => none }
def trieNodesRow : OpenClaim := { program := "ytecmopdncgekhaa", sum := "ac313638cae8b9186c2039ae6ed76d62f4be0e1515121060f9829bb62befc3d8", func := "weighbridge/weighbridgelaw19.TrieNodes", spec := "trieNodes", unfollowed := true, recurses := true, apart := false }
def TrieNodesSaid : Prop := trieNodesRow.holds Try.pinned (OpenSpec.ofChange trieNodesSpec)

/-- ITS FALSE NEIGHBOUR: 'it returns false'. Refute it at one input. -/
def trieNodesWrong : ChangeSpec := { name := "trieNodes", fn := fun _ => fun
  | [d] => { results := [.lit (.bool false)], args := [d] }
  | _ => none }
def TrieNodesWrongFalsely : Prop := trieNodesRow.holds Try.pinned (OpenSpec.ofChange trieNodesWrong)

/-- 'weighbridgelaw19.TrieHas': WHATEVER THE INPUT: true; the input reads as it did. -/
def trieHasSpec : ChangeSpec := { name := "trieHas", fn := fun _ => fun
  | [d1, d2, d3] => { results := [.lit (.bool true)], args := [d1, d2, d3] }
  | _ => none }
def trieHasRow : OpenClaim := { program := "ytecmopdncgekhaa", sum := "ac313638cae8b9186c2039ae6ed76d62f4be0e1515121060f9829bb62befc3d8", func := "weighbridge/weighbridgelaw19.TrieHas", spec := "trieHas", unfollowed := true, recurses := true, apart := false }
def TrieHasSaid : Prop := trieHasRow.holds Try.pinned (OpenSpec.ofChange trieHasSpec)

/-- ITS FALSE NEIGHBOUR: 'it returns false'. Refute it at one input. -/
def trieHasWrong : ChangeSpec := { name := "trieHas", fn := fun _ => fun
  | [d1, d2, d3] => { results := [.lit (.bool false)], args := [d1, d2, d3] }
  | _ => none }
def TrieHasWrongFalsely : Prop := trieHasRow.holds Try.pinned (OpenSpec.ofChange trieHasWrong)

/- THE SECOND FORM. 'bulk': how many values and letters a reading holds, each counted each time it is reached (what is shared counts as often as it is met; a slice's spare places count too). A statement '..UptoSaid' is the law's where the arguments, and the package variables that the reading takes, are together of bulk at most 1048576: NARROWER than '..Said'. Prove '..Said' where nothing that the law and all that it calls make is longer than what came in: it says more and counts as full. Else prove '..UptoSaid'. A law counts once. -/
mutual
def uptoBulk {H : Type} : DataW H → Nat
  | .lit (.string bytes) => bytes.length + 1
  | .lit _ => 1
  | .nil => 1
  | .ptr d => uptoBulk d + 1
  | .slice elems spare => uptoBulkAll elems + uptoBulkAll spare + 1
  | .agg parts => uptoBulkAll parts + 1
  | .iface _ d => uptoBulk d + 1
  | .map entries => uptoBulkEntries entries + 1
  | .held _ => 1
def uptoBulkAll {H : Type} : List (DataW H) → Nat
  | [] => 0
  | d :: r => uptoBulk d + uptoBulkAll r
def uptoBulkEntries {H : Type} : List (Lit × DataW H) → Nat
  | [] => 0
  | x :: r => uptoBulkEntry x + uptoBulkEntries r
def uptoBulkEntry {H : Type} : Lit × DataW H → Nat
  | (.string bytes, d) => bytes.length + uptoBulk d + 1
  | (_, d) => uptoBulk d + 1
 end
def uptoSmall : (H : Type) → List (DataW H) → Bool := fun _ ds => decide (uptoBulkAll ds ≤ 1048576)
def OpenSpec.upto (s : _root_.Go.ChangeSpec) : _root_.Go.OpenSpec := { _root_.Go.OpenSpec.ofChange s with cond := some uptoSmall }

/-- 'weighbridgelaw19.TrieFinds', WHERE WHAT IT READS IS OF BULK AT MOST 1048576: true; the input reads as it did. -/
def trieFindsUptoRow : OpenClaim := { program := "ytecmopdncgekhaa", sum := "ac313638cae8b9186c2039ae6ed76d62f4be0e1515121060f9829bb62befc3d8", func := "weighbridge/weighbridgelaw19.TrieFinds", spec := "trieFinds", unfollowed := true, recurses := true, apart := false, narrowed := true }
def TrieFindsUptoSaid : Prop := trieFindsUptoRow.holds Try.pinned (OpenSpec.upto trieFindsSpec)

/-- 'weighbridgelaw19.TrieNodes', WHERE WHAT IT READS IS OF BULK AT MOST 1048576: true; the input reads as it did. -/
def trieNodesUptoRow : OpenClaim := { program := "ytecmopdncgekhaa", sum := "ac313638cae8b9186c2039ae6ed76d62f4be0e1515121060f9829bb62befc3d8", func := "weighbridge/weighbridgelaw19.TrieNodes", spec := "trieNodes", unfollowed := true, recurses := true, apart := false, narrowed := true }
def TrieNodesUptoSaid : Prop := trieNodesUptoRow.holds Try.pinned (OpenSpec.upto trieNodesSpec)

/-- 'weighbridgelaw19.TrieHas', WHERE WHAT IT READS IS OF BULK AT MOST 1048576: true; the input reads as it did. -/
def trieHasUptoRow : OpenClaim := { program := "ytecmopdncgekhaa", sum := "ac313638cae8b9186c2039ae6ed76d62f4be0e1515121060f9829bb62befc3d8", func := "weighbridge/weighbridgelaw19.TrieHas", spec := "trieHas", unfollowed := true, recurses := true, apart := false, narrowed := true }
def TrieHasUptoSaid : Prop := trieHasUptoRow.holds Try.pinned (OpenSpec.upto trieHasSpec)

end Rows
end Go.Proofs.Ytecmopdncgekhaa
