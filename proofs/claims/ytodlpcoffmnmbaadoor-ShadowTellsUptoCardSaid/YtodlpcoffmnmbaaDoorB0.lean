/-
  Own work. Calls that leave the blocks as they were.
-/
import Derived.Test.YtodlpcoffmnmbaaDoorVz
namespace Go.Proofs
open Go Go.YtodlpcoffmnmbaaDoor
set_option linter.unusedVariables false
set_option linter.unusedSimpArgs false
set_option maxRecDepth 10000

/-- Nothing but what was there. -/
theorem xfc_same {P : Program} {i : FuncId} {args : List D} {h : Heap} {d : D} {rest : List AStm} {t : List D} {dst : Option Nat} {S : List Fr} {Q : Exit → St → Prop} (hc : FC P i args h fun d' h' => d' = d ∧ h' = h)
    (hk : gs P rest S Q ⟨setD t dst d, h⟩) : xfc P i args h rest t dst S Q := by
  refine xfc_of hc ?_
  rintro d' h' ⟨rfl, rfl⟩
  exact ⟨⟨[], (List.append_nil _).symm⟩, hk⟩
theorem gfc_same {P : Program} {i : FuncId} {args : List D} {h : Heap} {d : D} {rest : List AStm} {t : List D} {dst : Option Nat} {S : List Fr} {Q : Exit → St → Prop} (hc : FC P i args h fun d' h' => d' = d ∧ h' = h)
    (hk : gs P rest S Q ⟨setD t dst d, h⟩) : gfc P i args h rest t dst S Q := by
  refine gfc_of hc ?_
  rintro d' h' ⟨rfl, rfl⟩
  exact hk
theorem bool_same (b : Bool) : (b == b) = true := by simp
end Go.Proofs
