/-
  Own work. The value machine, part V: what this seat's program is known by.
-/
import Derived.Test.YtodlpcoffmnmbaaDoorVu
import Derived.Test.YtodlpcoffmnmbaaDoorProg
import Derived.Test.YtodlpcoffmnmbaaDoorChecked
namespace Go.YtodlpcoffmnmbaaDoor
open Go Go.Proofs
theorem hmix : Tryd.prog.follows .mixedOrders = true := Checked.mixed Tryd.checked
theorem go_dregT {S : List Fr} {Q : Exit → St → Prop} {t : List D} {h : Heap} {ss tl : List AStm} : go Tryd.prog (.dreg ss tl) S Q ⟨t, h⟩ = gq Tryd.prog ss (.tail tl :: S) Q ⟨t, h⟩ := go_dreg hmix
end Go.YtodlpcoffmnmbaaDoor
