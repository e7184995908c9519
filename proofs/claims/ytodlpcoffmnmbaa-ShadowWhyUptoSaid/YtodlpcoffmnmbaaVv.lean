/-
  Own work. The value machine, part V: what this seat's program is known by.
-/
import Derived.Test.YtodlpcoffmnmbaaVu
import Derived.Test.YtodlpcoffmnmbaaProg
import Derived.Test.YtodlpcoffmnmbaaChecked
namespace Go.Ytodlpcoffmnmbaa
open Go Go.Proofs
theorem hmix : Try.prog.follows .mixedOrders = true := Checked.mixed Try.checked
theorem go_dregT {S : List Fr} {Q : Exit → St → Prop} {t : List D} {h : Heap} {ss tl : List AStm} : go Try.prog (.dreg ss tl) S Q ⟨t, h⟩ = gq Try.prog ss (.tail tl :: S) Q ⟨t, h⟩ := go_dreg hmix
end Go.Ytodlpcoffmnmbaa
