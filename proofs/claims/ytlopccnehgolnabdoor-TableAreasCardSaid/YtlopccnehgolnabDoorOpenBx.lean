
/- The types of this program, read as data: boxes. -/
import Derived.Test.YtlopccnehgolnabDoorOpenX
import Derived.Test.YtlopccnehgolnabDoorBox
namespace Go.Proofs.YtlopccnehgolnabDoor
open Go.RowKit Rb

theorem open_RgsB : Opens Tryd.prog (rSl rRg) 51 := open_Rgs
theorem open_IntsB : Opens Tryd.prog (rSl rInt) 75 := Opens.slice Tryd.underlying75 (by kernel_rfl) (by decide) (by kernel_rfl) open_Int
theorem open_Bx : Opens Tryd.prog rBx 39 := Opens.slice Tryd.underlying39 (by kernel_rfl) (by decide) (by kernel_rfl) open_RgsB
end Go.Proofs.YtlopccnehgolnabDoor
