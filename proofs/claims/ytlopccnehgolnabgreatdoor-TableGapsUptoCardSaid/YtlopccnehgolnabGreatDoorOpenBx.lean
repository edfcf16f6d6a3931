
/- The types of this program, read as data: boxes. -/
import Derived.Test.YtlopccnehgolnabGreatDoorOpenRg
import Derived.Test.YtlopccnehgolnabGreatDoorGrE
namespace Go.Proofs.YtlopccnehgolnabGreatDoor
open Go.RowKit Rb

theorem open_RgsB : Opens Tryz.prog (rSl rRg) 95 := open_Rgs
theorem open_IntsB : Opens Tryz.prog (rSl rInt) 23 := Opens.slice Tryz.underlying23 (by kernel_rfl) (by decide) (by kernel_rfl) open_Int
theorem open_Bx : Opens Tryz.prog rBx 59 := Opens.slice Tryz.underlying59 (by kernel_rfl) (by decide) (by kernel_rfl) open_RgsB
theorem open_Bxs : Opens Tryz.prog (rSl rBx) 110 := Opens.slice Tryz.underlying110 (by kernel_rfl) (by decide) (by kernel_rfl) open_Bx
end Go.Proofs.YtlopccnehgolnabGreatDoor
