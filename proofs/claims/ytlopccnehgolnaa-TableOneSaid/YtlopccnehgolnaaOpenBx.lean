/- The types of this program, read as data: boxes. -/
import Derived.Test.YtlopccnehgolnaaOpenRg
import Derived.Test.YtlopccnehgolnaaBox
namespace Go.Proofs.Ytlopccnehgolnaa
open Go.RowKit Rb

theorem open_RgsB : Opens Try.prog (rSl rRg) 37 := open_Rgs
theorem open_IntsB : Opens Try.prog (rSl rInt) 27 := Opens.slice Try.underlying27 (by kernel_rfl) (by decide) (by kernel_rfl) open_Int
theorem open_Bx : Opens Try.prog rBx 46 := Opens.slice Try.underlying46 (by kernel_rfl) (by decide) (by kernel_rfl) open_RgsB
theorem open_Bxs : Opens Try.prog (rSl rBx) 55 := Opens.slice Try.underlying55 (by kernel_rfl) (by decide) (by kernel_rfl) open_Bx
end Go.Proofs.Ytlopccnehgolnaa
