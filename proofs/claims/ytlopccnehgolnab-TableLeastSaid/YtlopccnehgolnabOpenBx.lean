
/- The types of this program, read as data: boxes. -/
import Derived.Test.YtlopccnehgolnabOpenRg
import Derived.Test.YtlopccnehgolnabBox
namespace Go.Proofs.Ytlopccnehgolnab
open Go.RowKit Rb

theorem open_RgsB : Opens Try.prog (rSl rRg) 72 := open_Rgs
theorem open_IntsB : Opens Try.prog (rSl rInt) 28 := Opens.slice Try.underlying28 (by kernel_rfl) (by decide) (by kernel_rfl) open_Int
theorem open_Bx : Opens Try.prog rBx 27 := Opens.slice Try.underlying27 (by kernel_rfl) (by decide) (by kernel_rfl) open_RgsB
theorem open_Bxs : Opens Try.prog (rSl rBx) 79 := Opens.slice Try.underlying79 (by kernel_rfl) (by decide) (by kernel_rfl) open_Bx
end Go.Proofs.Ytlopccnehgolnab
