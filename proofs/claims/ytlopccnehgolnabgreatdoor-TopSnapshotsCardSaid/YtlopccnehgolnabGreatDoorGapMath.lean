import Derived.Test.YtlopccnehgolnabGreatDoorAreas
import Derived.Test.YtlopccnehgolnabGreatDoorGK25
import Derived.Test.YtlopccnehgolnabGreatDoorGK18
namespace Go.Proofs.YtlopccnehgolnabGreatDoor
open Go.RowKit Rb
section
variable {t : Tb} {all : Bx} (hg : Z0u t = true) (hb : Z01 all (t.ins.length : Int) = true)
include hg hb
end
