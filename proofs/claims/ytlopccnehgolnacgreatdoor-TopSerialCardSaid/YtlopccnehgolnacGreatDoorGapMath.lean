import Derived.Test.YtlopccnehgolnacGreatDoorAreas
import Derived.Test.YtlopccnehgolnacGreatDoorGK25
import Derived.Test.YtlopccnehgolnacGreatDoorGK18
namespace Go.Proofs.YtlopccnehgolnacGreatDoor
open Go.RowKit Rb
section
variable {t : Tb} {all : Bx} (hg : Z0s t = true) (hb : Z06 all (t.ins.length : Int) = true)
include hg hb
end
