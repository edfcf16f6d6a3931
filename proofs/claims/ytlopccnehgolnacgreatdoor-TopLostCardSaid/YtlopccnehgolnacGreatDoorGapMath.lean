import Derived.Test.YtlopccnehgolnacGreatDoorAreas
import Derived.Test.YtlopccnehgolnacGreatDoorGL25
import Derived.Test.YtlopccnehgolnacGreatDoorGL18
namespace Go.Proofs.YtlopccnehgolnacGreatDoor
open Go.RowKit Rb
section
variable {t : Tb} {all : Bx} (hg : Z0r t = true) (hb : Z0z all (t.ins.length : Int) = true)
include hg hb
end
