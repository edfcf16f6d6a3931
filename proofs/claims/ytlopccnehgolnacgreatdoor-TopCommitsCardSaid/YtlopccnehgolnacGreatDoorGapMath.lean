import Derived.Test.YtlopccnehgolnacGreatDoorGCommits28
import Derived.Test.YtlopccnehgolnacGreatDoorGCommits19
namespace Go.Proofs.YtlopccnehgolnacGreatDoor
open Go.RowKit Rb
section
variable {t : Tb} {all : Bx} (hg : Z0r t = true) (hb : Z00 all (t.ins.length : Int) = true)
include hg hb
end
end Go.Proofs.YtlopccnehgolnacGreatDoor
