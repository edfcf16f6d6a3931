import Derived.Test.YtlopccnehgolnadGreatDoorGRuns29
import Derived.Test.YtlopccnehgolnadGreatDoorGRuns19
namespace Go.Proofs.YtlopccnehgolnadGreatDoor
open Go.RowKit Rb
section
variable {t : Tb} {all : Bx} (hg : Z0s t = true) (hb : Z01 all (t.ins.length : Int) = true)
include hg hb
end
end Go.Proofs.YtlopccnehgolnadGreatDoor
