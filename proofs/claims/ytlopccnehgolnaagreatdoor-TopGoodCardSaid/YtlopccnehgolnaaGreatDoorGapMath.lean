import Derived.Test.YtlopccnehgolnaaGreatDoorGGood29
import Derived.Test.YtlopccnehgolnaaGreatDoorGGood20
namespace Go.Proofs.YtlopccnehgolnaaGreatDoor
open Go.RowKit Rb
section
variable {t : Tb} {all : Bx} (hg : Z0r t = true) (hb : Z01 all (t.ins.length : Int) = true)
include hg hb
end
end Go.Proofs.YtlopccnehgolnaaGreatDoor
