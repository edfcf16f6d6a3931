
/- Contract of the reference's made, at the closures of BothOf and LessOf. -/
import Derived.Test.YtlopccnehgolnabDoorMade
namespace Go.Proofs.YtlopccnehgolnabDoor
open Go.RowKit Rb


end Go.Proofs.YtlopccnehgolnabDoor
