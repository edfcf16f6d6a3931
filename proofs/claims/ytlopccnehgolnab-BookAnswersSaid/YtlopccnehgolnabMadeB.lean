
/- Contract of the reference's made, at the closures of BothOf and LessOf. -/
import Derived.Test.YtlopccnehgolnabMade
namespace Go.Proofs.Ytlopccnehgolnab
open Go.RowKit Rb


end Go.Proofs.Ytlopccnehgolnab
