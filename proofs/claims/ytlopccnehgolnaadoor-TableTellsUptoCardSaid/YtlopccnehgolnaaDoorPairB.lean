
/- Contract of Both: the set of what is in two sets. -/
import Derived.Test.YtlopccnehgolnaaDoorSort
import Derived.Test.YtlopccnehgolnaaDoorPairMath
import Derived.Deep.RegionLaw
import Derived.BigRegion
import Derived.BigQuiet
namespace Go.Proofs.YtlopccnehgolnaaDoor
open Go.RowKit Rb

theorem flat_Rg : Flat rRg := fun _ _ _ _ _ _ h => h
theorem drop_at {α : Type} {l : List α} {k : Nat} {x : α} (h : l[k]? = some x) : l.drop k = x :: l.drop (k + 1) := by
  obtain ⟨hk, rfl⟩ := List.getElem?_eq_some_iff.1 h
  exact List.drop_eq_getElem_cons hk

end Go.Proofs.YtlopccnehgolnaaDoor
