/- No laying of strings.Split is wanted in this seat. -/
import Derived.Shelf.LaysM
import Derived.Shelf.Strings.SplitShaped
import Derived.Test.YtndfipgiaeeheaaGreatDoorProg
namespace Go.Proofs
end Go.Proofs
