/- No laying of strings.Join and strconv.Itoa is wanted in this seat. -/
import Derived.Shelf.LaysM
import Derived.Shelf.Strconv.Itoa3
import Derived.Shelf.Strings.OnBuilder
import Derived.Test.YtlcgghbbjfeehabProg
namespace Go.Proofs
end Go.Proofs
