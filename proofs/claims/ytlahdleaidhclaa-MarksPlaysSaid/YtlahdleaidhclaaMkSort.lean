/- Marks: the shelf's sort, laid at this program. -/
import Derived.Test.YtlahdleaidhclaaMvTab
import Derived.Shelf.Sort.AssemblyIn
import Derived.Shelf.Lay
import Derived.Sort.EveryDepth
namespace Go.Proofs
open Go Go.Shelf
shelf_lay Lays.n189 Nm 189 at Try as Try.lays189
#check Try.lays189
end Go.Proofs
