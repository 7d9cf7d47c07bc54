/- Table: the shelf's SortFunc, laid at this program. -/
import Derived.Test.YtoifiplefjclbaaMvTab
import Derived.Shelf.SlSortCmp.WholeK
import Derived.Shelf.Lay
import Derived.Ground.SlsfProg
import Derived.Sort.EveryDepth
namespace Go.Proofs
open Go Go.Shelf
shelf_lay_g SlLaysF0.n6 Slsf 6 at Try 32 as Try.sortSlot
#check Try.sortSlot
end Go.Proofs
