/- What is known of the world ahead of the call: the table of powers of ten. -/
import Derived.Below
import Derived.Lib.AppendIntMem
import Derived.Lib.SmallJoins
import Derived.Test.YtmibhdoegcgfmaaDoorProg
namespace Go.Proofs.YtmibhdoegcgfmaaDoor.AM
open Go Go.RowKit
def Gd (base : Nat) (w0 : World) : Prop := Lib.TabBelow Tryd.prog base w0 "internal/strconv.uint64pow10" .u64 Lib.pow10Tab
theorem Gd.here {base : Nat} {w0 w : World} (h : Gd base w0) (hb : Below base w0 w) : Gd w.heap.size w := Lib.tabBelow_of_tabIs (h w hb)
end Go.Proofs.YtmibhdoegcgfmaaDoor.AM
