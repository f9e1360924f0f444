/- What is known of the world ahead of the call: here nothing. -/
import Derived.Below
namespace Go.Proofs.YtpgidiompdabdaaGreat.AM
open Go Go.RowKit
def Gd (base : Nat) (w0 : World) : Prop := True
theorem Gd.here {base : Nat} {w0 w : World} (h : Gd base w0) (hb : Below base w0 w) : Gd w.heap.size w := trivial
end Go.Proofs.YtpgidiompdabdaaGreat.AM
