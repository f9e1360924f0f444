/- Walks: what the functions compute. -/
import Derived.Test.YtmibhdoegcgfmaaDoorM2
import Derived.Test.YtmibhdoegcgfmaaDoorTypes
namespace Go.Proofs.YtmibhdoegcgfmaaDoor.AM
open Go
set_option linter.unusedSimpArgs false
set_option linter.unusedVariables false
set_option maxRecDepth 4000

/-! ### Records -/
theorem raw_ext (a b : Raw) : decide (a = b) = (decide (a.kind = b.kind) && decide (a.n = b.n) && decide (a.s = b.s)) := by
  cases a; cases b; simp [Bool.and_assoc]
theorem rec_ext (a b : Rec) : decide (a = b) = (decide (a.key = b.key) && decide (a.gone = b.gone) && decide (a.val = b.val)) := by
  cases a; cases b; simp [Bool.and_assoc]
theorem pair_ext (a b : Pair) : decide (a = b) = (decide (a.key = b.key) && decide (a.val = b.val)) := by
  cases a; cases b; simp
end Go.Proofs.YtmibhdoegcgfmaaDoor.AM
