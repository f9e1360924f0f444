/- Walks: what the functions compute. -/
import Derived.Test.YtmibhdoegcgfmaaDoorTypes
import Derived.Lib.TrimUEq
import Derived.Lib.RuneCountTail
namespace Go.Proofs.YtmibhdoegcgfmaaDoor.AM
open Go
set_option linter.unusedSimpArgs false
set_option linter.unusedVariables false
set_option maxRecDepth 4000

/-! ### Runes -/
def dl (L : List UInt8) : Nat → Nat → Nat → Option Nat
  | 0, _, r => some r
  | m + 1, i, r => match L[i]? with
    | none => none
    | some b => if b.toNat < 128 ∨ 191 < b.toNat then none else dl L m (i + 1) (r * 64 + b.toNat - 128)
theorem decode_tail (s : ByteArray) (pos : Nat) : Utf8.decode (s.extract pos s.size) 0 = Utf8.decode s pos := by rw [Lib.tail_decode, Nat.add_zero]
theorem width_le4 (s : ByteArray) (pos : Nat) : (Utf8.decode s pos).2 ≤ 4 := by
  rw [Lib.decode_at]; unfold Lib.decodeN
  repeat' split
  all_goals (simp only []; omega)

end Go.Proofs.YtmibhdoegcgfmaaDoor.AM
