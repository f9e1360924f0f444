/-
  No cell of these rows narrows 'for every input' (looked for: loops, veiled, ifaces, maps, wideKeys, modest, calm, conditions, laid).
  DERIVED. THE GIVEN ROWS OF THIS SEAT. 5 by the template 'for every input the law returns true; each argument reads behind the call as it read before'; 0 by the template 'total and deterministic' (their statements: YtkiijlaibapmaaaTotals.lean).
  GIVEN WITH THE SEED: the statements are not yours to turn. If you find one false, say at which input.
  Laid BY PROGRAM, IN A SANDBOX (cutbox-rows.mjs): the forced cells as the released guide's own fill.sh prints them over the translation 4ac22d30c4067dc9… (all of the seat's roots in one cut). By AI agents, Wed Nov 11 2026. No macro, syntax, notation, axiom, sorry.
-/
import Derived.Test.YtkiijlaibapmaaaChecked
import GoSem.Claim
import GoSem.ClaimJoined
import GoSem.ClaimMapViews
import Derived.JoinedTies
import Derived.KernelRfl
namespace Go.Proofs.Ytkiijlaibapmaaa
/- THE CELL 'sum', in the pinned program and in every row, IS THE sha256 OF THE DUMP (.gsa) THAT YtkiijlaibapmaaaProg.lean LOADS. Nothing in Lean hashes anything: it is a label: what it is worth is what the hold of that sum in a sandbox is worth. -/
noncomputable def Try.pinned : Pinned := { name := "ytkiijlaibapmaaa", sum := "4ac22d30c4067dc94f9af8660e78d0f7ec67f879e93dbc65bbf8b3ede689e88e", checked := Try.checked }
namespace Rows
def none {H : Type} : Left H := { results := [], args := [] }

/-- 'loesslaw10.RecordAll': WHATEVER THE INPUT: true; the input reads as it did. -/
def recordAllSpec : ChangeSpec := { name := "recordAll", fn := fun _ => fun
  | [d1, d2, d3, d4] => { results := [.lit (.bool true)], args := [d1, d2, d3, d4] }
  | _ => none }
def recordAllRow : OpenClaim := { program := "ytkiijlaibapmaaa", sum := "4ac22d30c4067dc94f9af8660e78d0f7ec67f879e93dbc65bbf8b3ede689e88e", func := "loess/loesslaw10.RecordAll", spec := "recordAll", unfollowed := true, recurses := true, apart := false }
def RecordAllSaid : Prop := recordAllRow.holds Try.pinned (OpenSpec.ofChange recordAllSpec)

/-- ITS FALSE NEIGHBOUR: 'it returns false'. Refute it at one input. -/
def recordAllWrong : ChangeSpec := { name := "recordAll", fn := fun _ => fun
  | [d1, d2, d3, d4] => { results := [.lit (.bool false)], args := [d1, d2, d3, d4] }
  | _ => none }
def RecordAllWrongFalsely : Prop := recordAllRow.holds Try.pinned (OpenSpec.ofChange recordAllWrong)

/-- 'loesslaw10.RecordAny': WHATEVER THE INPUT: true; the input reads as it did. -/
def recordAnySpec : ChangeSpec := { name := "recordAny", fn := fun _ => fun
  | [d1, d2, d3, d4] => { results := [.lit (.bool true)], args := [d1, d2, d3, d4] }
  | _ => none }
def recordAnyRow : OpenClaim := { program := "ytkiijlaibapmaaa", sum := "4ac22d30c4067dc94f9af8660e78d0f7ec67f879e93dbc65bbf8b3ede689e88e", func := "loess/loesslaw10.RecordAny", spec := "recordAny", unfollowed := true, recurses := true, apart := false }
def RecordAnySaid : Prop := recordAnyRow.holds Try.pinned (OpenSpec.ofChange recordAnySpec)

/-- ITS FALSE NEIGHBOUR: 'it returns false'. Refute it at one input. -/
def recordAnyWrong : ChangeSpec := { name := "recordAny", fn := fun _ => fun
  | [d1, d2, d3, d4] => { results := [.lit (.bool false)], args := [d1, d2, d3, d4] }
  | _ => none }
def RecordAnyWrongFalsely : Prop := recordAnyRow.holds Try.pinned (OpenSpec.ofChange recordAnyWrong)

/-- 'loesslaw10.RecordNewest': WHATEVER THE INPUT: true; the input reads as it did. -/
def recordNewestSpec : ChangeSpec := { name := "recordNewest", fn := fun _ => fun
  | [d] => { results := [.lit (.bool true)], args := [d] }
  | _ => none }
def recordNewestRow : OpenClaim := { program := "ytkiijlaibapmaaa", sum := "4ac22d30c4067dc94f9af8660e78d0f7ec67f879e93dbc65bbf8b3ede689e88e", func := "loess/loesslaw10.RecordNewest", spec := "recordNewest", unfollowed := true, recurses := true, apart := false }
def RecordNewestSaid : Prop := recordNewestRow.holds Try.pinned (OpenSpec.ofChange recordNewestSpec)

/-- ITS FALSE NEIGHBOUR: 'it returns false'. Refute it at one input. -/
def recordNewestWrong : ChangeSpec := { name := "recordNewest", fn := fun _ => fun
  | [d] => { results := [.lit (.bool false)], args := [d] }
  | _ => none }
def RecordNewestWrongFalsely : Prop := recordNewestRow.holds Try.pinned (OpenSpec.ofChange recordNewestWrong)

/-- 'loesslaw10.RecordMany': WHATEVER THE INPUT: true; the input reads as it did. -/
def recordManySpec : ChangeSpec := { name := "recordMany", fn := fun _ => fun
  | [d] => { results := [.lit (.bool true)], args := [d] }
  | _ => none }
def recordManyRow : OpenClaim := { program := "ytkiijlaibapmaaa", sum := "4ac22d30c4067dc94f9af8660e78d0f7ec67f879e93dbc65bbf8b3ede689e88e", func := "loess/loesslaw10.RecordMany", spec := "recordMany", unfollowed := true, recurses := true, apart := false }
def RecordManySaid : Prop := recordManyRow.holds Try.pinned (OpenSpec.ofChange recordManySpec)

/-- ITS FALSE NEIGHBOUR: 'it returns false'. Refute it at one input. -/
def recordManyWrong : ChangeSpec := { name := "recordMany", fn := fun _ => fun
  | [d] => { results := [.lit (.bool false)], args := [d] }
  | _ => none }
def RecordManyWrongFalsely : Prop := recordManyRow.holds Try.pinned (OpenSpec.ofChange recordManyWrong)

/-- 'loesslaw10.RecordGone': WHATEVER THE INPUT: true; the input reads as it did. -/
def recordGoneSpec : ChangeSpec := { name := "recordGone", fn := fun _ => fun
  | [d] => { results := [.lit (.bool true)], args := [d] }
  | _ => none }
def recordGoneRow : OpenClaim := { program := "ytkiijlaibapmaaa", sum := "4ac22d30c4067dc94f9af8660e78d0f7ec67f879e93dbc65bbf8b3ede689e88e", func := "loess/loesslaw10.RecordGone", spec := "recordGone", unfollowed := true, recurses := true, apart := false }
def RecordGoneSaid : Prop := recordGoneRow.holds Try.pinned (OpenSpec.ofChange recordGoneSpec)

/-- ITS FALSE NEIGHBOUR: 'it returns false'. Refute it at one input. -/
def recordGoneWrong : ChangeSpec := { name := "recordGone", fn := fun _ => fun
  | [d] => { results := [.lit (.bool false)], args := [d] }
  | _ => none }
def RecordGoneWrongFalsely : Prop := recordGoneRow.holds Try.pinned (OpenSpec.ofChange recordGoneWrong)

/- THE SECOND FORM. 'bulk': how many values and letters a reading holds, each counted each time it is reached (what is shared counts as often as it is met; a slice's spare places count too). A statement '..UptoSaid' is the law's where the arguments, and the package variables that the reading takes, are together of bulk at most 1048576: NARROWER than '..Said'. Prove '..Said' where nothing that the law and all that it calls make is longer than what came in: it says more and counts as full. Else prove '..UptoSaid'. A law counts once. -/
mutual
def uptoBulk {H : Type} : DataW H → Nat
  | .lit (.string bytes) => bytes.length + 1
  | .lit _ => 1
  | .nil => 1
  | .ptr d => uptoBulk d + 1
  | .slice elems spare => uptoBulkAll elems + uptoBulkAll spare + 1
  | .agg parts => uptoBulkAll parts + 1
  | .iface _ d => uptoBulk d + 1
  | .map entries => uptoBulkEntries entries + 1
  | .held _ => 1
def uptoBulkAll {H : Type} : List (DataW H) → Nat
  | [] => 0
  | d :: r => uptoBulk d + uptoBulkAll r
def uptoBulkEntries {H : Type} : List (Lit × DataW H) → Nat
  | [] => 0
  | x :: r => uptoBulkEntry x + uptoBulkEntries r
def uptoBulkEntry {H : Type} : Lit × DataW H → Nat
  | (.string bytes, d) => bytes.length + uptoBulk d + 1
  | (_, d) => uptoBulk d + 1
 end
def uptoSmall : (H : Type) → List (DataW H) → Bool := fun _ ds => decide (uptoBulkAll ds ≤ 1048576)
def OpenSpec.upto (s : _root_.Go.ChangeSpec) : _root_.Go.OpenSpec := { _root_.Go.OpenSpec.ofChange s with cond := some uptoSmall }

/-- 'loesslaw10.RecordAll', WHERE WHAT IT READS IS OF BULK AT MOST 1048576: true; the input reads as it did. -/
def recordAllUptoRow : OpenClaim := { program := "ytkiijlaibapmaaa", sum := "4ac22d30c4067dc94f9af8660e78d0f7ec67f879e93dbc65bbf8b3ede689e88e", func := "loess/loesslaw10.RecordAll", spec := "recordAll", unfollowed := true, recurses := true, apart := false, narrowed := true }
def RecordAllUptoSaid : Prop := recordAllUptoRow.holds Try.pinned (OpenSpec.upto recordAllSpec)

/-- 'loesslaw10.RecordAny', WHERE WHAT IT READS IS OF BULK AT MOST 1048576: true; the input reads as it did. -/
def recordAnyUptoRow : OpenClaim := { program := "ytkiijlaibapmaaa", sum := "4ac22d30c4067dc94f9af8660e78d0f7ec67f879e93dbc65bbf8b3ede689e88e", func := "loess/loesslaw10.RecordAny", spec := "recordAny", unfollowed := true, recurses := true, apart := false, narrowed := true }
def RecordAnyUptoSaid : Prop := recordAnyUptoRow.holds Try.pinned (OpenSpec.upto recordAnySpec)

/-- 'loesslaw10.RecordNewest', WHERE WHAT IT READS IS OF BULK AT MOST 1048576: true; the input reads as it did. -/
def recordNewestUptoRow : OpenClaim := { program := "ytkiijlaibapmaaa", sum := "4ac22d30c4067dc94f9af8660e78d0f7ec67f879e93dbc65bbf8b3ede689e88e", func := "loess/loesslaw10.RecordNewest", spec := "recordNewest", unfollowed := true, recurses := true, apart := false, narrowed := true }
def RecordNewestUptoSaid : Prop := recordNewestUptoRow.holds Try.pinned (OpenSpec.upto recordNewestSpec)

/-- 'loesslaw10.RecordMany', WHERE WHAT IT READS IS OF BULK AT MOST 1048576: true; the input reads as it did. -/
def recordManyUptoRow : OpenClaim := { program := "ytkiijlaibapmaaa", sum := "4ac22d30c4067dc94f9af8660e78d0f7ec67f879e93dbc65bbf8b3ede689e88e", func := "loess/loesslaw10.RecordMany", spec := "recordMany", unfollowed := true, recurses := true, apart := false, narrowed := true }
def RecordManyUptoSaid : Prop := recordManyUptoRow.holds Try.pinned (OpenSpec.upto recordManySpec)

/-- 'loesslaw10.RecordGone', WHERE WHAT IT READS IS OF BULK AT MOST 1048576: true; the input reads as it did. -/
def recordGoneUptoRow : OpenClaim := { program := "ytkiijlaibapmaaa", sum := "4ac22d30c4067dc94f9af8660e78d0f7ec67f879e93dbc65bbf8b3ede689e88e", func := "loess/loesslaw10.RecordGone", spec := "recordGone", unfollowed := true, recurses := true, apart := false, narrowed := true }
def RecordGoneUptoSaid : Prop := recordGoneUptoRow.holds Try.pinned (OpenSpec.upto recordGoneSpec)

end Rows
end Go.Proofs.Ytkiijlaibapmaaa
