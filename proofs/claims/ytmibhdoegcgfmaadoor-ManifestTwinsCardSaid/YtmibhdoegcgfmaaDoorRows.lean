/-
  NARROWER THAN 'FOR EVERY INPUT', by the rows' own cells (each row's printed sentence says how): ManifestAll: laid · ManifestAny: laid · ManifestNames: laid · ManifestTwins: laid · ManifestOwn: laid.
  DERIVED. THE GIVEN ROWS OF THIS SEAT. 5 by the template 'for every input the law returns true; each argument reads behind the call as it read before'; 0 by the template 'total and deterministic' (their statements: YtmibhdoegcgfmaaDoorTotals.lean).
  GIVEN WITH THE SEED: the statements are not yours to turn. If you find one false, say at which input.
  Laid BY PROGRAM, IN A SANDBOX (cutbox-rows.mjs): the forced cells as the released guide's own fill.sh prints them over the translation 3a6aa1fb70bc1c16… (all of the seat's roots in one cut). By AI agents, Wed Nov 11 2026. No macro, syntax, notation, axiom, sorry.
-/
import Derived.Test.YtmibhdoegcgfmaaDoorChecked
import GoSem.Claim
import GoSem.ClaimJoined
import GoSem.ClaimMapViews
import Derived.JoinedTies
import Derived.KernelRfl
namespace Go.Proofs.YtmibhdoegcgfmaaDoor
/- THE CELL 'sum', in the pinned program and in every row, IS THE sha256 OF THE DUMP (.gsa) THAT YtmibhdoegcgfmaaDoorProg.lean LOADS. Nothing in Lean hashes anything: it is a label: what it is worth is what the hold of that sum in a sandbox is worth. -/
noncomputable def Tryd.pinned : Pinned := { name := "ytmibhdoegcgfmaadoor", sum := "3a6aa1fb70bc1c16e18cda716dec75c298be9e16c832f3461f183836239250b2", checked := Tryd.checked }
namespace Rows
def none {H : Type} : Left H := { results := [], args := [] }

/- WHAT THE LISTED PACKAGE-LEVEL VARIABLES READ AS WHEN THE CALL BEGINS. Each datum BY PROGRAM (the guide's laid-datum.mjs) off the statement by which the dump's own 'gosem.cut.vars' lays the variable. In a bare row this is a premise. The card (YtmibhdoegcgfmaaDoorCards.lean) ties it to the program's text. -/
def laid_math_bits_deBruijn32tab {H : Type} : DataW H := .agg [.lit (.int .u8 0), .lit (.int .u8 1), .lit (.int .u8 28), .lit (.int .u8 2), .lit (.int .u8 29), .lit (.int .u8 14), .lit (.int .u8 24), .lit (.int .u8 3), .lit (.int .u8 30), .lit (.int .u8 22), .lit (.int .u8 20), .lit (.int .u8 15), .lit (.int .u8 25), .lit (.int .u8 17), .lit (.int .u8 4), .lit (.int .u8 8), .lit (.int .u8 31), .lit (.int .u8 27), .lit (.int .u8 13), .lit (.int .u8 23), .lit (.int .u8 21), .lit (.int .u8 19), .lit (.int .u8 16), .lit (.int .u8 7), .lit (.int .u8 26), .lit (.int .u8 12), .lit (.int .u8 18), .lit (.int .u8 6), .lit (.int .u8 11), .lit (.int .u8 5), .lit (.int .u8 10), .lit (.int .u8 9)]
def laid_math_bits_deBruijn64tab {H : Type} : DataW H := .agg [.lit (.int .u8 0), .lit (.int .u8 1), .lit (.int .u8 56), .lit (.int .u8 2), .lit (.int .u8 57), .lit (.int .u8 49), .lit (.int .u8 28), .lit (.int .u8 3), .lit (.int .u8 61), .lit (.int .u8 58), .lit (.int .u8 42), .lit (.int .u8 50), .lit (.int .u8 38), .lit (.int .u8 29), .lit (.int .u8 17), .lit (.int .u8 4), .lit (.int .u8 62), .lit (.int .u8 47), .lit (.int .u8 59), .lit (.int .u8 36), .lit (.int .u8 45), .lit (.int .u8 43), .lit (.int .u8 51), .lit (.int .u8 22), .lit (.int .u8 53), .lit (.int .u8 39), .lit (.int .u8 33), .lit (.int .u8 30), .lit (.int .u8 24), .lit (.int .u8 18), .lit (.int .u8 12), .lit (.int .u8 5), .lit (.int .u8 63), .lit (.int .u8 55), .lit (.int .u8 48), .lit (.int .u8 27), .lit (.int .u8 60), .lit (.int .u8 41), .lit (.int .u8 37), .lit (.int .u8 16), .lit (.int .u8 46), .lit (.int .u8 35), .lit (.int .u8 44), .lit (.int .u8 21), .lit (.int .u8 52), .lit (.int .u8 32), .lit (.int .u8 23), .lit (.int .u8 11), .lit (.int .u8 54), .lit (.int .u8 26), .lit (.int .u8 40), .lit (.int .u8 15), .lit (.int .u8 34), .lit (.int .u8 20), .lit (.int .u8 31), .lit (.int .u8 10), .lit (.int .u8 25), .lit (.int .u8 14), .lit (.int .u8 19), .lit (.int .u8 9), .lit (.int .u8 13), .lit (.int .u8 8), .lit (.int .u8 7), .lit (.int .u8 6)]
def laid_internal_strconv_uint64pow10 {H : Type} : DataW H := .agg [.lit (.int .u64 1), .lit (.int .u64 10), .lit (.int .u64 100), .lit (.int .u64 1000), .lit (.int .u64 10000), .lit (.int .u64 100000), .lit (.int .u64 1000000), .lit (.int .u64 10000000), .lit (.int .u64 100000000), .lit (.int .u64 1000000000), .lit (.int .u64 10000000000), .lit (.int .u64 100000000000), .lit (.int .u64 1000000000000), .lit (.int .u64 10000000000000), .lit (.int .u64 100000000000000), .lit (.int .u64 1000000000000000), .lit (.int .u64 10000000000000000), .lit (.int .u64 100000000000000000), .lit (.int .u64 1000000000000000000), .lit (.int .u64 10000000000000000000)]

/-- 'loesslaw24.ManifestAll': WHATEVER THE INPUT: true; the input reads as it did. -/
def manifestAllSpec : ChangeSpec := { name := "manifestAll", fn := fun _ => fun
  | [d1, d2, d3] => { results := [.lit (.bool true)], args := [d1, d2, d3] }
  | _ => none }
def manifestAllRow : OpenClaim := { program := "ytmibhdoegcgfmaadoor", sum := "3a6aa1fb70bc1c16e18cda716dec75c298be9e16c832f3461f183836239250b2", func := "loess/loesslaw24.ManifestAll", spec := "manifestAll", recurses := true, named := ["internal/strconv.uint64pow10", "math/bits.deBruijn32tab", "math/bits.deBruijn64tab"], apart := false, laid := [("math/bits.deBruijn32tab", laid_math_bits_deBruijn32tab), ("math/bits.deBruijn64tab", laid_math_bits_deBruijn64tab), ("internal/strconv.uint64pow10", laid_internal_strconv_uint64pow10)] }
def ManifestAllSaid : Prop := manifestAllRow.holds Tryd.pinned (OpenSpec.ofChange manifestAllSpec)

/-- ITS FALSE NEIGHBOUR: 'it returns false'. Refute it at one input. -/
def manifestAllWrong : ChangeSpec := { name := "manifestAll", fn := fun _ => fun
  | [d1, d2, d3] => { results := [.lit (.bool false)], args := [d1, d2, d3] }
  | _ => none }
def ManifestAllWrongFalsely : Prop := manifestAllRow.holds Tryd.pinned (OpenSpec.ofChange manifestAllWrong)

/-- 'loesslaw24.ManifestAny': WHATEVER THE INPUT: true; the input reads as it did. -/
def manifestAnySpec : ChangeSpec := { name := "manifestAny", fn := fun _ => fun
  | [d1, d2, d3, d4] => { results := [.lit (.bool true)], args := [d1, d2, d3, d4] }
  | _ => none }
def manifestAnyRow : OpenClaim := { program := "ytmibhdoegcgfmaadoor", sum := "3a6aa1fb70bc1c16e18cda716dec75c298be9e16c832f3461f183836239250b2", func := "loess/loesslaw24.ManifestAny", spec := "manifestAny", recurses := true, named := ["internal/strconv.uint64pow10", "math/bits.deBruijn32tab", "math/bits.deBruijn64tab"], apart := false, laid := [("math/bits.deBruijn32tab", laid_math_bits_deBruijn32tab), ("math/bits.deBruijn64tab", laid_math_bits_deBruijn64tab), ("internal/strconv.uint64pow10", laid_internal_strconv_uint64pow10)] }
def ManifestAnySaid : Prop := manifestAnyRow.holds Tryd.pinned (OpenSpec.ofChange manifestAnySpec)

/-- ITS FALSE NEIGHBOUR: 'it returns false'. Refute it at one input. -/
def manifestAnyWrong : ChangeSpec := { name := "manifestAny", fn := fun _ => fun
  | [d1, d2, d3, d4] => { results := [.lit (.bool false)], args := [d1, d2, d3, d4] }
  | _ => none }
def ManifestAnyWrongFalsely : Prop := manifestAnyRow.holds Tryd.pinned (OpenSpec.ofChange manifestAnyWrong)

/-- 'loesslaw24.ManifestNames': WHATEVER THE INPUT: true; the input reads as it did. -/
def manifestNamesSpec : ChangeSpec := { name := "manifestNames", fn := fun _ => fun
  | [d1, d2, d3, d4] => { results := [.lit (.bool true)], args := [d1, d2, d3, d4] }
  | _ => none }
def manifestNamesRow : OpenClaim := { program := "ytmibhdoegcgfmaadoor", sum := "3a6aa1fb70bc1c16e18cda716dec75c298be9e16c832f3461f183836239250b2", func := "loess/loesslaw24.ManifestNames", spec := "manifestNames", recurses := true, named := ["internal/strconv.uint64pow10", "math/bits.deBruijn32tab", "math/bits.deBruijn64tab"], apart := false, laid := [("math/bits.deBruijn32tab", laid_math_bits_deBruijn32tab), ("math/bits.deBruijn64tab", laid_math_bits_deBruijn64tab), ("internal/strconv.uint64pow10", laid_internal_strconv_uint64pow10)] }
def ManifestNamesSaid : Prop := manifestNamesRow.holds Tryd.pinned (OpenSpec.ofChange manifestNamesSpec)

/-- ITS FALSE NEIGHBOUR: 'it returns false'. Refute it at one input. -/
def manifestNamesWrong : ChangeSpec := { name := "manifestNames", fn := fun _ => fun
  | [d1, d2, d3, d4] => { results := [.lit (.bool false)], args := [d1, d2, d3, d4] }
  | _ => none }
def ManifestNamesWrongFalsely : Prop := manifestNamesRow.holds Tryd.pinned (OpenSpec.ofChange manifestNamesWrong)

/-- 'loesslaw24.ManifestTwins': WHATEVER THE INPUT: true; the input reads as it did. -/
def manifestTwinsSpec : ChangeSpec := { name := "manifestTwins", fn := fun _ => fun
  | [d1, d2, d3] => { results := [.lit (.bool true)], args := [d1, d2, d3] }
  | _ => none }
def manifestTwinsRow : OpenClaim := { program := "ytmibhdoegcgfmaadoor", sum := "3a6aa1fb70bc1c16e18cda716dec75c298be9e16c832f3461f183836239250b2", func := "loess/loesslaw24.ManifestTwins", spec := "manifestTwins", recurses := true, named := ["internal/strconv.uint64pow10", "math/bits.deBruijn32tab", "math/bits.deBruijn64tab"], apart := false, laid := [("math/bits.deBruijn32tab", laid_math_bits_deBruijn32tab), ("math/bits.deBruijn64tab", laid_math_bits_deBruijn64tab), ("internal/strconv.uint64pow10", laid_internal_strconv_uint64pow10)] }
def ManifestTwinsSaid : Prop := manifestTwinsRow.holds Tryd.pinned (OpenSpec.ofChange manifestTwinsSpec)

/-- ITS FALSE NEIGHBOUR: 'it returns false'. Refute it at one input. -/
def manifestTwinsWrong : ChangeSpec := { name := "manifestTwins", fn := fun _ => fun
  | [d1, d2, d3] => { results := [.lit (.bool false)], args := [d1, d2, d3] }
  | _ => none }
def ManifestTwinsWrongFalsely : Prop := manifestTwinsRow.holds Tryd.pinned (OpenSpec.ofChange manifestTwinsWrong)

/-- 'loesslaw24.ManifestOwn': WHATEVER THE INPUT: true; the input reads as it did. -/
def manifestOwnSpec : ChangeSpec := { name := "manifestOwn", fn := fun _ => fun
  | [d] => { results := [.lit (.bool true)], args := [d] }
  | _ => none }
def manifestOwnRow : OpenClaim := { program := "ytmibhdoegcgfmaadoor", sum := "3a6aa1fb70bc1c16e18cda716dec75c298be9e16c832f3461f183836239250b2", func := "loess/loesslaw24.ManifestOwn", spec := "manifestOwn", recurses := true, named := ["internal/strconv.uint64pow10", "math/bits.deBruijn32tab", "math/bits.deBruijn64tab"], apart := false, laid := [("math/bits.deBruijn32tab", laid_math_bits_deBruijn32tab), ("math/bits.deBruijn64tab", laid_math_bits_deBruijn64tab), ("internal/strconv.uint64pow10", laid_internal_strconv_uint64pow10)] }
def ManifestOwnSaid : Prop := manifestOwnRow.holds Tryd.pinned (OpenSpec.ofChange manifestOwnSpec)

/-- ITS FALSE NEIGHBOUR: 'it returns false'. Refute it at one input. -/
def manifestOwnWrong : ChangeSpec := { name := "manifestOwn", fn := fun _ => fun
  | [d] => { results := [.lit (.bool false)], args := [d] }
  | _ => none }
def ManifestOwnWrongFalsely : Prop := manifestOwnRow.holds Tryd.pinned (OpenSpec.ofChange manifestOwnWrong)

/- THE SECOND FORM. 'bulk': how many values and letters a reading holds, each counted each time it is reached (what is shared counts as often as it is met; a slice's spare places count too). A statement '..UptoSaid' is the law's where the arguments, and the package variables that the reading takes, are together of bulk at most 1048576: NARROWER than '..Said'. Prove '..Said' where nothing that the law and all that it calls make is longer than what came in: it says more and counts as full. Else prove '..UptoSaid'. A law counts once. -/
mutual
def uptoBulk {H : Type} : DataW H → Nat
  | .lit (.string bytes) => bytes.length + 1
  | .lit _ => 1
  | .nil => 1
  | .ptr d => uptoBulk d + 1
  | .slice elems spare => uptoBulkAll elems + uptoBulkAll spare + 1
  | .agg parts => uptoBulkAll parts + 1
  | .iface _ d => uptoBulk d + 1
  | .map entries => uptoBulkEntries entries + 1
  | .held _ => 1
def uptoBulkAll {H : Type} : List (DataW H) → Nat
  | [] => 0
  | d :: r => uptoBulk d + uptoBulkAll r
def uptoBulkEntries {H : Type} : List (Lit × DataW H) → Nat
  | [] => 0
  | x :: r => uptoBulkEntry x + uptoBulkEntries r
def uptoBulkEntry {H : Type} : Lit × DataW H → Nat
  | (.string bytes, d) => bytes.length + uptoBulk d + 1
  | (_, d) => uptoBulk d + 1
 end
def uptoSmall : (H : Type) → List (DataW H) → Bool := fun _ ds => decide (uptoBulkAll ds ≤ 1048576)
def OpenSpec.upto (s : _root_.Go.ChangeSpec) : _root_.Go.OpenSpec := { _root_.Go.OpenSpec.ofChange s with cond := some uptoSmall }

/-- 'loesslaw24.ManifestAll', WHERE WHAT IT READS IS OF BULK AT MOST 1048576: true; the input reads as it did. -/
def manifestAllUptoRow : OpenClaim := { program := "ytmibhdoegcgfmaadoor", sum := "3a6aa1fb70bc1c16e18cda716dec75c298be9e16c832f3461f183836239250b2", func := "loess/loesslaw24.ManifestAll", spec := "manifestAll", recurses := true, named := ["internal/strconv.uint64pow10", "math/bits.deBruijn32tab", "math/bits.deBruijn64tab"], apart := false, laid := [("math/bits.deBruijn32tab", laid_math_bits_deBruijn32tab), ("math/bits.deBruijn64tab", laid_math_bits_deBruijn64tab), ("internal/strconv.uint64pow10", laid_internal_strconv_uint64pow10)], narrowed := true }
def ManifestAllUptoSaid : Prop := manifestAllUptoRow.holds Tryd.pinned (OpenSpec.upto manifestAllSpec)

/-- 'loesslaw24.ManifestAny', WHERE WHAT IT READS IS OF BULK AT MOST 1048576: true; the input reads as it did. -/
def manifestAnyUptoRow : OpenClaim := { program := "ytmibhdoegcgfmaadoor", sum := "3a6aa1fb70bc1c16e18cda716dec75c298be9e16c832f3461f183836239250b2", func := "loess/loesslaw24.ManifestAny", spec := "manifestAny", recurses := true, named := ["internal/strconv.uint64pow10", "math/bits.deBruijn32tab", "math/bits.deBruijn64tab"], apart := false, laid := [("math/bits.deBruijn32tab", laid_math_bits_deBruijn32tab), ("math/bits.deBruijn64tab", laid_math_bits_deBruijn64tab), ("internal/strconv.uint64pow10", laid_internal_strconv_uint64pow10)], narrowed := true }
def ManifestAnyUptoSaid : Prop := manifestAnyUptoRow.holds Tryd.pinned (OpenSpec.upto manifestAnySpec)

/-- 'loesslaw24.ManifestNames', WHERE WHAT IT READS IS OF BULK AT MOST 1048576: true; the input reads as it did. -/
def manifestNamesUptoRow : OpenClaim := { program := "ytmibhdoegcgfmaadoor", sum := "3a6aa1fb70bc1c16e18cda716dec75c298be9e16c832f3461f183836239250b2", func := "loess/loesslaw24.ManifestNames", spec := "manifestNames", recurses := true, named := ["internal/strconv.uint64pow10", "math/bits.deBruijn32tab", "math/bits.deBruijn64tab"], apart := false, laid := [("math/bits.deBruijn32tab", laid_math_bits_deBruijn32tab), ("math/bits.deBruijn64tab", laid_math_bits_deBruijn64tab), ("internal/strconv.uint64pow10", laid_internal_strconv_uint64pow10)], narrowed := true }
def ManifestNamesUptoSaid : Prop := manifestNamesUptoRow.holds Tryd.pinned (OpenSpec.upto manifestNamesSpec)

/-- 'loesslaw24.ManifestTwins', WHERE WHAT IT READS IS OF BULK AT MOST 1048576: true; the input reads as it did. -/
def manifestTwinsUptoRow : OpenClaim := { program := "ytmibhdoegcgfmaadoor", sum := "3a6aa1fb70bc1c16e18cda716dec75c298be9e16c832f3461f183836239250b2", func := "loess/loesslaw24.ManifestTwins", spec := "manifestTwins", recurses := true, named := ["internal/strconv.uint64pow10", "math/bits.deBruijn32tab", "math/bits.deBruijn64tab"], apart := false, laid := [("math/bits.deBruijn32tab", laid_math_bits_deBruijn32tab), ("math/bits.deBruijn64tab", laid_math_bits_deBruijn64tab), ("internal/strconv.uint64pow10", laid_internal_strconv_uint64pow10)], narrowed := true }
def ManifestTwinsUptoSaid : Prop := manifestTwinsUptoRow.holds Tryd.pinned (OpenSpec.upto manifestTwinsSpec)

/-- 'loesslaw24.ManifestOwn', WHERE WHAT IT READS IS OF BULK AT MOST 1048576: true; the input reads as it did. -/
def manifestOwnUptoRow : OpenClaim := { program := "ytmibhdoegcgfmaadoor", sum := "3a6aa1fb70bc1c16e18cda716dec75c298be9e16c832f3461f183836239250b2", func := "loess/loesslaw24.ManifestOwn", spec := "manifestOwn", recurses := true, named := ["internal/strconv.uint64pow10", "math/bits.deBruijn32tab", "math/bits.deBruijn64tab"], apart := false, laid := [("math/bits.deBruijn32tab", laid_math_bits_deBruijn32tab), ("math/bits.deBruijn64tab", laid_math_bits_deBruijn64tab), ("internal/strconv.uint64pow10", laid_internal_strconv_uint64pow10)], narrowed := true }
def ManifestOwnUptoSaid : Prop := manifestOwnUptoRow.holds Tryd.pinned (OpenSpec.upto manifestOwnSpec)

end Rows
end Go.Proofs.YtmibhdoegcgfmaaDoor
