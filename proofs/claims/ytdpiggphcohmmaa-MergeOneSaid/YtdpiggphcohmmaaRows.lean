/-
  No cell of these rows narrows 'for every input' (looked for: loops, veiled, ifaces, maps, wideKeys, modest, calm, conditions, laid).
  DERIVED. THE GIVEN ROWS OF THIS SEAT. 6 by the template 'for every input the law returns true; each argument reads behind the call as it read before'; 0 by the template 'total and deterministic' (their statements: YtdpiggphcohmmaaTotals.lean).
  GIVEN WITH THE SEED: the statements are not yours to turn. If you find one false, say at which input.
  Laid BY PROGRAM, IN A SANDBOX (cutbox-rows.mjs): the forced cells as the released guide's own fill.sh prints them over the translation 4c4309329c0653ba… (all of the seat's roots in one cut). By AI agents, Wed Nov 11 2026. No macro, syntax, notation, axiom, sorry.
-/
import Derived.Test.YtdpiggphcohmmaaChecked
import GoSem.Claim
import GoSem.ClaimJoined
import GoSem.ClaimMapViews
import Derived.JoinedTies
import Derived.KernelRfl
namespace Go.Proofs.Ytdpiggphcohmmaa
/- THE CELL 'sum', in the pinned program and in every row, IS THE sha256 OF THE DUMP (.gsa) THAT YtdpiggphcohmmaaProg.lean LOADS. Nothing in Lean hashes anything: it is a label: what it is worth is what the hold of that sum in a sandbox is worth. -/
noncomputable def Try.pinned : Pinned := { name := "ytdpiggphcohmmaa", sum := "4c4309329c0653bacd19fa17b0445d71d5855e094b37f28fb40f48721c8493c8", checked := Try.checked }
namespace Rows
def none {H : Type} : Left H := { results := [], args := [] }

/-- 'loesslaw23.MergeAll': WHATEVER THE INPUT: true; the input reads as it did. -/
def mergeAllSpec : ChangeSpec := { name := "mergeAll", fn := fun _ => fun
  | [d] => { results := [.lit (.bool true)], args := [d] }
  | _ => none }
def mergeAllRow : OpenClaim := { program := "ytdpiggphcohmmaa", sum := "4c4309329c0653bacd19fa17b0445d71d5855e094b37f28fb40f48721c8493c8", func := "loess/loesslaw23.MergeAll", spec := "mergeAll", unfollowed := true, recurses := true, apart := false }
def MergeAllSaid : Prop := mergeAllRow.holds Try.pinned (OpenSpec.ofChange mergeAllSpec)

/-- ITS FALSE NEIGHBOUR: 'it returns false'. Refute it at one input. -/
def mergeAllWrong : ChangeSpec := { name := "mergeAll", fn := fun _ => fun
  | [d] => { results := [.lit (.bool false)], args := [d] }
  | _ => none }
def MergeAllWrongFalsely : Prop := mergeAllRow.holds Try.pinned (OpenSpec.ofChange mergeAllWrong)

/-- 'loesslaw23.MergeSort': WHATEVER THE INPUT: true; the input reads as it did. -/
def mergeSortSpec : ChangeSpec := { name := "mergeSort", fn := fun _ => fun
  | [d] => { results := [.lit (.bool true)], args := [d] }
  | _ => none }
def mergeSortRow : OpenClaim := { program := "ytdpiggphcohmmaa", sum := "4c4309329c0653bacd19fa17b0445d71d5855e094b37f28fb40f48721c8493c8", func := "loess/loesslaw23.MergeSort", spec := "mergeSort", unfollowed := true, recurses := true, apart := false }
def MergeSortSaid : Prop := mergeSortRow.holds Try.pinned (OpenSpec.ofChange mergeSortSpec)

/-- ITS FALSE NEIGHBOUR: 'it returns false'. Refute it at one input. -/
def mergeSortWrong : ChangeSpec := { name := "mergeSort", fn := fun _ => fun
  | [d] => { results := [.lit (.bool false)], args := [d] }
  | _ => none }
def MergeSortWrongFalsely : Prop := mergeSortRow.holds Try.pinned (OpenSpec.ofChange mergeSortWrong)

/-- 'loesslaw23.MergeOne': WHATEVER THE INPUT: true; the input reads as it did. -/
def mergeOneSpec : ChangeSpec := { name := "mergeOne", fn := fun _ => fun
  | [d1, d2] => { results := [.lit (.bool true)], args := [d1, d2] }
  | _ => none }
def mergeOneRow : OpenClaim := { program := "ytdpiggphcohmmaa", sum := "4c4309329c0653bacd19fa17b0445d71d5855e094b37f28fb40f48721c8493c8", func := "loess/loesslaw23.MergeOne", spec := "mergeOne", unfollowed := true, recurses := true, apart := false }
def MergeOneSaid : Prop := mergeOneRow.holds Try.pinned (OpenSpec.ofChange mergeOneSpec)

/-- ITS FALSE NEIGHBOUR: 'it returns false'. Refute it at one input. -/
def mergeOneWrong : ChangeSpec := { name := "mergeOne", fn := fun _ => fun
  | [d1, d2] => { results := [.lit (.bool false)], args := [d1, d2] }
  | _ => none }
def MergeOneWrongFalsely : Prop := mergeOneRow.holds Try.pinned (OpenSpec.ofChange mergeOneWrong)

/-- 'loesslaw23.MergeAsk': WHATEVER THE INPUT: true; the input reads as it did. -/
def mergeAskSpec : ChangeSpec := { name := "mergeAsk", fn := fun _ => fun
  | [d1, d2] => { results := [.lit (.bool true)], args := [d1, d2] }
  | _ => none }
def mergeAskRow : OpenClaim := { program := "ytdpiggphcohmmaa", sum := "4c4309329c0653bacd19fa17b0445d71d5855e094b37f28fb40f48721c8493c8", func := "loess/loesslaw23.MergeAsk", spec := "mergeAsk", unfollowed := true, recurses := true, apart := false }
def MergeAskSaid : Prop := mergeAskRow.holds Try.pinned (OpenSpec.ofChange mergeAskSpec)

/-- ITS FALSE NEIGHBOUR: 'it returns false'. Refute it at one input. -/
def mergeAskWrong : ChangeSpec := { name := "mergeAsk", fn := fun _ => fun
  | [d1, d2] => { results := [.lit (.bool false)], args := [d1, d2] }
  | _ => none }
def MergeAskWrongFalsely : Prop := mergeAskRow.holds Try.pinned (OpenSpec.ofChange mergeAskWrong)

/-- 'loesslaw23.MergeTwice': WHATEVER THE INPUT: true; the input reads as it did. -/
def mergeTwiceSpec : ChangeSpec := { name := "mergeTwice", fn := fun _ => fun
  | [d] => { results := [.lit (.bool true)], args := [d] }
  | _ => none }
def mergeTwiceRow : OpenClaim := { program := "ytdpiggphcohmmaa", sum := "4c4309329c0653bacd19fa17b0445d71d5855e094b37f28fb40f48721c8493c8", func := "loess/loesslaw23.MergeTwice", spec := "mergeTwice", unfollowed := true, recurses := true, apart := false }
def MergeTwiceSaid : Prop := mergeTwiceRow.holds Try.pinned (OpenSpec.ofChange mergeTwiceSpec)

/-- ITS FALSE NEIGHBOUR: 'it returns false'. Refute it at one input. -/
def mergeTwiceWrong : ChangeSpec := { name := "mergeTwice", fn := fun _ => fun
  | [d] => { results := [.lit (.bool false)], args := [d] }
  | _ => none }
def MergeTwiceWrongFalsely : Prop := mergeTwiceRow.holds Try.pinned (OpenSpec.ofChange mergeTwiceWrong)

/-- 'loesslaw23.MergeNew': WHATEVER THE INPUT: true; the input reads as it did. -/
def mergeNewSpec : ChangeSpec := { name := "mergeNew", fn := fun _ => fun
  | [d1, d2] => { results := [.lit (.bool true)], args := [d1, d2] }
  | _ => none }
def mergeNewRow : OpenClaim := { program := "ytdpiggphcohmmaa", sum := "4c4309329c0653bacd19fa17b0445d71d5855e094b37f28fb40f48721c8493c8", func := "loess/loesslaw23.MergeNew", spec := "mergeNew", unfollowed := true, recurses := true, apart := false }
def MergeNewSaid : Prop := mergeNewRow.holds Try.pinned (OpenSpec.ofChange mergeNewSpec)

/-- ITS FALSE NEIGHBOUR: 'it returns false'. Refute it at one input. -/
def mergeNewWrong : ChangeSpec := { name := "mergeNew", fn := fun _ => fun
  | [d1, d2] => { results := [.lit (.bool false)], args := [d1, d2] }
  | _ => none }
def MergeNewWrongFalsely : Prop := mergeNewRow.holds Try.pinned (OpenSpec.ofChange mergeNewWrong)

/- THE SECOND FORM. 'bulk': how many values and letters a reading holds, each counted each time it is reached (what is shared counts as often as it is met; a slice's spare places count too). A statement '..UptoSaid' is the law's where the arguments, and the package variables that the reading takes, are together of bulk at most 1048576: NARROWER than '..Said'. Prove '..Said' where nothing that the law and all that it calls make is longer than what came in: it says more and counts as full. Else prove '..UptoSaid'. A law counts once. -/
mutual
def uptoBulk {H : Type} : DataW H → Nat
  | .lit (.string bytes) => bytes.length + 1
  | .lit _ => 1
  | .nil => 1
  | .ptr d => uptoBulk d + 1
  | .slice elems spare => uptoBulkAll elems + uptoBulkAll spare + 1
  | .agg parts => uptoBulkAll parts + 1
  | .iface _ d => uptoBulk d + 1
  | .map entries => uptoBulkEntries entries + 1
  | .held _ => 1
def uptoBulkAll {H : Type} : List (DataW H) → Nat
  | [] => 0
  | d :: r => uptoBulk d + uptoBulkAll r
def uptoBulkEntries {H : Type} : List (Lit × DataW H) → Nat
  | [] => 0
  | x :: r => uptoBulkEntry x + uptoBulkEntries r
def uptoBulkEntry {H : Type} : Lit × DataW H → Nat
  | (.string bytes, d) => bytes.length + uptoBulk d + 1
  | (_, d) => uptoBulk d + 1
 end
def uptoSmall : (H : Type) → List (DataW H) → Bool := fun _ ds => decide (uptoBulkAll ds ≤ 1048576)
def OpenSpec.upto (s : _root_.Go.ChangeSpec) : _root_.Go.OpenSpec := { _root_.Go.OpenSpec.ofChange s with cond := some uptoSmall }

/-- 'loesslaw23.MergeAll', WHERE WHAT IT READS IS OF BULK AT MOST 1048576: true; the input reads as it did. -/
def mergeAllUptoRow : OpenClaim := { program := "ytdpiggphcohmmaa", sum := "4c4309329c0653bacd19fa17b0445d71d5855e094b37f28fb40f48721c8493c8", func := "loess/loesslaw23.MergeAll", spec := "mergeAll", unfollowed := true, recurses := true, apart := false, narrowed := true }
def MergeAllUptoSaid : Prop := mergeAllUptoRow.holds Try.pinned (OpenSpec.upto mergeAllSpec)

/-- 'loesslaw23.MergeSort', WHERE WHAT IT READS IS OF BULK AT MOST 1048576: true; the input reads as it did. -/
def mergeSortUptoRow : OpenClaim := { program := "ytdpiggphcohmmaa", sum := "4c4309329c0653bacd19fa17b0445d71d5855e094b37f28fb40f48721c8493c8", func := "loess/loesslaw23.MergeSort", spec := "mergeSort", unfollowed := true, recurses := true, apart := false, narrowed := true }
def MergeSortUptoSaid : Prop := mergeSortUptoRow.holds Try.pinned (OpenSpec.upto mergeSortSpec)

/-- 'loesslaw23.MergeOne', WHERE WHAT IT READS IS OF BULK AT MOST 1048576: true; the input reads as it did. -/
def mergeOneUptoRow : OpenClaim := { program := "ytdpiggphcohmmaa", sum := "4c4309329c0653bacd19fa17b0445d71d5855e094b37f28fb40f48721c8493c8", func := "loess/loesslaw23.MergeOne", spec := "mergeOne", unfollowed := true, recurses := true, apart := false, narrowed := true }
def MergeOneUptoSaid : Prop := mergeOneUptoRow.holds Try.pinned (OpenSpec.upto mergeOneSpec)

/-- 'loesslaw23.MergeAsk', WHERE WHAT IT READS IS OF BULK AT MOST 1048576: true; the input reads as it did. -/
def mergeAskUptoRow : OpenClaim := { program := "ytdpiggphcohmmaa", sum := "4c4309329c0653bacd19fa17b0445d71d5855e094b37f28fb40f48721c8493c8", func := "loess/loesslaw23.MergeAsk", spec := "mergeAsk", unfollowed := true, recurses := true, apart := false, narrowed := true }
def MergeAskUptoSaid : Prop := mergeAskUptoRow.holds Try.pinned (OpenSpec.upto mergeAskSpec)

/-- 'loesslaw23.MergeTwice', WHERE WHAT IT READS IS OF BULK AT MOST 1048576: true; the input reads as it did. -/
def mergeTwiceUptoRow : OpenClaim := { program := "ytdpiggphcohmmaa", sum := "4c4309329c0653bacd19fa17b0445d71d5855e094b37f28fb40f48721c8493c8", func := "loess/loesslaw23.MergeTwice", spec := "mergeTwice", unfollowed := true, recurses := true, apart := false, narrowed := true }
def MergeTwiceUptoSaid : Prop := mergeTwiceUptoRow.holds Try.pinned (OpenSpec.upto mergeTwiceSpec)

/-- 'loesslaw23.MergeNew', WHERE WHAT IT READS IS OF BULK AT MOST 1048576: true; the input reads as it did. -/
def mergeNewUptoRow : OpenClaim := { program := "ytdpiggphcohmmaa", sum := "4c4309329c0653bacd19fa17b0445d71d5855e094b37f28fb40f48721c8493c8", func := "loess/loesslaw23.MergeNew", spec := "mergeNew", unfollowed := true, recurses := true, apart := false, narrowed := true }
def MergeNewUptoSaid : Prop := mergeNewUptoRow.holds Try.pinned (OpenSpec.upto mergeNewSpec)

end Rows
end Go.Proofs.Ytdpiggphcohmmaa
