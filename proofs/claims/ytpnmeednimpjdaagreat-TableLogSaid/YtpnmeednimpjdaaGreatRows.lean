/-
  No cell of these rows narrows 'for every input' (looked for: loops, veiled, ifaces, maps, wideKeys, modest, calm, conditions, laid).
  DERIVED. THE GIVEN ROWS OF THIS SEAT. 3 by the template 'for every input the law returns true; each argument reads behind the call as it read before'; 0 by the template 'total and deterministic' (their statements: YtpnmeednimpjdaaGreatTotals.lean).
  GIVEN WITH THE SEED: the statements are not yours to turn. If you find one false, say at which input.
  Laid BY PROGRAM, IN A SANDBOX (cutbox-rows.mjs): the forced cells as the released guide's own fill.sh prints them over the translation 5abd2147d3204819… (all of the seat's roots in one cut). By AI agents, Wed Nov 11 2026. No macro, syntax, notation, axiom, sorry.
-/
import Derived.Test.YtpnmeednimpjdaaGreatChecked
import GoSem.Claim
import GoSem.ClaimJoined
import GoSem.ClaimMapViews
import Derived.JoinedTies
import Derived.KernelRfl
namespace Go.Proofs.YtpnmeednimpjdaaGreat
/- THE CELL 'sum', in the pinned program and in every row, IS THE sha256 OF THE DUMP (.gsa) THAT YtpnmeednimpjdaaGreatProg.lean LOADS. Nothing in Lean hashes anything: it is a label: what it is worth is what the hold of that sum in a sandbox is worth. -/
noncomputable def Tryz.pinned : Pinned := { name := "ytpnmeednimpjdaagreat", sum := "5abd2147d3204819f7bfe0a4f0c1415b30c7bf6b3b08db8566220cb09cb8b07e", checked := Tryz.checked }
namespace Rows
def none {H : Type} : Left H := { results := [], args := [] }

/-- 'loesslaw20.TableAll': WHATEVER THE INPUT: true; the input reads as it did. -/
def tableAllSpec : ChangeSpec := { name := "tableAll", fn := fun _ => fun
  | [d1, d2, d3] => { results := [.lit (.bool true)], args := [d1, d2, d3] }
  | _ => none }
def tableAllRow : OpenClaim := { program := "ytpnmeednimpjdaagreat", sum := "5abd2147d3204819f7bfe0a4f0c1415b30c7bf6b3b08db8566220cb09cb8b07e", func := "loess/loesslaw20.TableAll", spec := "tableAll", unfollowed := true, recurses := true, apart := false }
def TableAllSaid : Prop := tableAllRow.holds Tryz.pinned (OpenSpec.ofChange tableAllSpec)

/-- ITS FALSE NEIGHBOUR: 'it returns false'. Refute it at one input. -/
def tableAllWrong : ChangeSpec := { name := "tableAll", fn := fun _ => fun
  | [d1, d2, d3] => { results := [.lit (.bool false)], args := [d1, d2, d3] }
  | _ => none }
def TableAllWrongFalsely : Prop := tableAllRow.holds Tryz.pinned (OpenSpec.ofChange tableAllWrong)

/-- 'loesslaw20.TableFull': WHATEVER THE INPUT: true; the input reads as it did. -/
def tableFullSpec : ChangeSpec := { name := "tableFull", fn := fun _ => fun
  | [d1, d2] => { results := [.lit (.bool true)], args := [d1, d2] }
  | _ => none }
def tableFullRow : OpenClaim := { program := "ytpnmeednimpjdaagreat", sum := "5abd2147d3204819f7bfe0a4f0c1415b30c7bf6b3b08db8566220cb09cb8b07e", func := "loess/loesslaw20.TableFull", spec := "tableFull", unfollowed := true, recurses := true, apart := false }
def TableFullSaid : Prop := tableFullRow.holds Tryz.pinned (OpenSpec.ofChange tableFullSpec)

/-- ITS FALSE NEIGHBOUR: 'it returns false'. Refute it at one input. -/
def tableFullWrong : ChangeSpec := { name := "tableFull", fn := fun _ => fun
  | [d1, d2] => { results := [.lit (.bool false)], args := [d1, d2] }
  | _ => none }
def TableFullWrongFalsely : Prop := tableFullRow.holds Tryz.pinned (OpenSpec.ofChange tableFullWrong)

/-- 'loesslaw20.TableLog': WHATEVER THE INPUT: true; the input reads as it did. -/
def tableLogSpec : ChangeSpec := { name := "tableLog", fn := fun _ => fun
  | [d] => { results := [.lit (.bool true)], args := [d] }
  | _ => none }
def tableLogRow : OpenClaim := { program := "ytpnmeednimpjdaagreat", sum := "5abd2147d3204819f7bfe0a4f0c1415b30c7bf6b3b08db8566220cb09cb8b07e", func := "loess/loesslaw20.TableLog", spec := "tableLog", unfollowed := true, recurses := true, apart := false }
def TableLogSaid : Prop := tableLogRow.holds Tryz.pinned (OpenSpec.ofChange tableLogSpec)

/-- ITS FALSE NEIGHBOUR: 'it returns false'. Refute it at one input. -/
def tableLogWrong : ChangeSpec := { name := "tableLog", fn := fun _ => fun
  | [d] => { results := [.lit (.bool false)], args := [d] }
  | _ => none }
def TableLogWrongFalsely : Prop := tableLogRow.holds Tryz.pinned (OpenSpec.ofChange tableLogWrong)

/- THE SECOND FORM. 'bulk': how many values and letters a reading holds, each counted each time it is reached (what is shared counts as often as it is met; a slice's spare places count too). A statement '..UptoSaid' is the law's where the arguments, and the package variables that the reading takes, are together of bulk at most 1048576: NARROWER than '..Said'. Prove '..Said' where nothing that the law and all that it calls make is longer than what came in: it says more and counts as full. Else prove '..UptoSaid'. A law counts once. -/
mutual
def uptoBulk {H : Type} : DataW H → Nat
  | .lit (.string bytes) => bytes.length + 1
  | .lit _ => 1
  | .nil => 1
  | .ptr d => uptoBulk d + 1
  | .slice elems spare => uptoBulkAll elems + uptoBulkAll spare + 1
  | .agg parts => uptoBulkAll parts + 1
  | .iface _ d => uptoBulk d + 1
  | .map entries => uptoBulkEntries entries + 1
  | .held _ => 1
def uptoBulkAll {H : Type} : List (DataW H) → Nat
  | [] => 0
  | d :: r => uptoBulk d + uptoBulkAll r
def uptoBulkEntries {H : Type} : List (Lit × DataW H) → Nat
  | [] => 0
  | x :: r => uptoBulkEntry x + uptoBulkEntries r
def uptoBulkEntry {H : Type} : Lit × DataW H → Nat
  | (.string bytes, d) => bytes.length + uptoBulk d + 1
  | (_, d) => uptoBulk d + 1
 end
def uptoSmall : (H : Type) → List (DataW H) → Bool := fun _ ds => decide (uptoBulkAll ds ≤ 1048576)
def OpenSpec.upto (s : _root_.Go.ChangeSpec) : _root_.Go.OpenSpec := { _root_.Go.OpenSpec.ofChange s with cond := some uptoSmall }

/-- 'loesslaw20.TableAll', WHERE WHAT IT READS IS OF BULK AT MOST 1048576: true; the input reads as it did. -/
def tableAllUptoRow : OpenClaim := { program := "ytpnmeednimpjdaagreat", sum := "5abd2147d3204819f7bfe0a4f0c1415b30c7bf6b3b08db8566220cb09cb8b07e", func := "loess/loesslaw20.TableAll", spec := "tableAll", unfollowed := true, recurses := true, apart := false, narrowed := true }
def TableAllUptoSaid : Prop := tableAllUptoRow.holds Tryz.pinned (OpenSpec.upto tableAllSpec)

/-- 'loesslaw20.TableFull', WHERE WHAT IT READS IS OF BULK AT MOST 1048576: true; the input reads as it did. -/
def tableFullUptoRow : OpenClaim := { program := "ytpnmeednimpjdaagreat", sum := "5abd2147d3204819f7bfe0a4f0c1415b30c7bf6b3b08db8566220cb09cb8b07e", func := "loess/loesslaw20.TableFull", spec := "tableFull", unfollowed := true, recurses := true, apart := false, narrowed := true }
def TableFullUptoSaid : Prop := tableFullUptoRow.holds Tryz.pinned (OpenSpec.upto tableFullSpec)

/-- 'loesslaw20.TableLog', WHERE WHAT IT READS IS OF BULK AT MOST 1048576: true; the input reads as it did. -/
def tableLogUptoRow : OpenClaim := { program := "ytpnmeednimpjdaagreat", sum := "5abd2147d3204819f7bfe0a4f0c1415b30c7bf6b3b08db8566220cb09cb8b07e", func := "loess/loesslaw20.TableLog", spec := "tableLog", unfollowed := true, recurses := true, apart := false, narrowed := true }
def TableLogUptoSaid : Prop := tableLogUptoRow.holds Tryz.pinned (OpenSpec.upto tableLogSpec)

end Rows
end Go.Proofs.YtpnmeednimpjdaaGreat
