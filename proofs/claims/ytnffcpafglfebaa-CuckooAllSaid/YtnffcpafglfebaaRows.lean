/-
  No cell of these rows narrows 'for every input' (looked for: loops, veiled, ifaces, maps, wideKeys, modest, calm, conditions, laid).
  DERIVED. THE GIVEN ROWS OF THIS SEAT. 4 by the template 'for every input the law returns true; each argument reads behind the call as it read before'; 0 by the template 'total and deterministic' (their statements: YtnffcpafglfebaaTotals.lean).
  GIVEN WITH THE SEED: the statements are not yours to turn. If you find one false, say at which input.
  Laid BY PROGRAM, IN A SANDBOX (cutbox-rows.mjs): the forced cells as the released guide's own fill.sh prints them over the translation 86f39a2df9a79f7d… (all of the seat's roots in one cut). By AI agents, Wed Nov 11 2026. No macro, syntax, notation, axiom, sorry.
-/
import Derived.Test.YtnffcpafglfebaaChecked
import GoSem.Claim
import GoSem.ClaimJoined
import GoSem.ClaimMapViews
import Derived.JoinedTies
import Derived.KernelRfl
namespace Go.Proofs.Ytnffcpafglfebaa
/- THE CELL 'sum', in the pinned program and in every row, IS THE sha256 OF THE DUMP (.gsa) THAT YtnffcpafglfebaaProg.lean LOADS. Nothing in Lean hashes anything: it is a label: what it is worth is what the hold of that sum in a sandbox is worth. -/
noncomputable def Try.pinned : Pinned := { name := "ytnffcpafglfebaa", sum := "86f39a2df9a79f7db126d312d383fc397e1b3320d760a41489367aca4932c44a", checked := Try.checked }
namespace Rows
def none {H : Type} : Left H := { results := [], args := [] }

/-- 'loesslaw17.CuckooOrder': WHATEVER THE INPUT: true; the input reads as it did. -/
def cuckooOrderSpec : ChangeSpec := { name := "cuckooOrder", fn := fun _ => fun
  | [d1, d2] => { results := [.lit (.bool true)], args := [d1, d2] }
  | _ => none }
def cuckooOrderRow : OpenClaim := { program := "ytnffcpafglfebaa", sum := "86f39a2df9a79f7db126d312d383fc397e1b3320d760a41489367aca4932c44a", func := "loess/loesslaw17.CuckooOrder", spec := "cuckooOrder", unfollowed := true, recurses := true, apart := false }
def CuckooOrderSaid : Prop := cuckooOrderRow.holds Try.pinned (OpenSpec.ofChange cuckooOrderSpec)

/-- ITS FALSE NEIGHBOUR: 'it returns false'. Refute it at one input. -/
def cuckooOrderWrong : ChangeSpec := { name := "cuckooOrder", fn := fun _ => fun
  | [d1, d2] => { results := [.lit (.bool false)], args := [d1, d2] }
  | _ => none }
def CuckooOrderWrongFalsely : Prop := cuckooOrderRow.holds Try.pinned (OpenSpec.ofChange cuckooOrderWrong)

/-- 'loesslaw17.CuckooFull': WHATEVER THE INPUT: true; the input reads as it did. -/
def cuckooFullSpec : ChangeSpec := { name := "cuckooFull", fn := fun _ => fun
  | [d1, d2, d3] => { results := [.lit (.bool true)], args := [d1, d2, d3] }
  | _ => none }
def cuckooFullRow : OpenClaim := { program := "ytnffcpafglfebaa", sum := "86f39a2df9a79f7db126d312d383fc397e1b3320d760a41489367aca4932c44a", func := "loess/loesslaw17.CuckooFull", spec := "cuckooFull", unfollowed := true, recurses := true, apart := false }
def CuckooFullSaid : Prop := cuckooFullRow.holds Try.pinned (OpenSpec.ofChange cuckooFullSpec)

/-- ITS FALSE NEIGHBOUR: 'it returns false'. Refute it at one input. -/
def cuckooFullWrong : ChangeSpec := { name := "cuckooFull", fn := fun _ => fun
  | [d1, d2, d3] => { results := [.lit (.bool false)], args := [d1, d2, d3] }
  | _ => none }
def CuckooFullWrongFalsely : Prop := cuckooFullRow.holds Try.pinned (OpenSpec.ofChange cuckooFullWrong)

/-- 'loesslaw17.CuckooAll': WHATEVER THE INPUT: true; the input reads as it did. -/
def cuckooAllSpec : ChangeSpec := { name := "cuckooAll", fn := fun _ => fun
  | [d] => { results := [.lit (.bool true)], args := [d] }
  | _ => none }
def cuckooAllRow : OpenClaim := { program := "ytnffcpafglfebaa", sum := "86f39a2df9a79f7db126d312d383fc397e1b3320d760a41489367aca4932c44a", func := "loess/loesslaw17.CuckooAll", spec := "cuckooAll", unfollowed := true, recurses := true, apart := false }
def CuckooAllSaid : Prop := cuckooAllRow.holds Try.pinned (OpenSpec.ofChange cuckooAllSpec)

/-- ITS FALSE NEIGHBOUR: 'it returns false'. Refute it at one input. -/
def cuckooAllWrong : ChangeSpec := { name := "cuckooAll", fn := fun _ => fun
  | [d] => { results := [.lit (.bool false)], args := [d] }
  | _ => none }
def CuckooAllWrongFalsely : Prop := cuckooAllRow.holds Try.pinned (OpenSpec.ofChange cuckooAllWrong)

/-- 'loesslaw17.CuckooNone': WHATEVER THE INPUT: true; the input reads as it did. -/
def cuckooNoneSpec : ChangeSpec := { name := "cuckooNone", fn := fun _ => fun
  | [] => { results := [.lit (.bool true)], args := [] }
  | _ => none }
def cuckooNoneRow : OpenClaim := { program := "ytnffcpafglfebaa", sum := "86f39a2df9a79f7db126d312d383fc397e1b3320d760a41489367aca4932c44a", func := "loess/loesslaw17.CuckooNone", spec := "cuckooNone", unfollowed := true, recurses := true, apart := false }
def CuckooNoneSaid : Prop := cuckooNoneRow.holds Try.pinned (OpenSpec.ofChange cuckooNoneSpec)

/-- ITS FALSE NEIGHBOUR: 'it returns false'. Refute it at one input. -/
def cuckooNoneWrong : ChangeSpec := { name := "cuckooNone", fn := fun _ => fun
  | [] => { results := [.lit (.bool false)], args := [] }
  | _ => none }
def CuckooNoneWrongFalsely : Prop := cuckooNoneRow.holds Try.pinned (OpenSpec.ofChange cuckooNoneWrong)

/- THE SECOND FORM. 'bulk': how many values and letters a reading holds, each counted each time it is reached (what is shared counts as often as it is met; a slice's spare places count too). A statement '..UptoSaid' is the law's where the arguments, and the package variables that the reading takes, are together of bulk at most 1048576: NARROWER than '..Said'. Prove '..Said' where nothing that the law and all that it calls make is longer than what came in: it says more and counts as full. Else prove '..UptoSaid'. A law counts once. -/
mutual
def uptoBulk {H : Type} : DataW H → Nat
  | .lit (.string bytes) => bytes.length + 1
  | .lit _ => 1
  | .nil => 1
  | .ptr d => uptoBulk d + 1
  | .slice elems spare => uptoBulkAll elems + uptoBulkAll spare + 1
  | .agg parts => uptoBulkAll parts + 1
  | .iface _ d => uptoBulk d + 1
  | .map entries => uptoBulkEntries entries + 1
  | .held _ => 1
def uptoBulkAll {H : Type} : List (DataW H) → Nat
  | [] => 0
  | d :: r => uptoBulk d + uptoBulkAll r
def uptoBulkEntries {H : Type} : List (Lit × DataW H) → Nat
  | [] => 0
  | x :: r => uptoBulkEntry x + uptoBulkEntries r
def uptoBulkEntry {H : Type} : Lit × DataW H → Nat
  | (.string bytes, d) => bytes.length + uptoBulk d + 1
  | (_, d) => uptoBulk d + 1
 end
def uptoSmall : (H : Type) → List (DataW H) → Bool := fun _ ds => decide (uptoBulkAll ds ≤ 1048576)
def OpenSpec.upto (s : _root_.Go.ChangeSpec) : _root_.Go.OpenSpec := { _root_.Go.OpenSpec.ofChange s with cond := some uptoSmall }

/-- 'loesslaw17.CuckooOrder', WHERE WHAT IT READS IS OF BULK AT MOST 1048576: true; the input reads as it did. -/
def cuckooOrderUptoRow : OpenClaim := { program := "ytnffcpafglfebaa", sum := "86f39a2df9a79f7db126d312d383fc397e1b3320d760a41489367aca4932c44a", func := "loess/loesslaw17.CuckooOrder", spec := "cuckooOrder", unfollowed := true, recurses := true, apart := false, narrowed := true }
def CuckooOrderUptoSaid : Prop := cuckooOrderUptoRow.holds Try.pinned (OpenSpec.upto cuckooOrderSpec)

/-- 'loesslaw17.CuckooFull', WHERE WHAT IT READS IS OF BULK AT MOST 1048576: true; the input reads as it did. -/
def cuckooFullUptoRow : OpenClaim := { program := "ytnffcpafglfebaa", sum := "86f39a2df9a79f7db126d312d383fc397e1b3320d760a41489367aca4932c44a", func := "loess/loesslaw17.CuckooFull", spec := "cuckooFull", unfollowed := true, recurses := true, apart := false, narrowed := true }
def CuckooFullUptoSaid : Prop := cuckooFullUptoRow.holds Try.pinned (OpenSpec.upto cuckooFullSpec)

/-- 'loesslaw17.CuckooAll', WHERE WHAT IT READS IS OF BULK AT MOST 1048576: true; the input reads as it did. -/
def cuckooAllUptoRow : OpenClaim := { program := "ytnffcpafglfebaa", sum := "86f39a2df9a79f7db126d312d383fc397e1b3320d760a41489367aca4932c44a", func := "loess/loesslaw17.CuckooAll", spec := "cuckooAll", unfollowed := true, recurses := true, apart := false, narrowed := true }
def CuckooAllUptoSaid : Prop := cuckooAllUptoRow.holds Try.pinned (OpenSpec.upto cuckooAllSpec)

/-- 'loesslaw17.CuckooNone', WHERE WHAT IT READS IS OF BULK AT MOST 1048576: true; the input reads as it did. -/
def cuckooNoneUptoRow : OpenClaim := { program := "ytnffcpafglfebaa", sum := "86f39a2df9a79f7db126d312d383fc397e1b3320d760a41489367aca4932c44a", func := "loess/loesslaw17.CuckooNone", spec := "cuckooNone", unfollowed := true, recurses := true, apart := false, narrowed := true }
def CuckooNoneUptoSaid : Prop := cuckooNoneUptoRow.holds Try.pinned (OpenSpec.upto cuckooNoneSpec)

end Rows
end Go.Proofs.Ytnffcpafglfebaa
