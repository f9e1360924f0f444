/-
  No cell of these rows narrows 'for every input' (looked for: loops, veiled, ifaces, maps, wideKeys, modest, calm, conditions, laid).
  DERIVED. THE GIVEN ROWS OF THIS SEAT. 2 by the template 'for every input the law returns true; each argument reads behind the call as it read before'; 0 by the template 'total and deterministic' (their statements: YtjbichljgfcigaaGreatTotals.lean).
  GIVEN WITH THE SEED: the statements are not yours to turn. If you find one false, say at which input.
  Laid BY PROGRAM, IN A SANDBOX (cutbox-rows.mjs): the forced cells as the released guide's own fill.sh prints them over the translation a225c1ddc2f1f0af… (all of the seat's roots in one cut). By AI agents, Wed Nov 11 2026. No macro, syntax, notation, axiom, sorry.
-/
import Derived.Test.YtjbichljgfcigaaGreatChecked
import GoSem.Claim
import GoSem.ClaimJoined
import GoSem.ClaimMapViews
import Derived.JoinedTies
import Derived.KernelRfl
namespace Go.Proofs.YtjbichljgfcigaaGreat
/- THE CELL 'sum', in the pinned program and in every row, IS THE sha256 OF THE DUMP (.gsa) THAT YtjbichljgfcigaaGreatProg.lean LOADS. Nothing in Lean hashes anything: it is a label: what it is worth is what the hold of that sum in a sandbox is worth. -/
noncomputable def Tryz.pinned : Pinned := { name := "ytjbichljgfcigaagreat", sum := "a225c1ddc2f1f0afef9a34031b1cc6a5e1ab86ee99cd008d37d7e4abc949c7bf", checked := Tryz.checked }
namespace Rows
def none {H : Type} : Left H := { results := [], args := [] }

/-- 'loesslaw18.LogAll': WHATEVER THE INPUT: true; the input reads as it did. -/
def logAllSpec : ChangeSpec := { name := "logAll", fn := fun _ => fun
  | [d1, d2] => { results := [.lit (.bool true)], args := [d1, d2] }
  | _ => none }
def logAllRow : OpenClaim := { program := "ytjbichljgfcigaagreat", sum := "a225c1ddc2f1f0afef9a34031b1cc6a5e1ab86ee99cd008d37d7e4abc949c7bf", func := "loess/loesslaw18.LogAll", spec := "logAll", unfollowed := true, recurses := true, apart := false }
def LogAllSaid : Prop := logAllRow.holds Tryz.pinned (OpenSpec.ofChange logAllSpec)

/-- ITS FALSE NEIGHBOUR: 'it returns false'. Refute it at one input. -/
def logAllWrong : ChangeSpec := { name := "logAll", fn := fun _ => fun
  | [d1, d2] => { results := [.lit (.bool false)], args := [d1, d2] }
  | _ => none }
def LogAllWrongFalsely : Prop := logAllRow.holds Tryz.pinned (OpenSpec.ofChange logAllWrong)

/-- 'loesslaw18.LogOf': WHATEVER THE INPUT: true; the input reads as it did. -/
def logOfSpec : ChangeSpec := { name := "logOf", fn := fun _ => fun
  | [d] => { results := [.lit (.bool true)], args := [d] }
  | _ => none }
def logOfRow : OpenClaim := { program := "ytjbichljgfcigaagreat", sum := "a225c1ddc2f1f0afef9a34031b1cc6a5e1ab86ee99cd008d37d7e4abc949c7bf", func := "loess/loesslaw18.LogOf", spec := "logOf", unfollowed := true, recurses := true, apart := false }
def LogOfSaid : Prop := logOfRow.holds Tryz.pinned (OpenSpec.ofChange logOfSpec)

/-- ITS FALSE NEIGHBOUR: 'it returns false'. Refute it at one input. -/
def logOfWrong : ChangeSpec := { name := "logOf", fn := fun _ => fun
  | [d] => { results := [.lit (.bool false)], args := [d] }
  | _ => none }
def LogOfWrongFalsely : Prop := logOfRow.holds Tryz.pinned (OpenSpec.ofChange logOfWrong)

/- THE SECOND FORM. 'bulk': how many values and letters a reading holds, each counted each time it is reached (what is shared counts as often as it is met; a slice's spare places count too). A statement '..UptoSaid' is the law's where the arguments, and the package variables that the reading takes, are together of bulk at most 1048576: NARROWER than '..Said'. Prove '..Said' where nothing that the law and all that it calls make is longer than what came in: it says more and counts as full. Else prove '..UptoSaid'. A law counts once. -/
mutual
def uptoBulk {H : Type} : DataW H → Nat
  | .lit (.string bytes) => bytes.length + 1
  | .lit _ => 1
  | .nil => 1
  | .ptr d => uptoBulk d + 1
  | .slice elems spare => uptoBulkAll elems + uptoBulkAll spare + 1
  | .agg parts => uptoBulkAll parts + 1
  | .iface _ d => uptoBulk d + 1
  | .map entries => uptoBulkEntries entries + 1
  | .held _ => 1
def uptoBulkAll {H : Type} : List (DataW H) → Nat
  | [] => 0
  | d :: r => uptoBulk d + uptoBulkAll r
def uptoBulkEntries {H : Type} : List (Lit × DataW H) → Nat
  | [] => 0
  | x :: r => uptoBulkEntry x + uptoBulkEntries r
def uptoBulkEntry {H : Type} : Lit × DataW H → Nat
  | (.string bytes, d) => bytes.length + uptoBulk d + 1
  | (_, d) => uptoBulk d + 1
 end
def uptoSmall : (H : Type) → List (DataW H) → Bool := fun _ ds => decide (uptoBulkAll ds ≤ 1048576)
def OpenSpec.upto (s : _root_.Go.ChangeSpec) : _root_.Go.OpenSpec := { _root_.Go.OpenSpec.ofChange s with cond := some uptoSmall }

/-- 'loesslaw18.LogAll', WHERE WHAT IT READS IS OF BULK AT MOST 1048576: true; the input reads as it did. -/
def logAllUptoRow : OpenClaim := { program := "ytjbichljgfcigaagreat", sum := "a225c1ddc2f1f0afef9a34031b1cc6a5e1ab86ee99cd008d37d7e4abc949c7bf", func := "loess/loesslaw18.LogAll", spec := "logAll", unfollowed := true, recurses := true, apart := false, narrowed := true }
def LogAllUptoSaid : Prop := logAllUptoRow.holds Tryz.pinned (OpenSpec.upto logAllSpec)

/-- 'loesslaw18.LogOf', WHERE WHAT IT READS IS OF BULK AT MOST 1048576: true; the input reads as it did. -/
def logOfUptoRow : OpenClaim := { program := "ytjbichljgfcigaagreat", sum := "a225c1ddc2f1f0afef9a34031b1cc6a5e1ab86ee99cd008d37d7e4abc949c7bf", func := "loess/loesslaw18.LogOf", spec := "logOf", unfollowed := true, recurses := true, apart := false, narrowed := true }
def LogOfUptoSaid : Prop := logOfUptoRow.holds Tryz.pinned (OpenSpec.upto logOfSpec)

end Rows
end Go.Proofs.YtjbichljgfcigaaGreat
