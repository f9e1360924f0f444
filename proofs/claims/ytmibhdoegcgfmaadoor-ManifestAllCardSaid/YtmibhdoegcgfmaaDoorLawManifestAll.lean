/- ManifestAll: the function hands back true, whatever comes in, and nothing that was there is written. No condition. -/
import Derived.Test.YtmibhdoegcgfmaaDoorRows
import Derived.Test.YtmibhdoegcgfmaaDoorMl
import Derived.ChangeSame
import Derived.ChangeVars
import Derived.JoinedOf
import Derived.RowKit
import Derived.Lib.LaidIn
import Derived.Lib.LaidTab
import Derived.LaidSub
import Derived.ChangeReads
import Derived.SevenTiedAt
import Derived.Test.YtmibhdoegcgfmaaDoorCards
import Derived.Test.YtmibhdoegcgfmaaDoorTie
import Derived.WalkKit
import Derived.ProofKit
import Derived.OpenShut
import Derived.ShutString
import Derived.ChangeOld
import Derived.Below
import Derived.SizedLaws
import Derived.Carry
namespace Go.Proofs.YtmibhdoegcgfmaaDoor.manifestAll
open Go.ChangeShapes Go.WideShapes Go.ChangeAt Go.RowKit
open Go.ChangeMaps (open_string shut_string)
open Go.Proofs.YtmibhdoegcgfmaaDoor.AM
set_option linter.unusedVariables false
set_option maxRecDepth 100000
theorem own : ownKnob Tryd.prog.godebug = none := by kernel_rfl
/-- The world in which the listed variables read as the row says. -/
noncomputable def laidAt (k : Nat) : DataW Unit := ((Rows.manifestAllRow.laid)[k]?.map (·.2)).getD .nil
def cellsOfD : DataW Unit → Array Value
  | .agg l => (l.map fun d => match d with | .lit (.int k n) => Value.int k n | _ => undef).toArray
  | _ => #[]
noncomputable def laidWorld (os : Os) : World :=
  let w0 := World.holding Tryd.prog os ⟨#[], #[], []⟩
  let put (h : Array Obj) (g : Nat) (cs : Array Value) : Array Obj := h.modify g fun
    | .cells _ t frozen => .cells cs t frozen
    | o => o
  { w0 with heap := (put (put (put w0.heap 1 (cellsOfD (laidAt 0))) 2 (cellsOfD (laidAt 1))) 0 (cellsOfD (laidAt 2))) }
theorem laid_met (os : Os) (args : Array Value) : laidMet Tryd.prog Rows.manifestAllRow.laid ((laidWorld os).forCall (fun _ _ => 0) ⟨#[], args, []⟩).memory :=
  (LaidIn.of_run [1, 2, 0] 8 (by kernel_rfl) (by kernel_rfl) (by kernel_rfl) (by kernel_rfl)).met
theorem gd_of {W : World} (h : laidMet Tryd.prog Rows.manifestAllRow.laid W) : Gd W.heap.size W := by
  have h2 : laidMet Tryd.prog [("internal/strconv.uint64pow10", Lib.tabData .u64 Lib.pow10Tab)] W := by
    have := h.filter (fun x => x.1 == "internal/strconv.uint64pow10")
    exact this
  exact Lib.tabBelow_of_tabIs (Lib.tabIs_of_head (by kernel_rfl : Tryd.prog.globalNamed "internal/strconv.uint64pow10" = some 0) (by kernel_rfl) Tryd.underlying91 Tryd.underlying59 (by kernel_rfl) (by kernel_rfl) h2)
theorem lifted (os : Os) (started : os.Started) (H : Type) (enc : TypeId × Value → H) :
    ReturnsInHanded {} Tryd.checked os 3 .any (fun w args => (Rows.manifestAllSpec.pre enc Tryd.prog Tryd.f3 Rows.manifestAllRow.domain false w args ∧ laidMet Tryd.prog Rows.manifestAllRow.laid w) ∧ sizedMet enc Tryd.prog Tryd.f3 (OpenSpec.ofChange Rows.manifestAllSpec) false w args) (Rows.manifestAllSpec.post enc Tryd.prog Tryd.f3 false true false false) := by
  refine returnsInHanded_of_change_and (C := Tryd.checked) (X := fun w _ => laidMet Tryd.prog Rows.manifestAllRow.laid w) (fun _ _ _ hh h => h.of_heap hh) own started (by kernel_rfl) Tryd.func3
    (ChangeSpec.witness_at (enc := enc) (C := Tryd.checked) (os := os) (X := fun w _ => laidMet Tryd.prog Rows.manifestAllRow.laid w) false (laidWorld os) #[.agg #[.int .i64 0, .int .i64 0, .int .i64 0, .slice none 0 0], .agg #[.int .i64 0, .int .i64 0, .int .i64 0, .slice none 0 0], .slice none 0 0] 8 rfl (by kernel_rfl) (by kernel_rfl) (by kernel_rfl) (by kernel_rfl) (by kernel_rfl) (laid_met os _)) ?_
  intro W base args ds gs before hval0 hW _ _ hL _
  have hval : ∀ (j : Nat) t v, Tryd.f3.params[j]? = some t → args[j]? = some v → Value.okWide Tryd.prog W .any base t v := hval0
  have hW' := hW
  obtain ⟨p, q, hA0, hV, rfl, hfz, hnd⟩ := hW
  have hA : DataW.TrodAll enc Tryd.prog W 0 (fun _ => true) true Tryd.f3.params.toList args.toList ds p := hA0
  rw [Tryd.params3] at hA hval
  obtain ⟨v0, vs0, d0, ds0, p0, q0, hargs, rfl, rfl, h0, r0⟩ := trodAll_cons hA
  obtain ⟨v1, vs1, d1, ds1, p1, q1, rfl, rfl, rfl, h1, r1⟩ := trodAll_cons r0
  obtain ⟨v2, vs2, d2, ds2, p2, q2, rfl, rfl, rfl, h2, r2⟩ := trodAll_cons r1
  obtain ⟨rfl, rfl, rfl⟩ := trodAll_nil r2
  obtain rfl : args = #[v0, v1, v2] := by cases args; simp_all
  obtain ⟨rfl, rfl⟩ := trodVars_none hV
  have S := St.empty W (gd_of hL)
  have k0 := h0
  have lt0 : ∀ x ∈ p0, x.block < W.heap.size := by obtain ⟨m, hm⟩ := k0; exact DataW.trod_lt m _ _ _ hm
  obtain ⟨n0, f0, s0, u0, sv0, xs0, c0, ah0, L0, rfl, ok0, S, vr0, rd0⟩ := open_mf S (hval 0 24 v0 rfl rfl) h0
  have k1 := h1
  have lt1 : ∀ x ∈ p1, x.block < W.heap.size := by obtain ⟨m, hm⟩ := k1; exact DataW.trod_lt m _ _ _ hm
  obtain ⟨n1, f1, s1, u1, sv1, xs1, c1, ah1, L1, rfl, ok1, S, vr1, rd1⟩ := open_mf S (hval 1 24 v1 rfl rfl) h1
  have vr0 := vr0.pre (c := c1)
  have rd0 := rd0.app (L := L1)
  have k2 := h2
  have lt2 : ∀ x ∈ p2, x.block < W.heap.size := by obtain ⟨m, hm⟩ := k2; exact DataW.trod_lt m _ _ _ hm
  obtain ⟨a2, len2, cap2, rfl⟩ := okWide_slice Tryd.underlying25 (hval 2 25 v2 rfl rfl)
  obtain ⟨fuel2, hf2⟩ := h2
  obtain ⟨u2, sv2, xs2, c2, ah2, L2, e2, ok2, S, vr2, rd2⟩ := S.slice FStr Tryd.underlying25 hf2
  simp only [Value.cells, List.cons.injEq, and_true] at e2
  subst e2
  have vr0 := vr0.pre (c := c2)
  have rd0 := rd0.app (L := L2)
  have vr1 := vr1.pre (c := c2)
  have rd1 := rd1.app (L := L2)
  refine (law_ok (vs := [mfV n0 f0 s0 sv0, mfV n1 f1 s1 sv1, sv2.toV]) AM.X_ok AM.F_ok S (LR.cons vr0 (LR.cons vr1 (LR.cons vr2 LR.nil))) rfl (law_ManifestAll rd0 rd1 rd2 ok2)).mono fun e W' ⟨he, bel⟩ => ?_
  subst he
  exact ⟨_, rfl, _, _, _, [], _, [], hW', trodAll_mk1 (shut_bool Tryd.underlying4 _), (trodAll_cons_mk (Below.trod laidOut (by kernel_rfl) (of_decide_eq_true (by kernel_rfl)) k0 bel lt0) (trodAll_cons_mk (Below.trod laidOut (by kernel_rfl) (of_decide_eq_true (by kernel_rfl)) k1 bel lt1) (trodAll_cons_mk (Below.trod laidOut (by kernel_rfl) (of_decide_eq_true (by kernel_rfl)) k2 bel lt2) trodAll_mk0))), rfl, bel.frame _, fun h => by cases h⟩
theorem over : Rows.manifestAllRow.holds Tryd.pinned (OpenSpec.ofChange Rows.manifestAllSpec) :=
  OpenClaim.holds_of_wide 3 Tryd.f3 rfl rfl rfl rfl rfl rfl rfl ⟨rfl, rfl, rfl, rfl, rfl⟩ rfl rfl rfl rfl rfl (by kernel_rfl) Tryd.func3 (by kernel_rfl)
    (of_decide_eq_true (by kernel_rfl)) (by unfold Func.isWrapper; first | (rw [if_pos (by decide +kernel)]; kernel_rfl) | (rw [if_neg (by decide +kernel)]; exact ⟨rfl, rfl⟩))
    (fun os started H enc _ => lifted os started H enc)
theorem proved : Rows.ManifestAllCardSaid :=
  Claim7.holds_tied_plain_at .later [] (Rows.manifestAllCard.laidKinds) true Rows.manifestAllCard.stood.harness false over (fun _ h => by cases h) (by kernel_rfl) (fun _ h => by cases h) manifestAll_row_tie rfl ⟨rfl, rfl⟩ (by kernel_rfl) rfl
    (fun f fn hf hfn => by
      obtain rfl : f = 3 := Option.some.inj ((show Tryd.prog.funcNamed "loess/loesslaw24.ManifestAll" = some 3 by kernel_rfl).symm.trans hf) |>.symm
      obtain rfl : fn = Tryd.f3 := (Option.some.inj (Tryd.func3.symm.trans hfn)).symm
      exact ⟨by kernel_rfl, fun j t ht => by
        rw [Tryd.params3] at ht
        have hm : t ∈ [24, 24, 25] := by simpa using Array.mem_of_getElem? ht
        have hall : ([24, 24, 25].all fun u => !Tryd.prog.wantsStandIn u) = true := by kernel_rfl
        exact (show Tryd.prog.wantsStandIn t = false by simpa using List.all_eq_true.1 hall t hm)⟩)
    (by kernel_rfl)
#print axioms proved
end Go.Proofs.YtmibhdoegcgfmaaDoor.manifestAll
namespace Go.Proofs.YtmibhdoegcgfmaaDoor
/-- The law, under a short name, for the claim. -/
theorem manifestAll_holds : Rows.ManifestAllCardSaid := manifestAll.proved
end Go.Proofs.YtmibhdoegcgfmaaDoor
