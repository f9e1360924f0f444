/- TableLog: the function hands back true, whatever comes in, and nothing that was there is written. No condition. -/
import Derived.Test.YtpnmeednimpjdaaGreatPkTLa
import Derived.Test.YtpnmeednimpjdaaGreatShelf
import Derived.Test.YtpnmeednimpjdaaGreatPkTLb
import Derived.Test.YtpnmeednimpjdaaGreatPkTLc
import Derived.Test.YtpnmeednimpjdaaGreatPkTLd
import Derived.Test.YtpnmeednimpjdaaGreatPkTLe
import Derived.Test.YtpnmeednimpjdaaGreatPkTLf
import Derived.Test.YtpnmeednimpjdaaGreatRows
import Derived.WalkKit
import Derived.ProofKit
import Derived.OpenShut
import Derived.ShutString
import Derived.ChangeOld
import Derived.Below
import Derived.SizedLaws
import Derived.Carry
namespace Go.Proofs.YtpnmeednimpjdaaGreat.tableLog
open Go.ChangeShapes Go.WideShapes Go.ChangeAt Go.RowKit
open Go.ChangeMaps (open_string shut_string)
open Go.Proofs.YtpnmeednimpjdaaGreat.AM
set_option linter.unusedVariables false
set_option maxRecDepth 100000
theorem own : ownKnob Tryz.prog.godebug = none := by kernel_rfl
theorem lifted (os : Os) (started : os.Started) (H : Type) (enc : TypeId × Value → H) :
    ReturnsInHanded {} Tryz.checked os 5 .any (Rows.tableLogSpec.pre6 enc Tryz.prog Tryz.f5 Rows.tableLogRow.domain false) (Rows.tableLogSpec.post enc Tryz.prog Tryz.f5 false true false false) := by
  refine returnsInHanded_of_change_sized (C := Tryz.checked) own started (by kernel_rfl) Tryz.func5
    (ChangeSpec.witness6 (enc := enc) (C := Tryz.checked) false ⟨#[], #[.slice none 0 0], []⟩ 8 (by kernel_rfl) (by kernel_rfl) (by kernel_rfl) (by kernel_rfl)) ?_
  intro W base args ds gs before hval0 hW hcnd hsz0 _
  have hval : ∀ (j : Nat) t v, Tryz.f5.params[j]? = some t → args[j]? = some v → Value.okWide Tryz.prog W .any base t v := hval0
  have hW' := hW
  obtain ⟨p, q, hA0, hV, rfl, hfz, hnd⟩ := hW
  have hA : DataW.TrodAll enc Tryz.prog W 0 (fun _ => true) true Tryz.f5.params.toList args.toList ds p := hA0
  rw [Tryz.params5] at hA hval
  obtain ⟨v0, vs0, d0, ds0, p0, q0, hargs, rfl, rfl, h0, r0⟩ := trodAll_cons hA
  obtain ⟨rfl, rfl, rfl⟩ := trodAll_nil r0
  obtain rfl : args = #[v0] := by cases args; simp_all
  obtain ⟨rfl, rfl⟩ := trodVars_none hV
  have S := St.empty W trivial
  have k0 := h0
  have lt0 : ∀ x ∈ p0, x.block < W.heap.size := by obtain ⟨m, hm⟩ := k0; exact DataW.trod_lt m _ _ _ hm
  obtain ⟨a0, len0, cap0, rfl⟩ := okWide_slice Tryz.underlying22 (hval 0 22 v0 rfl rfl)
  obtain ⟨fuel0, hf0⟩ := h0
  obtain ⟨u0, sv0, xs0, c0, ah0, L0, e0, ok0, S, vr0, rd0⟩ := S.slice FRec Tryz.underlying22 hf0
  simp only [Value.cells, List.cons.injEq, and_true] at e0
  subst e0
  refine (law_ok (vs := [sv0.toV]) AM.X_ok AM.F_ok S (LR.cons vr0 LR.nil) rfl (law_TableLog rd0 ok0)).mono fun e W' ⟨he, bel⟩ => ?_
  subst he
  exact ⟨_, rfl, _, _, _, [], _, [], hW', trodAll_mk1 (shut_bool Tryz.underlying4 _), (trodAll_cons_mk (Below.trod laidOut (by kernel_rfl) (of_decide_eq_true (by kernel_rfl)) k0 bel lt0) trodAll_mk0), rfl, bel.frame _, fun h => by cases h⟩
theorem over : Rows.tableLogRow.holds Tryz.pinned (OpenSpec.ofChange Rows.tableLogSpec) :=
  OpenClaim.holds_of_wide 5 Tryz.f5 rfl rfl rfl rfl rfl rfl rfl ⟨rfl, rfl, rfl, rfl, rfl⟩ rfl rfl rfl rfl rfl (by kernel_rfl) Tryz.func5 (by kernel_rfl)
    (of_decide_eq_true (by kernel_rfl)) (by unfold Func.isWrapper; first | (rw [if_pos (by decide +kernel)]; kernel_rfl) | (rw [if_neg (by decide +kernel)]; exact ⟨rfl, rfl⟩))
    (fun os started H enc _ => lifted os started H enc)
theorem proved : Rows.TableLogSaid := over
#print axioms proved
end Go.Proofs.YtpnmeednimpjdaaGreat.tableLog
namespace Go.Proofs.YtpnmeednimpjdaaGreat
/-- The law, under a short name, for the claim. -/
theorem tableLog_holds : Rows.TableLogSaid := tableLog.proved
end Go.Proofs.YtpnmeednimpjdaaGreat
