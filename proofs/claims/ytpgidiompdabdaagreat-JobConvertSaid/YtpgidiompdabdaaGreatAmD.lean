/- The abstract machine, fourth part: each operation that is no call, sound. -/
import Derived.Test.YtpgidiompdabdaaGreatAmC
namespace Go.Proofs.YtpgidiompdabdaaGreat.AM
open Go Go.RowKit
set_option linter.unusedSimpArgs false
set_option linter.unusedVariables false

section
variable {P : Program} {b : Bt} {h h1 : AH} {base : Nat} {w0 w : World} {e : Env} {a : Act} {n : Nat}

/-! ### Plain values -/
theorem binV_sound {op : BinOp} {t : TypeId} {x y : Operand} {u v r : Value} (hr : binV op u v = some r) :
    (do eqGuard op t x y u v; binOp op t u v : Sem Value).run P w = .ok r w ∧ g0 r = true := by
  unfold binV at hr
  split at hr
  · rename_i k a k' b
    have hg : (eqGuard op t x y (.int k a) (.int k' b)).run P w = .ok () w := by cases op <;> simp [eqGuard]
    simp only [Sem.run_bind, hg, Result.andThen_ok]
    split at hr
    · split at hr
      · exact absurd hr (by simp)
      · rename_i hb; simp only [Option.some.injEq] at hr; subst hr
        exact ⟨by simp [binOp, Op.shift, hb], rfl⟩
    · split at hr
      · exact absurd hr (by simp)
      · rename_i hb; simp only [Option.some.injEq] at hr; subst hr
        exact ⟨by simp [binOp, Op.shift, hb], rfl⟩
    · rename_i hn1 hn2
      split at hr
      · rename_i hk; subst hk
        unfold intBin at hr
        cases op <;> simp only [] at hr <;>
          first
          | exact absurd rfl (hn1)
          | exact absurd rfl (hn2)
          | (cases hr; done)
          | (split at hr
             · cases hr
             · rename_i hz; simp only [Option.some.injEq] at hr; subst hr; exact ⟨by simp [binOp, Op.intDiv, hz], rfl⟩)
          | (simp only [Option.some.injEq] at hr; subst hr; exact ⟨by simp [binOp, Op.intArith, Op.intBits, Op.intCmp], rfl⟩)
      · exact absurd hr (by simp)
  · rename_i a b
    have hg : (eqGuard op t x y (.string a) (.string b)).run P w = .ok () w := by cases op <;> simp [eqGuard]
    simp only [Sem.run_bind, hg, Result.andThen_ok]
    unfold strBin at hr
    cases op <;> simp only [] at hr <;>
      first
      | (cases hr; done)
      | (split at hr
         · rename_i hz; simp only [Option.some.injEq] at hr; subst hr
           refine ⟨?_, rfl⟩
           have : ¬ (((a.size + b.size : Nat) : Int) > IntKind.i64.max) := by
             have : IntKind.i64.max = 9223372036854775807 := by decide
             rw [this]; omega
           simp only [binOp, Op.stringOp]; rw [if_neg this]; rfl
         · cases hr)
      | (simp only [Option.some.injEq] at hr; subst hr; exact ⟨by simp [binOp, Op.stringOp], rfl⟩)
  · exact absurd hr (by simp)
theorem binV_rel {b : Bt} {S : Sh} {op : BinOp} {u v u' v' r : Value} (hr : binV op u v = some r) (hu : VR b S u u') (hv : VR b S v v') : u' = u ∧ v' = v := by
  unfold binV at hr
  split at hr
  · exact ⟨hu.int_inv, hv.int_inv⟩
  · exact ⟨hu.string_inv, hv.string_inv⟩
  · exact absurd hr (by simp)
theorem unV_sound {op : UnOp} {u r : Value} (hr : unV op u = some r) : (Op.unary op u).run P w = .ok r w ∧ g0 r = true ∧ g0 u = true := by
  unfold unV at hr
  split at hr
  · simp only [Option.some.injEq] at hr; subst hr; exact ⟨by simp [Op.unary, Op.intArith], rfl, rfl⟩
  · simp only [Option.some.injEq] at hr; subst hr; exact ⟨by simp [Op.unary, Op.intBits], rfl, rfl⟩
  · simp only [Option.some.injEq] at hr; subst hr; exact ⟨by simp [Op.unary], rfl, rfl⟩
  · exact absurd hr (by simp)
theorem isNil_rel {S : Sh} {kd : Nat} {u u' : Value} {r : Bool} (hr : isNil kd u = some r) (hu : VR b S u u') : isNil kd u' = some r := by
  rcases kd with _ | _ | _ | _ | kd <;> cases hu <;> simp_all [isNil]
theorem eqNil_rel {S : Sh} {kd : Nat} {u u' v v' : Value} {r : Bool} (hr : eqNil kd u v = some r) (hu : VR b S u u') (hv : VR b S v v') : eqNil kd u' v' = some r := by
  unfold eqNil at hr ⊢
  cases h1 : isNil kd u with
  | none => simp [h1] at hr
  | some x =>
    cases h2 : isNil kd v with
    | none => cases x <;> simp [h1, h2] at hr
    | some y => rw [isNil_rel h1 hu, isNil_rel h2 hv]; rw [h1, h2] at hr; exact hr
def kindIs (kd : Nat) : TypeDesc → Prop
  | .pointer _ => kd = 0
  | .slice _ => kd = 1
  | .map _ _ => kd = 2
  | .func _ _ _ => kd = 3
  | _ => False
theorem eqNil_both {kd : Nat} {u v : Value} {r : Bool} (hr : eqNil kd u v = some r) : ∃ x y, isNil kd u = some x ∧ isNil kd v = some y ∧ (x = true ∧ r = y ∨ y = true ∧ r = x) := by
  unfold eqNil at hr
  cases h1 : isNil kd u with
  | none => simp [h1] at hr
  | some x =>
    cases h2 : isNil kd v with
    | none => cases x <;> simp [h1, h2] at hr
    | some y => cases x <;> cases y <;> simp [h1, h2] at hr <;> exact ⟨_, _, rfl, rfl, by simp [hr]⟩
theorem isNil0 {u : Value} {x : Bool} (h : isNil 0 u = some x) : ∃ p, u = .pointer p ∧ x = p.isNone := by cases u <;> simp [isNil] at h; exact ⟨_, rfl, h.symm⟩
theorem isNil1 {u : Value} {x : Bool} (h : isNil 1 u = some x) : ∃ p l c, u = .slice p l c ∧ x = p.isNone := by cases u <;> simp [isNil] at h; exact ⟨_, _, _, rfl, h.symm⟩
theorem isNil2 {u : Value} {x : Bool} (h : isNil 2 u = some x) : ∃ p, u = .map p ∧ x = p.isNone := by cases u <;> simp [isNil] at h; exact ⟨_, rfl, h.symm⟩
theorem isNil3 {u : Value} {x : Bool} (h : isNil 3 u = some x) : (u = .nilFunc ∧ x = true) ∨ ∃ f c d, u = .func f c d ∧ x = false := by
  cases u <;> simp [isNil] at h
  · exact .inr ⟨_, _, _, rfl, h⟩
  · exact .inl ⟨rfl, h⟩
theorem equal_nil {t : TypeId} {d : TypeDesc} (hd : P.underlying t = some d) {kd : Nat} (hk : kindIs kd d) {u v : Value} {r : Bool} (hr : eqNil kd u v = some r) : (Op.equal t u v).run P w = .ok r w := by
  obtain ⟨x, y, hx, hy, hxy⟩ := eqNil_both hr
  unfold Op.equal Op.maxDepth
  rw [show (10000 : Nat) = 9999 + 1 from rfl, Op.equalIn]
  simp only [Sem.run_bind, run_under hd, Result.andThen_ok]
  generalize Op.equalIn 9999 = F
  cases d <;> simp only [kindIs] at hk <;> subst hk
  · obtain ⟨p, rfl, rfl⟩ := isNil0 hx; obtain ⟨q, rfl, rfl⟩ := isNil0 hy
    cases p <;> cases q <;> simp_all
  · obtain ⟨p, _, _, rfl, rfl⟩ := isNil1 hx; obtain ⟨q, _, _, rfl, rfl⟩ := isNil1 hy
    cases p <;> cases q <;> simp_all
  · obtain ⟨p, rfl, rfl⟩ := isNil2 hx; obtain ⟨q, rfl, rfl⟩ := isNil2 hy
    cases p <;> cases q <;> simp_all
  · rcases isNil3 hx with ⟨rfl, rfl⟩ | ⟨_, _, _, rfl, rfl⟩ <;> rcases isNil3 hy with ⟨rfl, rfl⟩ | ⟨_, _, _, rfl, rfl⟩ <;> simp_all
theorem eqGuard_nil {op : BinOp} {t : TypeId} {x y : Operand} {kd : Nat} {u v : Value} {r : Bool} (hr : eqNil kd u v = some r) : (eqGuard op t x y u v).run P w = .ok () w := by
  obtain ⟨p, q, hx, hy, _⟩ := eqNil_both hr
  have hu : u ≠ .nilIface ∧ ∀ c, u ≠ .agg c := by rcases kd with _ | _ | _ | _ | kd <;> cases u <;> simp_all [isNil]
  unfold eqGuard
  cases op <;> simp only [Sem.run_bind, Sem.run_pure, Result.andThen_ok] <;> first | rfl | (cases u <;> cases v <;> simp_all)
end
end Go.Proofs.YtpgidiompdabdaaGreat.AM
