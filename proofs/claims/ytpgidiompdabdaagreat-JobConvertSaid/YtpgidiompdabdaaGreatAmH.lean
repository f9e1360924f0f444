/- The abstract machine, eighth part: every operation that is no call, in one theorem. -/
import Derived.Test.YtpgidiompdabdaaGreatAmG
namespace Go.Proofs.YtpgidiompdabdaaGreat.AM
open Go Go.RowKit
set_option linter.unusedSimpArgs false
set_option linter.unusedVariables false

section
variable {P : Program} {b : Bt} {h h1 : AH} {base : Nat} {w0 w : World} {e : Env} {a : Act} {n : Nat}

theorem asN_rel {S : Sh} {v v' : Value} {k : Nat} (hk : asN v = some k) (hv : VR b S v v') : ∃ kk i, v' = .int kk i ∧ 0 ≤ i ∧ i.toNat = k := by
  cases v <;> simp only [asN] at hk <;> try (cases hk; done)
  rename_i kk i
  split at hk
  · rename_i h0; simp only [Option.some.injEq] at hk; exact ⟨kk, i, hv.int_inv, h0, hk⟩
  · exact absurd hk (by simp)
theorem bound_rel (R : Rl b e w a n) {x : Option Operand} {xo : Option Opd} {d k : Nat} (hx : rOpt x = some xo) (hk : bound e xo d = some k) :
    (x = none ∧ k = d) ∨ ∃ o kk i, x = some o ∧ a.eval o = .int kk i ∧ 0 ≤ i ∧ i.toNat = k := by
  cases x with
  | none => simp only [rOpt, Option.some.injEq] at hx; subst hx; simp only [bound, Option.some.injEq] at hk; exact .inl ⟨rfl, hk.symm⟩
  | some o =>
    simp only [rOpt, Option.map_eq_some_iff] at hx
    obtain ⟨od, ho, rfl⟩ := hx
    simp only [bound] at hk
    split at hk
    · rename_i v hv
      obtain ⟨kk, i, h1, h2, h3⟩ := asN_rel hk (opd_sound R ho hv)
      exact .inr ⟨o, kk, i, rfl, h1, h2, h3⟩
    · exact absurd hk (by simp)
theorem run_bound {kk : IntKind} {i : Int} {y : Nat} {c : BoundsCode} (h0 : 0 ≤ i) (hy : i.toNat ≤ y) : (Instr.sliceBound (.int kk i) y c).run P w = .ok i.toNat w := by
  have : 0 ≤ i ∧ i ≤ (y : Int) := ⟨h0, by omega⟩
  simp [Instr.sliceBound, asIntOf, this]
/-- Bounds as they are given. -/
theorem run_bounds (R : Rl b e w a n) {isS : Bool} {len cap : Nat} {lo hi mx : Option Operand} {lo' hi' mx' : Option Opd} {d2 d3 l r m : Nat} (e1 : rOpt lo = some lo') (e2 : rOpt hi = some hi') (e3 : rOpt mx = some mx')
    (hmh : mx' ≠ none → hi' ≠ none) (k1 : bound e lo' 0 = some l) (k2 : bound e hi' d2 = some r) (k3 : bound e mx' d3 = some m) (hlr : l ≤ r) (hrm : mx ≠ none → r ≤ m) (hm : mx ≠ none → m ≤ cap) (hd2 : hi = none → d2 = len) (hrc : mx = none → r ≤ cap) :
    (Instr.sliceBounds isS len cap (lo.map a.eval) (hi.map a.eval) (mx.map a.eval)).run P w = .ok (l, r, if mx = none then cap else m) w := by
  unfold Instr.sliceBounds
  have hhi : hi = none ↔ hi' = none := by cases hi <;> simp [rOpt] at e2 <;> first | (subst e2; simp) | (obtain ⟨_, _, rfl⟩ := e2; simp)
  have hmx : mx = none ↔ mx' = none := by cases mx <;> simp [rOpt] at e3 <;> first | (subst e3; simp) | (obtain ⟨_, _, rfl⟩ := e3; simp)
  rcases bound_rel R e1 k1 with ⟨rfl, rfl⟩ | ⟨o1, q1, i1, rfl, v1, z1, t1⟩ <;> rcases bound_rel R e2 k2 with ⟨rfl, rfl⟩ | ⟨o2, q2, i2, rfl, v2, z2, t2⟩ <;> rcases bound_rel R e3 k3 with ⟨rfl, rfl⟩ | ⟨o3, q3, i3, rfl, v3, z3, t3⟩
  · have := hd2 rfl; subst this; simp
  · exact absurd (hhi.1 rfl) (hmh (fun x => by have := hmx.2 x; simp at this))
  · subst t2
    simp [v2, run_bound z2 (hrc rfl)]
  · subst t2; subst t3
    simp [v2, v3, run_bound z3 (hm (by simp)), run_bound z2 (hrm (by simp))]
  · have := hd2 rfl; subst this; subst t1
    simp [v1, run_bound z1 hlr]
  · exact absurd (hhi.1 rfl) (hmh (fun x => by have := hmx.2 x; simp at this))
  · subst t1; subst t2
    simp [v1, v2, run_bound z2 (hrc rfl), run_bound z1 hlr]
  · subst t1; subst t2; subst t3
    simp [v1, v2, v3, run_bound z3 (hm (by simp)), run_bound z2 (hrm (by simp)), run_bound z1 hlr]

theorem cut_sound (H : Sim b h base w0 w) (R : Rl b e w a n) {t : TypeId} {x : Operand} {lo hi mx : Option Operand} {r : ROp} (hr : resolve P (.slice t x lo hi mx) = some r) {v : Value} (hv : ev r e h = some (v, h1)) :
    Out b h1 base w0 w v ((Instr.sliceAt t (a.eval x) (lo.map a.eval) (hi.map a.eval) (mx.map a.eval)).run P w) := by
  simp only [resolve] at hr
  split at hr
  · rename_i xo lo' hi' hu hx e1 e2 e3
    simp only [Option.some.injEq] at hr; subst hr
    have : mx = none := by cases mx <;> simp [rOpt] at e3 <;> rfl
    subst this
    simp only [ev] at hv
    split at hv
    · rename_i s hs
      split at hv
      · rename_i l r k1 k2
        split at hv
        · rename_i hc
          simp only [Option.some.injEq, Prod.mk.injEq] at hv; obtain ⟨rfl, rfl⟩ := hv
          have hxv := (opd_sound R hx hs).string_inv
          have hb := run_bounds (P := P) (isS := false) (len := s.size) (cap := s.size) R e1 e2 (mx := none) (mx' := none) rfl (by simp) k1 k2 (d3 := 0) (m := 0) rfl hc.1 (by simp) (by simp) (fun hh => by
            subst hh; simp [rOpt] at e2; subst e2; simp [bound] at k2; rfl) (fun _ => hc.2)
          refine Out.scal H (v := .string (s.extract l r)) ?_ rfl
          simp only [Option.map_none] at hb
          simp only [Instr.sliceAt, Instr.slice, Sem.run_bind, run_under hu, Result.andThen_ok, hxv, Option.map_none, Option.isSome_none, Bool.false_eq_true, if_false, hb, Sem.run_pure]
        · exact absurd hv (by simp)
      · exact absurd hv (by simp)
    · exact absurd hv (by simp)
  · rename_i el xo lo' hi' mx' hu hx e1 e2 e3
    split at hr
    · exact absurd hr (by simp)
    · rename_i hmh
      simp only [Option.bind_eq_some_iff] at hr
      obtain ⟨es, hes, hr⟩ := hr
      split at hr
      · exact absurd hr (by simp)
      · rename_i hes0
        simp only [Option.some.injEq] at hr; subst hr
        simp only [ev] at hv
        split at hv
        · rename_i hs
          have hxv := (opd_sound R hx hs).nilslice_inv
          split at hv
          · rename_i k1 k2 k3
            simp only [Option.some.injEq, Prod.mk.injEq] at hv; obtain ⟨rfl, rfl⟩ := hv
            have hb := run_bounds (P := P) (isS := true) (len := 0) (cap := 0) R e1 e2 e3 (fun q1 q2 => by cases mx' <;> simp_all) k1 k2 k3 (Nat.le_refl _) (by simp) (by simp) (fun _ => rfl) (fun _ => Nat.le_refl _)
            refine Out.scal H (v := .slice none 0 0) ?_ rfl
            simp only [Instr.sliceAt, Instr.slice, Sem.run_bind, run_under hu, Result.andThen_ok, hxv, hb, run_size hes, Sem.run_pure]
            simp
          · exact absurd hv (by simp)
        · rename_i i off len s hs
          split at hv
          · rename_i l r m k1 k2 k3
            split at hv
            · rename_i hc
              obtain ⟨rfl, hlr, hrm, hml⟩ := hc
              simp only [Option.some.injEq, Prod.mk.injEq] at hv; obtain ⟨rfl, rfl⟩ := hv
              rcases (opd_sound R hx hs).slice_inv with ⟨k, sb, cap, tt, nn, hb2, hl2, hS2, hcap2, hxv⟩ | ⟨rfl, a', hxv⟩
              · have hb := run_bounds (P := P) (isS := true) (len := len) (cap := cap) R e1 e2 e3 (fun q1 q2 => by cases mx' <;> simp_all) k1 k2 k3 hlr (fun _ => hrm) (fun _ => by omega) (fun _ => rfl) (fun _ => by omega)
                by_cases hml2 : (if mx = none then cap else m) = l
                · have h0 : r - l = 0 := by
                    split at hml2 <;> omega
                  refine Out.same H (v' := .slice (some ⟨k, sb + off, none⟩) 0 0) ?_ (by rw [h0]; exact .slice0)
                  simp only [Instr.sliceAt, Instr.slice, Sem.run_bind, run_under hu, Result.andThen_ok, hxv, hb, run_size hes, Sem.run_pure]
                  rw [if_pos hml2, h0, hml2]; simp
                · refine Out.same H (v' := .slice (some ⟨k, sb + (off + l * s), none⟩) (r - l) ((if mx = none then cap else m) - l)) ?_ (.slice hb2 (by split <;> omega) hS2 ?_)
                  · simp only [Instr.sliceAt, Instr.slice, Sem.run_bind, run_under hu, Result.andThen_ok, hxv, hb, run_size hes, Sem.run_pure]
                    rw [if_neg hml2]; simp [add_none, Nat.add_assoc]
                  · have hle : l + ((if mx = none then cap else m) - l) ≤ cap := by split <;> omega
                    have := Nat.mul_le_mul_right s hle
                    rw [Nat.add_mul] at this; omega
              · have hb := run_bounds (P := P) (isS := true) (len := 0) (cap := 0) R e1 e2 e3 (fun q1 q2 => by cases mx' <;> simp_all) k1 k2 k3 hlr (fun _ => hrm) (fun _ => hml) (fun _ => rfl) (fun _ => by omega)
                have hr0 : r = 0 := by omega
                have hl0 : l = 0 := by omega
                have hm0 : m = 0 := by omega
                subst hr0; subst hl0; subst hm0
                refine Out.same H (v' := .slice (some a') 0 0) ?_ .slice0
                simp only [Instr.sliceAt, Instr.slice, Sem.run_bind, run_under hu, Result.andThen_ok, hxv, hb, run_size hes, Sem.run_pure]
                simp
            · exact absurd hv (by simp)
          · exact absurd hv (by simp)
        · exact absurd hv (by simp)
  · rename_i kk el xo lo' hi' mx' hu hx e1 e2 e3
    split at hr
    · exact absurd hr (by simp)
    · rename_i hmh
      simp only [Option.bind_eq_some_iff] at hr
      obtain ⟨es, hes, hr⟩ := hr
      split at hr
      · exact absurd hr (by simp)
      · rename_i hes0
        simp only [Option.some.injEq] at hr; subst hr
        simp only [ev] at hv
        split at hv
        · rename_i i off hs
          obtain ⟨k, sb, hb2, hxv⟩ := (opd_sound R hx hs).ptr_inv
          split at hv
          · rename_i ro tt c l r m hi2 k1 k2 k3
            split at hv
            · rename_i hc
              obtain ⟨hoff, hlr, hrm, hml⟩ := hc
              simp only [Option.some.injEq, Prod.mk.injEq] at hv; obtain ⟨rfl, rfl⟩ := hv
              have hb := run_bounds (P := P) (isS := false) (len := kk) (cap := kk) R e1 e2 e3 (fun q1 q2 => by cases mx' <;> simp_all) k1 k2 k3 hlr (fun _ => hrm) (fun _ => by omega) (fun _ => rfl) (fun _ => by omega)
              obtain ⟨_, cs, t', fr, hk, hsz, _, _⟩ := H.row hi2 hb2
              have hS2 : w.shape? k = some (t', cs.size) := by simp [World.shape?, hk]
              have hle : l + ((if mx = none then kk else m) - l) ≤ kk := by split <;> omega
              have hmul := Nat.mul_le_mul_right es hle
              rw [Nat.add_mul] at hmul
              by_cases hml2 : (if mx = none then kk else m) = l
              · have h0 : r - l = 0 := by split at hml2 <;> omega
                refine Out.same H (v' := .slice (some ⟨k, sb + off, none⟩) 0 0) ?_ (by rw [h0]; exact .slice0)
                simp only [Instr.sliceAt, Sem.run_bind, run_under hu, Result.andThen_ok, hxv, hb, run_size hes, Sem.run_pure, Instr.sureAddr]
                rw [if_pos hml2, h0, hml2]; simp
              · refine Out.same H (v' := .slice (some ⟨k, sb + (off + l * es), none⟩) (r - l) ((if mx = none then kk else m) - l)) ?_ (.slice hb2 (by split <;> omega) hS2 (by omega))
                simp only [Instr.sliceAt, Sem.run_bind, run_under hu, Result.andThen_ok, hxv, hb, run_size hes, Sem.run_pure, Instr.sureAddr]
                rw [if_neg hml2]; simp [add_none, Nat.add_assoc]
            · exact absurd hv (by simp)
          · exact absurd hv (by simp)
        · exact absurd hv (by simp)
  · exact absurd hr (by simp)
end
end Go.Proofs.YtpgidiompdabdaaGreat.AM
