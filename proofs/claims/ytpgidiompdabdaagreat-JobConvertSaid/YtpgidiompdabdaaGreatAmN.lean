/- The abstract machine, fourteenth part: calls whose arguments hold no address, run over the empty heap; such functions as what another machine takes for known. -/
import Derived.Test.YtpgidiompdabdaaGreatAmM
namespace Go.Proofs.YtpgidiompdabdaaGreat.AM
open Go Go.RowKit
set_option linter.unusedSimpArgs false
set_option linter.unusedVariables false

section
variable {P : Program} {F F0 : Funs} {X : Exts} {pur : List FuncId}
def noX : Exts := fun _ _ _ => none
theorem noX_ok {F : Funs} : XOK P F noX [] := ⟨fun _ _ _ _ _ h => (by cases h), fun _ _ _ _ _ _ h => (by cases h), fun _ h => (by simp at h)⟩
theorem Sim.empty (w : World) (gd : Gd w.heap.size w) : Sim [] AH.empty w.heap.size w w :=
  ⟨rfl, fun i _ => Tr.get_lf _, Below.refl _ _, Nat.le_refl _, fun i o h => (by rw [show AH.empty.get i = none from Tr.get_lf _] at h; cases h), fun i j o o' k s s' _ h => (by rw [show AH.empty.get i = none from Tr.get_lf _] at h; cases h), gd⟩
theorem VR.g1_inv {b : Bt} {S : Sh} {v v' : Value} (hg : AM.g1 v = true) (h : VR b S v v') : v' = v := by
  cases v <;> simp only [AM.g1] at hg <;> first | exact h.g0_inv hg | skip
  rename_i cs
  obtain ⟨cs', rfl, hl⟩ := h.agg_inv
  have := lr_scal hl (fun x hx => List.all_eq_true.1 hg x hx)
  congr 1
  exact Array.ext' this
/-- The world behind a call that wrote to no block that was there. -/
theorem below_shape {w w1 : World} (h : Below w.heap.size w w1) : SLe w.shape? w1.shape? := by
  intro k x hk
  unfold World.shape? at *
  have hlt : k < w.heap.size := by
    cases hg : w.heap[k]? with
    | none => rw [hg] at hk; cases hk
    | some o => exact (Array.getElem?_eq_some_iff.1 hg).1
  rw [h.block k hlt]; exact hk
theorem Sim.below {b : Bt} {h : AH} {base : Nat} {w0 w w1 : World} (H : Sim b h base w0 w) (hb : Below w.heap.size w w1) : Sim b h base w0 w1 := by
  refine ⟨H.len, H.out, H.bel.trans (hb.mono H.le), Nat.le_trans H.le hb.size, fun i o hi => ?_, H.inj, H.gd⟩
  obtain ⟨k, s, hbk, hO⟩ := H.obj i o hi
  refine ⟨k, s, hbk, hO.move (fun _ _ x => x) (below_shape hb) fun hd => hb.block k ?_⟩
  cases o with
  | row ro t c => obtain ⟨_, cs, t', fr, h1, _⟩ := hO; exact (Array.getElem?_eq_some_iff.1 h1).1
  | map es => obtain ⟨_, _, _, h1, _⟩ := hO; exact (Array.getElem?_eq_some_iff.1 h1).1
  | iter s p => exact (Array.getElem?_eq_some_iff.1 hO.2).1
  | seq m => obtain ⟨_, _, _, _, h1, _⟩ := hO; exact (Array.getElem?_eq_some_iff.1 h1).1
  | dead => exact absurd rfl hd
/-- A call without addresses: it comes back with the value that the abstract machine tells, and writes to no block that was there. -/
theorem ground_ok (OK : XOK P F X pur) (hF : FOK P pur F) {f : FuncId} {vs : List Value} {v : Value} {h : AH} (hrun : Ok F X (.fn f vs AH.empty v h)) (hg : vs.all g0 = true) (hv : g1 v = true) (w : World) (gd : Gd w.heap.size w) :
    Calls P f vs.toArray w (fun e w1 => e = .returned v ∧ Below w.heap.size w w1) := by
  obtain ⟨⟨_, hs⟩, _⟩ := sound OK hF hrun
  have := hs [] w.heap.size w w vs (Sim.empty w gd) (LR.same fun x hx => .scal (List.all_eq_true.1 hg x hx))
  refine this.mono fun e w1 hp => ?_
  obtain ⟨c, v', rfl, hvr, _, HS⟩ := hp
  exact ⟨by rw [hvr.g1_inv hv], HS.bel⟩
theorem ground_run (OK : XOK P F X pur) (hF : FOK P pur F) {k : Nat} {f : FuncId} {vs : List Value} {v : Value} (hrun : (runF F X k f vs AH.empty).map (·.1) = some v) (hg : vs.all g0 = true) (hv : g1 v = true) (w : World) (gd : Gd w.heap.size w) :
    Calls P f vs.toArray w (fun e w1 => e = .returned v ∧ Below w.heap.size w w1) := by
  simp only [Option.map_eq_some_iff] at hrun
  obtain ⟨⟨u, h⟩, hr, rfl⟩ := hrun
  exact ground_ok OK hF (ok_runF k f vs AH.empty u h hr) hg hv w gd

/-- Functions of scalars, taken for known: what the machine of F0 tells over the empty heap. -/
def groundX (F0 : Funs) (k : Nat) (pur : List FuncId) : Exts := fun g vs h =>
  if pur.contains g = true then (if vs.all g0 = true then (match (runF F0 noX k g vs AH.empty).map (·.1) with
    | some v => if g1 v = true then some (v, h) else none
    | none => none) else none) else none
theorem groundX_spec {k : Nat} {g : FuncId} {vs : List Value} {h h1 : AH} {v : Value} (hx : groundX F0 k pur g vs h = some (v, h1)) : pur.contains g = true ∧ vs.all g0 = true ∧ (runF F0 noX k g vs AH.empty).map (·.1) = some v ∧ g1 v = true ∧ h1 = h := by
  unfold groundX at hx
  split at hx
  · rename_i h1'
    split at hx
    · rename_i h2'
      split at hx
      · rename_i u hu
        split at hx
        · rename_i hg
          simp only [Option.some.injEq, Prod.mk.injEq] at hx; obtain ⟨rfl, rfl⟩ := hx
          exact ⟨h1', h2', hu, hg, rfl⟩
        · cases hx
      · cases hx
    · cases hx
  · cases hx
theorem groundX_intro {k : Nat} {g : FuncId} {vs : List Value} {h : AH} {v : Value} (h1 : pur.contains g = true) (h2 : vs.all g0 = true) (h3 : (runF F0 noX k g vs AH.empty).map (·.1) = some v) (h4 : g1 v = true) : groundX F0 k pur g vs h = some (v, h) := by
  unfold groundX
  rw [if_pos h1, if_pos h2, h3]
  simp [h4]
theorem ground_sound (hF0 : FOK P [] F0) {k : Nat} {g : FuncId} {vs : List Value} {h h1 : AH} {v : Value} (hx : groundX F0 k pur g vs h = some (v, h1)) : SoundFn P g vs h v h1 := by
  obtain ⟨_, hg, hr, hv, rfl⟩ := groundX_spec hx
  have hok : ∃ h', Ok F0 noX (.fn g vs AH.empty v h') := by
    simp only [Option.map_eq_some_iff] at hr
    obtain ⟨⟨u, h'⟩, hr, rfl⟩ := hr
    exact ⟨h', ok_runF k g vs AH.empty u h' hr⟩
  obtain ⟨h', hok⟩ := hok
  refine ⟨(sound noX_ok hF0 hok).1.1, fun b base w0 w args H hl => ?_⟩
  have ha := lr_scal hl (fun x hx => List.all_eq_true.1 hg x hx)
  subst ha
  refine (ground_ok noX_ok hF0 hok hg hv w (H.gd.here H.bel)).mono fun e w1 hp => ?_
  obtain ⟨rfl, hb⟩ := hp
  exact ⟨[], v, rfl, .g1 hv, below_shape hb, by rw [List.append_nil]; exact H.below hb⟩
theorem groundX_ok (hF0 : FOK P [] F0) {k : Nat} (hn : ∀ g, pur.contains g = true → F g = none) : XOK P F (groundX F0 k pur) pur :=
  ⟨fun g vs h v h1 hx => ground_sound hF0 hx, fun g vs h v h1 _ hx => by
    obtain ⟨a1, a2, a3, a4, rfl⟩ := groundX_spec hx
    exact ⟨rfl, fun h2 => groundX_intro a1 a2 a3 a4⟩, hn⟩
end
end Go.Proofs.YtpgidiompdabdaaGreat.AM
