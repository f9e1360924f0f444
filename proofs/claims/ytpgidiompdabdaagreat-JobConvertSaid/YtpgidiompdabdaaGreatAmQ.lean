/- Functions of scalars taken for known, over another machine's known functions. -/
import Derived.Test.YtpgidiompdabdaaGreatAmP
namespace Go.Proofs.YtpgidiompdabdaaGreat.AM
open Go Go.RowKit
set_option linter.unusedSimpArgs false
set_option linter.unusedVariables false
section
variable {P : Program} {F F0 : Funs} {X0 : Exts} {pur : List FuncId}
def groundK (F0 : Funs) (X0 : Exts) (k : Nat) (pur : List FuncId) : Exts := fun g vs h =>
  if pur.contains g = true then (if vs.all g0 = true then (match (runF F0 X0 k g vs AH.empty).map (·.1) with
    | some v => if g1 v = true then some (v, h) else none
    | none => none) else none) else none
theorem groundK_spec {k : Nat} {g : FuncId} {vs : List Value} {h h1 : AH} {v : Value} (hx : groundK F0 X0 k pur g vs h = some (v, h1)) : pur.contains g = true ∧ vs.all g0 = true ∧ (runF F0 X0 k g vs AH.empty).map (·.1) = some v ∧ g1 v = true ∧ h1 = h := by
  unfold groundK at hx
  split at hx
  · rename_i h1'
    split at hx
    · rename_i h2'
      split at hx
      · rename_i u hu
        split at hx
        · rename_i hg
          simp only [Option.some.injEq, Prod.mk.injEq] at hx; obtain ⟨rfl, rfl⟩ := hx
          exact ⟨h1', h2', hu, hg, rfl⟩
        · cases hx
      · cases hx
    · cases hx
  · cases hx
theorem groundK_intro {k : Nat} {g : FuncId} {vs : List Value} {h : AH} {v : Value} (h1 : pur.contains g = true) (h2 : vs.all g0 = true) (h3 : (runF F0 X0 k g vs AH.empty).map (·.1) = some v) (h4 : g1 v = true) : groundK F0 X0 k pur g vs h = some (v, h) := by
  unfold groundK
  rw [if_pos h1, if_pos h2, h3]
  simp [h4]
theorem groundK_sound (OK0 : XOK P F0 X0 []) (hF0 : FOK P [] F0) {k : Nat} {g : FuncId} {vs : List Value} {h h1 : AH} {v : Value} (hx : groundK F0 X0 k pur g vs h = some (v, h1)) : SoundFn P g vs h v h1 := by
  obtain ⟨_, hg, hr, hv, rfl⟩ := groundK_spec hx
  have hok : ∃ h', Ok F0 X0 (.fn g vs AH.empty v h') := by
    simp only [Option.map_eq_some_iff] at hr
    obtain ⟨⟨u, h'⟩, hr, rfl⟩ := hr
    exact ⟨h', ok_runF k g vs AH.empty u h' hr⟩
  obtain ⟨h', hok⟩ := hok
  refine ⟨(sound OK0 hF0 hok).1.1, fun b base w0 w args H hl => ?_⟩
  have ha := lr_scal hl (fun x hx => List.all_eq_true.1 hg x hx)
  subst ha
  refine (ground_ok OK0 hF0 hok hg hv w (H.gd.here H.bel)).mono fun e w1 hp => ?_
  obtain ⟨rfl, hb⟩ := hp
  exact ⟨[], v, rfl, .g1 hv, below_shape hb, by rw [List.append_nil]; exact H.below hb⟩
theorem groundK_ok (OK0 : XOK P F0 X0 []) (hF0 : FOK P [] F0) {k : Nat} (hn : ∀ g, pur.contains g = true → F g = none) : XOK P F (groundK F0 X0 k pur) pur :=
  ⟨fun g vs h v h1 hx => groundK_sound OK0 hF0 hx, fun g vs h v h1 _ hx => by
    obtain ⟨a1, a2, a3, a4, rfl⟩ := groundK_spec hx
    exact ⟨rfl, fun h2 => groundK_intro a1 a2 a3 a4⟩, hn⟩
theorem keys_ok0 {fK fI fS : FuncId} {kt : TypeId} (L : SortedLaws P fK fI fS kt) : XOK P F0 (keysX fK fI fS kt) [] :=
  ⟨fun g vs h v h1 hx => keysX_sound L hx, fun g vs h v h1 hp => by simp at hp, fun g hp => by simp at hp⟩
end
end Go.Proofs.YtpgidiompdabdaaGreat.AM
