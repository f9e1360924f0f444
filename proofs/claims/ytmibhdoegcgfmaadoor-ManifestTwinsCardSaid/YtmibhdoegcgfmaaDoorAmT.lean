/- strconv.FormatInt at base 10, taken for known off the shelf; functions of scalars over it. -/
import Derived.Test.YtmibhdoegcgfmaaDoorAmN
import Derived.Test.YtmibhdoegcgfmaaDoorShelf
import Derived.Lib.ItoaNum
import Derived.Lib.AppendIntMem
namespace Go.Proofs.YtmibhdoegcgfmaaDoor.AM
open Go Go.RowKit
set_option linter.unusedSimpArgs false
set_option linter.unusedVariables false
/-- A number's decimal digits. -/
def dg : Nat → Nat → List UInt8
  | 0, _ => []
  | f + 1, u => if u < 10 then [UInt8.ofNat (48 + u)] else dg f (u / 10) ++ [UInt8.ofNat (48 + u % 10)]
theorem dg_eq : ∀ (f u : Nat), u < 10 ^ (f + 1) → dg (f + 1) u = Lib.decDigits u
  | f, u, h => by
    rw [dg, Lib.decDigits]
    by_cases hu : u < 10
    · rw [if_pos hu, dif_pos hu]
    · rw [if_neg hu, dif_neg hu]
      cases f with
      | zero => exact absurd h (by simpa using hu)
      | succ f => rw [dg_eq f (u / 10) (by rw [Nat.pow_succ] at h; omega)]
def digits (u : Nat) : ByteArray := ⟨(dg 20 u).toArray⟩
def fmtX (fF : FuncId) : Exts := fun g vs h => bif Nat.beq g fF then (match vs with
    | [.int .i64 n, .int .i64 b] => if b = 10 ∧ 0 ≤ n ∧ n ≤ 9223372036854775807 then some (.string (digits n.toNat), h) else none
    | _ => none) else none
theorem fmtX_spec {fF g : FuncId} {vs : List Value} {h h1 : AH} {v : Value} (hx : fmtX fF g vs h = some (v, h1)) : g = fF ∧ ∃ n : Int, vs = [.int .i64 n, .int .i64 10] ∧ 0 ≤ n ∧ n ≤ 9223372036854775807 ∧ v = .string (digits n.toNat) ∧ h1 = h := by
  unfold fmtX at hx
  cases hb : Nat.beq g fF with
  | false => rw [hb] at hx; cases hx
  | true =>
    rw [hb] at hx
    simp only [cond_true] at hx
    refine ⟨Nat.eq_of_beq_eq_true hb, ?_⟩
    split at hx
    · rename_i n b
      split at hx
      · rename_i hc
        obtain ⟨rfl, h0, h9⟩ := hc
        simp only [Option.some.injEq, Prod.mk.injEq] at hx
        exact ⟨n, rfl, h0, h9, hx.1.symm, hx.2.symm⟩
      · cases hx
    · cases hx
theorem fmtX_intro {fF : FuncId} {n : Int} {h : AH} (h0 : 0 ≤ n) (h9 : n ≤ 9223372036854775807) : fmtX fF fF [.int .i64 n, .int .i64 10] h = some (.string (digits n.toNat), h) := by
  unfold fmtX
  rw [Nat.beq_refl]
  simp only [cond_true]
  rw [if_pos ⟨trivial, h0, h9⟩]
theorem fmtX_sound {fF g : FuncId} (hf : fF = Tryd.fmtL_ren.f 173) (hB : Bodied Tryd.prog fF) {vs : List Value} {h h1 : AH} {v : Value} (hx : fmtX fF g vs h = some (v, h1)) : SoundFn Tryd.prog g vs h v h1 := by
  obtain ⟨rfl, n, rfl, h0, h9, rfl, rfl⟩ := fmtX_spec hx
  refine ⟨hB, fun b base w0 w args H hl => ?_⟩
  have ha := lr_scal hl (fun x hx => by simp at hx; rcases hx with rfl | rfl <;> rfl)
  subst ha
  have htab : Lib.TabIs Tryd.prog w "internal/strconv.uint64pow10" .u64 Lib.pow10Tab := H.gd w H.bel
  have := Any.strconv_FormatInt_10 Tryd.fmtL n (by omega) h9 w htab
  rw [← hf] at this
  refine this.mono fun e w1 hp => ?_
  obtain ⟨rfl, k, os, rfl⟩ := hp
  have hb : Below w.heap.size w (Go.Sort.grow (w.drewN k) os) := Lib.below_grow _ w (Nat.le_refl _) k os
  refine ⟨[], _, rfl, ?_, below_shape hb, by rw [List.append_nil]; exact H.below hb⟩
  have e : (⟨(Lib.itoa n).toArray⟩ : ByteArray) = digits n.toNat := by
    unfold Lib.itoa digits
    rw [if_neg (by omega), dg_eq 19 n.toNat (by omega)]
  rw [e]
  exact .scal rfl
theorem fmt_ok0 {F : Funs} {fF : FuncId} (hf : fF = Tryd.fmtL_ren.f 173) (hB : Bodied Tryd.prog fF) (hn : F fF = none) : XOK Tryd.prog F (fmtX fF) [fF] :=
  ⟨fun g vs h v h1 hx => fmtX_sound hf hB hx, fun g vs h v h1 _ hx => by
    obtain ⟨rfl, n, rfl, h0, h9, rfl, rfl⟩ := fmtX_spec hx
    exact ⟨rfl, fun h2 => fmtX_intro h0 h9⟩, fun g hg => by
    have : g = fF := by simpa using hg
    subst this; exact hn⟩
section
variable {P : Program} {F F0 : Funs} {X0 : Exts} {pur p0 : List FuncId}
def groundT (F0 : Funs) (X0 : Exts) (k : Nat) (pur : List FuncId) : Exts := fun g vs h =>
  if pur.contains g = true then (if vs.all g0 = true then (match (runF F0 X0 k g vs AH.empty).map (·.1) with
    | some v => if g1 v = true then some (v, h) else none
    | none => none) else none) else none
theorem groundT_spec {k : Nat} {g : FuncId} {vs : List Value} {h h1 : AH} {v : Value} (hx : groundT F0 X0 k pur g vs h = some (v, h1)) : pur.contains g = true ∧ vs.all g0 = true ∧ (runF F0 X0 k g vs AH.empty).map (·.1) = some v ∧ g1 v = true ∧ h1 = h := by
  unfold groundT at hx
  split at hx
  · rename_i h1'
    split at hx
    · rename_i h2'
      split at hx
      · rename_i u hu
        split at hx
        · rename_i hg
          simp only [Option.some.injEq, Prod.mk.injEq] at hx; obtain ⟨rfl, rfl⟩ := hx
          exact ⟨h1', h2', hu, hg, rfl⟩
        · cases hx
      · cases hx
    · cases hx
  · cases hx
theorem groundT_intro {k : Nat} {g : FuncId} {vs : List Value} {h : AH} {v : Value} (h1 : pur.contains g = true) (h2 : vs.all g0 = true) (h3 : (runF F0 X0 k g vs AH.empty).map (·.1) = some v) (h4 : g1 v = true) : groundT F0 X0 k pur g vs h = some (v, h) := by
  unfold groundT
  rw [if_pos h1, if_pos h2, h3]
  simp [h4]
theorem groundT_sound (OK0 : XOK P F0 X0 p0) (hF0 : FOK P p0 F0) {k : Nat} {g : FuncId} {vs : List Value} {h h1 : AH} {v : Value} (hx : groundT F0 X0 k pur g vs h = some (v, h1)) : SoundFn P g vs h v h1 := by
  obtain ⟨_, hg, hr, hv, rfl⟩ := groundT_spec hx
  have hok : ∃ h', Ok F0 X0 (.fn g vs AH.empty v h') := by
    simp only [Option.map_eq_some_iff] at hr
    obtain ⟨⟨u, h'⟩, hr, rfl⟩ := hr
    exact ⟨h', ok_runF k g vs AH.empty u h' hr⟩
  obtain ⟨h', hok⟩ := hok
  refine ⟨(sound OK0 hF0 hok).1.1, fun b base w0 w args H hl => ?_⟩
  have ha := lr_scal hl (fun x hx => List.all_eq_true.1 hg x hx)
  subst ha
  refine (ground_ok OK0 hF0 hok hg hv w (H.gd.here H.bel)).mono fun e w1 hp => ?_
  obtain ⟨rfl, hb⟩ := hp
  exact ⟨[], v, rfl, .g1 hv, below_shape hb, by rw [List.append_nil]; exact H.below hb⟩
theorem groundT_ok (OK0 : XOK P F0 X0 p0) (hF0 : FOK P p0 F0) {k : Nat} (hn : ∀ g, pur.contains g = true → F g = none) : XOK P F (groundT F0 X0 k pur) pur :=
  ⟨fun g vs h v h1 hx => groundT_sound OK0 hF0 hx, fun g vs h v h1 _ hx => by
    obtain ⟨a1, a2, a3, a4, rfl⟩ := groundT_spec hx
    exact ⟨rfl, fun h2 => groundT_intro a1 a2 a3 a4⟩, hn⟩
def fmtOr (fF : FuncId) (A : Exts) : Exts := fun g vs h => bif Nat.beq g fF then fmtX fF g vs h else A g vs h
end
theorem fmtOr_ok {F : Funs} {A : Exts} {pur : List FuncId} {fF : FuncId} (hf : fF = Tryd.fmtL_ren.f 173) (hB : Bodied Tryd.prog fF) (hn : F fF = none) (OK : XOK Tryd.prog F A pur) : XOK Tryd.prog F (fmtOr fF A) (fF :: pur) := by
  refine ⟨fun g vs h v h1 hx => ?_, fun g vs h v h1 hp hx => ?_, fun g hg => ?_⟩
  · unfold fmtOr at hx
    cases hb : Nat.beq g fF with
    | true => rw [hb] at hx; exact fmtX_sound hf hB hx
    | false => rw [hb] at hx; exact OK.sound g vs h v h1 hx
  · cases hb : Nat.beq g fF with
    | true =>
      have e := Nat.eq_of_beq_eq_true hb
      subst e
      have key : ∀ h2, fmtOr g A g vs h2 = fmtX g g vs h2 := fun h2 => by unfold fmtOr; rw [Nat.beq_refl]; rfl
      rw [key] at hx
      obtain ⟨_, n, rfl, h0, h9, rfl, rfl⟩ := fmtX_spec hx
      exact ⟨rfl, fun h2 => by rw [key]; exact fmtX_intro h0 h9⟩
    | false =>
      have key : ∀ h2, fmtOr fF A g vs h2 = A g vs h2 := fun h2 => by unfold fmtOr; rw [hb]; rfl
      rw [key] at hx
      have hne := Nat.ne_of_beq_eq_false hb
      have hp' : pur.contains g = true := by simpa [hne] using hp
      obtain ⟨h2, h3⟩ := OK.pure g vs h v h1 hp' hx
      exact ⟨h2, fun h4 => by rw [key]; exact h3 h4⟩
  · by_cases e : g = fF
    · subst e; exact hn
    · exact OK.none g (by simpa [e] using hg)
end Go.Proofs.YtmibhdoegcgfmaaDoor.AM
