/- Functions that hand back plain values and write nothing that was there, walked over every order: known to other walks. -/
import Derived.Test.YtpnmeednimpjdaaGreatAmS
namespace Go.Proofs.YtpnmeednimpjdaaGreat.AM
open Go Go.RowKit
set_option linter.unusedSimpArgs false
set_option linter.unusedVariables false

/-! ### A heap that is not written -/
def frzO : AObj → AObj
  | .row _ t c => .row true t c
  | _ => .dead
def Tr.mapT {α β : Type} (g : α → β) : Tr α → Tr β
  | .lf => .lf
  | .nd l o r => .nd (l.mapT g) (o.map g) (r.mapT g)
theorem Tr.getB_mapT {α β : Type} (g : α → β) : ∀ (t : Tr α) (bs : List Bool), (t.mapT g).getB bs = (t.getB bs).map g
  | .lf, bs => by rw [Tr.mapT, Tr.get_lf, Tr.get_lf]; rfl
  | .nd l o r, [] => rfl
  | .nd l o r, true :: bs => Tr.getB_mapT g r bs
  | .nd l o r, false :: bs => Tr.getB_mapT g l bs
def frz (h : AH) : AH := ⟨h.next, h.tr.mapT frzO⟩
theorem frz_get (h : AH) (i : Nat) : (frz h).get i = (h.get i).map frzO := Tr.getB_mapT _ _ _
theorem Sim.frz {b : Bt} {h : AH} {base : Nat} {w0 w : World} (H : Sim b h base w0 w) : Sim b (frz h) w.heap.size w w := by
  refine ⟨H.len, fun i hi => ?_, Below.refl _ _, Nat.le_refl _, fun i o hi => ?_, fun i j o o' k s s' _ h1 _ l1 => ?_, H.gd.here H.bel⟩
  · rw [frz_get, H.out i hi]; rfl
  · rw [frz_get] at hi
    simp only [Option.map_eq_some_iff] at hi
    obtain ⟨o0, hi, rfl⟩ := hi
    obtain ⟨k, s, hb, ho⟩ := H.obj i o0 hi
    refine ⟨k, s, hb, ?_⟩
    cases o0 with
    | row ro t c =>
      obtain ⟨h1, cs, t', fr, h2, h3, h4, _⟩ := ho
      refine ⟨h1, cs, t', fr, h2, h3, h4, ?_⟩
      rw [if_pos rfl]
      exact (Array.getElem?_eq_some_iff.1 h2).1
    | _ => trivial
  · rw [frz_get] at h1
    simp only [Option.map_eq_some_iff] at h1
    obtain ⟨o0, _, rfl⟩ := h1
    cases o0 <;> cases l1
/-- All that is there. -/
def resAt (h : AH) (i : Nat) : Option Res := match h.get i with
  | some (.row true t c) => some (.ro i t c)
  | some .dead => some (.gone i)
  | _ => none
def HF (h : AH) : SH := (List.range h.next).filterMap (resAt h)
theorem HF_hag (h : AH) : HAg (HF h) h := by
  have key : ∀ r ∈ HF h, r.holds h ∧ r.foot = [] := by
    intro r hr
    unfold HF at hr
    obtain ⟨i, hi, hri⟩ := List.mem_filterMap.1 hr
    have hlt := List.mem_range.1 hi
    unfold resAt at hri
    split at hri
    · rename_i t c hg; cases hri; exact ⟨⟨hlt, hg⟩, rfl⟩
    · rename_i hg; cases hri; exact ⟨⟨hlt, hg⟩, rfl⟩
    · cases hri
  refine ⟨fun r hr => (key r hr).1, ?_⟩
  have : (HF h).flatMap Res.foot = [] := by
    rw [List.flatMap_eq_nil_iff]
    exact fun r hr => (key r hr).2
  rw [this]; exact List.nodup_nil
theorem Rd.frz {H : SH} {h : AH} {v : Value} {es n : Nat} {cs : List Value} (hH : HAg H h) (hr : Rd H v es n cs) : Rd (HF (AM.frz h)) v es n cs := by
  refine ⟨hr.1, fun a ha => ?_⟩
  rcases hr.2 h hH with ⟨ro, t, hlen, hw⟩ | ⟨h1, h2, i, o, h3, h4, h5⟩
  · refine .inl ⟨true, t, hlen, ?_⟩
    rcases hw with hw | ⟨i, o, c, h1, h2, h3, h4, h5⟩
    · exact .inl hw
    · have hg : (AM.frz h).get i = some (.row true t c) := by rw [frz_get, h3]; rfl
      have hm : Res.ro i t c ∈ HF (AM.frz h) := by
        unfold HF
        refine List.mem_filterMap.2 ⟨i, List.mem_range.2 h2, ?_⟩
        unfold resAt; rw [hg]
      obtain ⟨k1, k2⟩ := ha.1 _ hm
      exact .inr ⟨i, o, c, h1, k1, k2, h4, h5⟩
  · have hg : (AM.frz h).get i = some .dead := by rw [frz_get, h5]; rfl
    have hm : Res.gone i ∈ HF (AM.frz h) := by
      unfold HF
      refine List.mem_filterMap.2 ⟨i, List.mem_range.2 h4, ?_⟩
      unfold resAt; rw [hg]
    obtain ⟨k1, k2⟩ := ha.1 _ hm
    exact .inr ⟨h1, h2, i, o, h3, k1, k2⟩
theorem RD.frz {α : Type} {H : SH} {h : AH} {v : Value} {T : Ty α} {xs : List α} (hH : HAg H h) (hr : RD H v T xs) : RD (HF (AM.frz h)) v T xs := Rd.frz hH hr

/-! ### Known by a walk -/
section
variable {P : Program} {F : Funs} {X : Exts} {pur : List FuncId}
theorem WFQ.bodied (hF : FOK P pur F) {f : FuncId} {vs : List Value} {H : SH} {Q : Value → SH → Prop} (hw : WFQ F X f vs H Q) : Bodied P f := by
  obtain ⟨r, hf, _⟩ := hw
  have hrf := hF _ _ hf
  unfold rFunc at hrf
  split at hrf
  · rename_i fn hfn
    split at hrf
    · rename_i code hbody
      split at hrf
      · exact absurd hrf (by simp)
      · rename_i hname
        exact ⟨fn, code, hfn, hbody, by simpa using hname⟩
    · exact absurd hrf (by simp)
  · exact absurd hrf (by simp)
/-- A call hands back that value, whatever order its regions take. -/
def PureAt (F : Funs) (X : Exts) (f : FuncId) (vs : List Value) (h : AH) (v : Value) : Prop := g1 v = true ∧ WFQ F X f vs (HF (frz h)) (fun r _ => r = v)
theorem PureAt.sound (OK : XOK P F X pur) (hF : FOK P pur F) {f : FuncId} {vs : List Value} {h : AH} {v : Value} (hp : PureAt F X f vs h v) : SoundFn P f vs h v h := by
  obtain ⟨hg, hw⟩ := hp
  refine ⟨hw.bodied hF, fun b base w0 w args H hl => ?_⟩
  refine (hw.calls OK hF (HF_hag _) H.frz hl).2.mono fun e w1 hp => ?_
  obtain ⟨u, h1, H1, _, rfl, c, v', rfl, hvr, _, HS⟩ := hp
  rw [hvr.g1_inv hg]
  exact ⟨[], u, rfl, .g1 hg, below_shape HS.bel, by rw [List.append_nil]; exact H.below HS.bel⟩
open Classical in
noncomputable def pureX (F : Funs) (X : Exts) (fs : List FuncId) (R : FuncId → List Value → AH → Value → Prop) : Exts := fun g vs h =>
  if fs.contains g = true then (if hv : ∃ v, R g vs h v ∧ PureAt F X g vs h v then some (hv.choose, h) else none) else X g vs h
theorem pureX_ok {R : FuncId → List Value → AH → Value → Prop} {F' : Funs} (OK : XOK P F X pur) (hF : FOK P pur F) {fs : List FuncId} (hd : ∀ g, pur.contains g = true → fs.contains g = false) (hn : ∀ g, pur.contains g = true → F' g = none) : XOK P F' (pureX F X fs R) pur := by
  refine ⟨fun g vs h v h1 hx => ?_, fun g vs h v h1 hp hx => ?_, hn⟩
  · unfold pureX at hx
    split at hx
    · split at hx
      · rename_i hv
        simp only [Option.some.injEq, Prod.mk.injEq] at hx
        obtain ⟨rfl, rfl⟩ := hx
        exact hv.choose_spec.2.sound OK hF
      · cases hx
    · exact OK.sound g vs h v h1 hx
  · have hf := hd g hp
    have key : ∀ h2, pureX F X fs R g vs h2 = X g vs h2 := fun h2 => by unfold pureX; rw [if_neg (by rw [hf]; decide)]
    rw [key] at hx
    obtain ⟨k1, k2⟩ := OK.pure g vs h v h1 hp hx
    exact ⟨k1, fun h2 => by rw [key]; exact k2 h2⟩
/-- The walk's value is the one. -/
theorem WF_pure {R : FuncId → List Value → AH → Value → Prop} {F' : Funs} {fs : List FuncId} {f : FuncId} {vs : List Value} {H : SH} {v : Value} (hm : fs.contains f = true) (hg : g1 v = true)
    (hw : ∀ h, HAg H h → R f vs h v ∧ WFQ F X f vs (HF (frz h)) (fun r _ => r = v)) (hu : ∀ (h : AH) (u : Value), HAg H h → R f vs h u → u = v) : WF F' (pureX F X fs R) f vs H (fun r H' => H' = H ∧ r = v) := by
  refine WF_ext fun a ha => ?_
  have hex : ∃ u, R f vs a u ∧ PureAt F X f vs a u := ⟨v, (hw a ha).1, hg, (hw a ha).2⟩
  refine ⟨v, a, H, ?_, ha, rfl, rfl⟩
  unfold pureX
  rw [if_pos hm, dif_pos hex, hu a _ ha hex.choose_spec.1]
theorem pureX_off {R : FuncId → List Value → AH → Value → Prop} {fs : List FuncId} {g : FuncId} {vs : List Value} {h : AH} (hm : fs.contains g = false) : pureX F X fs R g vs h = X g vs h := by
  unfold pureX; rw [if_neg (by rw [hm]; decide)]
end
/-! ### What is read is one -/
theorem ReadsAt.uniq {h : AH} {v : Value} {es n n' : Nat} {cs cs' : List Value} (h1 : ReadsAt h v es n cs) (h2 : ReadsAt h v es n' cs') : cs = cs' := by
  rcases h1 with ⟨ro, t, l1, w1⟩ | ⟨rfl, rfl, i, o, rfl, k1, k2⟩
  · rcases h2 with ⟨ro', t', l2, w2⟩ | ⟨rfl, rfl, i, o, rfl, k1, k2⟩
    · rcases w1 with ⟨rfl, rfl⟩ | ⟨i, o, c, rfl, a1, a2, a3, rfl⟩
      · rcases w2 with ⟨_, rfl⟩ | ⟨_, _, _, e, _⟩
        · rw [List.length_eq_zero_iff.1 (by omega : cs.length = 0), List.length_eq_zero_iff.1 (by omega : cs'.length = 0)]
        · cases e
      · rcases w2 with ⟨e, _⟩ | ⟨i', o', c', e, b1, b2, b3, rfl⟩
        · cases e
        · cases e
          rw [a2] at b2; cases b2; rfl
    · rcases w1 with ⟨e, _⟩ | ⟨i', o', c', e, b1, b2, b3, rfl⟩
      · cases e
      · cases e; simp
  · rcases h2 with ⟨ro', t', l2, w2⟩ | ⟨_, rfl, _⟩
    · rcases w2 with ⟨e, _⟩ | ⟨i', o', c', e, b1, b2, b3, rfl⟩
      · cases e
      · cases e; simp
    · rfl
theorem Ty.cells_inj {α : Type} {T : Ty α} (hi : ∀ x y, T.enc x = T.enc y → x = y) (he : 0 < T.es) : ∀ {xs ys : List α}, T.cells xs = T.cells ys → xs = ys
  | [], [], _ => rfl
  | [], y :: ys, h => by
    have := congrArg List.length h
    rw [T.cells_len, T.cells_len, List.length_cons, List.length_nil, Nat.succ_mul] at this; omega
  | x :: xs, [], h => by
    have := congrArg List.length h
    rw [T.cells_len, T.cells_len, List.length_cons, List.length_nil, Nat.succ_mul] at this; omega
  | x :: xs, y :: ys, h => by
    have h1 : T.enc x ++ T.cells xs = T.enc y ++ T.cells ys := h
    have h2 := List.append_inj h1 (by rw [T.len, T.len])
    rw [hi x y h2.1, Ty.cells_inj hi he h2.2]
end Go.Proofs.YtpnmeednimpjdaaGreat.AM
