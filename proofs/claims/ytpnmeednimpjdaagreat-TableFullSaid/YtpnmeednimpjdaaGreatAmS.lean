/- Rules for code whose regions come in many orders: what holds behind each of them. -/
import Derived.Test.YtpnmeednimpjdaaGreatAmR
import Derived.Test.YtpnmeednimpjdaaGreatAmZ
namespace Go.Proofs.YtpnmeednimpjdaaGreat.AM
open Go Go.RowKit
set_option linter.unusedSimpArgs false
set_option linter.unusedVariables false
section
variable {F : Funs} {X : Exts}
/-- Code from a state of the machine: whatever order is drawn, it comes to an end that R tells. -/
def SQ (P : Program) (pur : List FuncId) (c : RCode) (e : Env) (h : AH) (R : Ex → Env → AH → Prop) : Prop :=
  ∀ (n : Nat) (code : Code) (b : Bt) (base : Nat) (w0 w : World) (a : Act) (Q : Exit → Act → World → Prop), rCode P pur n code = some c → Sim b h base w0 w → Rl b e w a n → a.defers = [] →
    (∀ x e' h', R x e' h' → ∀ c' a' w1, Rl (b ++ c') e' w1 a' n → SLe w.shape? w1.shape? → Sim (b ++ c') h' base w0 w1 → a'.defers = [] → Q (exOf x) a' w1) → CodeS P Q code a w
def RQ (Q : KP) : Ex → Env → AH → Prop := fun x e' h' => ∃ l' H', Ag l' e' ∧ HAg H' h' ∧ Q x l' H'
def WQ (F : Funs) (X : Exts) (c : RCode) (l : SE) (H : SH) (Q : KP) : Prop :=
  ∀ (P : Program) (pur : List FuncId), XOK P F X pur → FOK P pur F → ∀ e h, Ag l e → HAg H h → SQ P pur c e h (RQ Q)
def QSeq (F : Funs) (X : Exts) (b : RCode) (Q : KP) : KP := fun x l H => match x with
  | .normal => WQ F X b l H Q
  | x => Q x l H
def QLoop (F : Funs) (X : Exts) (c : RCode) (Q : KP) : KP := fun x l H => match x with
  | .normal => WQ F X (.loop c) l H Q
  | x => Q x l H
theorem QSeq_n {b : RCode} {Q : KP} {l : SE} {H : SH} (h : WQ F X b l H Q) : QSeq F X b Q .normal l H := h
theorem QSeq_x {b : RCode} {Q : KP} {l : SE} {H : SH} {j : Nat} (h : Q (.exit j) l H) : QSeq F X b Q (.exit j) l H := h
theorem QSeq_r {b : RCode} {Q : KP} {l : SE} {H : SH} (h : Q .ret l H) : QSeq F X b Q .ret l H := h
theorem QLoop_n {c : RCode} {Q : KP} {l : SE} {H : SH} (h : WQ F X (.loop c) l H Q) : QLoop F X c Q .normal l H := h
theorem QLoop_x {c : RCode} {Q : KP} {l : SE} {H : SH} {j : Nat} (h : Q (.exit j) l H) : QLoop F X c Q (.exit j) l H := h
theorem QLoop_r {c : RCode} {Q : KP} {l : SE} {H : SH} (h : Q .ret l H) : QLoop F X c Q .ret l H := h
/-- What runs in one way. -/
theorem WQ_of {c : RCode} {l : SE} {H : SH} {Q : KP} (h : WC F X c l H Q) : WQ F X c l H Q := fun P pur OK hF e a hA hH => by
  obtain ⟨x, e2, h2, l2, H2, ho, x1, x2, x3⟩ := h e a hA hH
  intro n code b base w0 w act Q' hc HS R hd hQ
  exact sound OK hF ho n code b base w0 w act Q' hc HS R hd fun c' a' w1 R1 S1 H1 d1 => hQ x e2 h2 ⟨l2, H2, x1, x2, x3⟩ c' a' w1 R1 S1 H1 d1
theorem WQ_skip {l : SE} {H : SH} {Q : KP} (h : Q .normal l H) : WQ F X .skip l H Q := WQ_of (WC_skip h)
theorem WQ_ret {l : SE} {H : SH} {Q : KP} (h : Q .ret l H) : WQ F X .ret l H Q := WQ_of (WC_ret h)
theorem WQ_exit {id : Nat} {l : SE} {H : SH} {Q : KP} (h : Q (.exit id) l H) : WQ F X (.exit id) l H Q := WQ_of (WC_exit h)
theorem WQ_region {os : List RO} {l : SE} {H : SH} {Q : KP} (h : WO F X os l H (Q .normal)) : WQ F X (.region os) l H Q := WQ_of (WC_region h)
theorem WQ_drawn {os : List RO} {chk : List (Nat × Nat × Bool)} {l : SE} {H : SH} {Q : KP} (h : WD F X os l H (fun st l' H' => obs os st chk ∧ Q .normal l' H')) : WQ F X (.drawn os chk) l H Q := WQ_of (WC_drawn h)
theorem WQ_seq {a b : RCode} {l : SE} {H : SH} {Q : KP} (h : WQ F X a l H (QSeq F X b Q)) : WQ F X (.seq a b) l H Q := fun P pur OK hF e g hA hH => by
  intro n code bt base w0 w act Q' hc HS R hd hQ
  obtain ⟨c1, c2, rfl, hc1, hc2⟩ := rCode_cases hc
  refine wp_seq (h P pur OK hF e g hA hH n c1 bt base w0 w act _ hc1 HS R hd fun x e2 h2 hr c a' w1 R1 hS1 H1 hd1 => ?_).wp
  obtain ⟨l2, H2, x1, x2, x3⟩ := hr
  cases x with
  | normal =>
    show c2.wp P Q' a' w1
    exact (x3 P pur OK hF e2 h2 x1 x2 n c2 _ base w0 w1 a' _ hc2 H1 R1 hd1 fun y e3 h3 hr3 c' a2 w2 R2 hS2 H2 hd2 => hQ y e3 h3 hr3 (c ++ c') a2 w2 (by rw [← List.append_assoc]; exact R2) (hS1.trans hS2) (by rw [← List.append_assoc]; exact H2) hd2).wp
  | exit id => exact hQ (.exit id) e2 h2 ⟨l2, H2, x1, x2, x3⟩ c a' w1 R1 hS1 H1 hd1
  | ret => exact hQ .ret e2 h2 ⟨l2, H2, x1, x2, x3⟩ c a' w1 R1 hS1 H1 hd1
theorem WQ_cond {c : Opd} {v : Bool} {a b : RCode} {l : SE} {H : SH} {Q : KP} (hc : c.lv l = some (.bool v)) (h1 : v = true → WQ F X a l H Q) (h2 : v = false → WQ F X b l H Q) : WQ F X (.cond c a b) l H Q := fun P pur OK hF e g hA hH => by
  intro n code bt base w0 w act Q' hcode HS R hd hQ
  obtain ⟨z, c1, c2, rfl, hz, hc1, hc2⟩ := rCode_cases hcode
  have hcv := Opd.lv_ev hA hc
  cases v with
  | true => exact wp_cond_true (opd_sound R hz hcv).bool_inv (h1 rfl P pur OK hF e g hA hH n c1 bt base w0 w act _ hc1 HS R hd hQ).wp
  | false => exact wp_cond_false (opd_sound R hz hcv).bool_inv (h2 rfl P pur OK hF e g hA hH n c2 bt base w0 w act _ hc2 HS R hd hQ).wp
theorem WQ_block {id : Nat} {c : RCode} {l : SE} {H : SH} {Q : KP} (h : WQ F X c l H (KBlock id Q)) : WQ F X (.block id c) l H Q := fun P pur OK hF e g hA hH => by
  intro n code bt base w0 w act Q' hc HS R hd hQ
  obtain ⟨c1, rfl, hc1⟩ := rCode_cases hc
  refine wp_block (h P pur OK hF e g hA hH n c1 bt base w0 w act _ hc1 HS R hd fun x e2 h2 hr c a' w1 R1 hS1 H1 hd1 => ?_).wp
  obtain ⟨l2, H2, x1, x2, x3⟩ := hr
  cases x with
  | normal => exact hQ .normal e2 h2 ⟨l2, H2, x1, x2, x3⟩ c a' w1 R1 hS1 H1 hd1
  | ret => exact hQ .ret e2 h2 ⟨l2, H2, x1, x2, x3⟩ c a' w1 R1 hS1 H1 hd1
  | exit i =>
    show Exit.inBlock id Q' (.exit i) a' w1
    simp only [Exit.inBlock]
    by_cases hi : i = id
    · subst hi
      rw [if_pos rfl]
      simp only [KBlock, if_pos] at x3
      exact hQ .normal e2 h2 ⟨l2, H2, x1, x2, x3⟩ c a' w1 R1 hS1 H1 hd1
    · rw [if_neg hi]
      simp only [KBlock, if_neg hi] at x3
      exact hQ (.exit i) e2 h2 ⟨l2, H2, x1, x2, x3⟩ c a' w1 R1 hS1 H1 hd1
theorem WQ_loop {c : RCode} {l : SE} {H : SH} {Q : KP} (h : WQ F X c l H (QLoop F X c Q)) : WQ F X (.loop c) l H Q := fun P pur OK hF e g hA hH => by
  intro n code bt base w0 w act Q' hc HS R hd hQ
  obtain ⟨c1, rfl, hc1⟩ := rCode_cases hc
  refine loop_once (h P pur OK hF e g hA hH n c1 bt base w0 w act _ hc1 HS R hd fun x e2 h2 hr c a' w1 R1 hS1 H1 hd1 => ?_).wp
  obtain ⟨l2, H2, x1, x2, x3⟩ := hr
  cases x with
  | normal =>
    exact x3 P pur OK hF e2 h2 x1 x2 n (.loop c1) _ base w0 w1 a' Q' hc H1 R1 hd1 fun y e3 h3 hr3 c' a2 w2 R2 hS2 H2 hd2 => hQ y e3 h3 hr3 (c ++ c') a2 w2 (by rw [← List.append_assoc]; exact R2) (hS1.trans hS2) (by rw [← List.append_assoc]; exact H2) hd2
  | exit id => exact hQ (.exit id) e2 h2 ⟨l2, H2, x1, x2, x3⟩ c a' w1 R1 hS1 H1 hd1
  | ret => exact hQ .ret e2 h2 ⟨l2, H2, x1, x2, x3⟩ c a' w1 R1 hS1 H1 hd1
theorem WQ_weak {c : RCode} {l l' : SE} {H H' : SH} {Q : KP} (h : WQ F X c l' H' Q) (h1 : SubE l l') (h2 : HSub H H') : WQ F X c l H Q := fun P pur OK hF e a hA hH => h P pur OK hF e a (h1.ag hA) (h2.hag hH)
theorem WQ_view {c : RCode} {l : SE} {H H' : SH} {Q : KP} (hv : ∀ h, HAg H h → HAg H' h) (h : WQ F X c l H' Q) : WQ F X c l H Q := fun P pur OK hF e a hA hH => h P pur OK hF e a hA (hv _ hH)
theorem WQ_conseq {c : RCode} {l : SE} {H : SH} {P Q : KP} (h : WQ F X c l H (KPost P)) (hk : ∀ x l' H', P x l' H' → ∀ a, HAg H' a → ∃ H'', HAg H'' a ∧ Q x l' H'') : WQ F X c l H Q := fun Pr pur OK hF e a hA hH => by
  intro n code bt base w0 w act Q' hc HS R hd hQ
  refine h Pr pur OK hF e a hA hH n code bt base w0 w act Q' hc HS R hd fun x e2 h2 hr c' a' w1 R1 hS1 H1 hd1 => ?_
  obtain ⟨l2, H2, x1, x2, l3, H3, s1, s2, hp⟩ := hr
  obtain ⟨H4, y2, y3⟩ := hk x l3 H3 hp h2 (s2.hag x2)
  exact hQ x e2 h2 ⟨l3, H4, s1.ag x1, y2, y3⟩ c' a' w1 R1 hS1 H1 hd1
theorem WQ_post {c : RCode} {l : SE} {H : SH} {P Q : KP} (h : WQ F X c l H (KPost P)) (hk : ∀ x l' H', P x l' H' → Q x l' H') : WQ F X c l H Q := WQ_conseq h fun x l' H' hp a ha => ⟨H', ha, hk x l' H' hp⟩

/-! ### A region in many orders -/
structure SD where
  i : Nat
  o : RO
  l : SE
  v : Value
def DAg : List SD → List DE → Prop
  | [], [] => True
  | s :: ss, d :: ds => (d.i = s.i ∧ d.o = s.o ∧ Ag s.l d.t.env ∧ d.t.v = s.v) ∧ DAg ss ds
  | _, _ => False
def WT (F : Funs) (X : Exts) (os : List RO) (t : RTree) (D : List SD) (l : SE) (H : SH) (Q : SE → SH → Prop) : Prop :=
  ∀ e h D', Ag l e → HAg H h → DAg D D' → TrO F X os t D' e h (fun e' h' => ∃ l' H', Ag l' e' ∧ HAg H' h' ∧ Q l' H')
/-- What was read tells the same over other resources. -/
def obT (dp : List Nat) (H : SH) : List SD → Prop
  | [] => True
  | d :: ds => (inL dp d.i = false → ObR d.o d.l H d.v) ∧ obT dp H ds
theorem obT_nil {dp : List Nat} {H : SH} : obT dp H [] := trivial
theorem obT_skip {dp : List Nat} {H : SH} {d : SD} {ds : List SD} (h : inL dp d.i = true) (k : obT dp H ds) : obT dp H (d :: ds) := ⟨fun x => absurd (h.symm.trans x) (by decide), k⟩
theorem obT_ob {dp : List Nat} {H : SH} {d : SD} {ds : List SD} (h : ObR d.o d.l H d.v) (k : obT dp H ds) : obT dp H (d :: ds) := ⟨fun _ => h, k⟩
theorem obT_all {dp : List Nat} {H : SH} {h : AH} (hH : HAg H h) (D : List SD) : ∀ (D' : List DE), DAg D D' → obT dp H D → ∀ d ∈ D', inL dp d.i = false → reread d.o d.t h = true := by
  induction D with
  | nil =>
    intro D' ha _ d hd
    cases D' with
    | nil => cases hd
    | cons x y => exact absurd ha id
  | cons s ss ih =>
    intro D' ha ho d hd hb
    cases D' with
    | nil => exact absurd ha id
    | cons d0 ds =>
      obtain ⟨⟨e1, e2, e3, e4⟩, ha2⟩ := ha
      rcases List.mem_cons.1 hd with rfl | hd
      · rw [e2]
        exact ho.1 (by rw [← e1]; exact hb) d.t h e3 e4 hH
      · exact ih ds ha2 ho.2 d hd hb
theorem DAg.filter {dp : List Nat} {D : List SD} : ∀ {D' : List DE}, DAg D D' → DAg (D.filter fun d => !inL dp d.i) (D'.filter fun d => !inL dp d.i) := by
  induction D with
  | nil =>
    intro D' ha
    cases D' with
    | nil => exact trivial
    | cons x y => exact absurd ha id
  | cons s ss ih =>
    intro D' ha
    cases D' with
    | nil => exact absurd ha id
    | cons d ds =>
      obtain ⟨⟨e1, e2, e3, e4⟩, hr⟩ := ha
      have hb : ∀ x, inL dp s.i = x → inL dp d.i = x := fun x h => by rw [e1]; exact h
      cases hx : inL dp s.i with
      | false =>
        rw [List.filter_cons_of_pos (by simp [hx]), List.filter_cons_of_pos (by simp [hb _ hx])]
        exact ⟨⟨e1, e2, e3, e4⟩, ih hr⟩
      | true =>
        rw [List.filter_cons_of_neg (by simp [hx]), List.filter_cons_of_neg (by simp [hb _ hx])]
        exact ih hr
variable {os : List RO} {D : List SD} {l : SE} {H : SH} {Q : SE → SH → Prop} {t : RTree} {i : Nat} {dp : List Nat} {o : RO}
theorem WT_leaf (h : Q l H) : WT F X os .leaf D l H Q := fun e a D' hA hH hD => ⟨l, H, hA, hH, h⟩
theorem WT_alt {a b : RTree} (h1 : WT F X os a D l H Q) (h2 : WT F X os b D l H Q) : WT F X os (.alt a b) D l H Q := fun e a D' hA hH hD => ⟨h1 e a D' hA hH hD, h2 e a D' hA hH hD⟩
theorem WT_cases {t' : Nat} {b : Bool} (hb : lk l t' = some (.bool b)) (h1 : b = true → WT F X os t D ((t', .bool true) :: l) H Q) (h2 : b = false → WT F X os t D ((t', .bool false) :: l) H Q) : WT F X os t D l H Q := fun e a D' hA hH hD => by
  have key : ∀ c : Bool, b = c → Ag ((t', .bool c) :: l) e := fun c hc u v hu => by
    rw [lk_cons] at hu
    by_cases ht : t' = u
    · subst ht; rw [if_pos rfl] at hu; cases hu; subst hc; exact hA _ _ hb
    · rw [if_neg ht] at hu; exact hA _ _ hu
  cases b with
  | true => exact h1 rfl e a D' (key _ rfl) hH hD
  | false => exact h2 rfl e a D' (key _ rfl) hH hD
theorem step_nocall {op : ROp} {e : Env} {a h1 : AH} {v : Value} (h : ev op e a = some (v, h1)) : op.isCall = false := by
  cases op <;> first | rfl | (simp [ev] at h)
theorem WTq_step (hw : os[i]? = some o ∧ wantsL o.guard l = some true) (hs : Step o.op l H (fun v H1 => WT F X os t D (putL l o.dst v) H1 Q)) : WT F X os (.q i t) D l H Q := fun e a D' hA hH hD => by
  obtain ⟨v, h1, H1, hv, hH1, k⟩ := hs e a hA hH
  exact ⟨o, v, h1, hw.1, .inr ⟨wantsL_ev hA hw.2, .inl ⟨step_nocall hv, hv⟩⟩, k _ h1 D' (hA.put o.dst v) hH1 hD⟩
theorem WTq_off (hw : os[i]? = some o ∧ wantsL o.guard l = some false) (k : WT F X os t D (putL l o.dst undef) H Q) : WT F X os (.q i t) D l H Q := fun e a D' hA hH hD =>
  ⟨o, undef, a, hw.1, .inl ⟨wantsL_ev hA hw.2, rfl, rfl⟩, k _ a D' (hA.put o.dst undef) hH hD⟩
theorem WTr_step (hw : os[i]? = some o ∧ wantsL o.guard l = some true) (hs : Step o.op l H (fun v H1 => WT F X os t (⟨i, o, l, v⟩ :: D) (putL l o.dst v) H1 Q)) : WT F X os (.r i t) D l H Q := fun e a D' hA hH hD => by
  obtain ⟨v, h1, H1, hv, hH1, k⟩ := hs e a hA hH
  exact ⟨o, v, h1, hw.1, .inr ⟨wantsL_ev hA hw.2, .inl ⟨step_nocall hv, hv⟩⟩, k _ h1 (⟨i, o, ⟨e, a, v, h1⟩⟩ :: D') (hA.put o.dst v) hH1 ⟨⟨rfl, rfl, hA, rfl⟩, hD⟩⟩
theorem WTr_off (hw : os[i]? = some o ∧ wantsL o.guard l = some false) (k : WT F X os t (⟨i, o, l, undef⟩ :: D) (putL l o.dst undef) H Q) : WT F X os (.r i t) D l H Q := fun e a D' hA hH hD =>
  ⟨o, undef, a, hw.1, .inl ⟨wantsL_ev hA hw.2, rfl, rfl⟩, k _ a (⟨i, o, ⟨e, a, undef, a⟩⟩ :: D') (hA.put o.dst undef) hH ⟨⟨rfl, rfl, hA, rfl⟩, hD⟩⟩
theorem WTm_step (hw : os[i]? = some o ∧ wantsL o.guard l = some true) (hs : Step o.op l H (fun v H1 => obT dp H1 D ∧ WT F X os t (D.filter fun d => !inL dp d.i) (putL l o.dst v) H1 Q)) : WT F X os (.m i dp t) D l H Q := fun e a D' hA hH hD => by
  obtain ⟨v, h1, H1, hv, hH1, ho, k⟩ := hs e a hA hH
  exact ⟨o, v, h1, hw.1, .inr ⟨wantsL_ev hA hw.2, .inl ⟨step_nocall hv, hv⟩⟩, obT_all hH1 _ _ hD ho, k _ h1 _ (hA.put o.dst v) hH1 hD.filter⟩
theorem WTm_off (hw : os[i]? = some o ∧ wantsL o.guard l = some false) (ho : obT dp H D) (k : WT F X os t (D.filter fun d => !inL dp d.i) (putL l o.dst undef) H Q) : WT F X os (.m i dp t) D l H Q := fun e a D' hA hH hD =>
  ⟨o, undef, a, hw.1, .inl ⟨wantsL_ev hA hw.2, rfl, rfl⟩, obT_all hH _ _ hD ho, k _ a _ (hA.put o.dst undef) hH hD.filter⟩
theorem WTm_call {f : Opd} {args : List Opd} {g : FuncId} {vs : List Value} (h0 : os[i]? = some o) (ho : o.op = .call f args) (hw : wantsL o.guard l = some true) (hc : lcallee l f args = some (g, vs)) (hs : WF F X g vs H (fun v H1 => obT dp H1 D ∧ WT F X os t (D.filter fun d => !inL dp d.i) (putL l o.dst v) H1 Q)) : WT F X os (.m i dp t) D l H Q := fun e a D' hA hH hD => by
  obtain ⟨v, h1, H1, hv, hH1, hob, k⟩ := hs a hH
  exact ⟨o, v, h1, h0, .inr ⟨wantsL_ev hA hw, .inr ⟨f, args, g, vs, ho, lcallee_ev hA hc, hv⟩⟩, obT_all hH1 _ _ hD hob, k _ h1 _ (hA.put o.dst v) hH1 hD.filter⟩
theorem WTq_call {f : Opd} {args : List Opd} {g : FuncId} {vs : List Value} (h0 : os[i]? = some o) (ho : o.op = .call f args) (hw : wantsL o.guard l = some true) (hc : lcallee l f args = some (g, vs)) (hs : WF F X g vs H (fun v H1 => WT F X os t D (putL l o.dst v) H1 Q)) : WT F X os (.q i t) D l H Q := fun e a D' hA hH hD => by
  obtain ⟨v, h1, H1, hv, hH1, k⟩ := hs a hH
  exact ⟨o, v, h1, h0, .inr ⟨wantsL_ev hA hw, .inr ⟨f, args, g, vs, ho, lcallee_ev hA hc, hv⟩⟩, k _ h1 _ (hA.put o.dst v) hH1 hD⟩
theorem WQ_many {os : List RO} {t : RTree} {l : SE} {H : SH} {Q : KP} (h : WT F X os t [] l H (Q .normal)) : WQ F X (.many os t) l H Q := fun P pur OK hF e a hA hH => by
  intro n code bt base w0 w act Q' hc HS R hd hQ
  obtain ⟨id, ops, draw, rfl, hr⟩ := rCode_cases hc
  exact regionM_sound OK hF hr HS R hd (h e a [] hA hH trivial) fun e' h' hq c a' w1 R1 S1 H1 d1 => hQ .normal e' h' hq c a' w1 R1 S1 H1 d1
/-- A function whose walk looks at many orders. -/
def WFQ (F : Funs) (X : Exts) (f : FuncId) (vs : List Value) (H : SH) (Q : Value → SH → Prop) : Prop := ∃ r, F f = some r ∧ WQ F X r.code (initL 0 vs) H (KFn r.results Q)
theorem WFQ_fn {f : FuncId} {r : RFunc} {vs : List Value} {H : SH} {Q : Value → SH → Prop} (hF : F f = some r) (h : WQ F X r.code (initL 0 vs) H (KFn r.results Q)) : WFQ F X f vs H Q := ⟨r, hF, h⟩
theorem WFQ_view {f : FuncId} {vs : List Value} {H H' : SH} {Q : Value → SH → Prop} (hv : ∀ h, HAg H h → HAg H' h) (h : WFQ F X f vs H' Q) : WFQ F X f vs H Q := let ⟨r, h1, h2⟩ := h; ⟨r, h1, WQ_view hv h2⟩
end
/-- What such a call means. -/
theorem WFQ.calls {P : Program} {F : Funs} {X : Exts} {pur : List FuncId} (OK : XOK P F X pur) (hF : FOK P pur F) {f : FuncId} {vs : List Value} {H : SH} {Q : Value → SH → Prop} (hw : WFQ F X f vs H Q) {b : Bt} {h : AH} {base : Nat} {w0 w : World} {args : List Value} (hh : HAg H h) (HS : Sim b h base w0 w) (hl : LR (VR b w.shape?) vs args) :
    Bodied P f ∧ Calls P f args.toArray w (fun en w1 => ∃ v h1 H1, HAg H1 h1 ∧ Q v H1 ∧ Post b h1 base w0 w v en w1) := by
  obtain ⟨r, hf, hq⟩ := hw
  have hrf := hF _ _ hf
  unfold rFunc at hrf
  split at hrf
  · rename_i fn hfn
    split at hrf
    · rename_i code hbody
      split at hrf
      · exact absurd hrf (by simp)
      · rename_i hname
        split at hrf
        · rename_i rs c hrs hcode
          simp only [Option.some.injEq] at hrf; subst hrf
          refine ⟨⟨fn, code, hfn, hbody, by simpa using hname⟩, ?_⟩
          refine calls_of_wp hfn hbody (hq P pur OK hF _ h (initL_ag vs Env.empty 0) hh fn.ntmps code b base w0 w _ _ hcode HS (Rl.init hl _) rfl fun x e2 h2 hr c' a' w1 R1 hS1 H1 hd1 => ?_).wp
          obtain ⟨l2, H2, x1, x2, x3, us, H3, x4, x5, x6⟩ := hr
          obtain ⟨v, k1, k2⟩ := fn_post hrs (x4 e2 h2 x1 x2) R1 hS1 H1
          cases x with
          | normal => exact ⟨hd1, v, k1, _, h2, H3, x5.hag x2, x6, k2⟩
          | ret => exact ⟨hd1, v, k1, _, h2, H3, x5.hag x2, x6, k2⟩
          | exit id => exact absurd rfl (x3 id)
        · exact absurd hrf (by simp)
    · exact absurd hrf (by simp)
  · exact absurd hrf (by simp)
theorem law_okQ {P : Program} {W : World} {F : Funs} {X : Exts} {pur : List FuncId} (OK : XOK P F X pur) (hF : FOK P pur F) {f : FuncId} {vs args : List Value} {b : Bt} {h : AH} {H : SH} (S : St W b h H) (hl : LR (VR b W.shape?) vs args) {v : Value} (hg : g1 v = true) (hw : WFQ F X f vs H (fun u _ => u = v)) :
    Calls P f args.toArray W (fun e w1 => e = .returned v ∧ Below W.heap.size W w1) := by
  refine (hw.calls OK hF S.hag S.sim hl).2.mono fun e w1 hp => ?_
  obtain ⟨u, h1, H1, _, rfl, c, v', rfl, hvr, _, HS⟩ := hp
  exact ⟨by rw [hvr.g1_inv hg], HS.bel⟩
end Go.Proofs.YtpnmeednimpjdaaGreat.AM
