/- The abstract machine, eleventh part: operations one behind the other, in whatever order a region's list is drawn. -/
import Derived.Test.YtpgidiompdabdaaGreatAmJ
namespace Go.Proofs.YtpgidiompdabdaaGreat.AM
open Go Go.RowKit
set_option linter.unusedSimpArgs false
set_option linter.unusedVariables false

/-! ### Slots written in two orders -/
theorem Tr.setB_lf {α : Type} (bs : List Bool) (a : α) : (Tr.lf : Tr α).setB bs a = (Tr.nd .lf none .lf).setB bs a := by
  cases bs with
  | nil => rfl
  | cons b bs => cases b <;> rfl
theorem Tr.setB_comm {α : Type} (a c : α) : ∀ (bs cs : List Bool) (t : Tr α), bs ≠ cs → (t.setB bs a).setB cs c = (t.setB cs c).setB bs a := by
  have key : ∀ (bs cs : List Bool) (l : Tr α) (o : Option α) (r : Tr α), bs ≠ cs → ((Tr.nd l o r).setB bs a).setB cs c = ((Tr.nd l o r).setB cs c).setB bs a := by
    intro bs
    induction bs with
    | nil =>
      intro cs l o r h
      cases cs with
      | nil => exact absurd rfl h
      | cons x cs => cases x <;> rfl
    | cons x bs ih =>
      intro cs l o r h
      cases cs with
      | nil => cases x <;> rfl
      | cons y cs =>
        cases x <;> cases y <;> simp only [Tr.setB] <;> try rfl
        · have hne : bs ≠ cs := fun e => h (by rw [e])
          cases l with
          | lf => rw [Tr.setB_lf bs a, Tr.setB_lf cs c, ih cs _ _ _ hne]
          | nd l' o' r' => rw [ih cs _ _ _ hne]
        · have hne : bs ≠ cs := fun e => h (by rw [e])
          cases r with
          | lf => rw [Tr.setB_lf bs a, Tr.setB_lf cs c, ih cs _ _ _ hne]
          | nd l' o' r' => rw [ih cs _ _ _ hne]
  intro bs cs t h
  cases t with
  | lf => rw [Tr.setB_lf bs a, Tr.setB_lf cs c]; exact key bs cs _ _ _ h
  | nd l o r => exact key bs cs l o r h
theorem putD_comm (e : Env) {d d' : Option Nat} (v u : Value) (h : ∀ t, d = some t → d' ≠ some t) : putD (putD e d v) d' u = putD (putD e d' u) d v := by
  cases d with
  | none => rfl
  | some t =>
    cases d' with
    | none => rfl
    | some t' =>
      have hne : t ≠ t' := fun e => h t rfl (by rw [e])
      simp only [putD, Env.put]
      rw [Tr.setB_comm _ _ _ _ _ (fun e => hne (bits_inj e))]
theorem putD_get {e : Env} {d : Option Nat} {v : Value} {t : Nat} (h : d ≠ some t) : (putD e d v).get t = e.get t := by
  cases d with
  | none => rfl
  | some d => simp only [putD]; rw [Env.get_put, if_neg (fun x => h (by rw [x]))]

/-! ### What a call means -/
def Bodied (P : Program) (f : FuncId) : Prop := ∃ fn code, P.funcs[f]? = some fn ∧ fn.body = some code ∧ (fn.name == "runtime.NumGoroutine") = false
def Post (b : Bt) (h1 : AH) (base : Nat) (w0 w : World) (v : Value) (en : Ending) (w1 : World) : Prop :=
  ∃ c v', en = .returned v' ∧ VR (b ++ c) w1.shape? v v' ∧ SLe w.shape? w1.shape? ∧ Sim (b ++ c) h1 base w0 w1
def SoundFn (P : Program) (f : FuncId) (vs : List Value) (h : AH) (v : Value) (h1 : AH) : Prop :=
  Bodied P f ∧ ∀ (b : Bt) (base : Nat) (w0 w : World) (args : List Value), Sim b h base w0 w → LR (VR b w.shape?) vs args → Calls P f args.toArray w (Post b h1 base w0 w v)
structure XOK (P : Program) (F : Funs) (X : Exts) (pur : List FuncId) : Prop where
  sound : ∀ g vs h v h1, X g vs h = some (v, h1) → SoundFn P g vs h v h1
  pure : ∀ g vs h v h1, pur.contains g = true → X g vs h = some (v, h1) → h1 = h ∧ ∀ h2, X g vs h2 = some (v, h2)
  none : ∀ g, pur.contains g = true → F g = none

section
variable {P : Program} {F : Funs} {X : Exts} {pur : List FuncId}
def StS (P : Program) (X : Exts) (pur : List FuncId) (o : RO) (e : Env) (h : AH) (v : Value) (h1 : AH) : Prop :=
  (wants o.guard e = some false ∧ v = undef ∧ h1 = h) ∨ (wants o.guard e = some true ∧ ((o.op.isCall = false ∧ ev o.op e h = some (v, h1)) ∨
    ∃ f args g vs, o.op = .call f args ∧ callee f args e = some (g, vs) ∧ SoundFn P g vs h v h1 ∧ (pur.contains g = true → X g vs h = some (v, h1))))
def RunS (P : Program) (X : Exts) (pur : List FuncId) : List RO → Env → AH → Env → AH → Prop
  | [], e, h, e', h' => e' = e ∧ h' = h
  | o :: os, e, h, e', h' => ∃ v h1, StS P X pur o e h v h1 ∧ RunS P X pur os (putD e o.dst v) h1 e' h'

theorem wants_ev {o : RO} {e e2 : Env} (H : ∀ t ∈ o.tm, e2.get t = e.get t) : wants o.guard e2 = wants o.guard e := by
  obtain ⟨d, op, g⟩ := o
  cases g with
  | none => rfl
  | some g => simp only [wants]; rw [H g.1 (by simp [RO.tm])]
theorem StS.env {o : RO} {e e2 : Env} {h h1 : AH} {v : Value} (H : ∀ t ∈ o.tm, e2.get t = e.get t) (hs : StS P X pur o e h v h1) : StS P X pur o e2 h v h1 := by
  have hop : ∀ t ∈ o.op.tm, e2.get t = e.get t := fun t ht => H t (by simp [RO.tm, ht])
  unfold StS at *
  rw [wants_ev H]
  refine hs.imp id (And.imp id fun hs => ?_)
  rcases hs with ⟨hc, hv⟩ | ⟨f, args, g, vs, ho, hcl, hr⟩
  · exact .inl ⟨hc, by rw [ev_ev hop]; exact hv⟩
  · exact .inr ⟨f, args, g, vs, ho, by rw [callee_ev (by rw [← ho]; exact hop)]; exact hcl, hr⟩
theorem callee_fn {g g' : FuncId} {args : List Opd} {e : Env} {vs : List Value} (h : callee (.fn g) args e = some (g', vs)) : g' = g := by
  simp only [callee, Opd.ev] at h
  split at h
  · rename_i h1 _
    split at h
    · simp only [Option.some.injEq, Prod.mk.injEq] at h
      simp only [Option.some.injEq, Value.func.injEq, Fn.func.injEq] at h1
      rw [← h.1, h1.1]
    · exact absurd h (by simp)
  · exact absurd h (by simp)
theorem cls_call {f : Opd} {args : List Opd} (h : 1 ≤ (ROp.call f args).cls pur) : ∃ g, f = .fn g ∧ pur.contains g = true := by
  cases f with
  | fn g =>
    simp only [ROp.cls] at h
    split at h
    · rename_i hg; exact ⟨g, rfl, hg⟩
    · exact absurd h (by decide)
  | tmp t => simp [ROp.cls] at h
  | const v => simp [ROp.cls] at h
theorem StS.quiet (OK : XOK P F X pur) {o : RO} {e : Env} {h h1 : AH} {v : Value} (hc : 1 ≤ o.op.cls pur) (hs : StS P X pur o e h v h1) : h1 = h := by
  rcases hs with ⟨_, _, h⟩ | ⟨_, ⟨hn, hv⟩ | ⟨f, args, g, vs, ho, hcl, hs, hX⟩⟩
  · exact h
  · exact ev_quiet hc hn hv
  · rw [ho] at hc
    obtain ⟨g', rfl, hg⟩ := cls_call hc
    have := callee_fn hcl; subst this
    exact (OK.pure _ _ _ _ _ hg (hX hg)).1
theorem StS.free (OK : XOK P F X pur) {o : RO} {e : Env} {h h1 : AH} {v : Value} (hc : o.op.cls pur = 2) (hs : StS P X pur o e h v h1) (h2 : AH) : StS P X pur o e h2 v h2 := by
  rcases hs with ⟨hw, hu, _⟩ | ⟨hw, ⟨hn, hv⟩ | ⟨f, args, g, vs, ho, hcl, hs, hX⟩⟩
  · exact .inl ⟨hw, hu, rfl⟩
  · refine .inr ⟨hw, .inl ⟨hn, ?_⟩⟩
    rw [ev_free (h := h) hc hn, hv]; rfl
  · rw [ho] at hc
    obtain ⟨g', rfl, hg⟩ := cls_call (pur := pur) (by rw [hc]; decide)
    have := callee_fn hcl; subst this
    have := (OK.pure _ _ _ _ _ hg (hX hg)).2 h2
    exact .inr ⟨hw, .inr ⟨_, args, _, vs, ho, hcl, OK.sound _ _ _ _ _ this, fun _ => this⟩⟩

/-! ### Two operations that may change places -/
def apartB (x y : RO) : Bool :=
  (match x.dst with | some d => !(y.tm.contains d) && y.dst != some d | none => true) && (match y.dst with | some d => !(x.tm.contains d) | none => true)
def calmB (pur : List FuncId) (x y : RO) : Bool := x.op.cls pur == 2 || y.op.cls pur == 2 || (decide (1 ≤ x.op.cls pur) && decide (1 ≤ y.op.cls pur)) || (x.op.cls pur == 1 && !x.op.isCall && y.op.isNew)
theorem apart_spec {x y : RO} (h : apartB x y = true) : (∀ t ∈ y.tm, x.dst ≠ some t) ∧ (∀ t ∈ x.tm, y.dst ≠ some t) ∧ (∀ t, x.dst = some t → y.dst ≠ some t) := by
  simp only [apartB, Bool.and_eq_true] at h
  refine ⟨fun t ht hd => ?_, fun t ht hd => ?_, fun t ht hd => ?_⟩
  · rw [hd] at h; simp [ht] at h
  · rw [hd] at h; simp [ht] at h
  · rw [ht, hd] at h; simp at h
theorem swap (OK : XOK P F X pur) {x y : RO} {r : List RO} {e e' : Env} {h h' : AH} (ha : apartB x y = true) (hc : calmB pur x y = true) (hr : RunS P X pur (x :: y :: r) e h e' h') : RunS P X pur (y :: x :: r) e h e' h' := by
  obtain ⟨v, h1, hx, u, h2, hy, hr⟩ := hr
  obtain ⟨a1, a2, a3⟩ := apart_spec ha
  have hy' : StS P X pur y e h1 u h2 := hy.env fun t ht => (putD_get (a1 t ht)).symm
  have hx' : ∀ u', StS P X pur x (putD e y.dst u') h v h1 := fun u' => hx.env fun t ht => putD_get (a2 t ht)
  simp only [calmB, Bool.or_eq_true, Bool.and_eq_true, beq_iff_eq, decide_eq_true_eq] at hc
  rw [putD_comm e v u a3] at hr
  rcases hc with ((hc | hc) | ⟨hc1, hc2⟩) | ⟨⟨hc1, hc2⟩, hc3⟩
  · have e1 := hx.quiet OK (by rw [hc]; decide)
    subst e1
    exact ⟨u, h2, hy', v, h2, (hx' u).free OK hc h2, hr⟩
  · have e1 := hy.quiet OK (by rw [hc]; decide)
    subst e1
    exact ⟨u, h, hy'.free OK hc h, v, h2, hx' u, hr⟩
  · have e1 := hx.quiet OK hc1
    subst e1
    have e2 := hy.quiet OK hc2
    subst e2
    exact ⟨u, h2, hy', v, h2, hx' u, hr⟩
  · have e1 := hx.quiet OK (by rw [hc1]; decide)
    subst e1
    have hn : x.op.isCall = false := by simpa using hc2
    have hx2 : StS P X pur x (putD e y.dst u) h2 v h2 := by
      have hx3 := hx' u
      rcases hy with ⟨_, _, rfl⟩ | ⟨_, ⟨_, hv⟩ | ⟨f, args, g, vs, ho, _⟩⟩
      · exact hx3
      · obtain ⟨o, rfl⟩ := ev_new hc3 hv
        rcases hx3 with ⟨hw, hu, _⟩ | ⟨hw, ⟨_, hxv⟩ | ⟨f, args, g, vs, ho, _⟩⟩
        · exact .inl ⟨hw, hu, rfl⟩
        · exact .inr ⟨hw, .inl ⟨hn, ev_push hc1 hn hxv⟩⟩
        · rw [ho] at hn; exact absurd hn (by simp [ROp.isCall])
      · rw [ho] at hc3; exact absurd hc3 (by simp [ROp.isNew])
    exact ⟨u, h2, hy', v, h2, hx2, hr⟩
theorem front (OK : XOK P F X pur) {r : RO} {post : List RO} : ∀ {pre : List RO} {e e' : Env} {h h' : AH}, (∀ q ∈ pre, apartB q r = true ∧ calmB pur q r = true) → RunS P X pur (pre ++ r :: post) e h e' h' → RunS P X pur (r :: (pre ++ post)) e h e' h'
  | [], _, _, _, _, _, hr => hr
  | q :: pre, e, e', h, h', hq, hr => by
    obtain ⟨v, h1, hx, hr⟩ := hr
    have := front OK (fun q' hq' => hq q' (by simp [hq'])) hr
    have hq0 := hq q (by simp)
    exact swap OK hq0.1 hq0.2 ⟨v, h1, hx, this⟩

/-! ### One operation -/
theorem Rl.put {b c : Bt} {e : Env} {w w1 : World} {a : Act} {n : Nat} (R : Rl b e w a n) (hS : SLe w.shape? w1.shape?) {v v' : Value} (hv : VR (b ++ c) w1.shape? v v') {d : Option Nat} (hd : ∀ t, d = some t → t < n) :
    Rl (b ++ c) (putD e d v) w1 (a.put d v') n := by
  cases d with
  | none => exact ⟨fun t u ht => let ⟨u', h1, h2⟩ := R.get t u ht; ⟨u', h1, h2.ext hS⟩, R.size⟩
  | some t =>
    have hlt : t < a.tmps.size := Nat.lt_of_lt_of_le (hd t rfl) R.size
    refine ⟨fun t' u ht => ?_, by simpa [Act.put] using R.size⟩
    simp only [putD] at ht
    rw [Env.get_put] at ht
    split at ht
    · rename_i he; subst he
      cases ht
      exact ⟨v', by simp [Act.put, hlt], hv⟩
    · rename_i he
      obtain ⟨u', h1, h2⟩ := R.get t' u ht
      exact ⟨u', by simp [Act.put, Array.getElem?_setIfInBounds_ne he, h1], h2.ext hS⟩
theorem put_defers (a : Act) (d : Option Nat) (v : Value) : (a.put d v).defers = a.defers := by cases d <;> rfl
theorem wanted_of {n : Nat} {ops : Array Oper} {o : Oper} {r : RO} (hr : rOper P n ops o = some r) {b : Bt} {e : Env} {w : World} {a : Act} {x : Bool} (R : Rl b e w a n) (hw : wants r.guard e = some x) : Region.wanted o (yielded ops a.tmps) = x := by
  have hg : rGuard ops o.guard = some r.guard := by
    unfold rOper at hr
    split at hr
    · rename_i h2 h3; simp only [Option.some.injEq] at hr; subst hr; exact h2
    · rename_i h2 h3
      split at hr
      · simp only [Option.some.injEq] at hr; subst hr; exact h2
      · exact absurd hr (by simp)
    · exact absurd hr (by simp)
  unfold Region.wanted
  cases ho : o.guard with
  | none =>
    rw [ho] at hg
    simp only [rGuard, Option.some.injEq] at hg
    rw [← hg] at hw
    simp only [wants, Option.some.injEq] at hw
    exact hw
  | some g =>
    obtain ⟨j, want⟩ := g
    rw [ho] at hg
    simp only [rGuard, Option.map_eq_some_iff] at hg
    obtain ⟨d, hd, hg⟩ := hg
    rw [← hg] at hw
    simp only [wants] at hw
    split at hw
    · rename_i y hy
      simp only [Option.some.injEq] at hw
      obtain ⟨v', h1, h2⟩ := R.get d _ hy
      rw [h2.bool_inv] at h1
      have : yielded ops a.tmps j = some y := by
        unfold yielded
        rw [hd]
        simp [h1]
      simp only [this]
      rw [← hw]
      cases y <;> cases want <;> rfl
    · rename_i c hy
      simp only [Option.some.injEq] at hw; subst hw
      obtain ⟨v', h1, h2⟩ := R.get d _ hy
      obtain ⟨c', rfl, _⟩ := h2.tuple_inv
      have : yielded ops a.tmps j = none := by
        unfold yielded
        rw [hd]
        simp [h1]
      simp only [this]
      rfl
    · exact absurd hw (by simp)
theorem rOper_spec {n : Nat} {ops : Array Oper} {o : Oper} {r : RO} (hr : rOper P n ops o = some r) : (resolve P o.op = some r.op ∨ r.op = .stop) ∧ o.dst = r.dst ∧ ∀ t, r.dst = some t → t < n := by
  have key : ∀ x : ROp, resolveS P o.op = x → (resolve P o.op = some x ∨ x = .stop) := by
    intro x h
    unfold resolveS at h
    split at h
    · rename_i r' hr'; subst h; exact .inl hr'
    · exact .inr h.symm
  unfold rOper at hr
  split at hr
  · rename_i h2 h3; simp only [Option.some.injEq] at hr; subst hr; exact ⟨key _ rfl, h3, fun t h => by cases h⟩
  · rename_i d h2 h3
    split at hr
    · rename_i hd; simp only [Option.some.injEq] at hr; subst hr; exact ⟨key _ rfl, h3, fun t h => by cases h; exact hd⟩
    · exact absurd hr (by simp)
  · exact absurd hr (by simp)
theorem resolve_call {o : Op} {f : Opd} {xs : List Opd} (hr : resolve P o = some (.call f xs)) : ∃ c F', o = .call c ∧ c.callee = .value F' ∧ rOpd F' = some f ∧ rOpds c.args.toList = some xs := by
  cases o <;> simp only [resolve] at hr
  case call c =>
    unfold rCall at hr
    split at hr
    · rename_i F' hcal
      split at hr
      · rename_i g l h1 h2
        simp only [Option.some.injEq, ROp.call.injEq] at hr
        obtain ⟨rfl, rfl⟩ := hr
        exact ⟨c, F', rfl, hcal, h1, h2⟩
      · exact absurd hr (by simp)
    all_goals (exfalso; repeat' (first | (cases hr; done) | split at hr | (simp [Option.bind_eq_some_iff] at hr; done) | (simp only [Option.bind_eq_some_iff] at hr; obtain ⟨_, _, hr⟩ := hr)))
  all_goals (exfalso; repeat' (first | contradiction | (cases hr; done) | (simp at hr; done) | (simp only [rBin] at hr; done) | split at hr | (simp only [Option.bind_eq_some_iff] at hr; obtain ⟨_, _, hr⟩ := hr) | (simp only [Option.map_eq_some_iff] at hr; obtain ⟨_, _, hr⟩ := hr) | simp only [rBin] at hr))
theorem step_sound {b : Bt} {h h1 : AH} {base : Nat} {w0 w : World} {e : Env} {a : Act} {n : Nat} (H : Sim b h base w0 w) (R : Rl b e w a n) {ops : Array Oper} {i : Nat} {o : Oper} {r : RO} (hi : ops[i]? = some o)
    (hr : rOper P n ops o = some r) {v : Value} (hs : StS P X pur r e h v h1) {Q : Exit → Act → World → Prop} {K : Act → World → Prop}
    (hK : ∀ c v' w1, VR (b ++ c) w1.shape? v v' → SLe w.shape? w1.shape? → Sim (b ++ c) h1 base w0 w1 → K (a.put r.dst v') w1) : wpOp P ops Q i K a w := by
  obtain ⟨hres, hdst, _⟩ := rOper_spec hr
  unfold wpOp
  simp only [hi]
  rcases hs with ⟨hw, rfl, rfl⟩ | ⟨hw, hs⟩
  · rw [wanted_of hr R hw]
    simp only [Bool.false_eq_true, if_false]
    rw [hdst]
    exact hK [] _ _ vr_undef (SLe.refl _) (by rw [List.append_nil]; exact H)
  · rw [wanted_of hr R hw]
    simp only [if_true]
    refine .inl ?_
    unfold Oper.wp
    rcases hs with ⟨hn, hv⟩ | ⟨f, args, g, vs, ho, hcl, ⟨hB, hS⟩, _⟩
    · have hres : resolve P o.op = some r.op := by
        rcases hres with h | h
        · exact h
        · rw [h] at hv; simp [ev] at hv
      obtain ⟨c, nx, v', w1, hrun, hnx, hvr, hsl, HS⟩ := op_sound H R hres hn hv
      rw [hrun]
      rcases hnx with rfl | ⟨rfl, rfl⟩
      · simp only [Oper.upon]; rw [hdst]; exact hK _ _ _ hvr hsl HS
      · simp only [Oper.upon]; rw [hdst]; exact hK _ _ _ hvr hsl HS
    · have hres : resolve P o.op = some r.op := by
        rcases hres with h | h
        · exact h
        · rw [h] at ho; cases ho
      rw [ho] at hres
      obtain ⟨c, F', hop, hcal, hf, hxs⟩ := resolve_call hres
      simp only [callee] at hcl
      split at hcl
      · rename_i g' first cs vs' hfe hae
        split at hcl
        · rename_i h0
          simp only [Option.some.injEq, Prod.mk.injEq] at hcl
          obtain ⟨rfl, rfl⟩ := hcl
          have h0' : first = #[] := Array.eq_empty_of_size_eq_zero h0
          subst h0'
          obtain ⟨cs', hfv, hlr⟩ := (opd_sound R hf hfe).func_inv
          have hargs := opds_sound R hxs hae
          obtain ⟨fn, code, hfn, hbody, hname⟩ := hB
          have hrun : (execOp a.eval o).run P w = .ok (.enter g' ((c.args.map a.eval) ++ cs')) w := by
            obtain ⟨d, op, ty, ps, af, gd⟩ := o
            simp only at hop
            subst hop
            simp only [execOp, Go.resolve, hcal, hfv, Deferred.ofValue, Sem.run_bind, Sem.run_pure, Result.andThen_ok, invoke, callFunc, run_program, hfn, hname, Bool.false_eq_true, if_false, hbody, Option.isNone_some, Array.empty_append]
          rw [hrun]
          simp only [Oper.upon]
          have := hS b base w0 w (c.args.toList.map a.eval ++ cs'.toList) H (hargs.append hlr)
          have e1 : (c.args.toList.map a.eval ++ cs'.toList).toArray = c.args.map a.eval ++ cs' := Array.ext' (by simp)
          rw [e1] at this
          refine this.mono fun en w1 hp => ?_
          obtain ⟨c1, v', rfl, hvr, hsl, HS⟩ := hp
          show K (a.put o.dst v') w1
          rw [hdst]; exact hK _ _ _ hvr hsl HS
        · exact absurd hcl (by simp)
      · exact absurd hcl (by simp)
end
end Go.Proofs.YtpgidiompdabdaaGreat.AM
