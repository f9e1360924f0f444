/- Rules for regions, code, loops, functions. -/
import Derived.Test.YtpgidiompdabdaaGreatAmX
namespace Go.Proofs.YtpgidiompdabdaaGreat.AM
open Go
set_option linter.unusedSimpArgs false
set_option linter.unusedVariables false
section
variable {F : Funs} {X : Exts}
abbrev KP := Ex → SE → SH → Prop
def WO (F : Funs) (X : Exts) (os : List RO) (l : SE) (H : SH) (Q : SE → SH → Prop) : Prop :=
  ∀ e h, Ag l e → HAg H h → ∃ e' h' l' H', Ok F X (.ops os e h e' h') ∧ Ag l' e' ∧ HAg H' h' ∧ Q l' H'
def WC (F : Funs) (X : Exts) (c : RCode) (l : SE) (H : SH) (Q : KP) : Prop :=
  ∀ e h, Ag l e → HAg H h → ∃ x e' h' l' H', Ok F X (.code c e h x e' h') ∧ Ag l' e' ∧ HAg H' h' ∧ Q x l' H'
def WF (F : Funs) (X : Exts) (f : FuncId) (vs : List Value) (H : SH) (Q : Value → SH → Prop) : Prop :=
  ∀ h, HAg H h → ∃ v h' H', Ok F X (.fn f vs h v h') ∧ HAg H' h' ∧ Q v H'
structure STr where
  l : SE
  hb : SH
  v : Value
  ha : SH
def TAg : List STr → List Tr1 → Prop
  | [], [] => True
  | s :: ss, t :: ts => (Ag s.l t.env ∧ HAg s.hb t.hb ∧ t.v = s.v ∧ HAg s.ha t.ha) ∧ TAg ss ts
  | _, _ => False
def WD (F : Funs) (X : Exts) (os : List RO) (l : SE) (H : SH) (Q : List STr → SE → SH → Prop) : Prop :=
  ∀ e h, Ag l e → HAg H h → ∃ tr e' h' st l' H', Ok F X (.tops os e h tr e' h') ∧ TAg st tr ∧ Ag l' e' ∧ HAg H' h' ∧ Q st l' H'
def lcallee (l : SE) (f : Opd) (args : List Opd) : Option (FuncId × List Value) :=
  match f.lv l, lvs l args with
  | some (.func (.func g) first cs), some vs => if first.size = 0 then some (g, vs ++ cs.toList) else none
  | _, _ => none
theorem lcallee_ev {l : SE} {e : Env} (h : Ag l e) {f : Opd} {args : List Opd} {g : FuncId} {vs : List Value} (hx : lcallee l f args = some (g, vs)) : callee f args e = some (g, vs) := by
  unfold lcallee at hx
  split at hx
  · rename_i g' first cs vs' h1 h2; simp only [callee, Opd.lv_ev h h1, lvs_ev h h2]; exact hx
  · cases hx
theorem WO_nil {l : SE} {H : SH} {Q : SE → SH → Prop} (h : Q l H) : WO F X [] l H Q := fun e a hA hH => ⟨e, a, l, H, .nil, hA, hH, h⟩
theorem WO_step {o : RO} {os : List RO} {l : SE} {H : SH} {Q : SE → SH → Prop} (hw : wantsL o.guard l = some true) (hs : Step o.op l H (fun v H1 => WO F X os (putL l o.dst v) H1 Q)) : WO F X (o :: os) l H Q := fun e a hA hH => by
  obtain ⟨v, h1, H1, hv, hH1, k⟩ := hs e a hA hH
  obtain ⟨e2, h2, l2, H2, ho, x1, x2, x3⟩ := k _ h1 (hA.put o.dst v) hH1
  exact ⟨e2, h2, l2, H2, .op (wantsL_ev hA hw) hv ho, x1, x2, x3⟩
theorem WO_off {o : RO} {os : List RO} {l : SE} {H : SH} {Q : SE → SH → Prop} (hw : wantsL o.guard l = some false) (k : WO F X os (putL l o.dst undef) H Q) : WO F X (o :: os) l H Q := fun e a hA hH => by
  obtain ⟨e2, h2, l2, H2, ho, x1, x2, x3⟩ := k _ a (hA.put o.dst undef) hH
  exact ⟨e2, h2, l2, H2, .off (wantsL_ev hA hw) ho, x1, x2, x3⟩
theorem WO_call {o : RO} {os : List RO} {l : SE} {H : SH} {Q : SE → SH → Prop} {f : Opd} {args : List Opd} {g : FuncId} {vs : List Value} (ho : o.op = .call f args) (hw : wantsL o.guard l = some true) (hc : lcallee l f args = some (g, vs)) (hs : WF F X g vs H (fun v H1 => WO F X os (putL l o.dst v) H1 Q)) : WO F X (o :: os) l H Q := fun e a hA hH => by
  obtain ⟨v, h1, H1, hv, hH1, k⟩ := hs a hH
  obtain ⟨e2, h2, l2, H2, hr, x1, x2, x3⟩ := k _ h1 (hA.put o.dst v) hH1
  exact ⟨e2, h2, l2, H2, .call (wantsL_ev hA hw) ho (lcallee_ev hA hc) hv hr, x1, x2, x3⟩
/-- A slot with a bool: by cases. -/
theorem WO_cases {t : Nat} {b : Bool} {os : List RO} {l : SE} {H : SH} {Q : SE → SH → Prop} (hb : lk l t = some (.bool b)) (h1 : b = true → WO F X os ((t, .bool true) :: l) H Q) (h2 : b = false → WO F X os ((t, .bool false) :: l) H Q) : WO F X os l H Q := fun e a hA hH => by
  have key : ∀ c : Bool, b = c → Ag ((t, .bool c) :: l) e := fun c hc u v hu => by
    rw [lk_cons] at hu
    by_cases ht : t = u
    · subst ht; rw [if_pos rfl] at hu; cases hu; subst hc; exact hA _ _ hb
    · rw [if_neg ht] at hu; exact hA _ _ hu
  cases b with
  | true => exact h1 rfl e a (key _ rfl) hH
  | false => exact h2 rfl e a (key _ rfl) hH
theorem WD_nil {l : SE} {H : SH} {Q : List STr → SE → SH → Prop} (h : Q [] l H) : WD F X [] l H Q := fun e a hA hH => ⟨[], e, a, [], l, H, .tnil, trivial, hA, hH, h⟩
theorem WD_step {o : RO} {os : List RO} {l : SE} {H : SH} {Q : List STr → SE → SH → Prop} (hw : wantsL o.guard l = some true) (hs : Step o.op l H (fun v H1 => WD F X os (putL l o.dst v) H1 (fun st => Q (⟨l, H, v, H1⟩ :: st)))) : WD F X (o :: os) l H Q := fun e a hA hH => by
  obtain ⟨v, h1, H1, hv, hH1, k⟩ := hs e a hA hH
  obtain ⟨tr, e2, h2, st, l2, H2, ho, x0, x1, x2, x3⟩ := k _ h1 (hA.put o.dst v) hH1
  exact ⟨_, e2, h2, ⟨l, H, v, H1⟩ :: st, l2, H2, .top (wantsL_ev hA hw) hv ho, And.intro ⟨hA, hH, rfl, hH1⟩ x0, x1, x2, x3⟩
theorem WD_off {o : RO} {os : List RO} {l : SE} {H : SH} {Q : List STr → SE → SH → Prop} (hw : wantsL o.guard l = some false) (k : WD F X os (putL l o.dst undef) H (fun st => Q (⟨l, H, undef, H⟩ :: st))) : WD F X (o :: os) l H Q := fun e a hA hH => by
  obtain ⟨tr, e2, h2, st, l2, H2, ho, x0, x1, x2, x3⟩ := k _ a (hA.put o.dst undef) hH
  exact ⟨_, e2, h2, ⟨l, H, undef, H⟩ :: st, l2, H2, .toff (wantsL_ev hA hw) ho, And.intro ⟨hA, hH, rfl, hH⟩ x0, x1, x2, x3⟩
theorem WD_call {o : RO} {os : List RO} {l : SE} {H : SH} {Q : List STr → SE → SH → Prop} {f : Opd} {args : List Opd} {g : FuncId} {vs : List Value} (ho : o.op = .call f args) (hw : wantsL o.guard l = some true) (hc : lcallee l f args = some (g, vs)) (hs : WF F X g vs H (fun v H1 => WD F X os (putL l o.dst v) H1 (fun st => Q (⟨l, H, v, H1⟩ :: st)))) : WD F X (o :: os) l H Q := fun e a hA hH => by
  obtain ⟨v, h1, H1, hv, hH1, k⟩ := hs a hH
  obtain ⟨tr, e2, h2, st, l2, H2, hr, x0, x1, x2, x3⟩ := k _ h1 (hA.put o.dst v) hH1
  exact ⟨_, e2, h2, ⟨l, H, v, H1⟩ :: st, l2, H2, .tcall (wantsL_ev hA hw) ho (lcallee_ev hA hc) hv hr, And.intro ⟨hA, hH, rfl, hH1⟩ x0, x1, x2, x3⟩
theorem WD_cases {t : Nat} {b : Bool} {os : List RO} {l : SE} {H : SH} {Q : List STr → SE → SH → Prop} (hb : lk l t = some (.bool b)) (h1 : b = true → WD F X os ((t, .bool true) :: l) H Q) (h2 : b = false → WD F X os ((t, .bool false) :: l) H Q) : WD F X os l H Q := fun e a hA hH => by
  have key : ∀ c : Bool, b = c → Ag ((t, .bool c) :: l) e := fun c hc u v hu => by
    rw [lk_cons] at hu
    by_cases ht : t = u
    · subst ht; rw [if_pos rfl] at hu; cases hu; subst hc; exact hA _ _ hb
    · rw [if_neg ht] at hu; exact hA _ _ hu
  cases b with
  | true => exact h1 rfl e a (key _ rfl) hH
  | false => exact h2 rfl e a (key _ rfl) hH
/-- A reader tells the same over other resources. -/
def ObR (o : RO) (l : SE) (H : SH) (v : Value) : Prop := ∀ (t : Tr1) h, Ag l t.env → t.v = v → HAg H h → reread o t h = true
theorem ObR.of_step {o : RO} {l : SE} {H : SH} {v : Value} (hw : wantsL o.guard l = some true) (hs : Step o.op l H (fun u _ => eqV u v = true)) : ObR o l H v := fun t h hA hv hH => by
  obtain ⟨u, h1, H1, he, _, hu⟩ := hs t.env h hA hH
  unfold reread
  rw [wantsL_ev hA hw]
  simp only [he, hv]; exact hu
theorem ObR.off {o : RO} {l : SE} {H : SH} {v : Value} (hw : wantsL o.guard l = some false) : ObR o l H v := fun t h hA hv hH => by
  unfold reread; rw [wantsL_ev hA hw]
def ob1 (ops : List RO) (st : List STr) (p : Nat × Nat × Bool) : Prop :=
  match ops[p.1]?, st[p.1]?, ops[p.2.1]?, st[p.2.1]? with
  | some q, some sq, some r, some sr => match p.2.2 with
    | true => ObR r sr.l sq.hb sr.v
    | false => ObR q sq.l sr.ha sq.v
  | _, _, _, _ => False
def obs (ops : List RO) (st : List STr) : List (Nat × Nat × Bool) → Prop
  | [] => True
  | p :: ps => ob1 ops st p ∧ obs ops st ps
theorem TAg.get : ∀ {st : List STr} {tr : List Tr1}, TAg st tr → ∀ {i : Nat} {s : STr}, st[i]? = some s → ∃ t, tr[i]? = some t ∧ Ag s.l t.env ∧ HAg s.hb t.hb ∧ t.v = s.v ∧ HAg s.ha t.ha
  | [], [], _, i, s, h => by simp at h
  | s0 :: ss, t0 :: ts, h, 0, s, hs => by simp at hs; subst hs; exact ⟨t0, rfl, h.1⟩
  | s0 :: ss, t0 :: ts, h, i + 1, s, hs => by
    rw [List.getElem?_cons_succ] at hs
    obtain ⟨t, h1, h2⟩ := TAg.get h.2 hs
    exact ⟨t, by rw [List.getElem?_cons_succ]; exact h1, h2⟩
theorem obs_all {ops : List RO} {st : List STr} {tr : List Tr1} (ht : TAg st tr) : ∀ {chk : List (Nat × Nat × Bool)}, obs ops st chk → chk.all (frame1 ops tr) = true
  | [], _ => rfl
  | p :: ps, h => by
    rw [List.all_cons, obs_all ht h.2, Bool.and_true]
    have h1 := h.1
    unfold ob1 at h1
    split at h1
    · rename_i q sq r sr e1 e2 e3 e4
      obtain ⟨tq, f1, f2, f3, f4, f5⟩ := ht.get e2
      obtain ⟨t, g1, g2, g3, g4, g5⟩ := ht.get e4
      unfold frame1
      rw [e1, f1, e3, g1]
      simp only []
      split at h1
      · rename_i hb; rw [if_pos hb]; exact h1 t tq.hb g2 g4 f3
      · rename_i hb; rw [if_neg (by rw [hb]; decide)]; exact h1 tq t.ha f2 f4 g5
    · exact absurd h1 id
/-! ### Code -/
def SubE (l l' : SE) : Prop := ∀ p ∈ l', lk l p.1 = some p.2
theorem SubE.nil {l : SE} : SubE l [] := fun p hp => by simp at hp
theorem SubE.cons {l l' : SE} {k : Nat} {v : Value} (h : lk l k = some v) (hs : SubE l l') : SubE l ((k, v) :: l') := fun p hp => by
  rcases List.mem_cons.1 hp with rfl | hp
  · exact h
  · exact hs p hp
theorem SubE.consEq {l l' : SE} {k : Nat} {u v : Value} (h : lk l k = some u) (e : u = v) (hs : SubE l l') : SubE l ((k, v) :: l') := SubE.cons (e ▸ h) hs
theorem SubE.refl_cons {l : SE} {p : Nat × Value} {l' : SE} (h : lk l p.1 = some p.2) (hs : SubE l l') : SubE l (p :: l') := SubE.cons h hs
theorem SubE.ag {l l' : SE} (hs : SubE l l') {e : Env} (h : Ag l e) : Ag l' e := by
  intro t v ht
  have : ∀ l' : SE, (∀ p ∈ l', lk l p.1 = some p.2) → lk l' t = some v → lk l t = some v := by
    intro l'
    induction l' with
    | nil => intro _ h; cases h
    | cons p l' ih =>
      intro hp hl
      obtain ⟨k, u⟩ := p
      rw [lk_cons] at hl
      by_cases hk : k = t
      · rw [if_pos hk] at hl; cases hl; subst hk; exact hp _ (List.mem_cons_self ..)
      · rw [if_neg hk] at hl; exact ih (fun q hq => hp q (List.mem_cons_of_mem _ hq)) hl
  exact h _ _ (this l' hs ht)
/-- Continuations. -/
def KSeq (F : Funs) (X : Exts) (b : RCode) (Q : KP) : KP := fun x l H => match x with
  | .normal => WC F X b l H Q
  | x => Q x l H
def KBlock (id : Nat) (Q : KP) : KP := fun x l H => match x with
  | .exit j => if j = id then Q .normal l H else Q (.exit j) l H
  | x => Q x l H
def KLoop (F : Funs) (X : Exts) (c : RCode) (Q : KP) : KP := fun x l H => match x with
  | .normal => WC F X (.loop c) l H Q
  | x => Q x l H
/-- What is said behind a piece of code. -/
def KPost (P : KP) : KP := fun x l H => ∃ l' H', SubE l l' ∧ HSub H H' ∧ P x l' H'
theorem KSeq_n {b : RCode} {Q : KP} {l : SE} {H : SH} (h : WC F X b l H Q) : KSeq F X b Q .normal l H := h
theorem KSeq_x {b : RCode} {Q : KP} {l : SE} {H : SH} {j : Nat} (h : Q (.exit j) l H) : KSeq F X b Q (.exit j) l H := h
theorem KSeq_r {b : RCode} {Q : KP} {l : SE} {H : SH} (h : Q .ret l H) : KSeq F X b Q .ret l H := h
theorem KBlock_n {id : Nat} {Q : KP} {l : SE} {H : SH} (h : Q .normal l H) : KBlock id Q .normal l H := h
theorem KBlock_r {id : Nat} {Q : KP} {l : SE} {H : SH} (h : Q .ret l H) : KBlock id Q .ret l H := h
theorem KBlock_h {id : Nat} {Q : KP} {l : SE} {H : SH} (h : Q .normal l H) : KBlock id Q (.exit id) l H := by
  simp only [KBlock, if_pos]; exact h
theorem KBlock_x {id j : Nat} {Q : KP} {l : SE} {H : SH} (hj : j ≠ id) (h : Q (.exit j) l H) : KBlock id Q (.exit j) l H := by
  simp only [KBlock, if_neg hj]; exact h
theorem KLoop_n {c : RCode} {Q : KP} {l : SE} {H : SH} (h : WC F X (.loop c) l H Q) : KLoop F X c Q .normal l H := h
theorem KLoop_x {c : RCode} {Q : KP} {l : SE} {H : SH} {j : Nat} (h : Q (.exit j) l H) : KLoop F X c Q (.exit j) l H := h
theorem KLoop_r {c : RCode} {Q : KP} {l : SE} {H : SH} (h : Q .ret l H) : KLoop F X c Q .ret l H := h
theorem KPost_i {P : KP} {x : Ex} {l l' : SE} {H H' : SH} (h1 : SubE l l') (h2 : HSub H H') (h3 : P x l' H') : KPost P x l H := ⟨l', H', h1, h2, h3⟩
theorem WC_skip {l : SE} {H : SH} {Q : KP} (h : Q .normal l H) : WC F X .skip l H Q := fun e a hA hH => ⟨_, e, a, l, H, .skip, hA, hH, h⟩
theorem WC_ret {l : SE} {H : SH} {Q : KP} (h : Q .ret l H) : WC F X .ret l H Q := fun e a hA hH => ⟨_, e, a, l, H, .ret, hA, hH, h⟩
theorem WC_exit {id : Nat} {l : SE} {H : SH} {Q : KP} (h : Q (.exit id) l H) : WC F X (.exit id) l H Q := fun e a hA hH => ⟨_, e, a, l, H, .exit, hA, hH, h⟩
theorem WC_region {os : List RO} {l : SE} {H : SH} {Q : KP} (h : WO F X os l H (Q .normal)) : WC F X (.region os) l H Q := fun e a hA hH => by
  obtain ⟨e2, h2, l2, H2, ho, x1, x2, x3⟩ := h e a hA hH
  exact ⟨_, e2, h2, l2, H2, .region ho, x1, x2, x3⟩
theorem WC_drawn {os : List RO} {chk : List (Nat × Nat × Bool)} {l : SE} {H : SH} {Q : KP} (h : WD F X os l H (fun st l' H' => obs os st chk ∧ Q .normal l' H')) : WC F X (.drawn os chk) l H Q := fun e a hA hH => by
  obtain ⟨tr, e2, h2, st, l2, H2, ho, x0, x1, x2, x3, x4⟩ := h e a hA hH
  exact ⟨_, e2, h2, l2, H2, .drawn ho (obs_all x0 x3), x1, x2, x4⟩
theorem WC_seq {a b : RCode} {l : SE} {H : SH} {Q : KP} (h : WC F X a l H (KSeq F X b Q)) : WC F X (.seq a b) l H Q := fun e a hA hH => by
  obtain ⟨x, e2, h2, l2, H2, ho, x1, x2, x3⟩ := h e a hA hH
  cases x with
  | normal =>
    obtain ⟨y, e3, h3, l3, H3, hb, y1, y2, y3⟩ := x3 e2 h2 x1 x2
    exact ⟨y, e3, h3, l3, H3, .seq ho hb, y1, y2, y3⟩
  | exit j => exact ⟨_, e2, h2, l2, H2, .seqOut ho (by simp), x1, x2, x3⟩
  | ret => exact ⟨_, e2, h2, l2, H2, .seqOut ho (by simp), x1, x2, x3⟩
theorem WC_cond {c : Opd} {v : Bool} {a b : RCode} {l : SE} {H : SH} {Q : KP} (hc : c.lv l = some (.bool v)) (h1 : v = true → WC F X a l H Q) (h2 : v = false → WC F X b l H Q) : WC F X (.cond c a b) l H Q := fun e h hA hH => by
  cases v with
  | true =>
    obtain ⟨x, e2, h2, l2, H2, ho, x1, x2, x3⟩ := h1 rfl e h hA hH
    exact ⟨x, e2, h2, l2, H2, .condT (Opd.lv_ev hA hc) ho, x1, x2, x3⟩
  | false =>
    obtain ⟨x, e2, h2, l2, H2, ho, x1, x2, x3⟩ := h2 rfl e h hA hH
    exact ⟨x, e2, h2, l2, H2, .condF (Opd.lv_ev hA hc) ho, x1, x2, x3⟩
theorem WC_block {id : Nat} {c : RCode} {l : SE} {H : SH} {Q : KP} (h : WC F X c l H (KBlock id Q)) : WC F X (.block id c) l H Q := fun e a hA hH => by
  obtain ⟨x, e2, h2, l2, H2, ho, x1, x2, x3⟩ := h e a hA hH
  cases x with
  | normal => exact ⟨_, e2, h2, l2, H2, .blockOut ho (by simp), x1, x2, x3⟩
  | ret => exact ⟨_, e2, h2, l2, H2, .blockOut ho (by simp), x1, x2, x3⟩
  | exit j =>
    by_cases hj : j = id
    · subst hj
      simp only [KBlock, if_pos] at x3
      exact ⟨_, e2, h2, l2, H2, .block ho, x1, x2, x3⟩
    · simp only [KBlock, if_neg hj] at x3
      exact ⟨_, e2, h2, l2, H2, .blockOut ho (by simpa using hj), x1, x2, x3⟩
theorem WC_loop {c : RCode} {l : SE} {H : SH} {Q : KP} (h : WC F X c l H (KLoop F X c Q)) : WC F X (.loop c) l H Q := fun e a hA hH => by
  obtain ⟨x, e2, h2, l2, H2, ho, x1, x2, x3⟩ := h e a hA hH
  cases x with
  | normal =>
    obtain ⟨y, e3, h3, l3, H3, hb, y1, y2, y3⟩ := x3 e2 h2 x1 x2
    exact ⟨y, e3, h3, l3, H3, .loop ho hb, y1, y2, y3⟩
  | exit j => exact ⟨_, e2, h2, l2, H2, .loopOut ho (by simp), x1, x2, x3⟩
  | ret => exact ⟨_, e2, h2, l2, H2, .loopOut ho (by simp), x1, x2, x3⟩
theorem WC_weak {c : RCode} {l l' : SE} {H H' : SH} {Q : KP} (h : WC F X c l' H' Q) (h1 : SubE l l') (h2 : HSub H H') : WC F X c l H Q := fun e a hA hH => h e a (h1.ag hA) (h2.hag hH)
/-- Resources seen in another way. -/
theorem WC_view {c : RCode} {l : SE} {H H' : SH} {Q : KP} (hv : ∀ h, HAg H h → HAg H' h) (h : WC F X c l H' Q) : WC F X c l H Q := fun e a hA hH => h e a hA (hv _ hH)
theorem WO_view {os : List RO} {l : SE} {H H' : SH} {Q : SE → SH → Prop} (hv : ∀ h, HAg H h → HAg H' h) (h : WO F X os l H' Q) : WO F X os l H Q := fun e a hA hH => h e a hA (hv _ hH)
theorem WC_conseq {c : RCode} {l : SE} {H : SH} {P Q : KP} (h : WC F X c l H (KPost P)) (hk : ∀ x l' H', P x l' H' → WC F X .skip l' H' (fun _ l'' H'' => Q x l'' H'')) : WC F X c l H Q := fun e a hA hH => by
  obtain ⟨x, e2, h2, l2, H2, ho, x1, x2, l3, H3, s1, s2, hp⟩ := h e a hA hH
  obtain ⟨y, e4, h4, l4, H4, hb, y1, y2, y3⟩ := hk _ _ _ hp e2 h2 (s1.ag x1) (s2.hag x2)
  cases hb
  exact ⟨x, e2, h2, l4, H4, ho, y1, y2, y3⟩
theorem WC_post {c : RCode} {l : SE} {H : SH} {P Q : KP} (h : WC F X c l H (KPost P)) (hk : ∀ x l' H', P x l' H' → Q x l' H') : WC F X c l H Q := WC_conseq h fun x l' H' hp => WC_skip (hk x l' H' hp)
/-! ### Functions -/
def initL : Nat → List Value → SE
  | _, [] => []
  | i, v :: vs => (i, v) :: initL (i + 1) vs
theorem putAll_get0 : ∀ (vs : List Value) (e : Env) (i t : Nat), t < i → (e.putAll i vs).get t = e.get t
  | [], e, i, t, _ => rfl
  | v :: vs, e, i, t, h => by
    simp only [Env.putAll]
    rw [putAll_get0 vs _ _ _ (by omega), Env.get_put, if_neg (by omega)]
theorem initL_ag : ∀ (vs : List Value) (e : Env) (i : Nat), Ag (initL i vs) (e.putAll i vs)
  | [], e, i => fun t v h => by cases h
  | v :: vs, e, i => fun t u h => by
    simp only [initL] at h
    rw [lk_cons] at h
    simp only [Env.putAll]
    by_cases hi : i = t
    · subst hi
      rw [if_pos rfl] at h; cases h
      rw [putAll_get0 vs _ _ _ (by omega), Env.get_put, if_pos rfl]
    · rw [if_neg hi] at h
      exact initL_ag vs _ _ t u h
def ResL (l : SE) (H : SH) (rs : List (Nat × Option (Bool × Nat))) (vs : List Value) : Prop := ∀ e h, Ag l e → HAg H h → resAll e h rs = some vs
theorem ResL.nil {l : SE} {H : SH} : ResL l H [] [] := fun _ _ _ _ => rfl
theorem ResL.tmp {l : SE} {H : SH} {t : Nat} {v : Value} {rs : List (Nat × Option (Bool × Nat))} {vs : List Value} (h : lk l t = some v) (hr : ResL l H rs vs) : ResL l H ((t, none) :: rs) (v :: vs) := fun e a hA hH => by
  simp only [resAll, resOne, hA _ _ h, hr e a hA hH]
theorem ResL.cell {l : SE} {H H0 : SH} {t i n : Nat} {agg : Bool} {v : Value} {ro : Bool} {ty : TypeId} {c : List Value} {rs : List (Nat × Option (Bool × Nat))} {vs : List Value} (h : lk l t = some (.pointer (some ⟨i, 0, none⟩))) (hm : Pick (.obj i (.row ro ty c)) H H0) (hb : n ≤ c.length) (hv : mkV agg (c.take n) = some v) (hr : ResL l H rs vs) : ResL l H ((t, some (agg, n)) :: rs) (v :: vs) := fun e a hA hH => by
  obtain ⟨h1, h2, _⟩ := hH.1 _ hm.mem
  have : ev (.load agg n (.tmp t)) e a = some (v, a) := by
    simp only [ev, Opd.ev, hA _ _ h, rowAt_of h1 h2]
    rw [if_pos (by omega), List.drop_zero, hv]; rfl
  simp only [resAll, resOne, this, Option.map_some, hr e a hA hH]
def KFn (rs : List (Nat × Option (Bool × Nat))) (Q : Value → SH → Prop) : KP := fun x l H => (∀ id, x ≠ .exit id) ∧ ∃ vs H', ResL l H rs vs ∧ HSub H H' ∧ Q (resV vs) H'
theorem KFn_r {rs : List (Nat × Option (Bool × Nat))} {Q : Value → SH → Prop} {l : SE} {H : SH} {vs : List Value} (h1 : ResL l H rs vs) (h2 : ∃ H', HSub H H' ∧ Q (resV vs) H') : KFn rs Q .ret l H := ⟨fun _ h => (by cases h), vs, h2.choose, h1, h2.choose_spec.1, h2.choose_spec.2⟩
theorem KFn_n {rs : List (Nat × Option (Bool × Nat))} {Q : Value → SH → Prop} {l : SE} {H : SH} {vs : List Value} (h1 : ResL l H rs vs) (h2 : ∃ H', HSub H H' ∧ Q (resV vs) H') : KFn rs Q .normal l H := ⟨fun _ h => (by cases h), vs, h2.choose, h1, h2.choose_spec.1, h2.choose_spec.2⟩
theorem WF_fn {f : FuncId} {r : RFunc} {vs : List Value} {H : SH} {Q : Value → SH → Prop} (hF : F f = some r) (h : WC F X r.code (initL 0 vs) H (KFn r.results Q)) : WF F X f vs H Q := fun a hH => by
  obtain ⟨x, e2, h2, l2, H2, ho, x1, x2, x3, us, H3, x4, x5, x6⟩ := h _ a (initL_ag vs Env.empty 0) hH
  exact ⟨_, h2, H3, .fn hF ho x3 (x4 e2 h2 x1 x2), x5.hag x2, x6⟩
theorem WF.mono {f : FuncId} {vs : List Value} {H : SH} {Q Q' : Value → SH → Prop} (h : WF F X f vs H Q) (hk : ∀ v H', Q v H' → Q' v H') : WF F X f vs H Q' := fun a hH => by
  obtain ⟨v, h', H', x1, x2, x3⟩ := h a hH
  exact ⟨v, h', H', x1, x2, hk _ _ x3⟩
theorem WF.weak {f : FuncId} {vs : List Value} {H H1 : SH} {Q : Value → SH → Prop} (h : WF F X f vs H1 Q) (hs : HSub H H1) : WF F X f vs H Q := fun a hH => h a (hs.hag hH)
theorem WF_view {f : FuncId} {vs : List Value} {H : SH} {Q : Value → SH → Prop} (h : WF F X f vs H (fun r H' => ∃ H'', (∀ a, HAg H' a → HAg H'' a) ∧ Q r H'')) : WF F X f vs H Q := fun a hH => by
  obtain ⟨v, h', H', x1, x2, H'', x3, x4⟩ := h a hH
  exact ⟨v, h', H'', x1, x3 _ x2, x4⟩
/-- A known function. -/
theorem WF_ext {f : FuncId} {vs : List Value} {H : SH} {Q : Value → SH → Prop} (h : ∀ a, HAg H a → ∃ v h' H', X f vs a = some (v, h') ∧ HAg H' h' ∧ Q v H') : WF F X f vs H Q := fun a hH => by
  obtain ⟨v, h', H', x1, x2, x3⟩ := h a hH
  exact ⟨v, h', H', .ext x1, x2, x3⟩
/-- What runs by itself: over any resources. -/
theorem WF_run {f : FuncId} {vs : List Value} {H : SH} {k : Nat} {v : Value} (h : ∀ a : AH, ∃ h', runF F X k f vs a = some (v, h') ∧ ∀ H, HAg H a → HAg H h') : WF F X f vs H (fun u H' => u = v ∧ H' = H) := fun a hH => by
  obtain ⟨h', hr, hk⟩ := h a
  exact ⟨v, h', H, ok_runF _ _ _ _ _ _ hr, hk H hH, rfl, rfl⟩
end
end Go.Proofs.YtpgidiompdabdaaGreat.AM
