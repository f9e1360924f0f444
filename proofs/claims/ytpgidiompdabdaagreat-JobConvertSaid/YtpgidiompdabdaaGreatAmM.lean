/- The abstract machine, thirteenth part: code and functions; the main law. -/
import Derived.Test.YtpgidiompdabdaaGreatAmLt
namespace Go.Proofs.YtpgidiompdabdaaGreat.AM
open Go Go.RowKit
set_option linter.unusedSimpArgs false
set_option linter.unusedVariables false

def LoopWp (P : Program) (c : Code) (Q : Exit → Act → World → Prop) (a : Act) (w : World) : Prop :=
  ∀ (b : Frame) (k : List Item) (cs : List Frame), ∃ e a' w', Q e a' w' ∧ Arrives P (lone (b.at a (.code c :: .inLoop c :: k)) cs w) b k cs e a' w'
theorem loop_once {P : Program} {c : Code} {Q : Exit → Act → World → Prop} {a : Act} {w : World} (h : c.wp P (Exit.then (LoopWp P c Q) Q) a w) : LoopWp P c Q a w := by
  intro b k cs
  obtain ⟨e, a₁, w₁, hq, harr⟩ := h b (.inLoop c :: k) cs
  cases e with
  | normal =>
    obtain ⟨e₂, a₂, w₂, hq₂, harr₂⟩ := hq b k cs
    exact ⟨e₂, a₂, w₂, hq₂, .of_steps (Steps.trans harr (.one step_inLoop)) harr₂⟩
  | exit id => exact ⟨_, a₁, w₁, hq, .pass (x := .inLoop c) rfl (fun _ _ => .inl (by simp)) harr⟩
  | goto l => exact ⟨_, a₁, w₁, hq, .pass (x := .inLoop c) rfl (fun _ _ => .inl (by simp)) harr⟩
  | ret => exact ⟨_, a₁, w₁, hq, .pass (x := .inLoop c) rfl (fun _ _ => .inl (by simp)) harr⟩
  | panic ch => exact ⟨_, a₁, w₁, hq, .pass (x := .inLoop c) rfl (fun _ _ => .inl (by simp)) harr⟩
  | outgrown => exact ⟨_, a₁, w₁, hq, .pass (x := .inLoop c) rfl (fun _ _ => .inl (by simp)) harr⟩
theorem LoopWp.wp {P : Program} {c : Code} {Q : Exit → Act → World → Prop} {a : Act} {w : World} (h : LoopWp P c Q a w) : (Code.loop c).wp P Q a w := by
  intro b k cs
  obtain ⟨e, a', w', hq, harr⟩ := h b k cs
  exact ⟨e, a', w', hq, .of_steps (.one step_loop) harr⟩
def CodeS (P : Program) (Q : Exit → Act → World → Prop) (code : Code) (a : Act) (w : World) : Prop :=
  match code with
  | .loop c => LoopWp P c Q a w
  | c => c.wp P Q a w
theorem CodeS.wp {P : Program} {Q : Exit → Act → World → Prop} {code : Code} {a : Act} {w : World} (h : CodeS P Q code a w) : code.wp P Q a w := by
  cases code <;> first | exact h | exact LoopWp.wp h
def exOf : Ex → Exit
  | .normal => .normal
  | .exit id => .exit id
  | .ret => .ret
def rRes (P : Program) : List ResultVar → Option (List (Nat × Option (Bool × Nat)))
  | [] => some []
  | .tmp t :: rs => (rRes P rs).map ((t, none) :: ·)
  | .cell t ty :: rs => match form P ty, rRes P rs with
    | some r, some l => some ((t, some r) :: l)
    | _, _ => none
def rFunc (P : Program) (pur : List FuncId) (f : FuncId) : Option RFunc :=
  match P.funcs[f]? with
  | some fn => match fn.body with
    | some code => if (fn.name == "runtime.NumGoroutine") = true then none else match rRes P fn.results.toList, rCode P pur fn.ntmps code with
      | some rs, some c => some ⟨fn.ntmps, rs, c⟩
      | _, _ => none
    | none => none
  | none => none
def FOK (P : Program) (pur : List FuncId) (F : Funs) : Prop := ∀ f r, F f = some r → rFunc P pur f = some r

section
variable {P : Program} {F : Funs} {X : Exts} {pur : List FuncId}
theorem rCode_cases {n : Nat} {code : Code} {r : RCode} (h : rCode P pur n code = some r) : match r with
    | .skip => code = .skip
    | .ret => code = .ret
    | .exit id => code = .exit id
    | .stop => True
    | .region l => ∃ id ops draw, code = .region id ops draw ∧ rRegion P pur n ops draw = some (.region l)
    | .drawn l chk => ∃ id ops draw, code = .region id ops draw ∧ rRegion P pur n ops draw = some (.drawn l chk)
    | .many l t => ∃ id ops draw, code = .region id ops draw ∧ rRegion P pur n ops draw = some (.many l t)
    | .seq a b => ∃ c1 c2, code = .seq c1 c2 ∧ rCode P pur n c1 = some a ∧ rCode P pur n c2 = some b
    | .cond z a b => ∃ z' c1 c2, code = .cond z' c1 c2 ∧ rOpd z' = some z ∧ rCode P pur n c1 = some a ∧ rCode P pur n c2 = some b
    | .block id c => ∃ c1, code = .block id c1 ∧ rCode P pur n c1 = some c
    | .loop c => ∃ c1, code = .loop c1 ∧ rCode P pur n c1 = some c := by
  cases code <;> simp only [rCode] at h <;> try (cases h; exact trivial)
  case skip => cases h; rfl
  case ret => cases h; rfl
  case exit id => cases h; rfl
  case region id ops draw =>
    have : r = .stop ∨ (∃ l, r = .region l) ∨ (∃ l c, r = .drawn l c) ∨ ∃ l t, r = .many l t := by
      unfold rRegion at h
      split at h
      · split at h
        · split at h
          · cases h; exact .inr (.inl ⟨_, rfl⟩)
          · split at h
            · cases h; exact .inr (.inr (.inl ⟨_, _, rfl⟩))
            · rename_i l' _ _ _ _
              rcases manyOf_cases P pur ops l' with hm | ⟨_, hm, _⟩
              · rw [hm] at h; cases h; exact .inl rfl
              · rw [hm] at h; cases h; exact .inr (.inr (.inr ⟨_, _, rfl⟩))
        · cases h; exact .inr (.inl ⟨_, rfl⟩)
      · cases h
    rcases this with rfl | ⟨l, rfl⟩ | ⟨l, c, rfl⟩ | ⟨l, c, rfl⟩
    · exact trivial
    · exact ⟨id, ops, draw, rfl, h⟩
    · exact ⟨id, ops, draw, rfl, h⟩
    · exact ⟨id, ops, draw, rfl, h⟩
  case seq a b =>
    split at h
    · rename_i x y h1 h2; cases h; exact ⟨_, _, rfl, h1, h2⟩
    · cases h
  case cond z a b =>
    split at h
    · rename_i z' x y h0 h1 h2; cases h; exact ⟨_, _, _, rfl, h0, h1, h2⟩
    · cases h
  case block id c =>
    simp only [Option.map_eq_some_iff] at h
    obtain ⟨x, h1, rfl⟩ := h
    exact ⟨_, rfl, h1⟩
  case loop c =>
    simp only [Option.map_eq_some_iff] at h
    obtain ⟨x, h1, rfl⟩ := h
    exact ⟨_, rfl, h1⟩
def Sound (P : Program) (X : Exts) (pur : List FuncId) : J → Prop
  | .code c e h x e' h' => ∀ (n : Nat) (code : Code) (b : Bt) (base : Nat) (w0 w : World) (a : Act) (Q : Exit → Act → World → Prop), rCode P pur n code = some c → Sim b h base w0 w → Rl b e w a n → a.defers = [] →
      (∀ c' a' w1, Rl (b ++ c') e' w1 a' n → SLe w.shape? w1.shape? → Sim (b ++ c') h' base w0 w1 → a'.defers = [] → Q (exOf x) a' w1) → CodeS P Q code a w
  | .ops l e h e' h' => RunS P X pur l e h e' h'
  | .tops l e h tr e' h' => tr.length = l.length ∧ TextT P X pur (l.zip tr) e h e' h'
  | .fn f vs h v h' => SoundFn P f vs h v h' ∧ (pur.contains f = true → X f vs h = some (v, h'))

theorem putAll_get : ∀ (vs : List Value) (e : Env) (i t : Nat), (e.putAll i vs).get t = if i ≤ t ∧ t < i + vs.length then vs[t - i]? else e.get t
  | [], e, i, t => by simp [Env.putAll]; intro h1 h2; omega
  | v :: vs, e, i, t => by
    simp only [Env.putAll]
    rw [putAll_get vs, Env.get_put]
    by_cases h1 : i + 1 ≤ t ∧ t < i + 1 + vs.length
    · rw [if_pos h1, if_pos (by simp; omega)]
      have : t - i = (t - (i + 1)) + 1 := by omega
      rw [this, List.getElem?_cons_succ]
    · rw [if_neg h1]
      by_cases h2 : i = t
      · subst h2; rw [if_pos rfl, if_pos (by simp)]; simp
      · rw [if_neg h2, if_neg (by simp; omega)]
theorem empty_get (t : Nat) : Env.empty.get t = none := Tr.get_lf _
theorem Rl.init {b : Bt} {w : World} {vs args : List Value} (hl : LR (VR b w.shape?) vs args) (n : Nat) : Rl b (Env.empty.putAll 0 vs) w { tmps := args.toArray ++ Array.replicate (n - args.toArray.size) undef, defers := [] } n := by
  refine ⟨fun t v ht => ?_, by simp; omega⟩
  rw [putAll_get] at ht
  split at ht
  · obtain ⟨v', h1, h2⟩ := hl.get ht
    rw [Nat.sub_zero] at h1
    refine ⟨v', ?_, h2⟩
    have hlt := (List.getElem?_eq_some_iff.1 h1).1
    show (args.toArray ++ Array.replicate (n - args.toArray.size) undef)[t]? = some v'
    rw [Array.getElem?_append, if_pos (by simpa using hlt)]
    simpa using h1
  · rw [empty_get] at ht; cases ht

def resSem (tmps : Array Value) : ResultVar → Sem Value
  | .tmp t => pure (tmps.getD t undef)
  | .cell x t => do loadVar t (← asAddr (tmps.getD x undef))
theorem res_sound {b : Bt} {h : AH} {base : Nat} {w0 w : World} {e : Env} {a : Act} {n : Nat} (H : Sim b h base w0 w) (R : Rl b e w a n) : ∀ {rs : List ResultVar} {l : List (Nat × Option (Bool × Nat))} {vs : List Value}, rRes P rs = some l → resAll e h l = some vs →
    ∃ vs', (rs.mapM (resSem a.tmps) : Sem (List Value)).run P w = .ok vs' w ∧ LR (VR b w.shape?) vs vs'
  | [], l, vs, h1, h2 => by
    simp only [rRes, Option.some.injEq] at h1; subst h1
    simp only [resAll, Option.some.injEq] at h2; subst h2
    exact ⟨[], by simp, .nil⟩
  | .tmp t :: rs, l, vs, h1, h2 => by
    simp only [rRes, Option.map_eq_some_iff] at h1
    obtain ⟨l', h1, rfl⟩ := h1
    simp only [resAll] at h2
    split at h2
    · rename_i v vs0 h3 h4
      simp only [Option.some.injEq] at h2; subst h2
      obtain ⟨vs', h5, h6⟩ := res_sound H R h1 h4
      obtain ⟨v', h7, h8⟩ := R.get t v h3
      refine ⟨v' :: vs', ?_, .cons h8 h6⟩
      rw [List.mapM_cons]
      have : a.tmps.getD t undef = v' := by rw [Array.getD_eq_getD_getElem?, h7]; rfl
      simp only [resSem, Sem.run_bind, Sem.run_pure, Result.andThen_ok, h5, this]
    · exact absurd h2 (by simp)
  | .cell x t :: rs, l, vs, h1, h2 => by
    simp only [rRes] at h1
    split at h1
    · rename_i r l' hf h1'
      simp only [Option.some.injEq] at h1; subst h1
      simp only [resAll] at h2
      split at h2
      · rename_i v vs0 h3 h4
        simp only [Option.some.injEq] at h2; subst h2
        obtain ⟨vs', h5, h6⟩ := res_sound H R h1' h4
        obtain ⟨agg, m⟩ := r
        simp only [resOne, Option.map_eq_some_iff] at h3
        obtain ⟨⟨u, h''⟩, h3, rfl⟩ := h3
        simp only [ev, Opd.ev] at h3
        split at h3
        · rename_i i off hx
          split at h3
          · rename_i ro tt c hi
            split at h3
            · rename_i hm
              simp only [Option.map_eq_some_iff, Prod.mk.injEq] at h3
              obtain ⟨u, hu, rfl, rfl⟩ := h3
              obtain ⟨v', h7, h8⟩ := R.get x _ hx
              obtain ⟨k, s, hb, rfl⟩ := h8.ptr_inv
              obtain ⟨v2, hrv, hrun2⟩ := load_run (P := P) H hf hb hi hm hu
              refine ⟨v2 :: vs', ?_, .cons hrv h6⟩
              rw [List.mapM_cons]
              have : a.tmps.getD x undef = .pointer (some ⟨k, s + off, none⟩) := by rw [Array.getD_eq_getD_getElem?, h7]; rfl
              have hasa : (asAddr (a.tmps.getD x undef)).run P w = .ok ⟨k, s + off, none⟩ w := by rw [this]; rfl
              simp only [resSem, Sem.run_bind, Sem.run_pure, Result.andThen_ok, hasa, hrun2, h5]
            · exact absurd h3 (by simp)
          · exact absurd h3 (by simp)
        · exact absurd h3 (by simp)
      · exact absurd h2 (by simp)
    · exact absurd h1 (by simp)
theorem fn_post {b : Bt} {h' : AH} {base : Nat} {w0 w w1 : World} {e : Env} {a : Act} {n : Nat} {fn : Func} {l : List (Nat × Option (Bool × Nat))} {vs : List Value} {c : Bt} (hrs : rRes P fn.results.toList = some l) (hv : resAll e h' l = some vs)
    (R : Rl (b ++ c) e w1 a n) (hS : SLe w.shape? w1.shape?) (H : Sim (b ++ c) h' base w0 w1) : ∃ v, (results fn a.tmps).run P w1 = .ok v w1 ∧ Post b h' base w0 w (resV vs) (.returned v) w1 := by
  obtain ⟨vs', hrun, hlr⟩ := res_sound H R hrs hv
  have key : (results fn a.tmps).run P w1 = .ok (if h : vs'.toArray.size = 1 then vs'.toArray[0] else .tuple vs'.toArray) w1 := by
    have e0 : results fn a.tmps = (do let vs ← fn.results.mapM (resSem a.tmps); pure (if h : vs.size = 1 then vs[0] else .tuple vs)) := rfl
    rw [e0, Sem.run_bind, Array.mapM_eq_mapM_toList, map_eq_pure_bind, Sem.run_bind, hrun]
    rfl
  refine ⟨_, key, c, _, rfl, ?_, hS, H⟩
  match vs, vs', hlr with
  | [], [], _ => exact .tuple rfl (fun i v v' h => by simp at h)
  | [x], [y], hlr => exact hlr.2 0 x y rfl rfl
  | x :: x2 :: xs, y :: y2 :: ys, hlr =>
    have : ¬ (y :: y2 :: ys).toArray.size = 1 := by simp
    rw [dif_neg this]
    exact VR.of_lr_tuple hlr
  | [], _ :: _, hlr => exact absurd hlr.1 (by simp)
  | _ :: _, [], hlr => exact absurd hlr.1 (by simp)
  | [_], _ :: _ :: _, hlr => exact absurd hlr.1 (by simp)
  | _ :: _ :: _, [_], hlr => exact absurd hlr.1 (by simp)

theorem sound (OK : XOK P F X pur) (hF : FOK P pur F) {j : J} (h : Ok F X j) : Sound P X pur j := by
  induction h with
  | skip =>
    intro n code b base w0 w a Q hc H R hd hQ
    obtain rfl : code = .skip := rCode_cases hc
    exact wp_skip (hQ [] a w (by rw [List.append_nil]; exact R) (SLe.refl _) (by rw [List.append_nil]; exact H) hd)
  | ret =>
    intro n code b base w0 w a Q hc H R hd hQ
    obtain rfl : code = .ret := rCode_cases hc
    exact wp_ret (hQ [] a w (by rw [List.append_nil]; exact R) (SLe.refl _) (by rw [List.append_nil]; exact H) hd)
  | exit =>
    rename_i id e h
    intro n code b base w0 w a Q hc H R hd hQ
    obtain rfl : code = .exit id := rCode_cases hc
    exact wp_exit (hQ [] a w (by rw [List.append_nil]; exact R) (SLe.refl _) (by rw [List.append_nil]; exact H) hd)
  | region _ ih =>
    intro n code b base w0 w a Q hc H R hd hQ
    obtain ⟨id, ops, draw, rfl, hr⟩ := rCode_cases hc
    exact region_sound OK hr H R hd ih hQ
  | drawn _ hf ih =>
    intro n code b base w0 w a Q hc H R hd hQ
    obtain ⟨id, ops, draw, rfl, hr⟩ := rCode_cases hc
    exact regionT_sound OK hr H R hd ih.1 ih.2 hf hQ
  | tnil => exact ⟨rfl, rfl, rfl⟩
  | toff hw _ ih => exact ⟨by simp [ih.1], rfl, rfl, .inl ⟨hw, rfl, rfl⟩, ih.2⟩
  | top hw hv _ ih =>
    rename_i o os e h v h1 tr e' h' _
    refine ⟨by simp [ih.1], rfl, rfl, .inr ⟨hw, .inl ⟨?_, hv⟩⟩, ih.2⟩
    cases ho : o.op <;> first | rfl | (rw [ho] at hv; simp [ev] at hv)
  | tcall hw ho hcl _ _ ih1 ih2 => exact ⟨by simp [ih2.1], rfl, rfl, .inr ⟨hw, .inr ⟨_, _, _, _, ho, hcl, ih1.1, ih1.2⟩⟩, ih2.2⟩
  | seq _ _ ih1 ih2 =>
    intro n code b base w0 w a Q hc H R hd hQ
    obtain ⟨c1, c2, rfl, hc1, hc2⟩ := rCode_cases hc
    refine wp_seq (ih1 n c1 b base w0 w a _ hc1 H R hd fun c a' w1 R1 hS1 H1 hd1 => ?_).wp
    show c2.wp P Q a' w1
    exact (ih2 n c2 _ base w0 w1 a' _ hc2 H1 R1 hd1 fun c' a2 w2 R2 hS2 H2 hd2 => hQ (c ++ c') a2 w2 (by rw [← List.append_assoc]; exact R2) (hS1.trans hS2) (by rw [← List.append_assoc]; exact H2) hd2).wp
  | seqOut _ hx ih1 =>
    rename_i x ex1 hx1 _
    intro n code b base w0 w a Q hc H R hd hQ
    obtain ⟨c1, c2, rfl, hc1, hc2⟩ := rCode_cases hc
    refine wp_seq (ih1 n c1 b base w0 w a _ hc1 H R hd fun c a' w1 R1 hS1 H1 hd1 => ?_).wp
    have := hQ c a' w1 R1 hS1 H1 hd1
    cases x with
    | normal => exact absurd rfl hx
    | exit id => exact this
    | ret => exact this
  | condT hcv _ ih =>
    intro n code b base w0 w a Q hc H R hd hQ
    obtain ⟨z, c1, c2, rfl, hz, hc1, hc2⟩ := rCode_cases hc
    exact wp_cond_true (opd_sound R hz hcv).bool_inv (ih n c1 b base w0 w a _ hc1 H R hd hQ).wp
  | condF hcv _ ih =>
    intro n code b base w0 w a Q hc H R hd hQ
    obtain ⟨z, c1, c2, rfl, hz, hc1, hc2⟩ := rCode_cases hc
    exact wp_cond_false (opd_sound R hz hcv).bool_inv (ih n c2 b base w0 w a _ hc2 H R hd hQ).wp
  | block _ ih =>
    intro n code b base w0 w a Q hc H R hd hQ
    obtain ⟨c1, rfl, hc1⟩ := rCode_cases hc
    refine wp_block (ih n c1 b base w0 w a _ hc1 H R hd fun c a' w1 R1 hS1 H1 hd1 => ?_).wp
    show Exit.inBlock _ Q (.exit _) a' w1
    simp only [Exit.inBlock, if_true]
    exact hQ c a' w1 R1 hS1 H1 hd1
  | blockOut _ hx ih =>
    rename_i id _ _ _ x ex1 hx1 _
    intro n code b base w0 w a Q hc H R hd hQ
    obtain ⟨c1, rfl, hc1⟩ := rCode_cases hc
    refine wp_block (ih n c1 b base w0 w a _ hc1 H R hd fun c a' w1 R1 hS1 H1 hd1 => ?_).wp
    have := hQ c a' w1 R1 hS1 H1 hd1
    cases x with
    | normal => exact this
    | ret => exact this
    | exit i =>
      show Exit.inBlock id Q (.exit i) a' w1
      simp only [Exit.inBlock]
      rw [if_neg (fun h => hx (by rw [h]))]
      exact this
  | loop _ _ ih1 ih2 =>
    intro n code b base w0 w a Q hc H R hd hQ
    obtain ⟨c1, rfl, hc1⟩ := rCode_cases hc
    refine loop_once (ih1 n c1 b base w0 w a _ hc1 H R hd fun c a' w1 R1 hS1 H1 hd1 => ?_).wp
    exact ih2 n (.loop c1) _ base w0 w1 a' Q hc H1 R1 hd1 fun c' a2 w2 R2 hS2 H2 hd2 => hQ (c ++ c') a2 w2 (by rw [← List.append_assoc]; exact R2) (hS1.trans hS2) (by rw [← List.append_assoc]; exact H2) hd2
  | loopOut _ hx ih =>
    rename_i x ex1 hx1 _
    intro n code b base w0 w a Q hc H R hd hQ
    obtain ⟨c1, rfl, hc1⟩ := rCode_cases hc
    refine loop_once (ih n c1 b base w0 w a _ hc1 H R hd fun c a' w1 R1 hS1 H1 hd1 => ?_).wp
    have := hQ c a' w1 R1 hS1 H1 hd1
    cases x with
    | normal => exact absurd rfl hx
    | exit id => exact this
    | ret => exact this
  | nil => exact ⟨rfl, rfl⟩
  | off hw _ ih => exact ⟨undef, _, .inl ⟨hw, rfl, rfl⟩, ih⟩
  | op hw hv _ ih =>
    rename_i o os e h v h1 e' h' _
    refine ⟨v, h1, .inr ⟨hw, .inl ⟨?_, hv⟩⟩, ih⟩
    cases ho : o.op <;> first | rfl | (rw [ho] at hv; simp [ev] at hv)
  | call hw ho hcl _ _ ih1 ih2 => exact ⟨_, _, .inr ⟨hw, .inr ⟨_, _, _, _, ho, hcl, ih1.1, ih1.2⟩⟩, ih2⟩
  | ext hX => exact ⟨OK.sound _ _ _ _ _ hX, fun _ => hX⟩
  | fn hf _ hx hv ih =>
    rename_i f args h r x e' h' vs _
    have hrf := hF _ _ hf
    unfold rFunc at hrf
    split at hrf
    · rename_i fn hfn
      split at hrf
      · rename_i code hbody
        split at hrf
        · exact absurd hrf (by simp)
        · rename_i hname
          split at hrf
          · rename_i rs c hrs hcode
            simp only [Option.some.injEq] at hrf; subst hrf
            refine ⟨⟨⟨fn, code, hfn, hbody, by simpa using hname⟩, fun b base w0 w args' H hl => ?_⟩, fun hp => ?_⟩
            · refine calls_of_wp hfn hbody (ih fn.ntmps code b base w0 w _ _ hcode H (Rl.init hl _) rfl fun c a' w1 R1 hS1 H1 hd1 => ?_).wp
              obtain ⟨v, h1, h2⟩ := fn_post hrs hv R1 hS1 H1
              cases x with
              | normal => exact ⟨hd1, v, h1, h2⟩
              | ret => exact ⟨hd1, v, h1, h2⟩
              | exit id => exact absurd rfl (hx id)
            · rw [OK.none _ hp] at hf; cases hf
          · exact absurd hrf (by simp)
      · exact absurd hrf (by simp)
    · exact absurd hrf (by simp)
end
end Go.Proofs.YtpgidiompdabdaaGreat.AM
