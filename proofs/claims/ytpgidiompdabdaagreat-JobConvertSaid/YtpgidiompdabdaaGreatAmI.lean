/- The abstract machine, ninth part: every operation that is no call, in one theorem. -/
import Derived.Test.YtpgidiompdabdaaGreatAmHm
namespace Go.Proofs.YtpgidiompdabdaaGreat.AM
open Go Go.RowKit
set_option linter.unusedSimpArgs false
set_option linter.unusedVariables false

section
variable {P : Program} {b : Bt} {h h1 : AH} {base : Nat} {w0 w : World} {e : Env} {a : Act} {n : Nat}

def OutN (b : Bt) (h1 : AH) (base : Nat) (w0 w : World) (v : Value) (r : Result Next) : Prop :=
  ∃ c nx v' w1, r = .ok nx w1 ∧ (nx = .value v' ∨ (nx = .skip ∧ v' = undef)) ∧ VR (b ++ c) w1.shape? v v' ∧ SLe w.shape? w1.shape? ∧ Sim (b ++ c) h1 base w0 w1
theorem OutN.of {v : Value} {s : Sem Value} (H : Out b h1 base w0 w v (s.run P w)) : OutN b h1 base w0 w v ((do pure (.value (← s)) : Sem Next).run P w) := by
  obtain ⟨c, v', w1, hr, hv, hS, HS⟩ := H
  exact ⟨c, .value v', v', w1, by simp [hr], .inl rfl, hv, hS, HS⟩
def nx (s : Sem Value) : Sem Next := do pure (.value (← s))
def opSem (op : BinOp) (t : TypeId) (x y : Operand) (u v : Value) : Sem Value := do eqGuard op t x y u v; binOp op t u v
theorem OutN.nx {v : Value} {s : Sem Value} (H : Out b h1 base w0 w v (s.run P w)) : OutN b h1 base w0 w v ((AM.nx s).run P w) := OutN.of H
theorem OutN.ofVal {v : Value} {r : Result Next} {v' : Value} (H : Sim b h base w0 w) (hr : r = .ok (.value v') w) (hv : VR b w.shape? v v') : OutN b h base w0 w v r :=
  ⟨[], .value v', v', w, hr, .inl rfl, by rw [List.append_nil]; exact hv, SLe.refl _, by rw [List.append_nil]; exact H⟩
theorem vr_undef {S : Sh} : VR b S undef undef := .tuple rfl (fun i v v' h => by simp at h)
theorem OutN.unit {s : Sem Unit} {w1 : World} (hr : s.run P w = .ok () w1) (hS : SLe w.shape? w1.shape?) (H : Sim b h1 base w0 w1) : OutN b h1 base w0 w undef ((do s; pure .skip : Sem Next).run P w) :=
  ⟨[], .skip, undef, w1, by simp [hr], .inr ⟨rfl, rfl⟩, vr_undef, hS, by rw [List.append_nil]; exact H⟩

theorem mm_sound (mx : Bool) : ∀ (v : Value) (vs : List Value) (r : Value), mmV mx v vs = some r → (vs.foldlM (if mx then Builtin.max2 else Builtin.min2) v).run P w = .ok r w ∧ (vs = [] ∧ r = v ∨ g0 r = true) ∧ ∀ x ∈ v :: vs, vs = [] ∨ g0 x = true
  | v, [], r, hr => by simp only [mmV, Option.some.injEq] at hr; subst hr; exact ⟨rfl, .inl ⟨rfl, rfl⟩, fun _ _ => .inl rfl⟩
  | v, u :: vs, r, hr => by
    cases v <;> cases u <;> (first | (simp [mmV] at hr; done) | skip)
    simp only [mmV] at hr
    rename_i k x k2 y
    obtain ⟨h1, h2, h3⟩ := mm_sound mx _ vs r hr
    refine ⟨?_, .inr ?_, ?_⟩
    · rw [List.foldlM_cons]
      have : ((if mx then Builtin.max2 else Builtin.min2) (.int k x) (.int k2 y)).run P w = .ok (.int k (if mx = true then if y > x then y else x else if y < x then y else x)) w := by
        cases mx <;> simp [Builtin.max2, Builtin.min2]
      simp only [Sem.run_bind, this, Result.andThen_ok]; exact h1
    · rcases h2 with ⟨_, rfl⟩ | h2
      · rfl
      · exact h2
    · intro z hz
      refine .inr ?_
      rcases List.mem_cons.1 hz with rfl | hz
      · rfl
      · rcases List.mem_cons.1 hz with rfl | hz
        · rfl
        · rcases h3 z (List.mem_cons_of_mem _ hz) with rfl | h
          · simp at hz
          · exact h
theorem lr_scal {l l' : List Value} {S : Sh} (hl : LR (VR b S) l l') (hg : ∀ x ∈ l, g0 x = true) : l' = l := by
  induction l generalizing l' with
  | nil => exact hl.unnil
  | cons x l ih =>
    obtain ⟨x', r, rfl, hx, hr⟩ := hl.uncons
    rw [hx.g0_inv (hg x (by simp)), ih hr (fun y hy => hg y (by simp [hy]))]
theorem toList_map_eval (args : Array Operand) : (args.map a.eval).toList = args.toList.map a.eval := by simp

theorem part_form {t : TypeId} {agg : Bool} {m off : Nat} {cs : Array Value} {u : Value} (hf : form P t = some (agg, m)) (hl : off + m ≤ cs.size) (hu : mkV agg ((cs.toList.drop off).take m) = some u) :
    (part t cs off).run P w = .ok u w := by
  unfold form at hf
  split at hf
  · rename_i k' h1 h2
    simp only [Option.some.injEq, Prod.mk.injEq] at hf; obtain ⟨rfl, rfl⟩ := hf
    simp only [mkV, Option.some.injEq] at hu; subst hu
    simp only [part, Sem.run_bind, run_agg h1, Result.andThen_ok, if_true, run_size h2, Sem.run_pure]
    congr 2
    apply Array.ext'
    simp [List.drop_take]
  · rename_i h1 h2
    simp only [Option.some.injEq, Prod.mk.injEq] at hf; obtain ⟨rfl, rfl⟩ := hf
    have hlt : off < cs.size := by omega
    rw [List.drop_eq_getElem_cons (by simpa using hlt)] at hu
    simp only [List.take_succ_cons, List.take_zero, mkV, Option.some.injEq] at hu; subst hu
    simp only [part, Sem.run_bind, run_agg h1, Result.andThen_ok, Bool.false_eq_true, if_false]
    simp [hlt]
  · exact absurd hf (by simp)
theorem rOpds_one {l : List Operand} {x : Opd} (h : rOpds l = some [x]) : ∃ X, l = [X] ∧ rOpd X = some x := by
  match l, h with
  | [], h => simp [rOpds] at h
  | X :: r, h =>
    simp only [rOpds] at h
    split at h
    · rename_i o os h1 h2
      simp only [Option.some.injEq, List.cons.injEq] at h; obtain ⟨rfl, rfl⟩ := h
      cases r with
      | nil => exact ⟨X, rfl, h1⟩
      | cons Y r =>
        simp only [rOpds] at h2
        split at h2 <;> simp at h2
    · exact absurd h (by simp)
theorem rOpds_two {l : List Operand} {x y : Opd} (h : rOpds l = some [x, y]) : ∃ X Y, l = [X, Y] ∧ rOpd X = some x ∧ rOpd Y = some y := by
  match l, h with
  | [], h => simp [rOpds] at h
  | X :: r, h =>
    simp only [rOpds] at h
    split at h
    · rename_i o os h1 h2
      simp only [Option.some.injEq, List.cons.injEq] at h; obtain ⟨rfl, rfl⟩ := h
      obtain ⟨Y, rfl, h3⟩ := rOpds_one h2
      exact ⟨X, Y, rfl, h1, h3⟩
    · exact absurd h (by simp)
theorem bi_run {c : Call} {bi : Builtin} {ty : TypeId} (hc : c.callee = .builtin bi) : ∃ K, ((do let d ← Go.resolve a.eval c ty; invoke d.target d.args) : Sem Next).run P w =
    (builtin bi c.argTypes ty K (c.args.map a.eval)).run P w := by
  apply Exists.intro
  simp only [Go.resolve, hc, Sem.run_bind, Sem.run_pure, Result.andThen_ok, invoke]
  rfl
theorem getObj_ok {r : Nat} {o : Obj} (h : w.heap[r]? = some o) (ho : ∀ c t f, o ≠ .cells c t f := by intro c t f h; cases h) : (getObj r).run P w = .ok o w := by
  simp only [getObj, Sem.run, h]
theorem setObj_ok {r : Nat} {o' o : Obj} (h : w.heap[r]? = some o') (ho : ∀ c t f, o' ≠ .cells c t f := by intro c t f h; cases h) : (setObj r o).run P w = .ok () (wset w r o) := by
  simp only [setObj, Sem.run, h]
  cases o' <;> first | rfl | exact absurd rfl (ho _ _ _)
theorem arg0 {args : Array Operand} {l : List Operand} {X : Operand} (h : args.toList = X :: l) : (args.map a.eval)[0]? = some (a.eval X) := by
  rw [Array.getElem?_map, ← Array.getElem?_toList, h]; rfl
theorem arg1 {args : Array Operand} {l : List Operand} {X Y : Operand} (h : args.toList = X :: Y :: l) : (args.map a.eval)[1]? = some (a.eval Y) := by
  rw [Array.getElem?_map, ← Array.getElem?_toList, h]; rfl
theorem at0 {T : Array TypeId} {d : TypeDesc} (h : (T[0]?).bind P.underlying = some d) : ∃ t, T[0]? = some t ∧ P.underlying t = some d := Option.bind_eq_some_iff.1 h
theorem len_sound (H : Sim b h base w0 w) (R : Rl b e w a n) {T : Array TypeId} {ty : TypeId} {args : Array Operand} {x : Opd} {X : Operand} {kd : Nat} {d : TypeDesc} {v : Value}
    (hl : args.toList = [X]) (hx : rOpd X = some x) (hd : (T[0]?).bind P.underlying = some d) (hk : (kd = 0 ∧ d = .string) ∨ (kd = 1 ∧ ∃ u, d = .slice u) ∨ (kd = 2 ∧ ∃ u u', d = .map u u'))
    (hv : ev (.len kd x) e h = some (v, h1)) : Out b h1 base w0 w v ((Builtin.len_ T ty (args.map a.eval)).run P w) := by
  obtain ⟨t, ht, hd⟩ := at0 hd
  have ha := arg0 (a := a) hl
  simp only [ev] at hv
  split at hv
  · rename_i s hxv
    have hz : d = .string := by rcases hk with ⟨_, h⟩ | ⟨h, _⟩ | ⟨h, _⟩ <;> first | exact h | cases h
    simp only [Option.some.injEq, Prod.mk.injEq] at hv; obtain ⟨rfl, rfl⟩ := hv
    rw [(opd_sound R hx hxv).string_inv] at ha
    exact Out.scal H (by simp only [Builtin.len_, ht, ha, Sem.run_bind, run_under hd, Result.andThen_ok, hz, Sem.run_pure]; rfl) rfl
  · rename_i ad m c hxv
    obtain ⟨u, hz⟩ : ∃ u, d = .slice u := by rcases hk with ⟨h, _⟩ | ⟨_, h⟩ | ⟨h, _⟩ <;> first | exact h | cases h
    simp only [Option.some.injEq, Prod.mk.injEq] at hv; obtain ⟨rfl, rfl⟩ := hv
    have hform : ∃ a' c', a.eval X = .slice a' m c' := by
      have hrel := opd_sound R hx hxv
      generalize a.eval X = u at hrel
      cases hrel with
      | scal hg => exact ⟨_, _, rfl⟩
      | slice _ _ _ _ => exact ⟨_, _, rfl⟩
      | slice0 => exact ⟨_, _, rfl⟩
    obtain ⟨a', c', hx'⟩ := hform
    rw [hx'] at ha
    exact Out.scal H (by simp only [Builtin.len_, ht, ha, Sem.run_bind, run_under hd, Result.andThen_ok, hz, Sem.run_pure]; rfl) rfl
  · rename_i hxv
    obtain ⟨u, u', hz⟩ : ∃ u u', d = .map u u' := by rcases hk with ⟨h, _⟩ | ⟨h, _⟩ | ⟨_, h⟩ <;> first | exact h | cases h
    simp only [Option.some.injEq, Prod.mk.injEq] at hv; obtain ⟨rfl, rfl⟩ := hv
    rw [(opd_sound R hx hxv).g0_inv rfl] at ha
    exact Out.scal H (by simp only [Builtin.len_, ht, ha, Sem.run_bind, run_under hd, Result.andThen_ok, hz, Sem.run_pure]; rfl) rfl
  · rename_i i hxv
    obtain ⟨u, u', hz⟩ : ∃ u u', d = .map u u' := by rcases hk with ⟨h, _⟩ | ⟨h, _⟩ | ⟨_, h⟩ <;> first | exact h | cases h
    simp only [Option.map_eq_some_iff, Prod.mk.injEq] at hv
    obtain ⟨es, hi, rfl, rfl⟩ := hv
    · obtain ⟨k, sb, hb, hp⟩ := (opd_sound R hx hxv).map_inv
      obtain ⟨k2, s2, hb2, hbase, es', clock, hkk, hlr, _⟩ := H.obj i _ (mapAt_get hi)
      rw [hb] at hb2; cases hb2
      have hsz : es'.size = es.length := by have := hlr.1; simpa using this.symm
      rw [hp] at ha
      exact Out.scal H (by simp only [Builtin.len_, ht, ha, Sem.run_bind, run_under hd, Result.andThen_ok, hz, getObj_ok hkk, Sem.run_pure, hsz]; rfl) rfl
  · exact absurd hv (by simp)
theorem copy_sound (H : Sim b h base w0 w) (R : Rl b e w a n) {T : Array TypeId} {ty el : TypeId} {args : Array Operand} {x y : Opd} {X Y : Operand} {m : Nat} {v : Value}
    (hl : args.toList = [X, Y]) (hx : rOpd X = some x) (hy : rOpd Y = some y) (hd : (T[0]?).bind P.underlying = some (.slice el)) (hm : szOf P el = some m)
    (hv : ev (.copy m x y) e h = some (v, h1)) : Out b h1 base w0 w v ((Builtin.copy_ T ty (args.map a.eval)).run P w) := by
  obtain ⟨t, ht, hd⟩ := at0 hd
  have ha := arg0 (a := a) hl
  have hb := arg1 (a := a) hl
  simp only [ev] at hv
  split at hv
  · rename_i u hxv hyv
    simp only [Option.map_eq_some_iff, Prod.mk.injEq] at hv
    obtain ⟨k, hk, rfl, rfl⟩ := hv
    have hk' := lenV_rel (opd_sound R hy hyv) hk
    rw [(opd_sound R hx hxv).nilslice_inv] at ha
    have fc := run_firstCells0 (P := P) (w := w) (es := m) (v := a.eval Y) (by rw [hk']; simp)
    refine Out.scal H ?_ rfl
    have e0 : Nat.min k 0 = 0 := Nat.min_zero k
    simp only [Builtin.copy_, ht, ha, hb, Sem.run_bind, run_under hd, Result.andThen_ok, lenOf_run hk', run_size hm, e0, fc]
    rfl
  · rename_i i off len s' u hxv hyv
    split at hv
    · rename_i k hk
      have hk' := lenV_rel (opd_sound R hy hyv) hk
      have hform : ∃ a' c', a.eval X = .slice (some a') len c' := by
        have hrel := opd_sound R hx hxv
        generalize a.eval X = u at hrel
        cases hrel with
        | scal hg => simp [g0] at hg
        | slice _ _ _ _ => exact ⟨_, _, rfl⟩
        | slice0 => exact ⟨_, _, rfl⟩
      split at hv
      · rename_i h0
        simp only [Option.some.injEq, Prod.mk.injEq] at hv; obtain ⟨rfl, rfl⟩ := hv
        obtain ⟨a', c', hx'⟩ := hform
        rw [hx'] at ha
        have fc := run_firstCells0 (P := P) (w := w) (es := m) (v := a.eval Y) (by rw [hk']; simp)
        refine Out.scal H ?_ rfl
        have h0' : Nat.min k len = 0 := h0
        simp only [Builtin.copy_, ht, ha, hb, Sem.run_bind, run_under hd, Result.andThen_ok, lenOf_run hk', run_size hm, h0', fc]
        simp [storeCells]; rfl
      · rename_i h0
        split at hv
        · rename_i new tt c hfo hi
          split at hv
          · rename_i hcond
            obtain ⟨hs', hoff⟩ := hcond
            simp only [Option.some.injEq, Prod.mk.injEq] at hv; obtain ⟨rfl, rfl⟩ := hv
            obtain ⟨new', fc, hlr⟩ := firstOf_sound (P := P) H (opd_sound R hy hyv) hfo
            have hone := firstOf_ones H hfo
            rcases (opd_sound R hx hxv).slice_inv with ⟨k2, sb, cap, t2, nn, hb2, hl2, hS2, hcap2, hp⟩ | ⟨hz, a', hp⟩
            · have hnl : new.length = min k len * m := by
                unfold firstOf at hfo
                split at hfo
                · split at hfo
                  · rename_i hx; exact absurd hx h0
                  · exact absurd hfo (by simp)
                · split at hfo
                  · split at hfo
                    · split at hfo
                      · simp only [Option.some.injEq] at hfo; subst hfo; simp; omega
                      · exact absurd hfo (by simp)
                    · simp [h0] at hfo
                  · exact absurd hfo (by simp)
                · split at hfo
                  · rename_i hx; simp only [Option.some.injEq] at hfo; subst hfo; rw [hx.1]; simp; have := hx.2; rw [← Nat.min_assoc]; exact Nat.min_eq_left this
                  · exact absurd hfo (by simp)
                · exact absurd hfo (by simp)
              obtain ⟨w1, hst, hsh, HS⟩ := H.write (P := P) hb2 hi hlr (by rw [hnl]; exact hoff) hone
              rw [hp] at ha
              refine ⟨[], goInt ((min k len : Nat) : Int), w1, ?_, .scal rfl, by rw [hsh]; exact SLe.refl _, by rw [List.append_nil]; exact HS⟩
              have e1 : Nat.min k len = min k len := rfl
              simp only [Builtin.copy_, ht, ha, hb, Sem.run_bind, run_under hd, Result.andThen_ok, lenOf_run hk', run_size hm, e1, fc, hst, Sem.run_pure]
            · subst hz; simp at h0
          · exact absurd hv (by simp)
        · exact absurd hv (by simp)
    · exact absurd hv (by simp)
  · exact absurd hv (by simp)
theorem clear_sound (H : Sim b h base w0 w) (R : Rl b e w a n) {T : Array TypeId} {ty el : TypeId} {args : Array Operand} {x : Opd} {X : Operand} {z v : Value}
    (hl : args.toList = [X]) (hx : rOpd X = some x) (hd : (T[0]?).bind P.underlying = some (.slice el)) (hz : zeroOf P el = some z) (hg : (cells z).all g0 = true) (hn : (cells z).length ≠ 0)
    (hv : ev (.clear (cells z) x) e h = some (v, h1)) : Out b h1 base w0 w v ((Builtin.clear_ T ty (args.map a.eval)).run P w) := by
  obtain ⟨t, ht, hd⟩ := at0 hd
  have ha := arg0 (a := a) hl
  simp only [ev] at hv
  split at hv
  · rename_i hxv
    simp only [Option.some.injEq, Prod.mk.injEq] at hv; obtain ⟨rfl, rfl⟩ := hv
    rw [(opd_sound R hx hxv).nilslice_inv] at ha
    exact Out.same H (v' := .tuple #[]) (by simp [Builtin.clear_, ht, ha, run_under hd]) (.tuple rfl (fun i v v' h => by simp at h))
  · rename_i i off len s' hxv
    split at hv
    · rename_i h0
      simp only [Option.some.injEq, Prod.mk.injEq] at hv; obtain ⟨rfl, rfl⟩ := hv
      subst h0
      have hform : ∃ a' c', a.eval X = .slice (some a') 0 c' := by
        have hrel := opd_sound R hx hxv
        generalize a.eval X = u at hrel
        cases hrel with
        | scal hg => simp [g0] at hg
        | slice _ _ _ _ => exact ⟨_, _, rfl⟩
        | slice0 => exact ⟨_, _, rfl⟩
      obtain ⟨a', c', hx'⟩ := hform
      rw [hx'] at ha
      exact Out.same H (v' := .tuple #[]) (by simp [Builtin.clear_, ht, ha, run_under hd]) (.tuple rfl (fun i v v' h => by simp at h))
    · rename_i h0
      split at hv
      · rename_i tt c hi
        split at hv
        · rename_i hcond
          obtain ⟨hs', hoff⟩ := hcond
          simp only [Option.some.injEq, Prod.mk.injEq] at hv; obtain ⟨rfl, rfl⟩ := hv
          rcases (opd_sound R hx hxv).slice_inv with ⟨k2, sb, cap, t2, nn, hb2, hl2, hS2, hcap2, hp⟩ | ⟨hz0, a', hp⟩
          · have hlr : LR (VR b w.shape?) (List.replicate len (cells z)).flatten (Builtin.zeroCells z.cells len).toList := by
              rw [zeroCells_rep]
              refine LR.same fun u hu => ?_
              obtain ⟨y, hy, hxy⟩ := List.mem_flatten.1 hu
              rw [List.eq_of_mem_replicate hy] at hxy
              exact .scal (List.all_eq_true.1 hg u hxy)
            have hones : (List.replicate len (cells z)).flatten.all one = true := by
              refine List.all_eq_true.2 fun u hu => ?_
              obtain ⟨y, hy, hxy⟩ := List.mem_flatten.1 hu
              rw [List.eq_of_mem_replicate hy] at hxy
              exact List.all_eq_true.1 (g0_ones hg) u hxy
            obtain ⟨w1, hst, hsh, HS⟩ := H.write (P := P) hb2 hi hlr (by rw [rep_len]; exact hoff) hones
            rw [hp] at ha
            refine ⟨[], .tuple #[], w1, ?_, .tuple rfl (fun i v v' h => by simp at h), by rw [hsh]; exact SLe.refl _, by rw [List.append_nil]; exact HS⟩
            obtain ⟨m, rfl⟩ : ∃ m, len = m + 1 := ⟨len - 1, by omega⟩
            simp only [Builtin.clear_, ht, ha, Sem.run_bind, run_under hd, Result.andThen_ok, run_zero hz, hst, Sem.run_pure]
          · exact absurd hz0 h0
        · exact absurd hv (by simp)
      · exact absurd hv (by simp)
  · exact absurd hv (by simp)
theorem mm_run (H : Sim b h base w0 w) (R : Rl b e w a n) (mx : Bool) (msg : String) {args : Array Operand} {xs : List Opd} {v : Value} (hx : rOpds args.toList = some xs) (hv : ev (.mm mx xs) e h = some (v, h1)) :
    Out b h1 base w0 w v ((match (args.map a.eval).toList with | [] => (stuck msg : Sem Value) | x :: rest => rest.foldlM (if mx then Builtin.max2 else Builtin.min2) x).run P w) := by
  simp only [ev] at hv
  split at hv
  · rename_i u us hvs
    simp only [Option.map_eq_some_iff, Prod.mk.injEq] at hv
    obtain ⟨r, hr, rfl, rfl⟩ := hv
    have hlr := opds_sound R hx hvs
    rw [← toList_map_eval] at hlr
    obtain ⟨q1, q2, q3⟩ := mm_sound (P := P) (w := w) mx u us r hr
    rcases us with _ | ⟨u2, us⟩
    · obtain ⟨u', r', e1, hu, hr'⟩ := hlr.uncons
      have := hr'.unnil
      subst this
      rw [e1]
      simp only [mmV, Option.some.injEq] at hr; subst hr
      exact Out.same H rfl hu
    · have := lr_scal hlr (fun x hx => by rcases q3 x hx with h | h; · cases h
                                          · exact h)
      rw [this]
      rcases q2 with ⟨h, _⟩ | h
      · cases h
      · exact Out.scal H q1 h
  · exact absurd hv (by simp)
theorem op_sound (H : Sim b h base w0 w) (R : Rl b e w a n) {o : Oper} {r : ROp} (hr : resolve P o.op = some r) (hc : r.isCall = false) {v : Value} (hv : ev r e h = some (v, h1)) :
    OutN b h1 base w0 w v ((execOp a.eval o).run P w) := by
  obtain ⟨dst, op, ty, pos, after, guard⟩ := o
  cases op <;> simp only [execOp] <;> simp only [resolve] at hr <;> try (cases hr; done)
  case move x =>
    simp only [Option.map_eq_some_iff] at hr
    obtain ⟨xo, hx, rfl⟩ := hr
    simp only [ev, Option.map_eq_some_iff, Prod.mk.injEq] at hv
    obtain ⟨u, hu, rfl, rfl⟩ := hv
    exact OutN.ofVal H rfl (opd_sound R hx hu)
  case assign x =>
    simp only [Option.map_eq_some_iff] at hr
    obtain ⟨xo, hx, rfl⟩ := hr
    simp only [ev, Option.map_eq_some_iff, Prod.mk.injEq] at hv
    obtain ⟨u, hu, rfl, rfl⟩ := hv
    exact OutN.ofVal H rfl (opd_sound R hx hu)
  case pick c x y =>
    split at hr
    · rename_i co xo yo e1 e2 e3
      simp only [Option.some.injEq] at hr; subst hr
      simp only [ev] at hv
      split at hv
      · rename_i hcv
        simp only [Option.map_eq_some_iff, Prod.mk.injEq] at hv
        obtain ⟨u, hu, rfl, rfl⟩ := hv
        refine OutN.ofVal H ?_ (opd_sound R e2 hu)
        simp [(opd_sound R e1 hcv).bool_inv, asBool]
      · rename_i hcv
        simp only [Option.map_eq_some_iff, Prod.mk.injEq] at hv
        obtain ⟨u, hu, rfl, rfl⟩ := hv
        refine OutN.ofVal H ?_ (opd_sound R e3 hu)
        simp [(opd_sound R e1 hcv).bool_inv, asBool]
      · exact absurd hv (by simp)
    · exact absurd hr (by simp)
  case alloc t =>
    simp only [Option.bind_eq_some_iff] at hr
    obtain ⟨z, hz, hr⟩ := hr
    split at hr
    · rename_i hg
      simp only [Option.some.injEq] at hr; subst hr
      simp only [ev, Option.some.injEq, Prod.mk.injEq] at hv; obtain ⟨rfl, rfl⟩ := hv
      refine OutN.of ⟨[(w.heap.size, 0)], _, w.alloc (.cells z.cells t), ?_, new_ptr H _, shape_push _ _, push_list H (g0_ones hg) (lr_g0 hg)⟩
      simp only [Instr.alloc, Sem.run_bind, run_zero hz, Result.andThen_ok, newVar, newRow, run_newObj, Sem.run_pure]; rfl
    · exact absurd hr (by simp)
  case box t x =>
    simp only [Option.map_eq_some_iff] at hr
    obtain ⟨xo, hx, rfl⟩ := hr
    simp only [ev] at hv
    split at hv
    · rename_i u hu
      split at hv
      · rename_i hg
        simp only [Option.some.injEq, Prod.mk.injEq] at hv; obtain ⟨rfl, rfl⟩ := hv
        refine OutN.of ⟨[(w.heap.size, 0)], _, w.alloc (.cells (a.eval x).cells t), ?_, new_ptr H _, shape_push _ _, push_list H hg (opd_sound R hx hu).cells⟩
        simp only [Instr.box, Sem.run_bind, Result.andThen_ok, newVar, newRow, run_newObj, Sem.run_pure]; rfl
      · exact absurd hv (by simp)
    · exact absurd hv (by simp)
  case build t parts => exact OutN.of (build_sound H R (by simp only [resolve]; exact hr) hv)
  case buildSlice t len parts => exact OutN.of (lit_sound H R (by simp only [resolve]; exact hr) hv)
  case load t x =>
    split at hr
    · rename_i agg m xo hf hx
      simp only [Option.some.injEq] at hr; subst hr
      simp only [ev] at hv
      split at hv
      · rename_i i off hxv
        split at hv
        · rename_i ro tt c hi
          split at hv
          · rename_i hm
            simp only [Option.map_eq_some_iff, Prod.mk.injEq] at hv
            obtain ⟨u, hu, rfl, rfl⟩ := hv
            obtain ⟨k, s, hb, hpv⟩ := (opd_sound R hx hxv).ptr_inv
            refine OutN.of ?_
            simp only [Instr.loadAt, Instr.sureAddr, hpv, Sem.run_bind, Sem.run_pure, Result.andThen_ok]
            exact load_sound H hf hb hi hm hu
          · exact absurd hv (by simp)
        · exact absurd hv (by simp)
      · exact absurd hv (by simp)
    · exact absurd hr (by simp)
  case store t x y =>
    split at hr
    · rename_i m xo yo hm hx hy
      simp only [Option.some.injEq] at hr; subst hr
      simp only [ev] at hv
      split at hv
      · rename_i i off u hxv hyv
        split at hv
        · rename_i tt c hi
          split at hv
          · rename_i hcond
            obtain ⟨hl, hoff, ho⟩ := hcond
            simp only [Option.some.injEq, Prod.mk.injEq] at hv; obtain ⟨rfl, rfl⟩ := hv
            obtain ⟨k, s, hb, hpv⟩ := (opd_sound R hx hxv).ptr_inv
            have hcl := (opd_sound R hy hyv).cells
            obtain ⟨w1, hst, hsh, HS⟩ := H.write (P := P) hb hi hcl (by rw [hl]; exact hoff) ho
            refine OutN.unit ?_ (by rw [hsh]; exact SLe.refl _) HS
            have hl2 : (a.eval y).cells.size = m := by have := hcl.1; unfold cells at this hl; simp at this hl; omega
            simp only [Instr.storeAt, Instr.sureAddr, hpv, storeVar, Sem.run_bind, Sem.run_pure, Result.andThen_ok, run_size hm]
            rw [if_neg (by simp [hl2])]
            exact hst
          · exact absurd hv (by simp)
        · exact absurd hv (by simp)
      · exact absurd hv (by simp)
    · exact absurd hr (by simp)
  case nilCheck x =>
    simp only [Option.map_eq_some_iff] at hr
    obtain ⟨xo, hx, rfl⟩ := hr
    simp only [ev] at hv
    split at hv
    · rename_i ad hxv
      simp only [Option.some.injEq, Prod.mk.injEq] at hv; obtain ⟨rfl, rfl⟩ := hv
      have hrel := opd_sound R hx hxv
      have : ∃ ad', a.eval x = .pointer (some ad') := by
        generalize a.eval x = u at hrel
        cases hrel with
        | scal hg => simp [g0] at hg
        | ptr _ => exact ⟨_, rfl⟩
      obtain ⟨ad', hp⟩ := this
      refine OutN.ofVal H (v' := a.eval x) ?_ hrel
      rw [hp]; rfl
    · exact absurd hv (by simp)
  case binOp op t x y yt =>
    change OutN b h1 base w0 w v ((AM.nx (opSem op t x y (a.eval x) (a.eval y))).run P w)
    split at hr
    · rename_i xo yo hx hy
      have binCase : ∀ r', r' = ROp.bin op xo yo → ev r' e h = some (v, h1) → OutN b h1 base w0 w v ((AM.nx (opSem op t x y (a.eval x) (a.eval y))).run P w) := by
        intro r' hr' hv
        subst hr'
        simp only [ev] at hv
        split at hv
        · rename_i u1 u2 h1' h2'
          simp only [Option.map_eq_some_iff, Prod.mk.injEq] at hv
          obtain ⟨rr, hrr, rfl, rfl⟩ := hv
          have hx' := opd_sound R hx h1'
          have hy' := opd_sound R hy h2'
          obtain ⟨ex, ey⟩ := binV_rel hrr hx' hy'
          rw [ex, ey]
          obtain ⟨q1, q2⟩ := binV_sound (P := P) (w := w) (t := t) (x := x) (y := y) hrr
          exact OutN.nx (Out.scal H q1 q2)
        · exact absurd hv (by simp)
      have eqCase : ∀ neg : Bool, op = (if neg then .neq else .eql) → ∀ r', (P.underlying t = some .bool ∧ r' = ROp.eqB neg xo yo ∨ (∃ d kd, P.underlying t = some d ∧ kindIs kd d ∧ r' = ROp.eqN neg kd xo yo) ∨ (∃ ks, P.eqGuardType P.depth t = false ∧ (∃ fs, P.underlying t = some (.struct fs)) ∧ flat P 12 t = some ks ∧ r' = ROp.eqA neg ks xo yo)) → ev r' e h = some (v, h1) →
          OutN b h1 base w0 w v ((AM.nx (opSem op t x y (a.eval x) (a.eval y))).run P w) := by
        intro neg hop r' hcases hv
        rcases hcases with ⟨hu, rfl⟩ | ⟨d, kd, hu, hk, rfl⟩ | ⟨ks, hG, ⟨fs, hu⟩, hks, rfl⟩
        · simp only [ev] at hv
          split at hv
          · rename_i p q h1' h2'
            simp only [Option.some.injEq, Prod.mk.injEq] at hv; obtain ⟨rfl, rfl⟩ := hv
            rw [(opd_sound R hx h1').bool_inv, (opd_sound R hy h2').bool_inv]
            refine OutN.nx (Out.scal H (v := .bool (if neg = true then !(p == q) else p == q)) ?_ rfl)
            have hE : (Op.equal t (.bool p) (.bool q)).run P w = .ok (p == q) w := by
              unfold Op.equal Op.maxDepth
              exact run_equalIn_bool' w 9999 t p q hu
            subst hop
            cases neg <;> simp [opSem, eqGuard, binOp, hE]
          · exact absurd hv (by simp)
        · simp only [ev] at hv
          split at hv
          · rename_i p q h1' h2'
            simp only [Option.map_eq_some_iff, Prod.mk.injEq] at hv
            obtain ⟨rr, hrr, rfl, rfl⟩ := hv
            have hrr' := eqNil_rel hrr (opd_sound R hx h1') (opd_sound R hy h2')
            have g1' := eqGuard_nil (P := P) (w := w) (op := op) (t := t) (x := x) (y := y) hrr'
            have e1' := equal_nil (w := w) hu hk hrr'
            refine OutN.nx (Out.scal H (v := .bool (if neg = true then !rr else rr)) ?_ rfl)
            obtain ⟨xx, yy, hxx, hyy, _⟩ := eqNil_both hrr'
            have hb : binOp op t (a.eval x) (a.eval y) = (if neg then (do pure (.bool (!(← Op.equal t (a.eval x) (a.eval y))))) else (do pure (.bool (← Op.equal t (a.eval x) (a.eval y))))) := by
              subst hop
              generalize a.eval x = X at hxx ⊢
              generalize a.eval y = Y at hyy ⊢
              rcases kd with _ | _ | _ | _ | kd
              · obtain ⟨_, rfl, _⟩ := isNil0 hxx; obtain ⟨_, rfl, _⟩ := isNil0 hyy; cases neg <;> rfl
              · obtain ⟨_, _, _, rfl, _⟩ := isNil1 hxx; obtain ⟨_, _, _, rfl, _⟩ := isNil1 hyy; cases neg <;> rfl
              · obtain ⟨_, rfl, _⟩ := isNil2 hxx; obtain ⟨_, rfl, _⟩ := isNil2 hyy; cases neg <;> rfl
              · rcases isNil3 hxx with ⟨rfl, _⟩ | ⟨_, _, _, rfl, _⟩ <;> rcases isNil3 hyy with ⟨rfl, _⟩ | ⟨_, _, _, rfl, _⟩ <;> cases neg <;> rfl
              · simp [isNil] at hxx
            simp only [opSem, Sem.run_bind, g1', Result.andThen_ok, hb]
            cases neg <;> simp [e1']
          · exact absurd hv (by simp)
        · simp only [ev] at hv
          split at hv
          · rename_i p q h1' h2'
            split at hv
            · rename_i hsz
              simp only [Option.map_eq_some_iff, Prod.mk.injEq] at hv
              obtain ⟨rr, hrr, rfl, rfl⟩ := hv
              obtain ⟨p', ep, lp⟩ := (opd_sound R hx h1').agg_inv
              obtain ⟨q', eq_, lq⟩ := (opd_sound R hy h2').agg_inv
              have hg : ∀ (ks : List SK) (l1 l2 m1 m2 : List Value) (r : Bool), kEq ks l1 l2 = some r → LR (VR b w.shape?) l1 m1 → LR (VR b w.shape?) l2 m2 → l1.length = ks.length → l2.length = ks.length → kEq ks m1 m2 = some r := by
                intro ks
                induction ks with
                | nil =>
                  intro l1 l2 m1 m2 r hk r1 r2 z1 z2
                  cases l1 <;> simp at z1; cases l2 <;> simp at z2
                  rw [r1.unnil, r2.unnil]; exact hk
                | cons k ks ih =>
                  intro l1 l2 m1 m2 r hk r1 r2 z1 z2
                  cases l1 with
                  | nil => simp at z1
                  | cons x1 l1 =>
                    cases l2 with
                    | nil => simp at z2
                    | cons x2 l2 =>
                      obtain ⟨y1, m1', rfl, hy1, r1'⟩ := r1.uncons
                      obtain ⟨y2, m2', rfl, hy2, r2'⟩ := r2.uncons
                      simp only [kEq] at hk ⊢
                      have hk1 : ∀ q, kEq1 k x1 x2 = some q → kEq1 k y1 y2 = some q := by
                        intro q hq
                        have gx : g0 x1 = true := by cases k <;> cases x1 <;> simp [kEq1, g0] at hq ⊢
                        have gy : g0 x2 = true := by cases k <;> cases x1 <;> cases x2 <;> simp [kEq1, g0] at hq ⊢
                        rw [hy1.g0_inv gx, hy2.g0_inv gy]; exact hq
                      cases hq : kEq1 k x1 x2 with
                      | none => rw [hq] at hk; exact absurd hk (by simp)
                      | some qq =>
                        rw [hq] at hk; rw [hk1 qq hq]
                        cases qq
                        · exact hk
                        · exact ih l1 l2 m1' m2' r hk r1' r2' (by simpa using z1) (by simpa using z2)
              have hrr2 := hg ks _ _ _ _ rr hrr lp lq (by simpa using hsz.1) (by simpa using hsz.2)
              have hagg : isAggP P t = some true := by simp [isAggP, hu, isAggD]
              have hE : (Op.equal t (.agg p') (.agg q')).run P w = .ok rr w := by
                unfold Op.equal Op.maxDepth
                refine equal_flat 12 t ks hks p'.toList q'.toList _ _ rr ?_ ?_ ?_ ?_ hrr2 10000 (by omega)
                · have := lp.1; simp at this; simp; omega
                · have := lq.1; simp at this; simp; omega
                · simp [mkT, hagg]
                · simp [mkT, hagg]
              rw [ep, eq_]
              refine OutN.nx (Out.scal H (v := .bool (if neg = true then !rr else rr)) ?_ rfl)
              subst hop
              cases neg <;> simp [opSem, eqGuard, binOp, hE, hG]
            · exact absurd hv (by simp)
          · exact absurd hv (by simp)
      unfold rBin at hr
      split at hr
      · split at hr
        · simp only [Option.some.injEq] at hr; exact binCase r hr.symm hv
        · simp only [Option.some.injEq] at hr; exact binCase r hr.symm hv
        · rename_i hu; simp only [Option.some.injEq] at hr; exact eqCase false rfl r (.inl ⟨hu, hr.symm⟩) hv
        · rename_i hu; simp only [Option.some.injEq] at hr; exact eqCase false rfl r (.inr (.inl ⟨_, 0, hu, rfl, hr.symm⟩)) hv
        · rename_i hu; simp only [Option.some.injEq] at hr; exact eqCase false rfl r (.inr (.inl ⟨_, 1, hu, rfl, hr.symm⟩)) hv
        · rename_i hu; simp only [Option.some.injEq] at hr; exact eqCase false rfl r (.inr (.inl ⟨_, 2, hu, rfl, hr.symm⟩)) hv
        · rename_i hu; simp only [Option.some.injEq] at hr; exact eqCase false rfl r (.inr (.inl ⟨_, 3, hu, rfl, hr.symm⟩)) hv
        · rename_i hu
          split at hr
          · exact absurd hr (by simp)
          · rename_i hG
            simp only [Option.map_eq_some_iff] at hr
            obtain ⟨ks, hks, rfl⟩ := hr
            exact eqCase false rfl _ (.inr (.inr ⟨ks, by simpa using hG, ⟨_, hu⟩, hks, rfl⟩)) hv
        · exact absurd hr (by simp)
      · split at hr
        · simp only [Option.some.injEq] at hr; exact binCase r hr.symm hv
        · simp only [Option.some.injEq] at hr; exact binCase r hr.symm hv
        · rename_i hu; simp only [Option.some.injEq] at hr; exact eqCase true rfl r (.inl ⟨hu, hr.symm⟩) hv
        · rename_i hu; simp only [Option.some.injEq] at hr; exact eqCase true rfl r (.inr (.inl ⟨_, 0, hu, rfl, hr.symm⟩)) hv
        · rename_i hu; simp only [Option.some.injEq] at hr; exact eqCase true rfl r (.inr (.inl ⟨_, 1, hu, rfl, hr.symm⟩)) hv
        · rename_i hu; simp only [Option.some.injEq] at hr; exact eqCase true rfl r (.inr (.inl ⟨_, 2, hu, rfl, hr.symm⟩)) hv
        · rename_i hu; simp only [Option.some.injEq] at hr; exact eqCase true rfl r (.inr (.inl ⟨_, 3, hu, rfl, hr.symm⟩)) hv
        · rename_i hu
          split at hr
          · exact absurd hr (by simp)
          · rename_i hG
            simp only [Option.map_eq_some_iff] at hr
            obtain ⟨ks, hks, rfl⟩ := hr
            exact eqCase true rfl _ (.inr (.inr ⟨ks, by simpa using hG, ⟨_, hu⟩, hks, rfl⟩)) hv
        · exact absurd hr (by simp)
      · simp only [Option.some.injEq] at hr; exact binCase r hr.symm hv
    · exact absurd hr (by simp)
  case unOp op ut x =>
    simp only [Option.map_eq_some_iff] at hr
    obtain ⟨xo, hx, rfl⟩ := hr
    simp only [ev] at hv
    split at hv
    · rename_i u hu
      simp only [Option.map_eq_some_iff, Prod.mk.injEq] at hv
      obtain ⟨rr, hrr, rfl, rfl⟩ := hv
      obtain ⟨q1, q2, q3⟩ := unV_sound (P := P) (w := w) hrr
      rw [(opd_sound R hx hu).g0_inv q3]
      exact OutN.of (Out.scal H q1 q2)
    · exact absurd hv (by simp)
  case convert s d x =>
    split at hr
    · rename_i xo hs hd hx
      simp only [Option.some.injEq] at hr; subst hr
      simp only [ev] at hv
      split at hv
      · rename_i kk nn hxv
        simp only [Option.some.injEq, Prod.mk.injEq] at hv; obtain ⟨rfl, rfl⟩ := hv
        rw [(opd_sound R hx hxv).int_inv]
        exact OutN.of (Out.scal H (by simp [convert, run_under hs, run_under hd, Conv.intToInt]) rfl)
      · exact absurd hv (by simp)
    · rename_i xo hs hd hx
      simp only [Option.some.injEq] at hr; subst hr
      simp only [ev] at hv
      split at hv
      · rename_i u1 u2 h1' h2'
        simp only [Opd.ev, Option.some.injEq] at h2'; subst h2'
        simp only [Option.map_eq_some_iff, Prod.mk.injEq] at hv
        obtain ⟨u, hu, rfl, rfl⟩ := hv
        cases u1 <;> simp [binV] at hu
        rename_i str
        simp only [strBin] at hu
        split at hu
        · simp only [Option.some.injEq] at hu; subst hu
          rw [(opd_sound R hx h1').string_inv]
          exact OutN.of (Out.scal H (by simp [convert, run_under hs, run_under hd]) rfl)
        · exact absurd hu (by simp)
      · exact absurd hv (by simp)
    · rename_i el xo hs hd hx
      split at hr
      · rename_i hel
        simp only [Option.some.injEq] at hr; subst hr
        simp only [ev] at hv
        split at hv
        · rename_i ad len sz hxv
          split at hv
          · rename_i vs hfo
            simp only [Option.map_eq_some_iff, Prod.mk.injEq] at hv
            obtain ⟨l, hl, rfl, rfl⟩ := hv
            have hrel := opd_sound R hx hxv
            obtain ⟨new, hf1, hf2⟩ := firstOf_sound (P := P) H hrel hfo
            have hbytes : ∀ (vs : List Value) (l : List UInt8), bytesIn vs = some l → (∀ x ∈ vs, g0 x = true) ∧ ∃ ns : List Int, vs = ns.map (Value.int .u8) ∧ l = ns.map fun n => UInt8.ofNat n.toNat := by
              intro vs
              induction vs with
              | nil => intro l hl; simp only [bytesIn, Option.some.injEq] at hl; subst hl; exact ⟨by simp, [], rfl, rfl⟩
              | cons v vs ih =>
                intro l hl
                cases v <;> (first | (simp [bytesIn] at hl; done) | skip)
                rename_i k nn
                cases k <;> (first | (simp [bytesIn] at hl; done) | skip)
                simp only [bytesIn, Option.map_eq_some_iff] at hl
                obtain ⟨l', hl', rfl⟩ := hl
                obtain ⟨i1, ns, i2, i3⟩ := ih l' hl'
                refine ⟨fun x hx => ?_, nn :: ns, by rw [i2]; rfl, by rw [i3]; rfl⟩
                rcases List.mem_cons.1 hx with rfl | hx
                · rfl
                · exact i1 x hx
            obtain ⟨hg, ns, hns, hlns⟩ := hbytes vs l hl
            have := lr_scal hf2 hg
            subst this
            have hfold : ∀ (ns : List Int) (s : ByteArray), ns.foldl (fun r n => r.push (UInt8.ofNat n.toNat)) s = ⟨s.data ++ (ns.map fun n => UInt8.ofNat n.toNat).toArray⟩ := by
              intro ns
              induction ns with
              | nil => intro s; simp
              | cons n ns ih => intro s; rw [List.foldl_cons, ih]; simp [ByteArray.push]
            cases ad with
            | none =>
              have hz : len = 0 ∧ sz = 0 := by
                simp only [firstOf] at hfo
                split at hfo
                · rename_i hq; simp at hq; exact hq
                · rename_i hq; simp at hq
                · rename_i hq; simp at hq
                · exact absurd hfo (by simp)
              obtain ⟨rfl, rfl⟩ := hz
              rw [hrel.nilslice_inv]
              simp only [firstOf, if_true, Option.some.injEq] at hfo; subst hfo
              simp only [bytesIn, Option.some.injEq] at hl; subst hl
              refine OutN.of (Out.scal H ?_ rfl)
              rw [run_convert_bytes_string (P := P) w s d el none 0 0 hs hel hd]
              simp [Conv.bytesToString]; rfl
            | some ad =>
              have hform : ∃ a' c', a.eval x = .slice (some a') len c' := by
                generalize a.eval x = u at hrel
                cases hrel with
                | scal hg => simp [g0] at hg
                | slice _ _ _ _ => exact ⟨_, _, rfl⟩
                | slice0 => exact ⟨_, _, rfl⟩
              obtain ⟨a', c', hx'⟩ := hform
              rw [hx'] at hf1 ⊢
              have hload : (loadCells a' (len * 1)).run P w = .ok (ns.map (Value.int .u8)).toArray w := by
                rw [← hns]; simpa [Builtin.firstCells] using hf1
              rw [Nat.mul_one] at hload
              refine OutN.of (Out.scal H ?_ rfl)
              rw [run_convert_bytes_string (P := P) w s d el (some a') len c' hs hel hd, run_bytesToString w a' len c' ns hload, hfold, hlns]
              simp [ByteArray.empty, ByteArray.emptyWithCapacity]
              rfl
          · exact absurd hv (by simp)
        · exact absurd hv (by simp)
      · exact absurd hr (by simp)
    · exact absurd hr (by simp)
  case makeInterface t x =>
    split at hr
    · exact absurd hr (by simp)
    · rename_i d xo hni hd hx
      simp only [Option.some.injEq] at hr; subst hr
      simp only [ev, Option.map_eq_some_iff, Prod.mk.injEq] at hv
      obtain ⟨u, hu, rfl, rfl⟩ := hv
      refine OutN.of (Out.same H (v' := .iface t (a.eval x)) ?_ (.iface (opd_sound R hx hu)))
      simp only [Instr.makeInterface, Sem.run_bind, run_under hd, Result.andThen_ok]
      cases d <;> first | rfl | exact absurd hd (fun hh => hni _ hh)
    · exact absurd hr (by simp)
  case typeAssert x xt u ok =>
    cases ok with
    | false => simp only [resolve] at hr; exact absurd hr (by simp)
    | true =>
      simp only [resolve] at hr
      split at hr
      · exact absurd hr (by simp)
      · rename_i d z xo hni hd hz hx
        split at hr
        · rename_i hg
          simp only [Option.some.injEq] at hr; subst hr
          simp only [ev] at hv
          have hdd : ∀ w' : World, True := fun _ => trivial
          split at hv
          · rename_i q y hxv
            simp only [Option.some.injEq, Prod.mk.injEq] at hv; obtain ⟨rfl, rfl⟩ := hv
            obtain ⟨y', hy, hry⟩ := (opd_sound R hx hxv).iface_inv
            rw [hy]
            by_cases e : q = u
            · refine OutN.of (Out.same H (v' := .tuple #[y', .bool true]) ?_ ?_)
              · simp only [Instr.typeAssert, Sem.run_bind, run_under hd, Result.andThen_ok]
                cases d <;> first | exact absurd hd (fun hh => hni _ hh) | simp [e]
              · rw [if_pos e]
                exact VR.of_lr_tuple (l := [y, .bool true]) (l' := [y', .bool true]) (.cons hry (.cons (.scal rfl) .nil))
            · refine OutN.of (Out.same H (v' := .tuple #[z, .bool false]) ?_ ?_)
              · simp only [Instr.typeAssert, Sem.run_bind, run_under hd, Result.andThen_ok]
                cases d <;> first | exact absurd hd (fun hh => hni _ hh) | simp [e, run_zero hz]
              · rw [if_neg e]
                exact VR.of_lr_tuple (l := [z, .bool false]) (l' := [z, .bool false]) (.cons (.g1 hg) (.cons (.scal rfl) .nil))
          · rename_i hxv
            simp only [Option.some.injEq, Prod.mk.injEq] at hv; obtain ⟨rfl, rfl⟩ := hv
            have hy := (opd_sound R hx hxv).g0_inv rfl
            rw [hy]
            refine OutN.of (Out.same H (v' := .tuple #[z, .bool false]) ?_ (VR.of_lr_tuple (l := [z, .bool false]) (l' := [z, .bool false]) (.cons (.g1 hg) (.cons (.scal rfl) .nil))))
            simp only [Instr.typeAssert, Sem.run_bind, run_under hd, Result.andThen_ok]
            cases d <;> first | exact absurd hd (fun hh => hni _ hh) | simp [run_zero hz]
          · exact absurd hv (by simp)
        · exact absurd hr (by simp)
      · exact absurd hr (by simp)
  case makeFunc f first cs =>
    cases f <;> simp only [resolve] at hr <;> try (cases hr; done)
    rename_i fid
    split at hr
    · rename_i hf
      simp only [Option.map_eq_some_iff] at hr
      obtain ⟨co, hco, rfl⟩ := hr
      simp only [ev, Option.map_eq_some_iff, Prod.mk.injEq] at hv
      obtain ⟨vs, hvs, rfl, rfl⟩ := hv
      have hlr := opds_sound R hco hvs
      refine OutN.of (Out.same H (v' := .func (.func fid) #[] (cs.map a.eval)) ?_ ?_)
      · have : first = #[] := Array.eq_empty_of_size_eq_zero hf
        subst this
        simp [Instr.makeFunc]
      · have := VR.of_lr_func (f := fid) hlr
        have e1 : (cs.toList.map a.eval).toArray = cs.map a.eval := Array.ext' (by simp)
        rw [e1] at this
        exact this
    · exact absurd hr (by simp)
  case makeMap t rv =>
    cases rv with
    | some _ => simp only [resolve] at hr; exact absurd hr (by simp)
    | none =>
      simp only [resolve, Option.some.injEq] at hr; subst hr
      simp only [ev, Option.some.injEq, Prod.mk.injEq] at hv; obtain ⟨rfl, rfl⟩ := hv
      refine OutN.of ⟨[(w.heap.size, 0)], .map (some w.heap.size), w.alloc (.map #[] 0), ?_, .map (new_at H), shape_push _ _, ?_⟩
      · simp [Instr.makeMap]
      · exact H.push _ _ ⟨H.le, #[], 0, heap_alloc_new w _, .nil, .nil, MapKept.stamped_empty 0⟩
  case makeSlice t l c => exact OutN.of (mk_sound H R (by simp only [resolve]; exact hr) hv)
  case slice t x lo hi mx => exact OutN.of (cut_sound H R (by simp only [resolve]; exact hr) hv)
  case fieldAddr s x f =>
    split at hr
    · rename_i fs xo hs hx
      simp only [Option.bind_eq_some_iff] at hr
      obtain ⟨fl, hfl, m, hm, hr⟩ := hr
      split at hr
      · exact absurd hr (by simp)
      · rename_i hm0
        simp only [Option.some.injEq] at hr; subst hr
        simp only [ev] at hv
        split at hv
        · rename_i i off hxv
          simp only [Option.some.injEq, Prod.mk.injEq] at hv; obtain ⟨rfl, rfl⟩ := hv
          obtain ⟨k, sb, hb, hp⟩ := (opd_sound R hx hxv).ptr_inv
          refine OutN.of (Out.same H (v' := .pointer (some ⟨k, sb + (off + fl.offset), none⟩)) ?_ (.ptr hb))
          simp only [Instr.fieldAt, Sem.run_bind, run_under hs, Result.andThen_ok, hfl, hp, Instr.sureAddr, Sem.run_pure, fieldPlace, run_size hm]
          rw [if_neg hm0]; simp [add_none, Nat.add_assoc]
        · exact absurd hv (by simp)
    · exact absurd hr (by simp)
  case field s x f =>
    split at hr
    · rename_i fs xo hs hx
      simp only [Option.bind_eq_some_iff, Option.map_eq_some_iff] at hr
      obtain ⟨fl, hfl, ⟨agg, m⟩, hf, rfl⟩ := hr
      simp only [ev] at hv
      split at hv
      · rename_i cs hxv
        split at hv
        · rename_i hl
          simp only [Option.map_eq_some_iff, Prod.mk.injEq] at hv
          obtain ⟨u, hu, rfl, rfl⟩ := hv
          obtain ⟨cs', hp, hlr⟩ := (opd_sound R hx hxv).agg_inv
          obtain ⟨u', hu', hru⟩ := mkV_rel ((hlr.drop fl.offset).take m) hu
          refine OutN.of (Out.same H (v' := u') ?_ hru)
          have hsz : cs'.size = cs.size := by have := hlr.1; simpa using this.symm
          simp only [Instr.field, Sem.run_bind, run_under hs, Result.andThen_ok, hfl, hp, asAgg, Sem.run_pure]
          exact part_form hf (by omega) hu'
        · exact absurd hv (by simp)
      · exact absurd hv (by simp)
    · exact absurd hr (by simp)
  case indexAddr t x i =>
    split at hr
    · rename_i el xo io ht hx hi
      simp only [Option.map_eq_some_iff] at hr
      obtain ⟨m, hm, rfl⟩ := hr
      simp only [ev] at hv
      split at hv
      · rename_i bb off len es kk j hxv hiv
        split at hv
        · rename_i hj
          simp only [Option.some.injEq, Prod.mk.injEq] at hv; obtain ⟨rfl, rfl⟩ := hv
          rcases (opd_sound R hx hxv).slice_inv with ⟨k, sb, cap, tt, nn, hb2, hl2, hS2, hcap2, hp⟩ | ⟨h0, a', hp⟩
          · refine OutN.of (Out.same H (v' := .pointer (some ⟨k, sb + (off + j.toNat * m), none⟩)) ?_ (.ptr hb2))
            simp only [Instr.indexAt, (opd_sound R hi hiv).int_inv, asIntOf, Sem.run_bind, Sem.run_pure, Result.andThen_ok, run_under ht, hp]
            simp [hj, run_size hm, add_none, Nat.add_assoc]
          · omega
        · exact absurd hv (by simp)
      · exact absurd hv (by simp)
    · rename_i len el xo io ht hx hi
      simp only [Option.map_eq_some_iff] at hr
      obtain ⟨m, hm, rfl⟩ := hr
      simp only [ev] at hv
      split at hv
      · rename_i bb off kk j hxv hiv
        split at hv
        · rename_i hj
          simp only [Option.some.injEq, Prod.mk.injEq] at hv; obtain ⟨rfl, rfl⟩ := hv
          obtain ⟨k, sb, hb2, hp⟩ := (opd_sound R hx hxv).ptr_inv
          refine OutN.of (Out.same H (v' := .pointer (some ⟨k, sb + (off + j.toNat * m), none⟩)) ?_ (.ptr hb2))
          simp only [Instr.indexAt, (opd_sound R hi hiv).int_inv, asIntOf, Sem.run_bind, Sem.run_pure, Result.andThen_ok, run_under ht, hp, Instr.sureAddr]
          simp [hj, run_size hm, add_none, Nat.add_assoc]
        · exact absurd hv (by simp)
      · exact absurd hv (by simp)
    · exact absurd hr (by simp)
  case index t x i =>
    split at hr
    · rename_i xo io ht hx hi
      simp only [Option.some.injEq] at hr; subst hr
      simp only [ev] at hv
      split at hv
      · rename_i s kk j hxv hiv
        split at hv
        · rename_i hj
          simp only [Option.map_eq_some_iff, Prod.mk.injEq] at hv
          obtain ⟨bb, hbb, rfl, rfl⟩ := hv
          refine OutN.of (Out.scal H (v := .int .u8 bb.toNat) ?_ rfl)
          have hs : s[j.toNat]? = some bb := by
            obtain ⟨hlt, hget⟩ := List.getElem?_eq_some_iff.1 hbb
            have hlt2 : j.toNat < s.size := by simpa using hlt
            rw [getElem?_pos s j.toNat hlt2]
            congr 1
          simp only [Instr.index, (opd_sound R hi hiv).int_inv, asIntOf, Sem.run_bind, Sem.run_pure, Result.andThen_ok, run_under ht, (opd_sound R hx hxv).string_inv]
          simp [hj, hs]
        · exact absurd hv (by simp)
      · exact absurd hv (by simp)
    · rename_i len el xo io ht hx hi
      simp only [Option.map_eq_some_iff] at hr
      obtain ⟨⟨agg, m⟩, hf, rfl⟩ := hr
      simp only [ev] at hv
      split at hv
      · rename_i cs kk j hxv hiv
        split at hv
        · rename_i hj
          simp only [Option.map_eq_some_iff, Prod.mk.injEq] at hv
          obtain ⟨u, hu, rfl, rfl⟩ := hv
          obtain ⟨cs', hp, hlr⟩ := (opd_sound R hx hxv).agg_inv
          obtain ⟨u', hu', hru⟩ := mkV_rel ((hlr.drop (j.toNat * m)).take m) hu
          refine OutN.of (Out.same H (v' := u') ?_ hru)
          have hsz : cs'.size = cs.size := by have := hlr.1; simpa using this.symm
          have hm : szOf P el = some m := by
            unfold form at hf; split at hf
            · rename_i h1 h2; simp only [Option.some.injEq, Prod.mk.injEq] at hf; rw [← hf.2]; exact h2
            · rename_i h1 h2; simp only [Option.some.injEq, Prod.mk.injEq] at hf; rw [← hf.2]; exact h2
            · exact absurd hf (by simp)
          simp only [Instr.index, (opd_sound R hi hiv).int_inv, asIntOf, Sem.run_bind, Sem.run_pure, Result.andThen_ok, run_under ht, hp]
          rw [if_pos ⟨hj.1, hj.2.1⟩]
          simp only [Sem.run_bind, run_size hm, Result.andThen_ok]
          exact part_form hf (by omega) hu'
        · exact absurd hv (by simp)
      · exact absurd hv (by simp)
    · exact absurd hr (by simp)
  case range t x =>
    split at hr
    · rename_i xo ht hx
      simp only [Option.some.injEq] at hr; subst hr
      simp only [ev] at hv
      split at hv
      · rename_i s hs
        simp only [Option.some.injEq, Prod.mk.injEq] at hv; obtain ⟨rfl, rfl⟩ := hv
        refine OutN.of ⟨[(w.heap.size, 0)], .pointer (some ⟨w.heap.size, 0, none⟩), w.alloc (.stringIter s 0), ?_, new_ptr H _, shape_push _ _, ?_⟩
        · simp [Instr.range, run_under ht, (opd_sound R hx hs).string_inv]
        · exact H.push _ _ ⟨⟨H.le, rfl⟩, heap_alloc_new w _⟩
      · exact absurd hv (by simp)
    · exact absurd hr (by simp)
  case next x isS =>
    cases isS with
    | false => simp only [resolve] at hr; exact absurd hr (by simp)
    | true =>
      simp only [resolve, Option.map_eq_some_iff] at hr
      obtain ⟨xo, hx, rfl⟩ := hr
      simp only [ev] at hv
      split at hv
      · rename_i i hxv
        split at hv
        · rename_i s pos hi
          obtain ⟨k, sb, hb, hp⟩ := (opd_sound R hx hxv).ptr_inv
          obtain ⟨k2, s2, hb2, hO⟩ := H.obj i _ hi
          rw [hb] at hb2; cases hb2
          obtain ⟨⟨hbase, rfl⟩, hk⟩ := hO
          have hlt := (Array.getElem?_eq_some_iff.1 hk).1
          split at hv
          · rename_i hpos
            simp only [Option.some.injEq, Prod.mk.injEq] at hv; obtain ⟨rfl, rfl⟩ := hv
            have hsh : (wset w k (.stringIter s (pos + (Utf8.decode s pos).2))).shape? = w.shape? := by
              funext j
              unfold World.shape?
              by_cases ej : k = j
              · subst ej; rw [wset_same _ _ _ hlt, hk]
              · rw [wset_ne _ _ ej]
            refine OutN.of ⟨[], .tuple #[.bool true, goInt pos, .int .i32 (Utf8.decode s pos).1], wset w k (.stringIter s (pos + (Utf8.decode s pos).2)), ?_, ?_, by rw [hsh]; exact SLe.refl _, ?_⟩
            · simp [Instr.next, hp, getObj_ok hk, hpos, setObj_ok hk]
            · exact (VR.of_lr_tuple (l := [.bool true, .int .i64 pos, .int .i32 (Utf8.decode s pos).1]) (.cons (.scal rfl) (.cons (.scal rfl) (.cons (.scal rfl) .nil))))
            · rw [List.append_nil]
              exact H.put hi rfl hb (by rw [hsh]; exact SLe.refl _) ⟨⟨hbase, rfl⟩, wset_same _ _ _ hlt⟩
          · rename_i hpos
            simp only [Option.some.injEq, Prod.mk.injEq] at hv; obtain ⟨rfl, rfl⟩ := hv
            refine OutN.of (Out.same H (v' := .tuple #[.bool false]) ?_ (VR.of_lr_tuple (l := [.bool false]) (l' := [.bool false]) (.cons (.scal rfl) .nil)))
            simp [Instr.next, hp, getObj_ok hk, hpos]
        · exact absurd hv (by simp)
      · exact absurd hv (by simp)
  case lookup t x i ok => exact OutN.of (look_sound H R (by simp only [resolve]; exact hr) hv)
  case mapUpdate t m k x =>
    obtain ⟨v', w1, hrun, he, hS, HS⟩ := upd_sound H R (by simp only [resolve]; exact hr) hv
    subst he
    exact OutN.unit hrun hS HS
  case extract x i =>
    simp only [Option.map_eq_some_iff] at hr
    obtain ⟨xo, hx, rfl⟩ := hr
    simp only [ev] at hv
    split at hv
    · rename_i vs hxv
      simp only [Option.map_eq_some_iff, Prod.mk.injEq] at hv
      obtain ⟨u, hu, rfl, rfl⟩ := hv
      obtain ⟨vs', hp, hlr⟩ := (opd_sound R hx hxv).tuple_inv
      obtain ⟨u', hu', hru⟩ := hlr.get hu
      refine OutN.of (Out.same H (v' := u') ?_ hru)
      rw [Array.getElem?_toList] at hu'
      simp [Instr.extract, hp, hu']
    · exact absurd hv (by simp)
  case call c =>
    unfold rCall at hr
    split at hr
    · split at hr
      · simp only [Option.some.injEq] at hr; subst hr; exact absurd hc (by simp [ROp.isCall])
      · exact absurd hr (by simp)
    · rename_i hcal
      obtain ⟨K, hK⟩ := bi_run (P := P) (w := w) (a := a) (ty := ty) hcal
      rw [hK]
      split at hr
      · rename_i x hl hd
        simp only [Option.some.injEq] at hr; subst hr
        obtain ⟨X, hl, hx⟩ := rOpds_one hl
        exact OutN.of (len_sound H R hl hx hd (.inl ⟨rfl, rfl⟩) hv)
      · rename_i x hl hd
        simp only [Option.some.injEq] at hr; subst hr
        obtain ⟨X, hl, hx⟩ := rOpds_one hl
        exact OutN.of (len_sound H R hl hx hd (.inr (.inl ⟨rfl, _, rfl⟩)) hv)
      · rename_i x hl hd
        simp only [Option.some.injEq] at hr; subst hr
        obtain ⟨X, hl, hx⟩ := rOpds_one hl
        exact OutN.of (len_sound H R hl hx hd (.inr (.inr ⟨rfl, _, _, rfl⟩)) hv)
      · exact absurd hr (by simp)
    · rename_i hcal
      obtain ⟨K, hK⟩ := bi_run (P := P) (w := w) (a := a) (ty := ty) hcal
      rw [hK]
      split at hr
      · rename_i x y t u hl ht hu
        obtain ⟨X, Y, hl, hx, hy⟩ := rOpds_two hl
        split at hr
        · rename_i el d htd hud
          split at hr
          · rename_i m bb z hm hb hz
            split at hr
            · exact absurd hr (by simp)
            · rename_i hne
              simp only [not_or, Decidable.not_not, ne_eq] at hne
              have key : (∀ q, d ≠ .int q) → r = .app el m bb x y → OutN b h1 base w0 w v ((builtin .append c.argTypes ty K (c.args.map a.eval)).run P w) := by
                intro hd he
                subst he
                obtain ⟨s, hs⟩ : ∃ s, x.ev e = some s := by
                  cases hq : x.ev e with
                  | none => simp [ev, hq] at hv
                  | some s => exact ⟨s, rfl⟩
                obtain ⟨u2, hu2⟩ : ∃ s, y.ev e = some s := by
                  cases hq : y.ev e with
                  | none => simp [ev, hq, hs] at hv
                  | some s => exact ⟨s, rfl⟩
                exact OutN.of (app_sound H ht hu (arg0 hl) (arg1 hl) htd hud hd hm hb hz hne.2.2 hne.2.1 hs hu2 (opd_sound R hx hs) (opd_sound R hy hu2) hv)
              split at hr
              · exact key (by intro q h; cases h) (by simpa using hr.symm)
              · exact key (by intro q h; cases h) (by simpa using hr.symm)
              · simp only [Option.some.injEq] at hr; subst hr
                obtain ⟨s, hs⟩ : ∃ s, x.ev e = some s := by
                  cases hq : x.ev e with
                  | none => simp [ev, hq] at hv
                  | some s => exact ⟨s, rfl⟩
                obtain ⟨u2, hu2⟩ : ∃ s, y.ev e = some s := by
                  cases hq : y.ev e with
                  | none => simp [ev, hq, hs] at hv
                  | some s => exact ⟨s, rfl⟩
                exact OutN.of (appZ_sound H ht hu (arg0 hl) (arg1 hl) htd hud hm hb hz hne.2.2 hne.2.1 hs hu2 (opd_sound R hx hs) (opd_sound R hy hu2) hv)
              · exact absurd hr (by simp)
          · exact absurd hr (by simp)
        · exact absurd hr (by simp)
      · exact absurd hr (by simp)
    · rename_i hcal
      obtain ⟨K, hK⟩ := bi_run (P := P) (w := w) (a := a) (ty := ty) hcal
      rw [hK]
      split at hr
      · rename_i x y el hl hd
        obtain ⟨X, Y, hl, hx, hy⟩ := rOpds_two hl
        simp only [Option.bind_eq_some_iff] at hr
        obtain ⟨m, hm, hr⟩ := hr
        split at hr
        · exact absurd hr (by simp)
        · simp only [Option.some.injEq] at hr; subst hr
          exact OutN.of (copy_sound H R hl hx hy hd hm hv)
      · exact absurd hr (by simp)
    · rename_i hcal
      obtain ⟨K, hK⟩ := bi_run (P := P) (w := w) (a := a) (ty := ty) hcal
      rw [hK]
      simp only [Option.map_eq_some_iff] at hr
      obtain ⟨xs, hxs, rfl⟩ := hr
      have := mm_run (P := P) H R true "max: at least one argument expected" hxs hv
      exact OutN.of this
    · rename_i hcal
      obtain ⟨K, hK⟩ := bi_run (P := P) (w := w) (a := a) (ty := ty) hcal
      rw [hK]
      simp only [Option.map_eq_some_iff] at hr
      obtain ⟨xs, hxs, rfl⟩ := hr
      have := mm_run (P := P) H R false "min: at least one argument expected" hxs hv
      exact OutN.of this
    · rename_i hcal
      obtain ⟨K, hK⟩ := bi_run (P := P) (w := w) (a := a) (ty := ty) hcal
      rw [hK]
      split at hr
      · rename_i x el hl hd
        simp only [Option.some.injEq] at hr; subst hr
        obtain ⟨X, hl, hx⟩ := rOpds_one hl
        obtain ⟨t, ht, hd⟩ := at0 hd
        have ha := arg0 (a := a) hl
        simp only [ev] at hv
        split at hv
        · rename_i hxv
          simp only [Option.some.injEq, Prod.mk.injEq] at hv; obtain ⟨rfl, rfl⟩ := hv
          rw [(opd_sound R hx hxv).g0_inv rfl] at ha
          exact OutN.of (Out.scal H (by simp only [Builtin.cap_, ht, ha, Sem.run_bind, run_under hd, Result.andThen_ok, Sem.run_pure]; rfl) rfl)
        · exact absurd hv (by simp)
      · exact absurd hr (by simp)
    · rename_i hcal
      obtain ⟨K, hK⟩ := bi_run (P := P) (w := w) (a := a) (ty := ty) hcal
      rw [hK]
      split at hr
      · rename_i x el hl hd
        split at hr
        · rename_i z hz
          split at hr
          · rename_i hg
            simp only [Option.some.injEq] at hr; subst hr
            obtain ⟨X, hl, hx⟩ := rOpds_one hl
            exact OutN.of (clear_sound H R hl hx hd hz hg.1 hg.2 hv)
          · exact absurd hr (by simp)
        · exact absurd hr (by simp)
      · exact absurd hr (by simp)
    · exact absurd hr (by simp)
end
end Go.Proofs.YtpgidiompdabdaaGreat.AM
