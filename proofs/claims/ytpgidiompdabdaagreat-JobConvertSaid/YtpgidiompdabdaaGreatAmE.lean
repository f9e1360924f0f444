/- The abstract machine, fifth part: aggregates, slices, cuts, strings. -/
import Derived.Test.YtpgidiompdabdaaGreatAmD
namespace Go.Proofs.YtpgidiompdabdaaGreat.AM
open Go Go.RowKit
set_option linter.unusedSimpArgs false
set_option linter.unusedVariables false

section
variable {P : Program} {b : Bt} {h h1 : AH} {base : Nat} {w0 w : World} {e : Env} {a : Act} {n : Nat}

/-! ### Filling -/
theorem foldl_set (off : Nat) : ∀ (l : List Value) (k : Nat) (cs : Array Value), off + k + l.length ≤ cs.size →
    ((l.zipIdx k).foldl (fun cs p => cs.setIfInBounds (off + p.2) p.1) cs).toList = cs.toList.take (off + k) ++ l ++ cs.toList.drop (off + k + l.length)
  | [], k, cs, _ => by simp
  | v :: l, k, cs, hl => by
    have hl' : off + k + (l.length + 1) ≤ cs.size := by simpa using hl
    simp only [List.zipIdx_cons, List.foldl_cons]
    rw [foldl_set off l (k + 1) _ (by simp; omega)]
    have := list_seg_step cs.toList (off + k) v l (by simp; omega)
    simp only [Array.toList_setIfInBounds, List.length_cons]
    rw [← Nat.add_assoc off k 1, this]
theorem fill_step (cs : Array Value) (off : Nat) (v : Value) (hl : off + v.cells.size ≤ cs.size) :
    (v.cells.zipIdx.foldl (fun cs (p : Value × Nat) => cs.setIfInBounds (off + p.2) p.1) cs).toList = splice cs.toList off (cells v) := by
  have := foldl_set off v.cells.toList 0 cs (by simpa using hl)
  rw [Nat.add_zero] at this
  unfold splice cells
  rw [← this]
  congr 1
  rw [← Array.foldl_toList, Array.toList_zipIdx]
theorem fill_rel (R : Rl b e w a n) (place place' : Nat → Option (Nat × Nat)) (hp : ∀ i x, place' i = some x → place i = some x) :
    ∀ (ps : List (Nat × Operand)) (qs : List (Nat × Nat × Opd)) (zs vs : List Value) (cs : Array Value), rParts place' ps = some qs → fill e zs qs = some vs → LR (VR b w.shape?) zs cs.toList →
      ∃ cs', Instr.fill place cs (ps.map fun p => (p.1, a.eval p.2)) = some cs' ∧ LR (VR b w.shape?) vs cs'.toList
  | [], qs, zs, vs, cs, h1, h2, hr => by
    simp only [rParts, Option.some.injEq] at h1; subst h1
    simp only [fill, Option.some.injEq] at h2; subst h2
    exact ⟨cs, rfl, hr⟩
  | (i, x) :: ps, qs, zs, vs, cs, h1, h2, hr => by
    simp only [rParts] at h1
    split at h1
    · rename_i off m o r e1 e2 e3
      simp only [Option.some.injEq] at h1; subst h1
      simp only [fill] at h2
      split at h2
      · rename_i v e4
        split at h2
        · rename_i hc
          have hv := opd_sound R e2 e4
          have hcl := hv.cells
          have hlen := hcl.1
          have hz := hr.1
          have h3 : (a.eval x).cells.size = m := by unfold cells at hlen hc; simp at hlen hc; omega
          have h4 : off + (a.eval x).cells.size ≤ cs.size := by simp at hz; omega
          obtain ⟨cs', hf, hr'⟩ := fill_rel R place place' hp ps r _ vs ((a.eval x).cells.zipIdx.foldl (fun cs (p : Value × Nat) => cs.setIfInBounds (off + p.2) p.1) cs) e3 h2 (by rw [fill_step _ _ _ h4]; exact hr.splice hcl off)
          refine ⟨cs', ?_, hr'⟩
          simp only [List.map_cons, Instr.fill, hp i _ e1]
          rw [if_neg (by simp [h3]; omega)]
          exact hf
        · exact absurd h2 (by simp)
      · exact absurd h2 (by simp)
    · exact absurd h1 (by simp)

theorem run_mapM_fields (g : Field → Nat × Nat) : ∀ (fs : List Field), (∀ f ∈ fs, (do pure (f.offset, ← Go.sizeOf f.type) : Sem (Nat × Nat)).run P w = .ok (g f) w) →
    (fs.mapM (fun f => (do pure (f.offset, ← Go.sizeOf f.type) : Sem (Nat × Nat)))).run P w = .ok (fs.map g) w
  | [], _ => rfl
  | f :: fs, hf => by
    have h1 := hf f (by simp)
    have h2 := run_mapM_fields g fs (fun x hx => hf x (by simp [hx]))
    rw [List.mapM_cons]
    simp only [Sem.run_bind, Sem.run_pure] at h1 h2 ⊢
    simp only [h1, Result.andThen_ok]
    simp only [Sem.run_bind, h2, Result.andThen_ok, List.map_cons]
theorem lr_g0 {l : List Value} {S : Sh} (hl : l.all g0 = true) : LR (VR b S) l l := LR.same fun v hv => .scal (List.all_eq_true.1 hl v hv)

theorem build_sound (H : Sim b h base w0 w) (R : Rl b e w a n) {t : TypeId} {parts : Array (Nat × Operand)} {r : ROp} (hr : resolve P (.build t parts) = some r) {v : Value} (hv : ev r e h = some (v, h1)) :
    Out b h1 base w0 w v ((Instr.build t (parts.map fun (i, x) => (i, a.eval x))).run P w) := by
  simp only [resolve] at hr
  have hl : (parts.map fun (x : Nat × Operand) => (x.1, a.eval x.2)).toList = parts.toList.map fun p => (p.1, a.eval p.2) := by simp
  split at hr
  · rename_i z fs hz hu
    split at hr
    · rename_i hg
      simp only [Option.map_eq_some_iff] at hr
      obtain ⟨qs, hq, rfl⟩ := hr
      simp only [ev, Option.map_eq_some_iff, Prod.mk.injEq] at hv
      obtain ⟨vs, hf, rfl, rfl⟩ := hv
      have hall : ∀ f ∈ fs.toList, ∃ k, szOf P f.type = some k := fun f hf => Option.isSome_iff_exists.1 (List.all_eq_true.1 hg.2 f hf)
      have hm := run_mapM_fields (P := P) (w := w) (fun f => (f.offset, (szOf P f.type).getD 0)) fs.toList (fun f hf => by
        obtain ⟨k, hk⟩ := hall f hf
        simp [run_size hk, hk])
      obtain ⟨cs', h3, h4⟩ := fill_rel R (fun i => (fs.toList.map fun f => (f.offset, (szOf P f.type).getD 0)).toArray[i]?) (fun i => (fs[i]?).bind fun f => (szOf P f.type).map fun n => (f.offset, n))
        (fun i x hx => by
          simp only [Option.bind_eq_some_iff, Option.map_eq_some_iff] at hx
          obtain ⟨f, hf, k, hk, rfl⟩ := hx
          simp [hf, hk]) parts.toList qs (cells z) vs z.cells hq hf (lr_g0 hg.1)
      refine Out.same H (v' := .agg cs') ?_ ?_
      · unfold Instr.build
        simp only [Sem.run_bind, run_zero hz, Result.andThen_ok, run_under hu]
        rw [Array.mapM_eq_mapM_toList]
        simp only [Sem.run_map, hm, Result.andThen_ok, hl, h3, Sem.run_pure]
      · have := VR.of_lr_agg h4; simpa using this
    · exact absurd hr (by simp)
  · rename_i z k el hz hu
    simp only [Option.bind_eq_some_iff] at hr
    obtain ⟨m, hm, hr⟩ := hr
    split at hr
    · rename_i hg
      simp only [Option.map_eq_some_iff] at hr
      obtain ⟨qs, hq, rfl⟩ := hr
      simp only [ev, Option.map_eq_some_iff, Prod.mk.injEq] at hv
      obtain ⟨vs, hf, rfl, rfl⟩ := hv
      obtain ⟨cs', h3, h4⟩ := fill_rel R (fun i => some (i * m, m)) (fun i => some (i * m, m)) (fun i x hx => hx) parts.toList qs (cells z) vs z.cells hq hf (lr_g0 hg)
      refine Out.same H (v' := .agg cs') ?_ ?_
      · unfold Instr.build
        simp only [Sem.run_bind, run_zero hz, Result.andThen_ok, run_under hu, run_size hm, hl, h3, Sem.run_pure]
      · have := VR.of_lr_agg h4; simpa using this
    · exact absurd hr (by simp)
  · exact absurd hr (by simp)

theorem push_list (H : Sim b h base w0 w) {t : TypeId} {vs : List Value} {cs : Array Value} (h1 : vs.all one = true) (hr : LR (VR b w.shape?) vs cs.toList) : Sim (b ++ [(w.heap.size, 0)]) (h.push (.row false t vs)) base w0 (w.alloc (.cells cs t)) :=
  push_sound H h1 (by have := hr.1; simp at this; omega) fun j v hj => by obtain ⟨v', h1, h2⟩ := hr.get hj; exact ⟨v', by rw [← Array.getElem?_toList]; exact h1, h2⟩
theorem lit_sound (H : Sim b h base w0 w) (R : Rl b e w a n) {t : TypeId} {len : Nat} {parts : Array (Nat × Operand)} {r : ROp} (hr : resolve P (.buildSlice t len parts) = some r) {v : Value} (hv : ev r e h = some (v, h1)) :
    Out b h1 base w0 w v ((Instr.buildSlice t len (parts.map fun (i, x) => (i, a.eval x))).run P w) := by
  simp only [resolve] at hr
  have hl : (parts.map fun (x : Nat × Operand) => (x.1, a.eval x.2)).toList = parts.toList.map fun p => (p.1, a.eval p.2) := by simp
  split at hr
  · rename_i el hu
    split at hr
    · rename_i m z hm hz
      split at hr
      · rename_i hg
        simp only [Option.map_eq_some_iff] at hr
        obtain ⟨qs, hq, rfl⟩ := hr
        simp only [ev] at hv
        split at hv
        case h_2 => exact absurd hv (by simp)
        rename_i vs hf
        split at hv
        case isFalse => exact absurd hv (by simp)
        rename_i hone
        simp only [Option.some.injEq, Prod.mk.injEq] at hv
        obtain ⟨rfl, rfl⟩ := hv
        have hrow : ∃ Z : Array Value, (if len * m = 0 then pure #[] else do pure (← zeroValue el).cells : Sem (Array Value)).run P w = .ok Z w ∧ ((Array.range (len * m)).map (Z[· % Z.size]!)).toList = zrow z (len * m) := by
          by_cases h0 : len * m = 0
          · exact ⟨#[], by simp [h0], by simp [h0, zrow]⟩
          · exact ⟨z.cells, by simp [h0, run_zero hz], rfl⟩
        obtain ⟨Z, hZ, hZ2⟩ := hrow
        obtain ⟨cs', h3, h4⟩ := fill_rel R (fun i => some (i * m, m)) (fun i => some (i * m, m)) (fun i x hx => hx) parts.toList qs (zrow z (len * m)) vs ((Array.range (len * m)).map (Z[· % Z.size]!)) hq hf (by rw [hZ2]; exact lr_g0 hg.2.2.2)
        have hsz : cs'.size = len * m := by
          have e1 := h4.1
          have e2 : vs.length = (zrow z (len * m)).length := by
            have : ∀ (qs : List (Nat × Nat × Opd)) (zs vs : List Value), fill e zs qs = some vs → vs.length = zs.length := by
              intro qs
              induction qs with
              | nil => intro zs vs h; simp only [fill, Option.some.injEq] at h; rw [h]
              | cons q qs ih =>
                intro zs vs h
                simp only [fill] at h
                split at h
                · split at h
                  · rename_i hc; rw [ih _ _ h]; unfold splice; simp; omega
                  · exact absurd h (by simp)
                · exact absurd h (by simp)
            exact this _ _ _ hf
          simp [zrow] at e1 e2; omega
        refine ⟨[(w.heap.size, 0)], .slice (some ⟨w.heap.size, 0, none⟩) len len, w.alloc (.cells cs' el), ?_, new_slice H (Nat.le_refl _) (by omega), shape_push _ _, push_list H hone h4⟩
        unfold Instr.buildSlice
        simp only [Sem.run_bind, run_under hu, Result.andThen_ok, run_size hm]
        rw [show (16777216 : Nat) = 2 ^ 24 from rfl] at hg
        rw [if_neg (show ¬ len * m > 2 ^ 24 by omega)]
        by_cases h0 : len * m = 0
        · rw [if_pos h0] at hZ ⊢
          obtain rfl : #[] = Z := by simpa using hZ
          simp only [Sem.run_bind, Sem.run_pure, Result.andThen_ok, hl, h3, newRow, run_newObj]
          rfl
        · rw [if_neg h0] at hZ ⊢
          obtain rfl : z.cells = Z := by simpa [run_zero hz] using hZ
          simp only [Sem.run_bind, run_zero hz, Sem.run_pure, Result.andThen_ok, hl, h3, newRow, run_newObj]
          rfl
      · exact absurd hr (by simp)
    · exact absurd hr (by simp)
  · exact absurd hr (by simp)
end
end Go.Proofs.YtpgidiompdabdaaGreat.AM
