/- The abstract machine, sixth part: append, copy, clear, cuts. -/
import Derived.Test.YtpgidiompdabdaaGreatAmE
namespace Go.Proofs.YtpgidiompdabdaaGreat.AM
open Go Go.RowKit
set_option linter.unusedSimpArgs false
set_option linter.unusedVariables false

section
variable {P : Program} {b : Bt} {h h1 : AH} {base : Nat} {w0 w : World} {e : Env} {a : Act} {n : Nat}

theorem Sim.drew (H : Sim b h base w0 w) : Sim b h base w0 w.drew :=
  ⟨H.len, H.out, H.bel.drew, H.le, fun i o hi => let ⟨k, s, hb, ho⟩ := H.obj i o hi; ⟨k, s, hb, ho.move (w' := w.drew) (fun _ _ x => x) (SLe.refl _) (fun _ => rfl)⟩, H.inj, H.gd⟩
theorem run_firstCells0 {es : Nat} {v : Value} (hv : lenV v ≠ none) : (Builtin.firstCells es 0 v).run P w = .ok #[] w := by
  cases v <;> simp [lenV] at hv
  · simp [Builtin.firstCells]
  · rename_i x _ _; cases x <;> simp [Builtin.firstCells, loadCells, loadCellsFrom]
theorem lenV_rel {S : Sh} {v v' : Value} {k : Nat} (hv : VR b S v v') (hl : lenV v = some k) : lenV v' = some k := by
  cases hv <;> first | exact hl | simp_all [lenV]
theorem lenOf_run {v : Value} {k : Nat} (hl : lenV v = some k) : (Builtin.lenOf v).run P w = .ok k w := by
  cases v <;> simp [lenV] at hl <;> subst hl <;> simp [Builtin.lenOf]
theorem firstOf_sound (H : Sim b h base w0 w) {es m : Nat} {v v' : Value} {new : List Value} (hv : VR b w.shape? v v') (hf : firstOf h es m v = some new) :
    ∃ new', (Builtin.firstCells es m v').run P w = .ok new'.toArray w ∧ LR (VR b w.shape?) new new' := by
  unfold firstOf at hf
  split at hf
  · split at hf
    · rename_i hm; subst hm
      simp only [Option.some.injEq] at hf; subst hf
      rw [hv.nilslice_inv]
      exact ⟨[], by simp [Builtin.firstCells], .nil⟩
    · exact absurd hf (by simp)
  · rename_i i off len s
    split at hf
    · rename_i hs
      split at hf
      · rename_i ro t c hi
        split at hf
        · rename_i hc
          simp only [Option.some.injEq] at hf; subst hf
          rcases hv.slice_inv with ⟨k, s', cap, tt, nn, hb, hl, hS, hcap, rfl⟩ | ⟨h0, a', rfl⟩
          · obtain ⟨l', h1, h2, h3⟩ := (H.row hi hb).cellsAt hc
            refine ⟨l', ?_, h2⟩
            have := run_loadCells_list (P := P) w _ l' h3
            rw [h1] at this
            simp [Builtin.firstCells, this]
          · have : m = 0 := by omega
            subst this
            exact ⟨[], by rw [run_firstCells0 (by simp [lenV])], by simpa using LR.nil⟩
        · exact absurd hf (by simp)
      · split at hf
        · rename_i hm; obtain ⟨hm, _⟩ := hm; subst hm
          simp only [Option.some.injEq] at hf; subst hf
          refine ⟨[], ?_, .nil⟩
          have := lenV_rel hv (k := len) rfl
          rw [run_firstCells0 (by rw [this]; simp)]
        · exact absurd hf (by simp)
    · exact absurd hf (by simp)
  · rename_i s
    split at hf
    · rename_i hs
      simp only [Option.some.injEq] at hf; subst hf
      rw [hv.string_inv]
      refine ⟨(s.data.toList.take m).map fun b => .int .u8 b.toNat, ?_, LR.same fun v hv => ?_⟩
      · simp only [Builtin.firstCells, Sem.run_pure]
        congr 1
        apply Array.ext'
        simp [ByteArray.extract, ByteArray.copySlice]
      · obtain ⟨x, _, rfl⟩ := List.mem_map.1 hv; exact .scal rfl
    · exact absurd hf (by simp)
  · exact absurd hf (by simp)

theorem firstOf_ones (H : Sim b h base w0 w) {es m : Nat} {v : Value} {new : List Value} (hf : firstOf h es m v = some new) : new.all one = true := by
  unfold firstOf at hf
  split at hf
  · split at hf
    · simp only [Option.some.injEq] at hf; subst hf; rfl
    · exact absurd hf (by simp)
  · split at hf
    · split at hf
      · rename_i hi
        split at hf
        · simp only [Option.some.injEq] at hf; subst hf
          obtain ⟨k, s, hb, hO⟩ := H.obj _ _ (rowAt_get hi)
          exact List.all_eq_true.2 fun x hx => List.all_eq_true.1 hO.1 x (List.mem_of_mem_drop (List.mem_of_mem_take hx))
        · exact absurd hf (by simp)
      · split at hf
        · simp only [Option.some.injEq] at hf; subst hf; rfl
        · exact absurd hf (by simp)
    · exact absurd hf (by simp)
  · split at hf
    · simp only [Option.some.injEq] at hf; subst hf
      exact List.all_eq_true.2 fun x hx => by obtain ⟨y, _, rfl⟩ := List.mem_map.1 hx; rfl
    · exact absurd hf (by simp)
  · exact absurd hf (by simp)
/-- An object goes; another one takes its block over, from s' on. -/
theorem Sim.take (H : Sim b h base w0 w) {i k s s' : Nat} {o0 o : AObj} {w1 : World} (hi : h.get i = some o0) (hm : live o0 = true) (hb : b[i]? = some (k, s))
    (hw : ∃ ob, w1 = wset w k ob) (hS : w1.shape? = w.shape?) (ho : OR (b ++ [(k, s')]) w1 base k s' o) (hlo : live o = true) : Sim (b ++ [(k, s')]) ((h.put i .dead).push o) base w0 w1 := by
  obtain ⟨ob, rfl⟩ := hw
  have hlen := H.len
  obtain ⟨k', t', hb', hr⟩ := H.obj i o0 hi
  rw [hb] at hb'; cases hb'
  have hlt := hr.lt hm
  have hin : i < h.next := by
    rcases Nat.lt_or_ge i h.next with hx | hx
    · exact hx
    · rw [H.out i hx] at hi; cases hi
  have get_old : ∀ j, j ≠ i → j ≠ h.next → ((h.put i .dead).push o).get j = h.get j := by
    intro j h1 h2
    have : (h.put i .dead).next = h.next := rfl
    rw [AH.get_push_ne _ _ (by rw [this]; exact Ne.symm h2), AH.get_put_ne _ _ (Ne.symm h1)]
  have get_i : ((h.put i .dead).push o).get i = some .dead := by
    have : (h.put i .dead).next = h.next := rfl
    rw [AH.get_push_ne _ _ (by rw [this]; omega), AH.get_put_same]
  have get_new : ((h.put i .dead).push o).get h.next = some o := AH.get_push_same (h.put i .dead) o
  have new : (b ++ [(k, s')])[h.next]? = some (k, s') := by rw [List.getElem?_append_right (by omega)]; simp [hlen]
  have apart : ∀ j o', j ≠ i → h.get j = some o' → ∀ k' s'', b[j]? = some (k', s'') → o' ≠ .dead → OR b w base k' s'' o' → k ≠ k' := by
    intro j o' hj hg k' s'' hb2 hd hor hk; subst hk
    cases hmo : live o' with
    | true => exact H.inj i j o0 o' k s s'' (Ne.symm hj) hi hg hm hmo hb hb2
    | false =>
      cases o' with
      | row ro t c =>
        cases ro with
        | true => obtain ⟨_, _, _, _, _, _, _, hx⟩ := hor; exact absurd hx (by have := hlt.1; simp; omega)
        | false => simp [live] at hmo
      | map es => simp [live] at hmo
      | iter s p => simp [live] at hmo
      | seq m => simp [live] at hmo
      | dead => exact hd rfl
  refine ⟨by show _ = h.next + 1; simp [hlen], fun j hj => ?_, wset_below H.bel k ob hlt.1, by have := H.le; simp [wset]; exact this, fun j o' hj => ?_, ?_, H.gd⟩
  · have hj' : h.next + 1 ≤ j := hj
    rw [get_old j (by omega) (by omega)]; exact H.out j (by omega)
  · by_cases e1 : j = h.next
    · subst e1; rw [get_new] at hj; cases hj; exact ⟨k, s', new, ho⟩
    · by_cases e2 : j = i
      · subst e2; rw [get_i] at hj; cases hj; exact ⟨k, s, getElem?_pre _ _ hb, trivial⟩
      · rw [get_old j e2 e1] at hj
        obtain ⟨k', s'', hb2, hor⟩ := H.obj j o' hj
        exact ⟨k', s'', getElem?_pre _ _ hb2, hor.move getElem?_pre (by rw [hS]; exact SLe.refl _) fun hd => wset_ne _ _ (apart j o' e2 hj k' s'' hb2 hd hor)⟩
  · intro x y o1 o2 k1 s1 s2 hxy h1 h2 m1 m2 b1 b2
    have key : ∀ y o2 s2, y ≠ h.next → ((h.put i .dead).push o).get y = some o2 → live o2 = true → (b ++ [(k, s')])[y]? = some (k, s2) → False := by
      intro y o2 s2 hy hg hm2 hb2
      by_cases e : y = i
      · subst e; rw [get_i] at hg; cases hg; simp [live] at hm2
      · rw [get_old y e hy] at hg
        obtain ⟨k', s'', hb3, hor⟩ := H.obj y o2 hg
        have := getElem?_pre (c := [(k, s')]) _ _ hb3
        rw [hb2] at this; cases this
        exact H.inj i y o0 o2 k s s2 (Ne.symm e) hi hg hm hm2 hb hb3
    by_cases e1 : x = h.next
    · subst e1; rw [new] at b1; cases b1; exact key y o2 s2 (Ne.symm hxy) h2 m2 b2
    · by_cases e2 : y = h.next
      · subst e2; rw [new] at b2; cases b2; exact key x o1 s1 e1 h1 m1 b1
      · by_cases e3 : x = i
        · subst e3; rw [get_i] at h1; cases h1; simp [live] at m1
        · by_cases e4 : y = i
          · subst e4; rw [get_i] at h2; cases h2; simp [live] at m2
          · rw [get_old x e3 e1] at h1; rw [get_old y e4 e2] at h2
            obtain ⟨k3, s3, hb3, _⟩ := H.obj x o1 h1
            obtain ⟨k4, s4, hb4, _⟩ := H.obj y o2 h2
            have p3 := getElem?_pre (c := [(k, s')]) _ _ hb3
            have p4 := getElem?_pre (c := [(k, s')]) _ _ hb4
            rw [b1] at p3; cases p3
            rw [b2] at p4; cases p4
            exact H.inj x y o1 o2 k1 s1 s2 hxy h1 h2 m1 m2 hb3 hb4
/-- An object goes. -/
theorem Sim.kill (H : Sim b h base w0 w) {i : Nat} {o0 : AObj} (hi : h.get i = some o0) : Sim b (h.put i .dead) base w0 w := by
  refine ⟨H.len, fun j hj => ?_, H.bel, H.le, fun j o hj => ?_, ?_, H.gd⟩
  · have hj' : h.next ≤ j := hj
    by_cases e : i = j
    · subst e; rw [H.out i hj'] at hi; cases hi
    · rw [AH.get_put_ne _ _ e]; exact H.out j hj'
  · by_cases e : i = j
    · subst e; rw [AH.get_put_same] at hj; cases hj
      obtain ⟨k, s, hb, _⟩ := H.obj i o0 hi
      exact ⟨k, s, hb, trivial⟩
    · rw [AH.get_put_ne _ _ e] at hj; exact H.obj j o hj
  · intro x y o1 o2 k1 s1 s2 hxy h1 h2 m1 m2 b1 b2
    by_cases e1 : i = x
    · subst e1; rw [AH.get_put_same] at h1; cases h1; simp [live] at m1
    · by_cases e2 : i = y
      · subst e2; rw [AH.get_put_same] at h2; cases h2; simp [live] at m2
      · rw [AH.get_put_ne _ _ e1] at h1; rw [AH.get_put_ne _ _ e2] at h2
        exact H.inj x y o1 o2 k1 s1 s2 hxy h1 h2 m1 m2 b1 b2

/-- append's run: within the capacity, or into a new row. -/
theorem run_app {AT : Array TypeId} {ty t u el : TypeId} {d : TypeDesc} {m by_ k sl sc : Nat} {z : Value} {args : Array Value} {B : Option Addr} {V : Value}
    (h0 : AT[0]? = some t) (h1 : AT[1]? = some u) (g0 : args[0]? = some (.slice B sl sc)) (g1 : args[1]? = some V) (ht : P.underlying t = some (.slice el)) (hu : P.underlying u = some d)
    (hd : ∀ q, d ≠ .int q) (hm : szOf P el = some m) (hb : bytesOfT P el = some by_) (hz : zeroOf P el = some z) (hz1 : (cells z).length = m) (hb0 : by_ ≠ 0) (hl : lenV V = some k)
    (hbig : (sl + k) * by_ ≤ 140737488355328) :
    (sl + k ≤ sc → ∀ new : List Value, (Builtin.firstCells m k V).run P w = .ok new.toArray w → (Builtin.append_ AT ty args).run P w = (do (if let some a := B then storeCells (a.add (sl * m)) new else pure ()); pure (.slice B (sl + k) sc) : Sem Value).run P w) ∧
    (sc < sl + k → ∀ (old : Array Value) (new : List Value), (Builtin.firstCells m sl (.slice B sl sc)).run P w.drew = .ok old w.drew → (Builtin.firstCells m k V).run P w.drew = .ok new.toArray w.drew → ∃ cap rest, sl + k ≤ cap ∧ rest = (cap - (sl + k)) * m ∧
      ∃ R : Array Value, R.size = rest ∧ (Builtin.append_ AT ty args).run P w = .ok (.slice (some ⟨w.heap.size, 0, none⟩) (sl + k) cap) (w.drew.alloc (.cells (old ++ new.toArray ++ R) el))) := by
  have hi : ∃ i, P.info? el = some i ∧ i.size = m ∧ i.bytes = by_ ∧ i.zero = some z := by
    unfold szOf at hm; unfold bytesOfT at hb; unfold zeroOf at hz
    cases hi : P.info? el with
    | none => simp [hi] at hm
    | some i => simp [hi] at hm hb hz; exact ⟨i, rfl, hm, hb, hz⟩
  obtain ⟨i, hi, i1, i2, i3⟩ := hi
  subst i1; subst i2
  have hdd : (match d with | .int _ => true | _ => false) = false := by cases d <;> first | rfl | exact absurd rfl (hd _)
  have hlo : ∀ w' : World, (Builtin.lenOf V).run P w' = .ok k w' := fun w' => lenOf_run hl
  constructor
  · intro hr new n0
    unfold Builtin.append_
    simp only [h0, h1, g0, g1, Sem.run_bind, run_under ht, run_under hu, Result.andThen_ok, run_size hm, Sem.run_pure, hdd, hlo, Bool.false_eq_true, if_false, hr, if_true, Bool.not_false, n0]
    cases B <;> simp
  · intro hr old new hold n1
    have hn' : ¬ (sl + k ≤ sc) := by omega
    have hfit := growslice_fits hr hbig
    refine ⟨grownCap w (sl + k) sc el, (grownCap w (sl + k) sc el - (sl + k)) * i.size, grownCap_ge w (sl + k) sc el, rfl, Builtin.zeroCells z.cells (grownCap w (sl + k) sc el - (sl + k)), ?_, ?_⟩
    · rw [size_zeroCells]
      have : z.cells.size = i.size := by unfold cells at hz1; simpa using hz1
      rw [this]
    · have hif : ¬ (((sl + k : Nat) : Int) > IntKind.i64.max ∧ (false = true ∨ i.bytes = 0)) := by rintro ⟨_, h | h⟩ <;> simp_all
      have hif2 : ¬ (Builtin.nextslicecap (sl + k) sc * i.bytes > 2 ^ 48) := by
        rw [show (2 : Nat) ^ 48 = 281474976710656 from by decide]; omega
      have hti : ∀ w' : World, (typeInfo el).run P w' = .ok i w' := fun w' => by simp [typeInfo, hi]
      unfold Builtin.append_
      simp only [h0, h1, g0, g1, Sem.run_bind, run_under ht, run_under hu, Result.andThen_ok, run_size hm, Sem.run_pure, hdd, hlo, Bool.false_eq_true, if_false, hn', hti, Bool.not_false]
      simp only [Bool.false_eq_true, false_or, if_true, hb0, and_false, if_false, hif2, Sem.run_bind, run_choose, Question.forced, Result.andThen_ok, run_askRoom, hti]
      have hd2 : { heap := w.heap, tape := w.tape, drawn := w.drawn + 1, os := w.os, output := w.output : World } = w.drew := rfl
      rw [hd2, hold]
      simp only [Result.andThen_ok, n1, run_zero hz, newRow, Sem.run_bind, run_newObj, Sem.run_pure]
      rfl
/-- append of a made slice's length to a nil slice. -/
theorem run_appZ {AT : Array TypeId} {ty t u el : TypeId} {q : IntKind} {m by_ : Nat} {k : Int} {z : Value} {args : Array Value}
    (h0 : AT[0]? = some t) (h1 : AT[1]? = some u) (g0 : args[0]? = some (.slice none 0 0)) (g1 : args[1]? = some (.int .i64 k)) (ht : P.underlying t = some (.slice el)) (hu : P.underlying u = some (.int q))
    (hm : szOf P el = some m) (hb : bytesOfT P el = some by_) (hz : zeroOf P el = some z) (hz1 : (cells z).length = m) (hb0 : by_ ≠ 0) (hk : 0 < k) (hbig : k * by_ ≤ 140737488355328) :
    ∃ cap, k.toNat ≤ cap ∧ ∃ R : Array Value, R.size = cap * m ∧ (Builtin.append_ AT ty args).run P w = .ok (.slice (some ⟨w.heap.size, 0, none⟩) k.toNat cap) (w.drew.alloc (.cells R el)) := by
  have hi : ∃ i, P.info? el = some i ∧ i.size = m ∧ i.bytes = by_ ∧ i.zero = some z := by
    unfold szOf at hm; unfold bytesOfT at hb; unfold zeroOf at hz
    cases hi : P.info? el with
    | none => simp [hi] at hm
    | some i => simp [hi] at hm hb hz; exact ⟨i, rfl, hm, hb, hz⟩
  obtain ⟨i, hi, i1, i2, i3⟩ := hi
  subst i1; subst i2
  obtain ⟨n, rfl⟩ : ∃ n : Nat, k = n := ⟨k.toNat, by omega⟩
  have hn : 0 < n := by omega
  have hbn : n * i.bytes ≤ 140737488355328 := by
    have h2 : ((n * i.bytes : Nat) : Int) ≤ ((140737488355328 : Nat) : Int) := by rw [Int.natCast_mul]; exact hbig
    exact Int.ofNat_le.1 h2
  have hbig' : (0 + n) * i.bytes ≤ 140737488355328 := by rw [Nat.zero_add]; exact hbn
  have hnb : n ≤ 140737488355328 := by
    have h1 : n * 1 ≤ n * i.bytes := Nat.mul_le_mul_left _ (by omega)
    rw [Nat.mul_one] at h1
    exact Nat.le_trans h1 hbn
  have hfit := growslice_fits (need := 0 + n) (old := 0) (bytes := i.bytes) (by omega) hbig'
  have hzs : z.cells.size = i.size := by unfold cells at hz1; simpa using hz1
  have hge := grownCap_ge w (0 + n) 0 el
  refine ⟨grownCap w (0 + n) 0 el, by rw [Int.toNat_natCast]; omega, (#[] ++ (if n * i.size = 0 then #[] else Builtin.zeroCells z.cells n)) ++ Builtin.zeroCells z.cells (grownCap w (0 + n) 0 el - (0 + n)), ?_, ?_⟩
  · rw [Array.size_append, size_zeroCells, hzs, Array.empty_append]
    split
    · rename_i h0
      rcases Nat.mul_eq_zero.1 h0 with h | h
      · omega
      · simp [h]
    · rw [size_zeroCells, hzs, ← Nat.add_mul]
      congr 1; omega
  · have hw : IntKind.i64.wrap (n : Int) = n := by rw [IntKind.wrap_i64]; omega
    have hif : ¬ (((0 + n : Nat) : Int) > IntKind.i64.max ∧ (true = true ∨ i.bytes = 0)) := by
      rintro ⟨h, _⟩
      rw [IntKind.max_i64] at h
      omega
    have hif2 : ¬ (Builtin.nextslicecap (0 + n) 0 * i.bytes > 2 ^ 48) := by
      rw [show (2 : Nat) ^ 48 = 281474976710656 from by decide]; omega
    have hif3 : ¬ ((n : Int) * i.bytes > 2 ^ 48) := by
      have h3 : (n : Int) * i.bytes ≤ 140737488355328 := hbig
      rw [show (2 : Int) ^ 48 = 281474976710656 from by decide]
      exact Int.not_lt.2 (Int.le_trans h3 (by decide))
    have hti : ∀ w' : World, (typeInfo el).run P w' = .ok i w' := fun w' => by simp [typeInfo, hi]
    have hn0 : ¬ ((n : Int) < 0) := by omega
    have hn1 : ¬ (0 + n ≤ 0) := by omega
    have hzr : ∀ w' : World, (zeroValue el).run P w' = .ok z w' := fun w' => run_zero hz
    unfold Builtin.append_
    have hai : ∀ w' : World, (asInt (.int .i64 (n : Int))).run P w' = .ok (n : Int) w' := fun w' => by simp [asInt, asIntOf]
    have happ : ∀ w' : World, (if n * i.size = 0 then (pure #[] : Sem (Array Value)) else do pure (Builtin.zeroCells (← zeroValue el).cells n)).run P w' = .ok (if n * i.size = 0 then #[] else Builtin.zeroCells z.cells n) w' := by
      intro w'
      split
      · rfl
      · simp only [Sem.run_bind, hzr, Result.andThen_ok, Sem.run_pure]
    simp only [h0, h1, g0, g1, Sem.run_bind, run_under ht, run_under hu, Result.andThen_ok, run_size hm, Sem.run_pure, hai, if_true, hti, hw, hn0, if_false, hif3, Int.toNat_natCast, hn1]
    simp only [hif, hif2, if_false, Sem.run_bind, Sem.run_pure, Result.andThen_ok, run_choose, Question.forced, run_askRoom, hti, Builtin.firstCells, Bool.not_true, Bool.false_eq_true, hif3, hw, hn0, hn1, Int.toNat_natCast, true_or, and_true]
    have hifa : ¬ (((0 + n : Nat) : Int) > IntKind.i64.max) := by
      rw [IntKind.max_i64]
      omega
    simp only [hifa, hif2, if_false, Sem.run_bind, Sem.run_pure, Result.andThen_ok, run_choose, Question.forced, run_askRoom, hti, happ, hzr, newRow, run_newObj]
    rw [Nat.zero_add]
    rfl
theorem appZ_sound (H : Sim b h base w0 w) {AT : Array TypeId} {ty t u el : TypeId} {q : IntKind} {m by_ : Nat} {z : Value} {args : Array Value} {xo yo : Opd} {s v s' v' r : Value}
    (h0 : AT[0]? = some t) (h1_ : AT[1]? = some u) (ha0 : args[0]? = some s') (ha1 : args[1]? = some v') (ht : P.underlying t = some (.slice el)) (hu : P.underlying u = some (.int q))
    (hm : szOf P el = some m) (hb : bytesOfT P el = some by_) (hz : zeroOf P el = some z) (hz1 : (cells z).length = m) (hb0 : by_ ≠ 0)
    (hx : xo.ev e = some s) (hy : yo.ev e = some v) (hrs : VR b w.shape? s s') (hrv : VR b w.shape? v v') (hv : ev (.appZ el m by_ xo yo) e h = some (r, h1)) :
    Out b h1 base w0 w r ((Builtin.append_ AT ty args).run P w) := by
  simp only [ev, hx, hy] at hv
  split at hv
  · rename_i k e1 e2
    simp only [Option.some.injEq] at e1 e2
    subst e1; subst e2
    split at hv
    · rename_i hk
      simp only [Option.some.injEq, Prod.mk.injEq] at hv; obtain ⟨rfl, rfl⟩ := hv
      have e3 := hrs.nilslice_inv; subst e3
      have e4 := hrv.int_inv; subst e4
      obtain ⟨cap, hc, R, hR, hrun⟩ := run_appZ (P := P) (w := w) (ty := ty) h0 h1_ ha0 ha1 ht hu hm hb hz hz1 hb0 hk.1 hk.2
      refine ⟨[(w.heap.size, 0)], _, _, hrun, ?_, ?_, ?_⟩
      · exact new_slice (w := w.drew) H.drew hc (by rw [hR]; exact Nat.le_refl _)
      · exact shape_push w.drew _
      · exact push_sound (w := w.drew) H.drew rfl (by simp) fun j x hj => by simp at hj
    · exact absurd hv (by simp)
  · exact absurd hv (by simp)
theorem app_sound (H : Sim b h base w0 w) {AT : Array TypeId} {ty t u el : TypeId} {d : TypeDesc} {m by_ : Nat} {z : Value} {args : Array Value} {xo yo : Opd} {s v s' v' r : Value}
    (h0 : AT[0]? = some t) (h1_ : AT[1]? = some u) (ha0 : args[0]? = some s') (ha1 : args[1]? = some v') (ht : P.underlying t = some (.slice el)) (hu : P.underlying u = some d)
    (hd : ∀ q, d ≠ .int q) (hm : szOf P el = some m) (hb : bytesOfT P el = some by_) (hz : zeroOf P el = some z) (hz1 : (cells z).length = m) (hb0 : by_ ≠ 0)
    (hx : xo.ev e = some s) (hy : yo.ev e = some v) (hrs : VR b w.shape? s s') (hrv : VR b w.shape? v v') (hv : ev (.app el m by_ xo yo) e h = some (r, h1)) :
    Out b h1 base w0 w r ((Builtin.append_ AT ty args).run P w) := by
  simp only [ev, hx, hy] at hv
  split at hv
  · rename_i k hk
    have hk' := lenV_rel hrv hk
    split at hv
    · -- nothing is appended
      rename_i hk0
      subst hk0
      have fc := run_firstCells0 (P := P) (w := w) (es := m) (v := v') (by rw [hk']; simp)
      have fcd := run_firstCells0 (P := P) (w := w.drew) (es := m) (v := v') (by rw [hk']; simp)
      split at hv
      · simp only [Option.some.injEq, Prod.mk.injEq] at hv; obtain ⟨rfl, rfl⟩ := hv
        have := hrs.nilslice_inv; subst this
        have R := (run_app (P := P) (w := w) (ty := ty) h0 h1_ ha0 ha1 ht hu hd hm hb hz hz1 hb0 hk' (by simp)).1 (by simp) [] fc
        exact Out.same H (v' := .slice none 0 0) (by rw [R]; simp) (.scal rfl)
      · simp only [Option.some.injEq, Prod.mk.injEq] at hv; obtain ⟨rfl, rfl⟩ := hv
        have key : ∀ (a' : Addr) (l c : Nat), s' = .slice (some a') l c → l ≤ c → Out b h base w0 w _ ((Builtin.append_ AT ty args).run P w) := fun a' l c hs hl => by
          subst hs
          have hun : (Builtin.append_ AT ty args).run P w = .ok (.slice (some a') l c) w := by
            unfold Builtin.append_
            have hdd : (match d with | .int _ => true | _ => false) = false := by cases d <;> first | rfl | exact absurd rfl (hd _)
            simp only [h0, h1_, ha0, ha1, Sem.run_bind, run_under ht, run_under hu, Result.andThen_ok, run_size hm, Sem.run_pure, hdd, lenOf_run hk', Bool.false_eq_true, if_false, Nat.add_zero, hl, if_true, Bool.not_false, fc]
            simp [storeCells]
          exact Out.same H hun hrs
        cases hrs with
        | scal hg => simp [g0] at hg
        | slice _ hl _ _ => exact key _ _ _ rfl hl
        | slice0 => exact key _ _ _ rfl (Nat.le_refl _)
      · exact absurd hv (by simp)
    · rename_i hk0
      obtain ⟨new, hfirst⟩ : ∃ new, firstOf h m k v = some new := by
        cases hf : firstOf h m k v with
        | none => simp [hf] at hv
        | some new => exact ⟨new, rfl⟩
      simp only [hfirst] at hv
      obtain ⟨new', fc, hlr⟩ := firstOf_sound (P := P) H hrv hfirst
      obtain ⟨new2, fcd, hlr2⟩ := firstOf_sound (P := P) H.drew hrv hfirst
      have hnone := firstOf_ones H hfirst
      have hnl : new.length = k * m := by
        unfold firstOf at hfirst
        split at hfirst
        · split at hfirst
          · rename_i hx; exact absurd hx hk0
          · exact absurd hfirst (by simp)
        · split at hfirst
          · split at hfirst
            · split at hfirst
              · simp only [Option.some.injEq] at hfirst; subst hfirst; simp; omega
              · exact absurd hfirst (by simp)
            · simp [hk0] at hfirst
          · exact absurd hfirst (by simp)
        · split at hfirst
          · rename_i hx; simp only [Option.some.injEq] at hfirst; subst hfirst; rw [hx.1]; simp; exact Nat.min_eq_left hx.2
          · exact absurd hfirst (by simp)
        · exact absurd hfirst (by simp)
      split at hv
      · -- onto nil
        split at hv
        · rename_i hbig
          simp only [Option.some.injEq, Prod.mk.injEq] at hv; obtain ⟨rfl, rfl⟩ := hv
          have := hrs.nilslice_inv; subst this
          obtain ⟨cap, rest, hc1, hc2, Rr, hR, hrun⟩ := (run_app (P := P) (w := w) (ty := ty) h0 h1_ ha0 ha1 ht hu hd hm hb hz hz1 hb0 hk' (by simpa using hbig)).2 (by omega) #[] new2 (by simp [Builtin.firstCells]) fcd
          rw [Nat.zero_add] at hc1 hc2 hrun
          have hlen2 := hlr2.1
          have hsz : (#[] ++ new2.toArray ++ Rr).size = cap * m := by
            have : (#[] ++ new2.toArray ++ Rr).size = new2.length + Rr.size := by simp
            rw [this, hR, hc2, ← hlen2, hnl, ← Nat.add_mul]
            congr 1; omega
          refine ⟨[(w.heap.size, 0)], _, _, hrun, ?_, ?_, ?_⟩
          · exact new_slice (w := w.drew) H.drew hc1 (by rw [hsz]; exact Nat.le_refl _)
          · exact shape_push w.drew _
          · refine push_sound (w := w.drew) H.drew hnone (by rw [hsz, hnl]; exact Nat.mul_le_mul_right _ hc1) fun j x hj => ?_
            obtain ⟨x', hx1, hx2⟩ := hlr2.get hj
            refine ⟨x', ?_, hx2⟩
            have hlt : j < new2.length := (List.getElem?_eq_some_iff.1 hx1).1
            rw [Array.getElem?_append, if_pos (by simp; exact hlt), Array.getElem?_append, if_neg (by simp)]
            simpa using hx1
        · exact absurd hv (by simp)
      · rename_i i off len s2
        split at hv
        · rename_i t' c hi
          split at hv
          · rename_i hcond
            obtain ⟨rfl, rfl, hoff, hbig⟩ := hcond
            simp only [Option.some.injEq, Prod.mk.injEq] at hv; obtain ⟨rfl, rfl⟩ := hv
            have hget := rowAt_get hi
            obtain ⟨kb, sb, hbi, hO⟩ := H.obj i _ hget
            have hO' := hO
            obtain ⟨hone, cs, t2, fr, hkb, hs, hc, hx3⟩ := hO
            simp only [Bool.false_eq_true, if_false] at hx3
            obtain ⟨hbase, rfl, rfl⟩ := hx3
            have hlen1 := hlr.1
            have hlen2 := hlr2.1
            have hcut : ((c.drop off).take (len * s2)).all one = true := List.all_eq_true.2 fun x hx => List.all_eq_true.1 hone x (List.mem_of_mem_drop (List.mem_of_mem_take hx))
            -- the slice as it stands in the world
            have hsl : ∃ a' cap, s' = .slice (some a') len cap ∧ len ≤ cap ∧ (cap < len + k ∨ (a' = ⟨kb, sb + off, none⟩ ∧ sb + off + cap * s2 ≤ cs.size)) ∧
                (∃ old : List Value, (Builtin.firstCells s2 len (.slice (some a') len cap)).run P w.drew = .ok old.toArray w.drew ∧ LR (VR b w.shape?) ((c.drop off).take (len * s2)) old) := by
              have hfo : firstOf h s2 len (.slice (some ⟨i, off, none⟩) len s2) = some ((c.drop off).take (len * s2)) := by
                simp [firstOf, hi, hoff]
              obtain ⟨old, ho1, ho2⟩ := firstOf_sound (P := P) H.drew hrs hfo
              rcases hrs.slice_inv with ⟨k2, s3, cap, tt, nn, hb2, hl2, hS2, hcap2, rfl⟩ | ⟨hz0, a', rfl⟩
              · rw [hbi] at hb2; cases hb2
                have : w.shape? kb = some (t2, cs.size) := by simp [World.shape?, hkb]
                rw [this] at hS2; cases hS2
                exact ⟨_, cap, rfl, hl2, .inr ⟨rfl, hcap2⟩, old, ho1, ho2⟩
              · subst hz0
                exact ⟨a', 0, rfl, Nat.le_refl _, .inl (by omega), old, ho1, ho2⟩
            obtain ⟨a', cap, rfl, hlc, hroom, old, hold, hlo⟩ := hsl
            by_cases hfit : len + k ≤ cap
            · -- within the capacity
              rcases hroom with hroom | ⟨rfl, hroom⟩
              · omega
              have R := (run_app (P := P) (w := w) (ty := ty) h0 h1_ ha0 ha1 ht hu hd hm hb hz hz1 hb0 hk' hbig).1 hfit new' fc
              have hspace : sb + off + len * s2 + new'.length ≤ cs.size := by
                rw [← hlen1, hnl]
                have : (len + k) * s2 ≤ cap * s2 := Nat.mul_le_mul_right _ hfit
                rw [Nat.add_mul] at this; omega
              have hones : ∀ x ∈ new', x.oneCell' = true := hlr.ones hnone
              have hst := run_storeCells_at P kb (sb + off + len * s2) t2 new' 0 cs w hkb (by omega) hones
              rw [Nat.add_zero, setRow_wset hkb] at hst
              simp only [add_none, Sem.run_bind, hst, Result.andThen_ok, Sem.run_pure] at R
              have hsz : (cs.toList.take (sb + off + len * s2) ++ new' ++ cs.toList.drop (sb + off + len * s2 + new'.length)).toArray.size = cs.size := by simp; omega
              have hshape := wset_shape w kb cs _ t2 (0, 0) (0, 0) hkb hsz
              have hnew : (b ++ [(kb, sb + off)])[h.next]? = some (kb, sb + off) := by
                have := H.len
                rw [List.getElem?_append_right (by omega)]; simp [this]
              refine ⟨[(kb, sb + off)], _, _, R, ?_, by rw [hshape]; exact SLe.refl _, ?_⟩
              · have hSS : (wset w kb (.cells (cs.toList.take (sb + off + len * s2) ++ new' ++ cs.toList.drop (sb + off + len * s2 + new'.length)).toArray t2 (0, 0))).shape? kb = some (t2, cs.size) := by
                  rw [hshape]; simp [World.shape?, hkb]
                have := VR.slice (off := 0) (es := s2) hnew hfit hSS (by omega)
                simpa using this
              · refine H.take hget rfl hbi ⟨_, rfl⟩ hshape ?_ rfl
                refine ⟨by rw [List.all_append, hcut, hnone]; rfl, _, t2, (0, 0), wset_same _ _ _ (Array.getElem?_eq_some_iff.1 hkb).1, ?_, fun j x hj => ?_, by simp [hbase]⟩
                · rw [hsz]; simp only [List.length_append, List.length_take, List.length_drop, hnl]
                  have h1' := hspace
                  rw [← hlen1, hnl] at h1'
                  omega
                · rw [hshape]
                  have e1 : ((c.drop off).take (len * s2)).length = len * s2 := by simp; omega
                  rw [List.getElem?_append, e1] at hj
                  by_cases hj1 : j < len * s2
                  · rw [if_pos hj1, List.getElem?_take, if_pos hj1, List.getElem?_drop] at hj
                    obtain ⟨x', h1', h2'⟩ := hc _ _ hj
                    refine ⟨x', ?_, h2'.mono getElem?_pre (SLe.refl _)⟩
                    simp only [List.getElem?_toArray, List.getElem?_append, List.length_append, List.length_take, Array.length_toList]
                    rw [if_pos (by omega), if_pos (by omega), List.getElem?_take, if_pos (by omega), Array.getElem?_toList, ← h1']
                    congr 1; omega
                  · rw [if_neg hj1] at hj
                    obtain ⟨x', h1', h2'⟩ := hlr.get hj
                    have hlt := (List.getElem?_eq_some_iff.1 h1').1
                    refine ⟨x', ?_, h2'.mono getElem?_pre (SLe.refl _)⟩
                    simp only [List.getElem?_toArray, List.getElem?_append, List.length_append, List.length_take, Array.length_toList]
                    rw [if_pos (by omega), if_neg (by omega), ← h1']
                    congr 1; omega
            · -- a new row
              obtain ⟨cap2, rest, hc1, hc2, Rr, hR, hrun⟩ := (run_app (P := P) (w := w) (ty := ty) h0 h1_ ha0 ha1 ht hu hd hm hb hz hz1 hb0 hk' hbig).2 (by omega) old.toArray new2 hold fcd
              have hlo1 := hlo.1
              have eo : ((c.drop off).take (len * s2)).length = len * s2 := by simp; omega
              have hsz : (old.toArray ++ new2.toArray ++ Rr).size = cap2 * s2 := by
                have : (old.toArray ++ new2.toArray ++ Rr).size = old.length + new2.length + Rr.size := by simp
                rw [this, hR, hc2, ← hlen2, ← hlo1, eo, hnl, ← Nat.add_mul, ← Nat.add_mul]
                congr 1; omega
              have HK := H.kill hget
              refine ⟨[(w.heap.size, 0)], _, _, hrun, ?_, ?_, ?_⟩
              · exact new_slice (w := w.drew) H.drew hc1 (by rw [hsz]; exact Nat.le_refl _)
              · exact shape_push w.drew _
              · refine push_sound (w := w.drew) HK.drew (by rw [List.all_append, hcut, hnone]; rfl) ?_ fun j x hj => ?_
                · rw [hsz, List.length_append, eo, hnl, ← Nat.add_mul]; exact Nat.mul_le_mul_right _ hc1
                · rw [List.getElem?_append, eo] at hj
                  by_cases hj1 : j < len * s2
                  · rw [if_pos hj1] at hj
                    obtain ⟨x', h1', h2'⟩ := hlo.get hj
                    have hlt := (List.getElem?_eq_some_iff.1 h1').1
                    refine ⟨x', ?_, h2'⟩
                    rw [Array.getElem?_append, if_pos (by simp; omega), Array.getElem?_append, if_pos (by simpa using hlt)]
                    simpa using h1'
                  · rw [if_neg hj1] at hj
                    obtain ⟨x', h1', h2'⟩ := hlr2.get hj
                    have hlt := (List.getElem?_eq_some_iff.1 h1').1
                    refine ⟨x', ?_, h2'⟩
                    rw [Array.getElem?_append, if_pos (by simp; omega), Array.getElem?_append, if_neg (by simp; omega)]
                    rw [← h1']
                    simp only [List.size_toArray, List.getElem?_toArray]
                    congr 1; omega
          · exact absurd hv (by simp)
        · exact absurd hv (by simp)
      · exact absurd hv (by simp)
  · exact absurd hv (by simp)
end
end Go.Proofs.YtpgidiompdabdaaGreat.AM
