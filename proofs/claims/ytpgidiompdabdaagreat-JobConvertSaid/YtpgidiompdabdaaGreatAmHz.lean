/- The abstract machine: rows of one value again and again. -/
import Derived.Test.YtpgidiompdabdaaGreatAmH
namespace Go.Proofs.YtpgidiompdabdaaGreat.AM
open Go Go.RowKit
theorem rep_get {α : Type} (l : List α) : ∀ (n i : Nat), i < n * l.length → (List.replicate n l).flatten[i]? = l[i % l.length]?
  | 0, i, h => by simp at h
  | n + 1, i, h => by
    rw [List.replicate_succ, List.flatten_cons, List.getElem?_append]
    split
    · rename_i hi; rw [Nat.mod_eq_of_lt hi]
    · rename_i hi
      rw [rep_get l n (i - l.length) (by rw [Nat.add_mul, Nat.one_mul] at h; omega)]
      congr 1
      exact (Nat.mod_eq_sub_mod (by omega)).symm
theorem rep_len {α : Type} (l : List α) (n : Nat) : (List.replicate n l).flatten.length = n * l.length := by
  induction n with
  | zero => simp
  | succ n ih => rw [List.replicate_succ, List.flatten_cons, List.length_append, ih, Nat.add_mul, Nat.one_mul, Nat.add_comm]
theorem zeroCells_rep (z : Array Value) (n : Nat) : (Builtin.zeroCells z n).toList = (List.replicate n z.toList).flatten := by
  apply List.ext_getElem?
  intro i
  by_cases h : i < n * z.size
  · rw [rep_get z.toList n i (by simpa using h)]
    have hz : 0 < z.size := by
      rcases Nat.eq_zero_or_pos z.size with h0 | h0
      · rw [h0] at h; simp at h
      · exact h0
    have hm : i % z.size < z.size := Nat.mod_lt _ hz
    simp [Builtin.zeroCells, h, hm]
  · rw [List.getElem?_eq_none (by simp [Builtin.zeroCells]; omega), List.getElem?_eq_none (by rw [rep_len]; simpa using h)]
section
variable {P : Program} {b : Bt} {h h1 : AH} {base : Nat} {w0 w : World} {e : Env} {a : Act} {n : Nat}
theorem mk_sound (H : Sim b h base w0 w) (R : Rl b e w a n) {t : TypeId} {l c : Operand} {r : ROp} (hr : resolve P (.makeSlice t l c) = some r) {v : Value} (hv : ev r e h = some (v, h1)) :
    Out b h1 base w0 w v ((Instr.makeSlice t (a.eval l) (a.eval c)).run P w) := by
  simp only [resolve] at hr
  split at hr
  · rename_i el lo co ht hl hc
    split at hr
    · rename_i m by_ z hm hb hz
      split at hr
      · exact absurd hr (by simp)
      · rename_i hne
        simp only [not_or, Decidable.not_not, ne_eq, Bool.not_eq_false] at hne
        obtain ⟨hm0, hb0, hzl, hzg⟩ := hne
        simp only [Option.some.injEq] at hr; subst hr
        simp only [ev] at hv
        split at hv
        · rename_i ln cp hlv hcv
          split at hv
          · rename_i hcond
            obtain ⟨h0, hlc, hbig⟩ := hcond
            simp only [Option.some.injEq, Prod.mk.injEq] at hv; obtain ⟨rfl, rfl⟩ := hv
            rw [(opd_sound R hl hlv).int_inv, (opd_sound R hc hcv).int_inv]
            have hi : ∃ i, P.info? el = some i ∧ i.size = m ∧ i.bytes = by_ ∧ i.zero = some z := by
              unfold szOf at hm; unfold bytesOfT at hb; unfold zeroOf at hz
              cases hi : P.info? el with
              | none => simp [hi] at hm
              | some i => simp [hi] at hm hb hz; exact ⟨i, rfl, hm, hb, hz⟩
            obtain ⟨i, hi, i1, i2, i3⟩ := hi
            subst i1; subst i2
            have hti : ∀ w' : World, (typeInfo el).run P w' = .ok i w' := fun w' => by simp [typeInfo, hi]
            obtain ⟨L, rfl⟩ : ∃ L : Nat, ln = L := ⟨ln.toNat, by omega⟩
            obtain ⟨C, rfl⟩ : ∃ C : Nat, cp = C := ⟨cp.toNat, by omega⟩
            have hLC : L ≤ C := by omega
            have hCb : C * i.bytes ≤ 140737488355328 := by
              have h2 : ((C * i.bytes : Nat) : Int) ≤ ((140737488355328 : Nat) : Int) := by rw [Int.natCast_mul]; exact hbig
              exact Int.ofNat_le.1 h2
            have hC : C ≤ 140737488355328 := by
              have h2 : C * 1 ≤ C * i.bytes := Nat.mul_le_mul_left _ (by omega)
              rw [Nat.mul_one] at h2
              exact Nat.le_trans h2 hCb
            have hwC : IntKind.i64.wrap (C : Int) = C := by rw [IntKind.wrap_i64]; omega
            have hwL : IntKind.i64.wrap (L : Int) = L := by rw [IntKind.wrap_i64]; omega
            have hzs : z.cells.size = i.size := by unfold cells at hzl; simpa using hzl
            have hbig2 : ¬ ((i.bytes : Int) * (C : Int) > 2 ^ 48) := by
              rw [show (2 : Int) ^ 48 = 281474976710656 from by decide, Int.mul_comm]
              exact Int.not_lt.2 (Int.le_trans hbig (by decide))
            have hai : ∀ (n : Nat) (w' : World), (asInt (.int .i64 (n : Int))).run P w' = .ok (n : Int) w' := fun n w' => by simp [asInt, asIntOf]
            have hrow : ∃ row : Array Value, row = Builtin.zeroCells z.cells C ∧ (Instr.makeSlice t (.int .i64 (L : Int)) (.int .i64 (C : Int))).run P w = .ok (.slice (some ⟨w.heap.size, 0, none⟩) L C) (w.alloc (.cells row el)) := by
              refine ⟨_, rfl, ?_⟩
              have g1 : ¬ ((C : Int) < 0) := by omega
              have g2 : ¬ ((L : Int) < 0) := by omega
              have g3 : ¬ ((L : Int) > (C : Int)) := by omega
              have hdec : (decide ((C : Int) < 0) || decide ((i.bytes : Int) * (C : Int) > 2 ^ 48)) = false := by simp only [g1, hbig2, decide_false, Bool.or_self]
              simp only [Instr.makeSlice, Sem.run_bind, run_under ht, Result.andThen_ok, hai, hti, hwC, hwL]
              simp only [g1, g2, g3, hbig2, decide_false, Bool.or_self, Bool.false_eq_true, if_false, Sem.run_bind, run_askRoom, Result.andThen_ok, Int.toNat_natCast, run_size hm]
              by_cases hn : C * i.size = 0
              · have hC0 : C = 0 := by rcases Nat.mul_eq_zero.1 hn with h | h
                                       · exact h
                                       · exact absurd h hm0
                subst hC0
                have e0 : Array.range 0 = #[] := rfl
                simp [newRow, run_newObj, Builtin.zeroCells, e0]
              · simp only [hn, if_false, Sem.run_bind, run_zero hz, Result.andThen_ok, Sem.run_pure, newRow, run_newObj]
                simp only [Builtin.zeroCells, hzs]
                rfl
            obtain ⟨row, hrw, hrun⟩ := hrow
            rw [Int.toNat_natCast]
            refine ⟨[(w.heap.size, 0)], _, _, hrun, ?_, shape_push w _, ?_⟩
            · exact new_slice (w := w) H hLC (by rw [hrw, size_zeroCells, hzs]; exact Nat.le_refl _)
            · have hcl : (cells z).length = z.cells.size := by unfold cells; simp
              refine push_sound H ?_ ?_ fun j u hj => ?_
              · refine List.all_eq_true.2 fun x hx => ?_
                obtain ⟨y, hy, hxy⟩ := List.mem_flatten.1 hx
                rw [List.eq_of_mem_replicate hy] at hxy
                exact List.all_eq_true.1 (g0_ones hzg) x hxy
              · rw [rep_len, hrw, size_zeroCells, hcl]; exact Nat.mul_le_mul_right _ hLC
              · have hjl : j < L * (cells z).length := by
                  have := (List.getElem?_eq_some_iff.1 hj).1
                  rwa [rep_len] at this
                rw [rep_get _ _ _ hjl] at hj
                refine ⟨u, ?_, .scal (List.all_eq_true.1 hzg u (List.mem_of_getElem? hj))⟩
                rw [← Array.getElem?_toList, hrw, zeroCells_rep]
                have hjc : j < C * (cells z).length := Nat.lt_of_lt_of_le hjl (Nat.mul_le_mul_right _ hLC)
                show (List.replicate C (cells z)).flatten[j]? = some u
                rw [rep_get _ _ _ hjc]; exact hj
          · exact absurd hv (by simp)
        · exact absurd hv (by simp)
    · exact absurd hr (by simp)
  · exact absurd hr (by simp)
end
end Go.Proofs.YtpgidiompdabdaaGreat.AM
