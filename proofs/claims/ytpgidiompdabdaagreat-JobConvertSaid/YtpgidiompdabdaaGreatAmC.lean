/- The abstract machine, third part: what the model's operations give, from what the abstract ones give. -/
import Derived.Test.YtpgidiompdabdaaGreatAmB
import Derived.Laws.BytesString
import Derived.Laws.AppendOwn
namespace Go.Proofs.YtpgidiompdabdaaGreat.AM
open Go Go.RowKit

section
variable {P : Program} {b : Bt} {h h1 : AH} {base : Nat} {w0 w : World} {e : Env} {a : Act} {n : Nat}

theorem opd_sound (R : Rl b e w a n) {x : Operand} {o : Opd} {v : Value} (hx : rOpd x = some o) (ho : o.ev e = some v) : VR b w.shape? v (a.eval x) := by
  cases x with
  | tmp t =>
    simp only [rOpd, Option.some.injEq] at hx; subst hx
    obtain ⟨v', h1, h2⟩ := R.get t v ho
    have : a.eval (.tmp t) = v' := by simp [Act.eval, Array.getD_eq_getD_getElem?, h1]
    rw [this]; exact h2
  | const c =>
    simp only [rOpd] at hx
    split at hx
    · rename_i hg
      simp only [Option.some.injEq] at hx; subst hx
      simp only [Opd.ev, Option.some.injEq] at ho; subst ho
      exact .scal hg
    · exact absurd hx (by simp)
  | func f =>
    simp only [rOpd, Option.some.injEq] at hx; subst hx
    simp only [Opd.ev, Option.some.injEq] at ho; subst ho
    exact .func rfl (fun i v v' h => by simp at h)
  | global g => simp [rOpd] at hx
theorem opds_sound (R : Rl b e w a n) : ∀ {xs : List Operand} {os : List Opd} {vs : List Value}, rOpds xs = some os → evs e os = some vs → LR (VR b w.shape?) vs (xs.map a.eval)
  | [], os, vs, hx, hv => by
    simp only [rOpds, Option.some.injEq] at hx; subst hx
    simp only [evs, Option.some.injEq] at hv; subst hv
    exact .nil
  | x :: xs, os, vs, hx, hv => by
    simp only [rOpds] at hx
    split at hx
    · rename_i o os' h1 h2
      simp only [Option.some.injEq] at hx; subst hx
      simp only [evs] at hv
      split at hv
      · rename_i v vs' h3 h4
        simp only [Option.some.injEq] at hv; subst hv
        exact .cons (opd_sound R h1 h3) (opds_sound R h2 h4)
      · exact absurd hv (by simp)
    · exact absurd hx (by simp)

/-! ### Types -/
theorem run_under {t : TypeId} {d : TypeDesc} (hd : P.underlying t = some d) : (underlying t).run P w = .ok d w := run_underlying hd w
theorem run_size {t : TypeId} {k : Nat} (hz : szOf P t = some k) : (Go.sizeOf t).run P w = .ok k w := by
  unfold szOf at hz
  cases hi : P.info? t with
  | none => simp [hi] at hz
  | some i => simp [hi] at hz; simp [Go.sizeOf, typeInfo, hi, hz]
theorem run_zero {t : TypeId} {z : Value} (hz : zeroOf P t = some z) : (zeroValue t).run P w = .ok z w := by
  unfold zeroOf at hz
  cases hi : P.info? t with
  | none => simp [hi] at hz
  | some i => simp [hi] at hz; simp [zeroValue, typeInfo, hi, hz]
theorem run_agg {t : TypeId} {g : Bool} (hz : isAggP P t = some g) : (isAgg t).run P w = .ok g w := by
  unfold isAggP at hz
  cases hi : P.underlying t with
  | none => simp [hi] at hz
  | some d =>
    simp [hi] at hz; subst hz
    simp only [isAgg, Sem.run_bind, run_under hi, Result.andThen_ok]
    cases d <;> rfl

/-! ### Outcomes -/
def Out (b : Bt) (h1 : AH) (base : Nat) (w0 w : World) (v : Value) (r : Result Value) : Prop :=
  ∃ c v' w1, r = .ok v' w1 ∧ VR (b ++ c) w1.shape? v v' ∧ SLe w.shape? w1.shape? ∧ Sim (b ++ c) h1 base w0 w1
theorem Out.same {v v' : Value} {r : Result Value} (H : Sim b h base w0 w) (hr : r = .ok v' w) (hv : VR b w.shape? v v') : Out b h base w0 w v r :=
  ⟨[], v', w, hr, by rw [List.append_nil]; exact hv, SLe.refl _, by rw [List.append_nil]; exact H⟩
theorem Out.scal {v : Value} {r : Result Value} (H : Sim b h base w0 w) (hr : r = .ok v w) (hv : g0 v = true) : Out b h base w0 w v r := Out.same H hr (.scal hv)

theorem add_none (k s n : Nat) : (⟨k, s, none⟩ : Addr).add n = ⟨k, s + n, none⟩ := by unfold Addr.add; split <;> simp_all
theorem setRow_wset {k : Nat} {cs cs' : Array Value} {t : TypeId} {fr : Nat × Nat} (hk : w.heap[k]? = some (.cells cs t fr)) : w.setRow k cs' = wset w k (.cells cs' t fr) := by
  have hlt : k < w.heap.size := (Array.getElem?_eq_some_iff.1 hk).1
  have hv : w.heap[k] = .cells cs t fr := (Array.getElem?_eq_some_iff.1 hk).2
  unfold World.setRow wset
  congr 1
  apply Array.ext
  · simp
  · intro j h1 h2
    have hj : j < w.heap.size := by simpa using h2
    rw [Array.getElem_modify, Array.getElem_setIfInBounds hj]
    by_cases e : k = j
    · subst e; rw [if_pos rfl, if_pos rfl, hv]
    · rw [if_neg e, if_neg e]
theorem mkV_rel {agg : Bool} {l l' : List Value} {v : Value} (hl : LR (VR b w.shape?) l l') (hv : mkV agg l = some v) : ∃ v', mkV agg l' = some v' ∧ VR b w.shape? v v' := by
  cases agg with
  | true => simp only [mkV, Option.some.injEq] at hv; subst hv; exact ⟨_, rfl, VR.of_lr_agg hl⟩
  | false =>
    match l, hv with
    | [x], hv =>
      simp only [mkV, Option.some.injEq] at hv; subst hv
      obtain ⟨x', r, rfl, hx, hr⟩ := hl.uncons
      rw [hr.unnil]
      exact ⟨x', rfl, hx⟩
    | [], hv => simp [mkV] at hv
    | _ :: _ :: _, hv => simp [mkV] at hv

/-- The cells of an object as they lie in the world. -/
theorem OR.cellsAt {k s : Nat} {ro : Bool} {t : TypeId} {c : List Value} (hO : OR b w base k s (.row ro t c)) {off m : Nat} (hm : off + m ≤ c.length) :
    ∃ l', l'.length = m ∧ LR (VR b w.shape?) ((c.drop off).take m) l' ∧ ∀ (j : Nat) (v : Value), l'[j]? = some v → w.cell? ((⟨k, s + off, none⟩ : Addr).add j) = some v := by
  obtain ⟨_, cs, t', fr, hk, hs, hc, _⟩ := hO
  refine ⟨(cs.toList.drop (s + off)).take m, by simp; omega, ⟨by simp; omega, fun i v v' h1 h2 => ?_⟩, fun j v hj => ?_⟩
  · rw [List.getElem?_take] at h1 h2
    split at h1
    · rename_i hi
      rw [if_pos hi] at h2
      rw [List.getElem?_drop] at h1 h2
      obtain ⟨u, hu, hr⟩ := hc _ _ h1
      have : cs.toList[s + off + i]? = some u := by rw [Array.getElem?_toList, Nat.add_assoc]; exact hu
      rw [this] at h2; cases h2; exact hr
    · exact absurd h1 (by simp)
  · rw [List.getElem?_take] at hj
    split at hj
    · rw [List.getElem?_drop, Array.getElem?_toList] at hj
      rw [add_none]
      simp [World.cell?, hk, hj]
    · exact absurd hj (by simp)

/-- A load. -/
theorem load_run (H : Sim b h base w0 w) {t : TypeId} {agg : Bool} {m : Nat} (hf : form P t = some (agg, m)) {i off k s : Nat} {ro : Bool} {tt : TypeId} {c : List Value} {v : Value}
    (hb : b[i]? = some (k, s)) (hi : rowAt h i = some (ro, tt, c)) (hm : off + m ≤ c.length) (hv : mkV agg ((c.drop off).take m) = some v) :
    ∃ v', VR b w.shape? v v' ∧ (loadVar t ⟨k, s + off, none⟩).run P w = .ok v' w := by
  obtain ⟨l', hl, hr, hcell⟩ := (H.row hi hb).cellsAt hm
  obtain ⟨v', hv', hrv⟩ := mkV_rel hr hv
  refine ⟨v', hrv, ?_⟩
  unfold form at hf
  split at hf
  · rename_i k' h1 h2
    simp only [Option.some.injEq, Prod.mk.injEq] at hf; obtain ⟨rfl, rfl⟩ := hf
    simp only [mkV, Option.some.injEq] at hv'; subst hv'
    have := run_loadCells_list (P := P) w ⟨k, s + off, none⟩ l' hcell
    rw [hl] at this
    simp [loadVar, run_agg h1, run_size h2, this]
  · rename_i h1 h2
    simp only [Option.some.injEq, Prod.mk.injEq] at hf; obtain ⟨rfl, rfl⟩ := hf
    match l', hl with
    | [x], _ =>
      simp only [mkV, Option.some.injEq] at hv'; subst hv'
      have := hcell 0 x rfl
      rw [add_none, Nat.add_zero] at this
      simp [loadVar, run_agg h1, this]
  · exact absurd hf (by simp)

theorem load_sound (H : Sim b h base w0 w) {t : TypeId} {agg : Bool} {m : Nat} (hf : form P t = some (agg, m)) {i off k s : Nat} {ro : Bool} {tt : TypeId} {c : List Value} {v : Value}
    (hb : b[i]? = some (k, s)) (hi : rowAt h i = some (ro, tt, c)) (hm : off + m ≤ c.length) (hv : mkV agg ((c.drop off).take m) = some v) :
    Out b h base w0 w v ((loadVar t ⟨k, s + off, none⟩).run P w) :=
  let ⟨_, hr, hrun⟩ := load_run (P := P) H hf hb hi hm hv
  Out.same H hrun hr
theorem one_iff (v : Value) : one v = v.oneCell' := by cases v <;> rfl
theorem LR.ones {l l' : List Value} (hl : LR (VR b w.shape?) l l') (ho : l.all one = true) : ∀ v ∈ l', v.oneCell' = true := by
  intro v hv
  obtain ⟨i, hi⟩ := List.getElem?_of_mem hv
  have hlt : i < l.length := by rw [hl.1]; exact (List.getElem?_eq_some_iff.1 hi).1
  have h1 := List.getElem?_eq_getElem hlt
  rw [← one_iff, ← (hl.2 i _ _ h1 hi).ones]
  exact List.all_eq_true.1 ho _ (List.mem_of_getElem? h1)
theorem splice_ones {c vs : List Value} (h1 : c.all one = true) (h2 : vs.all one = true) (off : Nat) : (splice c off vs).all one = true := by
  rw [List.all_eq_true] at *
  intro x hx
  unfold splice at hx
  rcases List.mem_append.1 hx with hx | hx
  · rcases List.mem_append.1 hx with hx | hx
    · exact h1 x (List.mem_of_mem_take hx)
    · exact h2 x hx
  · exact h1 x (List.mem_of_mem_drop hx)
theorem g0_one {v : Value} (h : g0 v = true) : one v = true := by cases v <;> first | rfl | simp [g0] at h
theorem g0_ones {l : List Value} (h : l.all g0 = true) : l.all one = true := List.all_eq_true.2 fun x hx => g0_one (List.all_eq_true.1 h x hx)
/-- Cells are written into an object's block. -/
theorem Sim.write (H : Sim b h base w0 w) {i k s off : Nat} {t : TypeId} {c vs vs' : List Value} (hb : b[i]? = some (k, s)) (hi : rowAt h i = some (false, t, c)) (hr : LR (VR b w.shape?) vs vs')
    (hm : off + vs.length ≤ c.length) (ho : vs.all one = true) :
    ∃ w1, (storeCells ⟨k, s + off, none⟩ vs' 0).run P w = .ok () w1 ∧ w1.shape? = w.shape? ∧ Sim b (h.put i (.row false t (splice c off vs))) base w0 w1 := by
  obtain ⟨hone, cs, t', fr, hk, hs, hc, hx⟩ := H.row hi hb
  simp only [Bool.false_eq_true, if_false] at hx
  obtain ⟨hbase, rfl, rfl⟩ := hx
  have hlen := hr.1
  have hst := run_storeCells_at P k (s + off) t' vs' 0 cs w hk (by omega) (hr.ones ho)
  rw [Nat.add_zero, setRow_wset hk] at hst
  have hsz : (cs.toList.take (s + off) ++ vs' ++ cs.toList.drop (s + off + vs'.length)).toArray.size = cs.size := by simp; omega
  have hshape := wset_shape w k cs _ t' (0, 0) (0, 0) hk hsz
  refine ⟨_, hst, hshape, ?_⟩
  refine H.put (rowAt_get hi) rfl hb (by rw [hshape]; exact SLe.refl _) ?_
  refine ⟨splice_ones hone ho off, _, t', (0, 0), wset_same _ _ _ (Array.getElem?_eq_some_iff.1 hk).1, by rw [hsz]; unfold splice; simp; omega, fun j v hj => ?_, by simp [hbase]⟩
  rw [hshape]
  unfold splice at hj
  have key : ∀ j, (cs.toList.take (s + off) ++ vs' ++ cs.toList.drop (s + off + vs'.length)).toArray[j]? = if j < s + off then cs[j]? else if j < s + off + vs'.length then vs'[j - (s + off)]? else cs[j]? := by
    intro j
    simp only [List.getElem?_toArray, List.getElem?_append, List.getElem?_take, List.getElem?_drop, List.length_append, List.length_take, Array.length_toList, Array.getElem?_toList]
    have : min (s + off) cs.size = s + off := by omega
    rw [this]
    by_cases h1 : j < s + off
    · rw [if_pos (by omega), if_pos h1, if_pos h1, if_pos h1]
    · by_cases h2 : j < s + off + vs'.length
      · rw [if_pos (by omega), if_neg h1, if_neg h1, if_pos h2]
      · rw [if_neg (by omega), if_neg h1, if_neg h2]
        congr 1; omega
  rw [key]
  have hj2 : (c.take off ++ vs ++ c.drop (off + vs.length))[j]? = if j < off then c[j]? else if j < off + vs.length then vs[j - off]? else c[j]? := by
    simp only [List.getElem?_append, List.getElem?_take, List.getElem?_drop, List.length_append, List.length_take]
    have : min off c.length = off := by omega
    rw [this]
    by_cases h1 : j < off
    · rw [if_pos (by omega), if_pos h1, if_pos h1, if_pos h1]
    · by_cases h2 : j < off + vs.length
      · rw [if_pos (by omega), if_neg h1, if_neg h1, if_pos h2]
      · rw [if_neg (by omega), if_neg h1, if_neg h2]
        congr 1; omega
  rw [hj2] at hj
  by_cases e1 : j < off
  · rw [if_pos e1] at hj; rw [if_pos (by omega)]; exact hc j v hj
  · rw [if_neg e1] at hj; rw [if_neg (by omega)]
    by_cases e2 : j < off + vs.length
    · rw [if_pos e2] at hj; rw [if_pos (by omega)]
      obtain ⟨v', h1, h2⟩ := hr.get hj
      exact ⟨v', by rw [show s + j - (s + off) = j - off by omega]; exact h1, h2⟩
    · rw [if_neg e2] at hj; rw [if_neg (by omega)]; exact hc j v hj

/-- A new row of cells. -/
theorem push_sound (H : Sim b h base w0 w) {t : TypeId} {vs : List Value} {cs : Array Value} (h1 : vs.all one = true) (hs : vs.length ≤ cs.size) (hr : ∀ (j : Nat) (v : Value), vs[j]? = some v → ∃ v', cs[j]? = some v' ∧ VR b w.shape? v v') :
    Sim (b ++ [(w.heap.size, 0)]) (h.push (.row false t vs)) base w0 (w.alloc (.cells cs t)) :=
  H.push _ _ ⟨h1, cs, t, (0, 0), heap_alloc_new w _, by omega, fun j v hj => let ⟨v', a, r⟩ := hr j v hj; ⟨v', by rw [Nat.zero_add]; exact a, r.ext (shape_push _ _)⟩, by simp [H.le]⟩
theorem new_at (H : Sim b h base w0 w) : (b ++ [(w.heap.size, 0)])[h.next]? = some (w.heap.size, 0) := by
  have := H.len
  rw [List.getElem?_append_right (by omega)]; simp [this]
theorem new_ptr (H : Sim b h base w0 w) (S : Sh) : VR (b ++ [(w.heap.size, 0)]) S (.pointer (some ⟨h.next, 0, none⟩)) (.pointer (some ⟨w.heap.size, 0, none⟩)) := by
  have := VR.ptr (S := S) (off := 0) (new_at H)
  simpa using this
theorem shape_new (cs : Array Value) (t : TypeId) : (w.alloc (.cells cs t)).shape? w.heap.size = some (t, cs.size) := by simp only [World.shape?, heap_alloc_new w _]
theorem new_slice (H : Sim b h base w0 w) {t : TypeId} {cs : Array Value} {len es cap : Nat} (hl : len ≤ cap) (hc : cap * es ≤ cs.size) :
    VR (b ++ [(w.heap.size, 0)]) (w.alloc (.cells cs t)).shape? (.slice (some ⟨h.next, 0, none⟩) len es) (.slice (some ⟨w.heap.size, 0, none⟩) len cap) := by
  have := VR.slice (S := (w.alloc (.cells cs t)).shape?) (off := 0) (es := es) (new_at H) hl (shape_new cs t) (by omega)
  simpa using this
end
end Go.Proofs.YtpgidiompdabdaaGreat.AM
