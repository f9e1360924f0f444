/- The abstract machine, tenth part: what an operation reads, and when two operations may change places. -/
import Derived.Test.YtpgidiompdabdaaGreatAmI
namespace Go.Proofs.YtpgidiompdabdaaGreat.AM
open Go Go.RowKit
set_option linter.unusedSimpArgs false
set_option linter.unusedVariables false

/-! ### The slots that an operation reads -/
def Opd.tm : Opd → List Nat
  | .tmp t => [t]
  | _ => []
def optTm : Option Opd → List Nat
  | some x => x.tm
  | none => []
def ROp.tm : ROp → List Nat
  | .move x | .box _ x | .load _ _ x | .nilCheck x | .un _ x | .conv _ x | .strOf x | .iface _ x | .assert _ _ x | .fld _ x | .part _ _ _ x | .iter x | .next x | .ext x _ | .len _ x | .clear _ x | .capN x => x.tm
  | .pick c a b => c.tm ++ a.tm ++ b.tm
  | .new _ _ | .mkMap | .stop => []
  | .build _ ps | .lit _ _ _ _ ps => ps.flatMap fun p => p.2.2.tm
  | .store _ x y | .bin _ x y | .eqB _ x y | .eqN _ _ x y | .eqA _ _ x y | .idx _ x y | .idxA _ _ x y | .idxS x y | .idxV _ _ _ x y | .look _ _ _ x y | .del _ x y | .app _ _ _ x y | .copy _ x y | .mkSlice _ _ _ _ x y | .appZ _ _ _ x y => x.tm ++ y.tm
  | .upd _ x y z => x.tm ++ y.tm ++ z.tm
  | .mkFunc _ xs | .mm _ xs => xs.flatMap Opd.tm
  | .cutS x lo hi => x.tm ++ optTm lo ++ optTm hi
  | .cut _ x lo hi mx | .cutA _ _ x lo hi mx => x.tm ++ optTm lo ++ optTm hi ++ optTm mx
  | .call f xs => f.tm ++ xs.flatMap Opd.tm
def RO.tm (o : RO) : List Nat := o.op.tm ++ (match o.guard with | some (t, _) => [t] | none => [])

section
variable {e e2 : Env} {h h2 : AH}
theorem opd_ev {x : Opd} (H : ∀ t ∈ x.tm, e2.get t = e.get t) : x.ev e2 = x.ev e := by
  cases x <;> first | rfl | exact H _ (by simp [Opd.tm])
theorem evs_ev : ∀ {xs : List Opd}, (∀ t ∈ xs.flatMap Opd.tm, e2.get t = e.get t) → evs e2 xs = evs e xs
  | [], _ => rfl
  | x :: xs, H => by
    simp only [List.flatMap_cons, List.mem_append] at H
    simp only [evs]
    rw [opd_ev fun t ht => H t (.inl ht), evs_ev fun t ht => H t (.inr ht)]
theorem fill_ev : ∀ {ps : List (Nat × Nat × Opd)} {zs : List Value}, (∀ t ∈ ps.flatMap (fun p => p.2.2.tm), e2.get t = e.get t) → fill e2 zs ps = fill e zs ps
  | [], _, _ => rfl
  | (off, n, x) :: ps, zs, H => by
    simp only [List.flatMap_cons, List.mem_append] at H
    simp only [fill]
    rw [opd_ev (x := x) fun t ht => H t (.inl ht)]
    split
    · split
      · exact fill_ev fun t ht => H t (.inr ht)
      · rfl
    · rfl
theorem bound_ev {x : Option Opd} {d : Nat} (H : ∀ t ∈ optTm x, e2.get t = e.get t) : bound e2 x d = bound e x d := by
  cases x with
  | none => rfl
  | some o => simp only [bound]; rw [opd_ev (x := o) H]
theorem ev_ev {op : ROp} (H : ∀ t ∈ op.tm, e2.get t = e.get t) : ev op e2 h = ev op e h := by
  cases op <;> simp only [ROp.tm, List.mem_append] at H <;> simp only [ev]
  case move x => rw [opd_ev H]
  case box t x => rw [opd_ev H]
  case load a n x => rw [opd_ev H]
  case nilCheck x => rw [opd_ev H]
  case un op x => rw [opd_ev H]
  case conv k x => rw [opd_ev H]
  case strOf x => rw [opd_ev H]
  case iface t x => rw [opd_ev H]
  case assert t z x => rw [opd_ev H]
  case fld o x => rw [opd_ev H]
  case part a o n x => rw [opd_ev H]
  case iter x => rw [opd_ev H]
  case next x => rw [opd_ev H]
  case ext x i => rw [opd_ev H]
  case len k x => rw [opd_ev H]
  case clear z x => rw [opd_ev H]
  case capN x => rw [opd_ev H]
  case pick c x y => rw [opd_ev (x := c) fun t ht => H t (.inl (.inl ht)), opd_ev (x := x) fun t ht => H t (.inl (.inr ht)), opd_ev (x := y) fun t ht => H t (.inr ht)]
  case build zs ps => rw [fill_ev H]
  case lit t es len zs ps => rw [fill_ev H]
  case store n x y => rw [opd_ev (x := x) fun t ht => H t (.inl ht), opd_ev (x := y) fun t ht => H t (.inr ht)]
  case bin n x y => rw [opd_ev (x := x) fun t ht => H t (.inl ht), opd_ev (x := y) fun t ht => H t (.inr ht)]
  case eqB n x y => rw [opd_ev (x := x) fun t ht => H t (.inl ht), opd_ev (x := y) fun t ht => H t (.inr ht)]
  case eqN n k x y => rw [opd_ev (x := x) fun t ht => H t (.inl ht), opd_ev (x := y) fun t ht => H t (.inr ht)]
  case eqA n k x y => rw [opd_ev (x := x) fun t ht => H t (.inl ht), opd_ev (x := y) fun t ht => H t (.inr ht)]
  case idx n x y => rw [opd_ev (x := x) fun t ht => H t (.inl ht), opd_ev (x := y) fun t ht => H t (.inr ht)]
  case idxA n k x y => rw [opd_ev (x := x) fun t ht => H t (.inl ht), opd_ev (x := y) fun t ht => H t (.inr ht)]
  case idxS x y => rw [opd_ev (x := x) fun t ht => H t (.inl ht), opd_ev (x := y) fun t ht => H t (.inr ht)]
  case idxV l a s x y => rw [opd_ev (x := x) fun t ht => H t (.inl ht), opd_ev (x := y) fun t ht => H t (.inr ht)]
  case look kd z ok x y => rw [opd_ev (x := x) fun t ht => H t (.inl ht), opd_ev (x := y) fun t ht => H t (.inr ht)]
  case del kd x y => rw [opd_ev (x := x) fun t ht => H t (.inl ht), opd_ev (x := y) fun t ht => H t (.inr ht)]
  case app t s bb x y => rw [opd_ev (x := x) fun t ht => H t (.inl ht), opd_ev (x := y) fun t ht => H t (.inr ht)]
  case appZ t s bb x y => rw [opd_ev (x := x) fun t ht => H t (.inl ht), opd_ev (x := y) fun t ht => H t (.inr ht)]
  case copy s x y => rw [opd_ev (x := x) fun t ht => H t (.inl ht), opd_ev (x := y) fun t ht => H t (.inr ht)]
  case mkSlice t s bb z x y => rw [opd_ev (x := x) fun t ht => H t (.inl ht), opd_ev (x := y) fun t ht => H t (.inr ht)]
  case upd kd x y z => rw [opd_ev (x := x) fun t ht => H t (.inl (.inl ht)), opd_ev (x := y) fun t ht => H t (.inl (.inr ht)), opd_ev (x := z) fun t ht => H t (.inr ht)]
  case mkFunc f xs => rw [evs_ev H]
  case mm m xs => rw [evs_ev H]
  case cutS x lo hi =>
    rw [opd_ev (x := x) fun t ht => H t (.inl (.inl ht))]
    simp only [bound_ev (x := lo) fun t ht => H t (.inl (.inr ht)), bound_ev (x := hi) fun t ht => H t (.inr ht)]
  case cut n x lo hi mx =>
    rw [opd_ev (x := x) fun t ht => H t (.inl (.inl (.inl ht)))]
    simp only [bound_ev (x := lo) fun t ht => H t (.inl (.inl (.inr ht))), bound_ev (x := hi) fun t ht => H t (.inl (.inr ht)), bound_ev (x := mx) fun t ht => H t (.inr ht)]
  case cutA k n x lo hi mx =>
    rw [opd_ev (x := x) fun t ht => H t (.inl (.inl (.inl ht)))]
    simp only [bound_ev (x := lo) fun t ht => H t (.inl (.inl (.inr ht))), bound_ev (x := hi) fun t ht => H t (.inl (.inr ht)), bound_ev (x := mx) fun t ht => H t (.inr ht)]
theorem callee_ev {f : Opd} {xs : List Opd} (H : ∀ t ∈ (ROp.call f xs).tm, e2.get t = e.get t) : callee f xs e2 = callee f xs e := by
  simp only [ROp.tm, List.mem_append] at H
  simp only [callee]
  rw [opd_ev fun t ht => H t (.inl ht), evs_ev fun t ht => H t (.inr ht)]
end

/-! ### Classes: 2: reads and writes no memory; 1: writes none; 0: the others -/
def ROp.cls (pur : List FuncId) : ROp → Nat
  | .move _ | .pick _ _ _ | .build _ _ | .nilCheck _ | .bin _ _ _ | .eqB _ _ _ | .eqN _ _ _ _ | .eqA _ _ _ _ | .un _ _ | .conv _ _ | .iface _ _ | .assert _ _ _ | .mkFunc _ _ | .cutS _ _ _ | .cut _ _ _ _ _ | .fld _ _
  | .part _ _ _ _ | .idx _ _ _ | .idxA _ _ _ _ | .idxS _ _ | .idxV _ _ _ _ _ | .ext _ _ | .mm _ _ | .capN _ | .len 0 _ | .len 1 _ => 2
  | .load _ _ _ | .strOf _ | .cutA _ _ _ _ _ _ | .look _ _ _ _ _ | .len _ _ => 1
  | .call (.fn g) _ => if pur.contains g then 2 else 0
  | _ => 0
theorem ev_free {pur : List FuncId} {op : ROp} {e : Env} {h h2 : AH} (hc : op.cls pur = 2) (hn : op.isCall = false) : ev op e h2 = (ev op e h).map fun r => (r.1, h2) := by
  cases op <;> simp only [ROp.cls] at hc <;> try (exact absurd hc (by decide))
  case call f xs => exact absurd hn (by simp [ROp.isCall])
  case len k x =>
    rcases k with _ | _ | k
    · simp only [ev]; split <;> simp_all
    · simp only [ev]; split <;> simp_all
    · exact absurd hc (by simp)
  all_goals (simp only [ev]; repeat' split)
  all_goals first
    | rfl
    | (simp only [Option.map_map, Option.map_some, Option.map_none]; rfl)
    | (simp [Function.comp_def])
theorem ev_quiet {pur : List FuncId} {op : ROp} {e : Env} {h h1 : AH} {v : Value} (hc : 1 ≤ op.cls pur) (hn : op.isCall = false) (hv : ev op e h = some (v, h1)) : h1 = h := by
  by_cases h2 : op.cls pur = 2
  · have := ev_free (e := e) (h := h) (h2 := h) h2 hn
    rw [hv] at this
    simpa using this
  · cases op <;> simp only [ROp.cls] at hc h2 <;> first | exact (h2 trivial).elim | (exfalso; revert hc; decide) | skip
    case call f xs => exact absurd hn (by simp [ROp.isCall])
    all_goals (simp only [ev] at hv; repeat' split at hv)
    all_goals first
      | (cases hv; done)
      | (simp only [Option.map_eq_some_iff, Option.some.injEq, Prod.mk.injEq] at hv; first | exact hv.2.symm | (obtain ⟨_, _, _, hh⟩ := hv; exact hh.symm))
/-- Operations that make one new object and read no memory. -/
def ROp.isNew : ROp → Bool
  | .new _ _ | .box _ _ | .lit _ _ _ _ _ | .mkMap | .iter _ | .mkSlice _ _ _ _ _ _ | .appZ _ _ _ _ _ => true
  | _ => false
theorem ev_new {op : ROp} {e : Env} {h h1 : AH} {v : Value} (hc : op.isNew = true) (hv : ev op e h = some (v, h1)) : ∃ o, h1 = h.push o := by
  cases op <;> simp only [ROp.isNew] at hc <;> try (exact absurd hc (by decide))
  all_goals (simp only [ev] at hv; repeat' split at hv)
  all_goals first
    | (cases hv; done)
    | (simp only [Option.some.injEq, Prod.mk.injEq] at hv; exact ⟨_, hv.2.symm⟩)
theorem firstOf_push {h : AH} {o : AObj} {es n : Nat} {v : Value} {l : List Value} (hf : firstOf h es n v = some l) : firstOf (h.push o) es n v = some l := by
  unfold firstOf at *
  split at hf
  · exact hf
  · rename_i i off len s
    split at hf
    · rename_i hs
      rw [if_pos hs]
      split at hf
      · rename_i hi
        rw [rowAt_push hi]; exact hf
      · rename_i hi
        split at hf
        · rename_i hn
          have : rowAt (h.push o) i = none := by
            unfold rowAt at *
            have h2 : i < (h.push o).next := Nat.lt_succ_of_lt hn.2
            rw [if_pos hn.2] at hi
            rw [if_pos h2, AH.get_push_ne _ _ (by omega)]; exact hi
          have h2 : i < (h.push o).next := Nat.lt_succ_of_lt hn.2
          rw [this, ← hf]
          simp only []
          rw [if_pos ⟨hn.1, h2⟩]
        · exact absurd hf (by simp)
    · exact absurd hf (by simp)
  · exact hf
  · exact absurd hf (by simp)
theorem ev_push {pur : List FuncId} {op : ROp} {e : Env} {h h1 : AH} {o : AObj} {v : Value} (hc : op.cls pur = 1) (hn : op.isCall = false) (hv : ev op e h = some (v, h1)) : ev op e (h.push o) = some (v, h.push o) := by
  cases op <;> simp only [ROp.cls] at hc <;> first | (exfalso; revert hc; decide) | skip
  case call f xs => exact absurd hn (by simp [ROp.isCall])
  case load agg n x =>
    simp only [ev] at hv ⊢
    split at hv
    · split at hv
      · rename_i hi
        simp only [rowAt_push hi]
        split at hv
        · rename_i hm
          rw [if_pos hm]
          simp only [Option.map_eq_some_iff, Prod.mk.injEq] at hv ⊢
          obtain ⟨u, hu, rfl, _⟩ := hv
          exact ⟨u, hu, rfl, trivial⟩
        · exact absurd hv (by simp)
      · exact absurd hv (by simp)
    · exact absurd hv (by simp)
  case strOf x =>
    simp only [ev] at hv ⊢
    split at hv
    · split at hv
      · rename_i hi
        simp only [firstOf_push hi]
        simp only [Option.map_eq_some_iff, Prod.mk.injEq] at hv ⊢
        obtain ⟨u, hu, rfl, _⟩ := hv
        exact ⟨u, hu, rfl, trivial⟩
      · exact absurd hv (by simp)
    · exact absurd hv (by simp)
  case cutA k n x lo hi mx =>
    simp only [ev] at hv ⊢
    split at hv
    · split at hv
      · rename_i h1 h2 h3 h4
        simp only [rowAt_push h1, h2, h3, h4]
        split at hv
        · rename_i hm
          rw [if_pos hm]
          simp only [Option.some.injEq, Prod.mk.injEq] at hv ⊢
          exact ⟨hv.1, trivial⟩
        · exact absurd hv (by simp)
      · exact absurd hv (by simp)
    · exact absurd hv (by simp)
  case look kd z ok m k =>
    simp only [ev] at hv ⊢
    split at hv
    · simp only [Option.map_eq_some_iff, Prod.mk.injEq] at hv ⊢
      obtain ⟨u, hu, rfl, _⟩ := hv
      exact ⟨u, hu, rfl, trivial⟩
    · split at hv
      · rename_i hi
        simp only [mapAt_push hi]
        split at hv <;> simp_all
      · exact absurd hv (by simp)
    · exact absurd hv (by simp)
  case len k x =>
    simp only [ev] at hv ⊢
    split at hv
    · simp_all
    · simp_all
    · simp_all
    · simp only [Option.map_eq_some_iff, Prod.mk.injEq] at hv ⊢
      obtain ⟨u, hu, rfl, _⟩ := hv
      exact ⟨u, mapAt_push hu, rfl, trivial⟩
    · exact absurd hv (by simp)
end Go.Proofs.YtpgidiompdabdaaGreat.AM
