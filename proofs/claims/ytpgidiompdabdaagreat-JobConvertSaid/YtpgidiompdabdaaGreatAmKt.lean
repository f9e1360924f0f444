/- The abstract machine, eleventh part again: the same, where an operation that reads and one that writes may come in either order: with a trace of the region's run. -/
import Derived.Test.YtpgidiompdabdaaGreatAmK
namespace Go.Proofs.YtpgidiompdabdaaGreat.AM
open Go Go.RowKit
set_option linter.unusedSimpArgs false
set_option linter.unusedVariables false

section
variable {P : Program} {F : Funs} {X : Exts} {pur : List FuncId}
/-- Operations that write no memory. -/
def quietC (pur : List FuncId) (o : RO) : Bool := decide (1 ≤ o.op.cls pur)
/-- A run with its trace, in whatever order: each operation as it was in the text's. -/
def RunT (P : Program) (X : Exts) (pur : List FuncId) : List (RO × Tr1) → Env → AH → Env → AH → Prop
  | [], e, h, e', h' => e' = e ∧ h' = h
  | (o, t) :: r, e, h, e', h' => (∀ u ∈ o.tm, e.get u = t.env.get u) ∧
    ((quietC pur o = true ∧ StS P X pur o t.env h t.v h ∧ RunT P X pur r (putD e o.dst t.v) h e' h') ∨
     (quietC pur o = false ∧ t.hb = h ∧ StS P X pur o t.env h t.v t.ha ∧ RunT P X pur r (putD e o.dst t.v) t.ha e' h'))
/-- Two operations, the first one ahead in the text, that may come in either order. -/
def PC (P : Program) (X : Exts) (pur : List FuncId) (q r : RO × Tr1) : Prop :=
  apartB q.1 r.1 = true ∧ ((quietC pur q.1 = true ∧ quietC pur r.1 = true) ∨
    (quietC pur q.1 = false ∧ quietC pur r.1 = true ∧ StS P X pur r.1 r.2.env q.2.hb r.2.v q.2.hb) ∨
    (quietC pur q.1 = true ∧ quietC pur r.1 = false ∧ StS P X pur q.1 q.2.env r.2.ha q.2.v r.2.ha))
theorem swapT {q r : RO × Tr1} {l : List (RO × Tr1)} {e e' : Env} {h h' : AH} (hp : PC P X pur q r) (hr : RunT P X pur (q :: r :: l) e h e' h') : RunT P X pur (r :: q :: l) e h e' h' := by
  obtain ⟨q, tq⟩ := q
  obtain ⟨r, tr⟩ := r
  obtain ⟨ha, hp⟩ := hp
  obtain ⟨a1, a2, a3⟩ := apart_spec ha
  obtain ⟨eq, hq⟩ := hr
  have er' : ∀ (e2 : Env), (∀ u ∈ r.tm, (putD e q.dst tq.v).get u = tr.env.get u) → ∀ u ∈ r.tm, e.get u = tr.env.get u := fun _ H u hu => by rw [← H u hu, putD_get (a1 u hu)]
  have eq' : ∀ u ∈ q.tm, (putD e r.dst tr.v).get u = tq.env.get u := fun u hu => by rw [putD_get (a2 u hu)]; exact eq u hu
  rcases hq with ⟨cq, sq, er, hr⟩ | ⟨cq, bq, sq, er, hr⟩
  · rcases hr with ⟨cr, sr, hl⟩ | ⟨cr, br, sr, hl⟩
    · rw [putD_comm e tq.v tr.v a3] at hl
      exact ⟨er' e er, .inl ⟨cr, sr, eq', .inl ⟨cq, sq, hl⟩⟩⟩
    · rw [putD_comm e tq.v tr.v a3] at hl
      rcases hp with ⟨_, h2⟩ | ⟨h1, _⟩ | ⟨_, _, h3⟩
      · rw [cr] at h2; cases h2
      · rw [cq] at h1; cases h1
      · exact ⟨er' e er, .inr ⟨cr, br, sr, eq', .inl ⟨cq, h3, hl⟩⟩⟩
  · rcases hr with ⟨cr, sr, hl⟩ | ⟨cr, br, sr, hl⟩
    · rw [putD_comm e tq.v tr.v a3] at hl
      rcases hp with ⟨h1, _⟩ | ⟨_, _, h3⟩ | ⟨h1, _⟩
      · rw [cq] at h1; cases h1
      · refine ⟨er' e er, .inl ⟨cr, ?_, eq', .inr ⟨cq, bq, sq, hl⟩⟩⟩
        have h3' : StS P X pur r tr.env tq.hb tr.v tq.hb := h3
        rw [bq] at h3'; exact h3'
      · rw [cq] at h1; cases h1
    · rcases hp with ⟨h1, _⟩ | ⟨_, h2, _⟩ | ⟨h1, _⟩
      · rw [cq] at h1; cases h1
      · rw [cr] at h2; cases h2
      · rw [cq] at h1; cases h1
theorem frontT {r : RO × Tr1} {post : List (RO × Tr1)} : ∀ {pre : List (RO × Tr1)} {e e' : Env} {h h' : AH}, (∀ q ∈ pre, PC P X pur q r) → RunT P X pur (pre ++ r :: post) e h e' h' → RunT P X pur (r :: (pre ++ post)) e h e' h'
  | [], _, _, _, _, _, hr => hr
  | q :: pre, e, e', h, h', hq, hr => by
    refine swapT (hq q (by simp)) ?_
    obtain ⟨q, tq⟩ := q
    obtain ⟨eq, hq'⟩ := hr
    refine ⟨eq, ?_⟩
    rcases hq' with ⟨cq, sq, hr⟩ | ⟨cq, bq, sq, hr⟩
    · exact .inl ⟨cq, sq, frontT (fun q' h' => hq q' (by simp [h'])) hr⟩
    · exact .inr ⟨cq, bq, sq, frontT (fun q' h' => hq q' (by simp [h'])) hr⟩
/-- The step at a run's head. -/
theorem headT {r : RO} {t : Tr1} {l : List (RO × Tr1)} {e e' : Env} {h h' : AH} (hr : RunT P X pur ((r, t) :: l) e h e' h') : ∃ h1, StS P X pur r e h t.v h1 ∧ RunT P X pur l (putD e r.dst t.v) h1 e' h' := by
  obtain ⟨eq, hr⟩ := hr
  rcases hr with ⟨_, s, hl⟩ | ⟨_, _, s, hl⟩
  · exact ⟨h, s.env eq, hl⟩
  · exact ⟨t.ha, s.env eq, hl⟩
end
end Go.Proofs.YtpgidiompdabdaaGreat.AM
