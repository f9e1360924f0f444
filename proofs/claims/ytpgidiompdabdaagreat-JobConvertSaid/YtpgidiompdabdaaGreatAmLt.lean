/- The abstract machine, twelfth part again: drawn regions with a trace. -/
import Derived.Test.YtpgidiompdabdaaGreatAmL
import Derived.Test.YtpgidiompdabdaaGreatAmKt
namespace Go.Proofs.YtpgidiompdabdaaGreat.AM
open Go Go.RowKit
set_option linter.unusedSimpArgs false
set_option linter.unusedVariables false

section
variable {P : Program} {F : Funs} {X : Exts} {pur : List FuncId}
def PendT (P : Program) (n : Nat) (ops : Array Oper) (ps : List (Nat × (RO × Tr1))) : Prop := ∀ i r, (i, r) ∈ ps → ∃ o, ops[i]? = some o ∧ rOper P n ops o = some r.1
theorem any_opsT {n : Nat} {ops : Array Oper} (he : early ops = true)
    (U : List (Nat × (RO × Tr1))) (hpair : ∀ i j r q, j < i → (i, r) ∈ U → (j, q) ∈ U → Dep ops i j ∨ PC P X pur q r) :
    ∀ (fuel : Nat) (ps : List (Nat × (RO × Tr1))) (ls : Array Bool), ps.length ≤ fuel → (∀ x ∈ ps, x ∈ U) → PendT P n ops ps → (ps.map (·.1)).Pairwise (· < ·) → ls.size = ops.size → (∀ i, i < ops.size → (ls.getD i true = false ↔ i ∈ ps.map (·.1))) →
    (∀ i o, ls.getD i false = true → ops[i]? = some o → ∀ k ∈ binding o, ls.getD k false = true) →
    ∀ {b : Bt} {h : AH} {base : Nat} {w0 w : World} {e e' : Env} {h' : AH} {a : Act} {Q : Exit → Act → World → Prop},
    Sim b h base w0 w → Rl b e w a n → a.defers = [] → RunT P X pur (ps.map (·.2)) e h e' h' → (∀ c a' w1, Rl (b ++ c) e' w1 a' n → SLe w.shape? w1.shape? → Sim (b ++ c) h' base w0 w1 → a'.defers = [] → Q .normal a' w1) →
    wpAny P .any ops Q fuel ls a w := by
  have hready : ∀ (ps : List (Nat × (RO × Tr1))) (ls : Array Bool), PendT P n ops ps → (ps.map (·.1)).Pairwise (· < ·) → ls.size = ops.size → (∀ i, i < ops.size → (ls.getD i true = false ↔ i ∈ ps.map (·.1))) → Region.ready .any ops ls = [] → ps = [] := by
    intro ps ls hp hso hls hiff hre
    cases ps with
    | nil => rfl
    | cons p ps =>
      obtain ⟨i, r⟩ := p
      exfalso
      obtain ⟨o, hi, ho⟩ := hp i r (by simp)
      have hlt : i < ops.size := (Array.getElem?_eq_some_iff.1 hi).1
      have hmem : i ∈ Region.ready .any ops ls := by
        rw [mem_ready]
        refine ⟨(hiff i hlt).2 (by simp), o, hi, fun ed hed hb => ?_⟩
        have hk : ed.on < i := by
          have h1 := List.all_eq_true.1 he i (List.mem_range.2 hlt)
          rw [hi] at h1
          exact of_decide_eq_true (List.all_eq_true.1 h1 ed.on (mem_binding.2 ⟨ed, hed, hb, rfl⟩))
        have hkl : ed.on < ops.size := Nat.lt_trans hk hlt
        have hnot : ed.on ∉ ((i, r) :: ps).map (·.1) := by
          intro hm
          rw [List.map_cons, List.pairwise_cons] at hso
          rcases List.mem_cons.1 hm with h | h
          · have : ed.on = i := h
            omega
          · have := hso.1 _ h
            have h2 : i < ed.on := this
            omega
        have h2 : ¬ ls.getD ed.on true = false := fun h => hnot ((hiff _ hkl).1 h)
        have hk2 : ed.on < ls.size := by omega
        rw [Array.getD_eq_getD_getElem?, Array.getElem?_eq_getElem hk2] at h2 ⊢
        simpa using h2
      rw [hre] at hmem
      cases hmem
  intro fuel
  induction fuel with
  | zero =>
    intro ps ls hlen hU hp hso hls hiff hcl b h base w0 w e e' h' a Q H R hd hr hQ
    have hnil : ps = [] := List.length_eq_zero_iff.1 (by omega)
    subst hnil
    obtain ⟨rfl, rfl⟩ := hr
    refine ⟨?_, hQ [] a w (by rw [List.append_nil]; exact R) (SLe.refl _) (by rw [List.append_nil]; exact H) hd⟩
    apply List.eq_nil_iff_forall_not_mem.2
    intro i hi
    rw [mem_ready] at hi
    obtain ⟨h1, o, h2, _⟩ := hi
    have := (hiff i (Array.getElem?_eq_some_iff.1 h2).1).1 h1
    simp at this
  | succ fuel ih =>
    intro ps ls hlen hU hp hso hls hiff hcl b h base w0 w e e' h' a Q H R hd hr hQ
    refine ⟨fun hre => ?_, fun i hi => ?_⟩
    · have := hready ps ls hp hso hls hiff hre
      subst this
      obtain ⟨rfl, rfl⟩ := hr
      exact hQ [] a w (by rw [List.append_nil]; exact R) (SLe.refl _) (by rw [List.append_nil]; exact H) hd
    · rw [mem_ready] at hi
      obtain ⟨h1, o, ho, hdeps⟩ := hi
      have hlt : i < ops.size := (Array.getElem?_eq_some_iff.1 ho).1
      have hmem := (hiff i hlt).1 h1
      obtain ⟨⟨i', r⟩, hir, hii⟩ := List.mem_map.1 hmem
      simp only at hii; subst hii
      obtain ⟨pre, post, hsplit⟩ := List.append_of_mem hir
      obtain ⟨o', ho', hro⟩ := hp i' r hir
      rw [ho] at ho'; cases ho'
      have hdl : ∀ oo, ops[i']? = some oo → ∀ k ∈ binding oo, ls.getD k false = true := by
        intro oo hoo k hk
        rw [ho] at hoo; cases hoo
        obtain ⟨ed, h3, h4, rfl⟩ := mem_binding.1 hk
        exact hdeps ed h3 h4
      subst hsplit
      rw [List.map_append, List.map_cons] at hso
      have hso' := List.pairwise_append.1 hso
      have hcalm : ∀ q ∈ pre.map (·.2), PC P X pur q r := by
        intro q hq
        obtain ⟨⟨j, q'⟩, hjq, rfl⟩ := List.mem_map.1 hq
        obtain ⟨oj, hoj, hrj⟩ := hp j q' (by simp [hjq])
        have hji : j < i' := hso'.2.2 j (List.mem_map.2 ⟨_, hjq, rfl⟩) i' (by simp)
        rcases hpair i' j r q' hji (hU _ hir) (hU _ (by simp [hjq])) with hdep | h
        · exfalso
          have := hdep.listed hcl hdl
          have hj2 := (hiff j (Array.getElem?_eq_some_iff.1 hoj).1).2 (by simp only [List.map_append, List.mem_append]; exact .inl (List.mem_map.2 ⟨_, hjq, rfl⟩))
          have hjl : j < ls.size := by rw [hls]; exact (Array.getElem?_eq_some_iff.1 hoj).1
          rw [Array.getD_eq_getD_getElem?, Array.getElem?_eq_getElem hjl] at this hj2
          simp at this hj2
          rw [this] at hj2; cases hj2
        · exact h
      rw [List.map_append, List.map_cons] at hr
      have hr' := frontT hcalm hr
      obtain ⟨r, tr⟩ := r
      obtain ⟨h1', hs, hr'⟩ := headT hr'
      refine step_sound H R ho hro hs fun c v' w1 hv hS HS => ?_
      refine ih (pre ++ post) _ (by simp at hlen ⊢; omega) (fun x hx => hU x (by rcases List.mem_append.1 hx with h | h <;> simp [h])) (fun j q hj => hp j q (by rcases List.mem_append.1 hj with h | h <;> simp [h])) ?_ (by simpa using hls) ?_ ?_ HS (R.put hS hv (rOper_spec hro).2.2) (by rw [put_defers]; exact hd)
        (by rw [List.map_append]; exact hr') fun c' a' w2 R2 hS2 HS2 hd2 => hQ (c ++ c') a' w2 (by rw [← List.append_assoc]; exact R2) (hS.trans hS2) (by rw [← List.append_assoc]; exact HS2) hd2
      · rw [List.map_append]
        refine List.pairwise_append.2 ⟨hso'.1, (List.pairwise_cons.1 hso'.2.1).2, fun x hx y hy => hso'.2.2 x hx y (by simp at hy ⊢; exact .inr hy)⟩
      · intro j hj
        by_cases hji : i' = j
        · subst hji
          have hlt2 : i' < ls.size := by omega
          rw [Array.getD_eq_getD_getElem?]
          simp only [Array.getElem?_setIfInBounds_self_of_lt hlt2, Option.getD_some]
          constructor
          · intro h; cases h
          · intro h
            exfalso
            rw [List.map_append, List.mem_append] at h
            rcases h with h | h
            · have := hso'.2.2 i' h i' (by simp); omega
            · have := (List.pairwise_cons.1 hso'.2.1).1 i' h; omega
        · rw [getD_set_ne _ hji, hiff j hj]
          simp only [List.map_append, List.map_cons, List.mem_append, List.mem_cons]
          constructor
          · rintro (h | h | h)
            · exact .inl h
            · exact absurd h.symm hji
            · exact .inr h
          · rintro (h | h)
            · exact .inl h
            · exact .inr (.inr h)
      · intro j oj hj hoj k hk
        by_cases hji : i' = j
        · subst hji
          exact getD_set_true (hdl oj hoj k hk)
        · rw [getD_set_ne _ hji] at hj
          exact getD_set_true (hcl j oj hj hoj k hk)

def TextT (P : Program) (X : Exts) (pur : List FuncId) : List (RO × Tr1) → Env → AH → Env → AH → Prop
  | [], e, h, e', h' => e' = e ∧ h' = h
  | (o, t) :: r, e, h, e', h' => t.env = e ∧ t.hb = h ∧ StS P X pur o e h t.v t.ha ∧ TextT P X pur r (putD e o.dst t.v) t.ha e' h'
theorem TextT.run (OK : XOK P F X pur) : ∀ {l : List (RO × Tr1)} {e e' : Env} {h h' : AH}, TextT P X pur l e h e' h' → RunT P X pur l e h e' h'
  | [], _, _, _, _, h => h
  | (o, t) :: r, e, e', h, h', ht => by
    obtain ⟨rfl, rfl, hs, hr⟩ := ht
    refine ⟨fun _ _ => rfl, ?_⟩
    cases hq : quietC pur o with
    | true =>
      have hc : 1 ≤ o.op.cls pur := of_decide_eq_true hq
      have he := hs.quiet OK hc
      rw [he] at hs hr
      exact .inl ⟨rfl, hs, hr.run OK⟩
    | false => exact .inr ⟨rfl, rfl, hs, hr.run OK⟩
theorem TextT.mem : ∀ {l : List (RO × Tr1)} {e e' : Env} {h h' : AH}, TextT P X pur l e h e' h' → ∀ x ∈ l, StS P X pur x.1 x.2.env x.2.hb x.2.v x.2.ha
  | [], _, _, _, _, _, x, hx => by cases hx
  | (o, t) :: r, e, e', h, h', ht, x, hx => by
    obtain ⟨rfl, rfl, hs, hr⟩ := ht
    rcases List.mem_cons.1 hx with rfl | hx
    · exact hs
    · exact hr.mem x hx
theorem cls_le (op : ROp) : op.cls pur ≤ 2 := by
  unfold ROp.cls
  split <;> first | decide | (split <;> decide)
theorem cls_notcall {op : ROp} (h : op.cls pur = 1) : op.isCall = false := by
  cases op <;> first | rfl | skip
  rename_i f args
  exfalso
  obtain ⟨g, rfl, hg⟩ := cls_call (pur := pur) (f := f) (args := args) (by rw [h]; decide)
  simp [ROp.cls] at h
  have : pur.contains g = true := hg
  simp at this
  simp [this] at h
theorem reread_sound {o : RO} {t : Tr1} {hb ha H : AH} (hs : StS P X pur o t.env hb t.v ha) (hc : o.op.cls pur = 1) (hr : reread o t H = true) : StS P X pur o t.env H t.v H := by
  unfold reread at hr
  split at hr
  · rename_i hw
    rcases hs with ⟨_, hv, _⟩ | ⟨hw', _⟩
    · exact .inl ⟨hw, hv, rfl⟩
    · rw [hw] at hw'; cases hw'
  · rename_i hw
    split at hr
    · rename_i v H' hv
      have hn := cls_notcall hc
      have h1 := ev_quiet (pur := pur) (by rw [hc]; decide) hn hv
      have h2 := eqV_eq hr
      subst h1; subst h2
      exact .inr ⟨hw, .inl ⟨hn, hv⟩⟩
    · cases hr
  · cases hr
theorem zip_at {l : List RO} {tr : List Tr1} {i : Nat} {o : RO} {t : Tr1} (h : (i, (o, t)) ∈ (List.range l.length).zip (l.zip tr)) : l[i]? = some o ∧ tr[i]? = some t := by
  obtain ⟨k, hk⟩ := List.mem_iff_getElem?.1 h
  rw [List.getElem?_zip_eq_some] at hk
  obtain ⟨hk1, hk2⟩ := hk
  have hik : i = k := by
    obtain ⟨hlt, hh⟩ := List.getElem?_eq_some_iff.1 hk1
    simpa using hh.symm
  subst hik
  rw [List.getElem?_zip_eq_some] at hk2
  exact hk2
theorem pc_of (OK : XOK P F X pur) {ops : Array Oper} {l : List RO} {tr : List Tr1} {e e' : Env} {h h' : AH} (hp : pairsT pur ops l = true) (hf : (chkOf pur ops l).all (frame1 l tr) = true) (hT : TextT P X pur (l.zip tr) e h e' h') :
    ∀ i j r q, j < i → (i, r) ∈ (List.range l.length).zip (l.zip tr) → (j, q) ∈ (List.range l.length).zip (l.zip tr) → Dep ops i j ∨ PC P X pur q r := by
  intro i j r q hji hi hj
  obtain ⟨r, t⟩ := r
  obtain ⟨q, tq⟩ := q
  obtain ⟨i1, i2⟩ := zip_at hi
  obtain ⟨j1, j2⟩ := zip_at hj
  have hil : i < l.length := (List.getElem?_eq_some_iff.1 i1).1
  have sr := hT.mem (r, t) (List.of_mem_zip hi).2
  have sq := hT.mem (q, tq) (List.of_mem_zip hj).2
  have h1 := List.all_eq_true.1 (List.all_eq_true.1 hp i (List.mem_range.2 hil)) j (List.mem_range.2 hji)
  rw [i1, j1, Bool.or_eq_true] at h1
  rcases h1 with h1 | h1
  · refine .inl (predsGo_spec ops ops.toList [] (by intro i m hm; simp at hm) (by intro k o hk; simpa using hk) i j h1)
  · by_cases hc : ((predsGo [] ops.toList).getD i 0).testBit j = true
    · refine .inl (predsGo_spec ops ops.toList [] (by intro i m hm; simp at hm) (by intro k o hk; simpa using hk) i j hc)
    · right
      simp only [Bool.and_eq_true] at h1
      obtain ⟨hap, hq⟩ := h1
      refine ⟨hap, ?_⟩
      have chk : ∀ x, x ∈ (if quietB pur q = false ∧ r.op.cls pur = 1 then [(j, i, true)] else if quietB pur r = false ∧ q.op.cls pur = 1 then [(j, i, false)] else []) → x ∈ chkOf pur ops l := by
        intro x hx
        unfold chkOf
        refine List.mem_flatMap.2 ⟨i, List.mem_range.2 hil, List.mem_flatMap.2 ⟨j, List.mem_range.2 hji, ?_⟩⟩
        rw [if_neg hc, i1, j1]
        exact hx
      cases hqq : quietC pur q with
      | true =>
        cases hqr : quietC pur r with
        | true => exact .inl ⟨rfl, rfl⟩
        | false =>
          refine .inr (.inr ⟨rfl, rfl, ?_⟩)
          have hge : 1 ≤ q.op.cls pur := of_decide_eq_true hqq
          by_cases h2 : q.op.cls pur = 2
          · have hh := sq.quiet OK hge
            have sq' : StS P X pur q tq.env tq.hb tq.v tq.ha := sq
            exact (sq'.free OK h2 t.ha)
          · have h1' : q.op.cls pur = 1 := by
              have := cls_le (pur := pur) q.op
              omega
            have hm := chk (j, i, false) (by rw [if_neg (by rintro ⟨h, _⟩; rw [show quietB pur q = quietC pur q from rfl, hqq] at h; cases h), if_pos ⟨hqr, h1'⟩]; simp)
            have hfr := List.all_eq_true.1 hf _ hm
            simp only [frame1, i1, i2, j1, j2] at hfr
            exact reread_sound sq h1' (by simpa using hfr)
      | false =>
        cases hqr : quietC pur r with
        | false =>
          exfalso
          have e1 : quietB pur q = false := hqq
          have e2 : quietB pur r = false := hqr
          rw [e1, e2] at hq; cases hq
        | true =>
          refine .inr (.inl ⟨rfl, rfl, ?_⟩)
          have hge : 1 ≤ r.op.cls pur := of_decide_eq_true hqr
          by_cases h2 : r.op.cls pur = 2
          · have sr' : StS P X pur r t.env t.hb t.v t.ha := sr
            exact (sr'.free OK h2 tq.hb)
          · have h1' : r.op.cls pur = 1 := by
              have := cls_le (pur := pur) r.op
              omega
            have hm := chk (j, i, true) (by rw [if_pos ⟨hqq, h1'⟩]; simp)
            have hfr := List.all_eq_true.1 hf _ hm
            simp only [frame1, i1, i2, j1, j2] at hfr
            exact reread_sound sr h1' (by simpa using hfr)
theorem regionT_sound (OK : XOK P F X pur) {id n : Nat} {ops : Array Oper} {draw : Bool} {l : List RO} {chk : List (Nat × Nat × Bool)} {tr : List Tr1} (hr : rRegion P pur n ops draw = some (.drawn l chk)) {b : Bt} {h : AH} {base : Nat} {w0 w : World} {e e' : Env} {h' : AH} {a : Act} {Q : Exit → Act → World → Prop}
    (H : Sim b h base w0 w) (R : Rl b e w a n) (hd : a.defers = []) (hlt : tr.length = l.length) (hrun : TextT P X pur (l.zip tr) e h e' h') (hf : chk.all (frame1 l tr) = true)
    (hQ : ∀ c a' w1, Rl (b ++ c) e' w1 a' n → SLe w.shape? w1.shape? → Sim (b ++ c) h' base w0 w1 → a'.defers = [] → Q .normal a' w1) :
    (Code.region id ops draw).wp P Q a w := by
  unfold rRegion at hr
  split at hr
  · rename_i l' hl
    obtain ⟨hlen, hspec⟩ := rOps_spec hl
    have hlen' : l'.length = ops.size := by simpa using hlen
    cases draw with
    | false => simp at hr
    | true =>
      simp only [if_true] at hr
      split at hr
      · simp at hr
      · split at hr
        · rename_i hc
          obtain ⟨hm, he, hp⟩ := hc
          simp only [Option.some.injEq, RCode.drawn.injEq] at hr
          obtain ⟨rfl, rfl⟩ := hr
          have hzl : (l'.zip tr).length = l'.length := by rw [List.length_zip, hlt, Nat.min_self]
          have z1 : ((List.range l'.length).zip (l'.zip tr)).map (·.1) = List.range l'.length := by rw [List.map_fst_zip (by rw [hzl]; simp)]
          have z2 : ((List.range l'.length).zip (l'.zip tr)).map (·.2) = l'.zip tr := by rw [List.map_snd_zip (by rw [hzl]; simp)]
          apply wp_region_any hm
          have R' : Rl b e w.drew a n := ⟨R.get, R.size⟩
          show wpAny P .any ops Q ops.size _ a w.drew
          refine any_opsT he _ (pc_of OK hp hf hrun) ops.size ((List.range l'.length).zip (l'.zip tr)) _ (by rw [List.length_zip, hzl]; simp [hlen']) (fun x hx => hx) ?_ ?_ (by simp) ?_ ?_ H.drew R' hd (by rw [z2]; exact hrun.run OK) hQ
          · intro i r hir
            obtain ⟨o, t⟩ := r
            obtain ⟨i1, _⟩ := zip_at hir
            have hlt2 : i < ops.size := by rw [← hlen']; exact (List.getElem?_eq_some_iff.1 i1).1
            exact ⟨ops[i], Array.getElem?_eq_getElem hlt2, hspec i _ o (by simp [hlt2]) i1⟩
          · rw [z1]; exact List.pairwise_lt_range
          · intro i hi
            rw [z1, hlen', Array.getD_eq_getD_getElem?]
            simp [hi]
          · intro i o hi _
            exfalso
            rw [Array.getD_eq_getD_getElem?, Array.getElem?_replicate] at hi
            split at hi <;> simp at hi
        · rcases manyOf_cases P pur ops l' with hm | ⟨_, hm, _⟩ <;> rw [hm] at hr <;> simp at hr
  · exact absurd hr (by simp)
end
end Go.Proofs.YtpgidiompdabdaaGreat.AM
