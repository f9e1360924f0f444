/- Regions whose operations come in many orders: each order is looked at; soundness. -/
import Derived.Test.YtpnmeednimpjdaaGreatAmM
namespace Go.Proofs.YtpnmeednimpjdaaGreat.AM
open Go Go.RowKit
set_option linter.unusedSimpArgs false
set_option linter.unusedVariables false

theorem inL_mem : ∀ {l : List Nat} {t : Nat}, inL l t = true → t ∈ l
  | [], t, h => by simp [inL] at h
  | k :: l, t, h => by
    simp only [inL] at h
    cases hb : Nat.beq k t with
    | true => have := Nat.eq_of_beq_eq_true hb; simp [this]
    | false => rw [hb] at h; exact List.mem_cons_of_mem _ (inL_mem h)
theorem inL_all {l : List Nat} {t : Nat} {p : Nat → Bool} (ha : l.all p = true) (h : inL l t = true) : p t = true := List.all_eq_true.1 ha t (inL_mem h)
structure DE where
  i : Nat
  o : RO
  t : Tr1
def OkS (F : Funs) (X : Exts) (o : RO) (e : Env) (h : AH) (v : Value) (h1 : AH) : Prop :=
  (wants o.guard e = some false ∧ v = undef ∧ h1 = h) ∨ (wants o.guard e = some true ∧ ((o.op.isCall = false ∧ ev o.op e h = some (v, h1)) ∨
    ∃ f args g vs, o.op = .call f args ∧ callee f args e = some (g, vs) ∧ Ok F X (.fn g vs h v h1)))
def TrO (F : Funs) (X : Exts) (l : List RO) : RTree → List DE → Env → AH → (Env → AH → Prop) → Prop
  | .leaf, _, e, h, Q => Q e h
  | .q i t, D, e, h, Q => ∃ o v h1, l[i]? = some o ∧ OkS F X o e h v h1 ∧ TrO F X l t D (putD e o.dst v) h1 Q
  | .r i t, D, e, h, Q => ∃ o v h1, l[i]? = some o ∧ OkS F X o e h v h1 ∧ TrO F X l t (⟨i, o, ⟨e, h, v, h1⟩⟩ :: D) (putD e o.dst v) h1 Q
  | .m i dp t, D, e, h, Q => ∃ o v h1, l[i]? = some o ∧ OkS F X o e h v h1 ∧ (∀ d ∈ D, inL dp d.i = false → reread d.o d.t h1 = true) ∧ TrO F X l t (D.filter fun d => !inL dp d.i) (putD e o.dst v) h1 Q
  | .alt a b, D, e, h, Q => TrO F X l a D e h Q ∧ TrO F X l b D e h Q

/-- Quiet operations that count as done and are not done yet. -/
structure FE where
  i : Nat
  o : RO
  env : Env
  v : Value
def foldF : List FE → Env → Env
  | [], e => e
  | f :: fs, e => foldF fs (putD e f.o.dst f.v)
def AGR : List FE → Env → Prop
  | [], _ => True
  | f :: fs, ep => (∀ t ∈ f.o.tm, ep.get t = f.env.get t) ∧ AGR fs (putD ep f.o.dst f.v)
/-- Two operations are apart. -/
structure AP (x y : RO) : Prop where
  a : ∀ t ∈ y.tm, x.dst ≠ some t
  b : ∀ t ∈ x.tm, y.dst ≠ some t
  c : ∀ t, x.dst = some t → y.dst ≠ some t
theorem AP.symm {x y : RO} (h : AP x y) : AP y x := ⟨h.b, h.a, fun t h1 h2 => h.c t h2 h1⟩
theorem AP.of {x y : RO} (h : apartB x y = true) : AP x y := let ⟨a, b, c⟩ := apart_spec h; ⟨a, b, c⟩
theorem foldF_append : ∀ (A B : List FE) (e : Env), foldF (A ++ B) e = foldF B (foldF A e)
  | [], _, _ => rfl
  | _ :: A, B, e => foldF_append A B _
theorem foldF_get : ∀ {A : List FE} {e : Env} {t : Nat}, (∀ g ∈ A, g.o.dst ≠ some t) → (foldF A e).get t = e.get t
  | [], _, _, _ => rfl
  | f :: A, e, t, h => by
    show (foldF A (putD e f.o.dst f.v)).get t = _
    rw [foldF_get (fun g hg => h g (List.mem_cons_of_mem _ hg)), putD_get (h f (List.mem_cons_self ..))]
theorem AGR.put : ∀ {A : List FE} {ep : Env} {o : RO} {v : Value}, AGR A ep → (∀ f ∈ A, AP f.o o) → AGR A (putD ep o.dst v) ∧ foldF A (putD ep o.dst v) = putD (foldF A ep) o.dst v
  | [], _, _, _, _, _ => ⟨trivial, rfl⟩
  | f :: A, ep, o, v, h, ha => by
    have h1 := ha f (List.mem_cons_self ..)
    have e1 : putD (putD ep o.dst v) f.o.dst f.v = putD (putD ep f.o.dst f.v) o.dst v := putD_comm _ _ _ (h1.symm.c)
    obtain ⟨k1, k2⟩ := AGR.put (v := v) h.2 (fun g hg => ha g (List.mem_cons_of_mem _ hg))
    refine ⟨⟨fun t ht => ?_, by rw [e1]; exact k1⟩, ?_⟩
    · rw [putD_get (h1.b t ht)]; exact h.1 t ht
    · show foldF A (putD (putD ep o.dst v) f.o.dst f.v) = _
      rw [e1]; exact k2
theorem AGR.snoc : ∀ {A : List FE} {ep : Env} {f : FE}, AGR A ep → (∀ t ∈ f.o.tm, (foldF A ep).get t = f.env.get t) → AGR (A ++ [f]) ep
  | [], _, _, _, h => ⟨h, trivial⟩
  | g :: A, ep, f, h, k => ⟨h.1, AGR.snoc h.2 k⟩
theorem AGR.pull : ∀ {A B : List FE} {f : FE} {ep : Env}, AGR (A ++ f :: B) ep → (∀ g ∈ A, AP g.o f.o) → (∀ t ∈ f.o.tm, ep.get t = f.env.get t) ∧ AGR (A ++ B) (putD ep f.o.dst f.v) ∧ foldF (A ++ f :: B) ep = foldF (A ++ B) (putD ep f.o.dst f.v)
  | [], B, f, ep, h, _ => ⟨h.1, h.2, rfl⟩
  | g :: A, B, f, ep, h, ha => by
    have h1 := ha g (List.mem_cons_self ..)
    have e1 : putD (putD ep f.o.dst f.v) g.o.dst g.v = putD (putD ep g.o.dst g.v) f.o.dst f.v := putD_comm _ _ _ (h1.symm.c)
    obtain ⟨k1, k2, k3⟩ := AGR.pull (A := A) (B := B) (f := f) h.2 (fun x hx => ha x (List.mem_cons_of_mem _ hx))
    refine ⟨fun t ht => ?_, ⟨fun t ht => ?_, ?_⟩, ?_⟩
    · rw [← k1 t ht, putD_get (h1.a t ht)]
    · rw [putD_get (h1.b t ht)]; exact h.1 t ht
    · show AGR (A ++ B) (putD (putD ep f.o.dst f.v) g.o.dst g.v)
      rw [e1]; exact k2
    · show foldF (A ++ f :: B) (putD ep g.o.dst g.v) = foldF (A ++ B) (putD (putD ep f.o.dst f.v) g.o.dst g.v)
      rw [e1]; exact k3

theorem mem_without {L : List Nat} {i k : Nat} : k ∈ without L i ↔ k ∈ L ∧ k ≠ i := by
  unfold without
  rw [List.mem_filter]
  refine and_congr Iff.rfl ?_
  cases h : Nat.beq k i with
  | true => have := Nat.eq_of_beq_eq_true h; simp [this]
  | false => have := Nat.ne_of_beq_eq_false h; simp [this]
theorem without_len {L : List Nat} {i : Nat} (h : i ∈ L) : (without L i).length + 1 ≤ L.length := by
  have : (without L i).length < L.length := by
    unfold without
    rw [List.length_filter_lt_length_iff_exists]
    exact ⟨i, h, by simp [Nat.beq_refl]⟩
  omega

section
variable {P : Program} {F : Funs} {X : Exts} {pur : List FuncId}
theorem OkS.sts (OK : XOK P F X pur) (hF : FOK P pur F) {o : RO} {e : Env} {h h1 : AH} {v : Value} (hs : OkS F X o e h v h1) : StS P X pur o e h v h1 := by
  rcases hs with h | ⟨hw, h | ⟨f, args, g, vs, ho, hc, hk⟩⟩
  · exact .inl h
  · exact .inr ⟨hw, .inl h⟩
  · exact .inr ⟨hw, .inr ⟨f, args, g, vs, ho, hc, sound OK hF hk⟩⟩
structure MI (P : Program) (X : Exts) (pur : List FuncId) (ops : Array Oper) (l : List RO) (L : List Nat) (Fl : List FE) (D : List DE) (e ep : Env) (h : AH) (ls : Array Bool) : Prop where
  lt : ∀ i ∈ L, i < ops.size
  nd : (Fl.map FE.i).Nodup
  dj : ∀ f ∈ Fl, f.i ∉ L
  at_ : ∀ f ∈ Fl, l[f.i]? = some f.o
  env : e = foldF Fl ep
  agr : AGR Fl ep
  ob : ∀ f ∈ Fl, StS P X pur f.o f.env h f.v h
  fd : ∀ f ∈ Fl, f.o.op.cls pur = 2 ∨ (f.o.op.cls pur = 1 ∧ ∃ hb ha, (⟨f.i, f.o, ⟨f.env, hb, f.v, ha⟩⟩ : DE) ∈ D)
  ord : Fl.Pairwise fun f g => ¬ Dep ops f.i g.i
  clL : ∀ i, i < ops.size → i ∉ L → ∀ k ∈ bindL ops i, k ∉ L
  sz : ls.size = ops.size
  lsd : ∀ i, i < ops.size → (ls.getD i true = false ↔ i ∈ L ∨ i ∈ Fl.map FE.i)
  cl : ∀ i o, ls.getD i false = true → ops[i]? = some o → ∀ k ∈ binding o, ls.getD k false = true
theorem dep_lt {ops : Array Oper} {i j : Nat} (h : Dep ops i j) : i < ops.size := by
  cases h with
  | one h _ => exact (Array.getElem?_eq_some_iff.1 h).1
  | more h _ _ => exact (Array.getElem?_eq_some_iff.1 h).1
theorem dep_L {ops : Array Oper} {L : List Nat} (hc : ∀ i, i < ops.size → i ∉ L → ∀ k ∈ bindL ops i, k ∉ L) {i j : Nat} (h : Dep ops i j) : i ∉ L → j ∉ L := by
  induction h with
  | one h1 h2 => exact fun hi => hc _ (Array.getElem?_eq_some_iff.1 h1).1 hi _ (by simp [bindL, h1, h2])
  | more h1 h2 h3 ih => exact fun hi => ih (hc _ (Array.getElem?_eq_some_iff.1 h1).1 hi _ (by simp [bindL, h1, h2]))
theorem readyL_spec {ops : Array Oper} {L : List Nat} {i : Nat} (h : readyL ops L i = true) : ∀ k ∈ bindL ops i, k ∉ L := by
  intro k hk hm
  have := List.all_eq_true.1 h k hk
  simp [hm] at this
theorem clL_without {ops : Array Oper} {L : List Nat} {i : Nat} (hc : ∀ i, i < ops.size → i ∉ L → ∀ k ∈ bindL ops i, k ∉ L) (hr : readyL ops L i = true) : ∀ j, j < ops.size → j ∉ without L i → ∀ k ∈ bindL ops j, k ∉ without L i := by
  intro j hj hn k hk hm
  rw [mem_without] at hm hn
  by_cases e : j = i
  · subst e; exact readyL_spec hr k hk hm.1
  · exact hc j hj (fun h => hn ⟨h, e⟩) k hk hm.1
def Prs (ops : Array Oper) (l : List RO) : Prop := ∀ i j r q, l[i]? = some r → l[j]? = some q → i ≠ j → ¬ Dep ops i j → ¬ Dep ops j i → AP q r
theorem prs_of {ops : Array Oper} {l : List RO} (h : pairsA ops l = true) : Prs ops l := by
  have key : ∀ i j r q, l[i]? = some r → l[j]? = some q → j < i → ¬ Dep ops i j → AP q r := by
    intro i j r q hi hj hlt hd
    have h1 := List.all_eq_true.1 (List.all_eq_true.1 h i (List.mem_range.2 (List.getElem?_eq_some_iff.1 hi).1)) j (List.mem_range.2 hlt)
    rw [hi, hj, Bool.or_eq_true] at h1
    rcases h1 with h1 | h1
    · exact absurd (predsGo_spec ops ops.toList [] (by intro i m hm; simp at hm) (by intro k o hk; simpa using hk) i j h1) hd
    · exact AP.of h1
  intro i j r q hi hj hne h1 h2
  rcases Nat.lt_or_gt_of_ne hne with hlt | hlt
  · exact (key j i q r hj hi hlt h2).symm
  · exact key i j r q hi hj hlt h1
theorem heads_at {ps : List Nat} {ops : Array Oper} {l : List RO} {L : List Nat} {D : List DE} {e : Env} {h : AH} {Q : Env → AH → Prop} {j : Nat} : ∀ {t : RTree}, chkT pur ps ops l false t L = true → TrO F X l t D e h Q → j ∈ heads t → ∃ dp t', j ∈ L ∧ readyL ops L j = true ∧ (dp.all fun k => (ps.getD j 0).testBit k) = true ∧ chkT pur ps ops l true t' (without L j) = true ∧ TrO F X l (.m j dp t') D e h Q
  | .leaf, hc, _, _ => by simp [chkT] at hc
  | .q _ _, hc, _, _ => by simp [chkT] at hc
  | .r _ _, hc, _, _ => by simp [chkT] at hc
  | .m i dp t, hc, ht, hj => by
    simp only [heads, List.mem_singleton] at hj
    subst hj
    simp only [chkT, Bool.and_eq_true] at hc
    obtain ⟨⟨⟨⟨h1, h2⟩, h3⟩, h4⟩, _⟩ := hc
    exact ⟨dp, t, by simpa using h1, h2, h3, h4, ht⟩
  | .alt a b, hc, ht, hj => by
    simp only [chkT, Bool.and_eq_true] at hc
    simp only [heads, List.mem_append] at hj
    rcases hj with hj | hj
    · exact heads_at hc.1.1 ht.1 hj
    · exact heads_at hc.1.2 ht.2 hj
theorem chkT_nil {ps : List Nat} {ops : Array Oper} {l : List RO} : ∀ {t : RTree}, chkT pur ps ops l false t [] = false
  | .leaf => rfl
  | .q _ _ => rfl
  | .r _ _ => rfl
  | .m i dp t => by simp [chkT]
  | .alt a b => by simp [chkT, chkT_nil (t := a)]
theorem chkT_leaf {ps : List Nat} {ops : Array Oper} {l : List RO} {t : RTree} (h : chkT pur ps ops l true t [] = true) : t = .leaf := by
  cases t with
  | leaf => rfl
  | q i t => simp [chkT] at h
  | r i t => simp [chkT] at h
  | m i dp t => simp [chkT] at h
  | alt a b => simp [chkT, chkT_nil (t := a)] at h
theorem all_listed {ops : Array Oper} (he : early ops = true) {ls : Array Bool} (hsz : ls.size = ops.size) (hre : Region.ready .any ops ls = []) (i : Nat) : i < ops.size → ls.getD i true ≠ false := by
  induction i using Nat.strongRecOn with
  | _ i ih =>
    intro hi hf
    have hmem : i ∈ Region.ready .any ops ls := by
      rw [mem_ready]
      refine ⟨hf, ops[i], Array.getElem?_eq_getElem hi, fun ed hed hb => ?_⟩
      have hk : ed.on < i := by
        have h1 := List.all_eq_true.1 he i (List.mem_range.2 hi)
        rw [Array.getElem?_eq_getElem hi] at h1
        exact of_decide_eq_true (List.all_eq_true.1 h1 ed.on (mem_binding.2 ⟨ed, hed, hb, rfl⟩))
      have h2 := ih ed.on hk (by omega)
      have hk2 : ed.on < ls.size := by omega
      rw [Array.getD_eq_getD_getElem?, Array.getElem?_eq_getElem hk2] at h2 ⊢
      simpa using h2
    rw [hre] at hmem
    cases hmem
theorem lsd_ne {ls : Array Bool} {j : Nat} (h1 : ls.getD j false = true) (h2 : ls.getD j true = false) : False := by
  rw [Array.getD_eq_getD_getElem?] at h1 h2
  cases hx : ls[j]? with
  | none => rw [hx] at h1; simp at h1
  | some x => rw [hx] at h1 h2; simp at h1 h2; rw [h1] at h2; cases h2
section
variable {ops : Array Oper} {l : List RO} {L : List Nat} {D : List DE} {e ep : Env} {h : AH} {ls : Array Bool}
/-- A quiet operation counts as done. -/
theorem MI.float {Fl : List FE} (M : MI P X pur ops l L Fl D e ep h ls) {i : Nat} {o : RO} {v : Value} (hi : i ∈ L) (hl : l[i]? = some o) (hr : readyL ops L i = true) (hs : StS P X pur o e h v h) {D' : List DE} (hD : ∀ d ∈ D, d ∈ D')
    (hc : o.op.cls pur = 2 ∨ (o.op.cls pur = 1 ∧ ∃ hb ha, (⟨i, o, ⟨e, hb, v, ha⟩⟩ : DE) ∈ D')) : MI P X pur ops l (without L i) (Fl ++ [⟨i, o, e, v⟩]) D' (putD e o.dst v) ep h ls := by
  have hne : ∀ f ∈ Fl, f.i ≠ i := fun f hf x => M.dj f hf (x ▸ hi)
  refine ⟨fun j hj => M.lt j (mem_without.1 hj).1, ?_, ?_, ?_, ?_, ?_, ?_, ?_, ?_, clL_without M.clL hr, M.sz, fun j hj => ?_, M.cl⟩
  · rw [List.map_append, List.nodup_append]
    refine ⟨M.nd, by simp, fun a ha c hc => ?_⟩
    obtain ⟨f, hf, rfl⟩ := List.mem_map.1 ha
    simp at hc; subst hc; exact hne f hf
  · intro f hf hm
    rw [mem_without] at hm
    rcases List.mem_append.1 hf with hf | hf
    · exact M.dj f hf hm.1
    · simp at hf; subst hf; exact hm.2 rfl
  · intro f hf
    rcases List.mem_append.1 hf with hf | hf
    · exact M.at_ f hf
    · simp at hf; subst hf; exact hl
  · rw [foldF_append, ← M.env]; rfl
  · exact M.agr.snoc fun t _ => by rw [← M.env]
  · intro f hf
    rcases List.mem_append.1 hf with hf | hf
    · exact M.ob f hf
    · simp at hf; subst hf; exact hs
  · intro f hf
    rcases List.mem_append.1 hf with hf | hf
    · exact (M.fd f hf).imp id (And.imp id fun ⟨hb, ha, k⟩ => ⟨hb, ha, hD _ k⟩)
    · simp at hf; subst hf; exact hc
  · refine List.pairwise_append.2 ⟨M.ord, by simp, fun f hf g hg hd => ?_⟩
    simp at hg; subst hg
    exact dep_L M.clL hd (M.dj f hf) hi
  · rw [M.lsd j hj, mem_without, List.map_append, List.mem_append]
    by_cases e : j = i
    · subst e; simp [hi]
    · simp [e]
theorem nodep (hcl : ∀ i o, ls.getD i false = true → ops[i]? = some o → ∀ k ∈ binding o, ls.getD k false = true) {i : Nat} (hdl : ∀ k ∈ bindL ops i, ls.getD k false = true) : ∀ j, ls.getD j true = false → j < ops.size → ¬ Dep ops i j :=
  fun j hj _ hd => lsd_ne (hd.listed hcl fun o ho k hk => hdl k (by simp [bindL, ho, hk])) hj
/-- A quiet operation that counts as done is done. -/
theorem MI.doneF {A B : List FE} {f : FE} (M : MI P X pur ops l L (A ++ f :: B) D e ep h ls) (hpr : Prs ops l) (hlen : l.length = ops.size) (hdl : ∀ k ∈ bindL ops f.i, ls.getD k false = true) :
    StS P X pur f.o ep h f.v h ∧ MI P X pur ops l L (A ++ B) D e (putD ep f.o.dst f.v) h (ls.setIfInBounds f.i true) := by
  have hf : f ∈ A ++ f :: B := by simp
  have hnd := nodep M.cl hdl
  have sub : ∀ g, g ∈ A ++ B → g ∈ A ++ f :: B := fun g hg => by
    rcases List.mem_append.1 hg with h | h <;> simp [h]
  have lt : ∀ g ∈ A ++ f :: B, g.i < ops.size ∧ ls.getD g.i true = false := fun g hg => by
    have hlt : g.i < ops.size := by rw [← hlen]; exact (List.getElem?_eq_some_iff.1 (M.at_ g hg)).1
    exact ⟨hlt, (M.lsd _ hlt).2 (.inr (List.mem_map.2 ⟨g, hg, rfl⟩))⟩
  have hnd2 := M.nd
  rw [List.map_append, List.map_cons] at hnd2
  have hnd3 := List.nodup_append.1 hnd2
  have hord := List.pairwise_append.1 M.ord
  have hne : ∀ g ∈ A ++ B, g.i ≠ f.i := by
    intro g hg
    rcases List.mem_append.1 hg with h | h
    · exact hnd3.2.2 _ (List.mem_map.2 ⟨g, h, rfl⟩) _ (by simp)
    · intro x
      exact (List.nodup_cons.1 hnd3.2.1).1 (List.mem_map.2 ⟨g, h, x⟩)
  have ap : ∀ g ∈ A, AP g.o f.o := fun g hg => by
    have hg' : g ∈ A ++ f :: B := by simp [hg]
    exact hpr f.i g.i f.o g.o (M.at_ f hf) (M.at_ g hg') (Ne.symm (hne g (by simp [hg]))) (hnd _ (lt g hg').2 (lt g hg').1) (hord.2.2 g hg f (by simp))
  obtain ⟨k1, k2, k3⟩ := M.agr.pull ap
  refine ⟨(M.ob f hf).env k1, M.lt, ?_, fun g hg => M.dj g (sub g hg), fun g hg => M.at_ g (sub g hg), by rw [← k3]; exact M.env, k2, fun g hg => M.ob g (sub g hg), fun g hg => M.fd g (sub g hg), ?_, M.clL, by simpa using M.sz, fun j hj => ?_, ?_⟩
  · rw [List.map_append]
    refine List.nodup_append.2 ⟨hnd3.1, (List.nodup_cons.1 hnd3.2.1).2, fun a ha c hc => hnd3.2.2 a ha c (by simp [hc])⟩
  · exact List.pairwise_append.2 ⟨hord.1, (List.pairwise_cons.1 hord.2.1).2, fun x hx y hy => hord.2.2 x hx y (by simp [hy])⟩
  · by_cases hji : f.i = j
    · subst hji
      have hlt2 : f.i < ls.size := by rw [M.sz]; exact hj
      rw [Array.getD_eq_getD_getElem?]
      simp only [Array.getElem?_setIfInBounds_self_of_lt hlt2, Option.getD_some]
      constructor
      · intro h; cases h
      · rintro (h | h)
        · exact absurd h (M.dj f hf)
        · obtain ⟨g, hg, hgi⟩ := List.mem_map.1 h
          exact absurd hgi (hne g hg)
    · rw [getD_set_ne _ hji, M.lsd j hj]
      simp only [List.map_append, List.map_cons, List.mem_append, List.mem_cons]
      constructor
      · rintro (h | h | h | h)
        · exact .inl h
        · exact .inr (.inl h)
        · exact absurd h.symm hji
        · exact .inr (.inr h)
      · rintro (h | h | h)
        · exact .inl h
        · exact .inr (.inl h)
        · exact .inr (.inr (.inr h))
  · intro j oj hj hoj k hk
    by_cases hji : f.i = j
    · subst hji
      exact getD_set_true (hdl k (by simp [bindL, hoj, hk]))
    · rw [getD_set_ne _ hji] at hj
      exact getD_set_true (M.cl j oj hj hoj k hk)
/-- Another operation is done. -/
theorem MI.doneM (OK : XOK P F X pur) {Fl : List FE} (M : MI P X pur ops l L Fl D e ep h ls) (hpr : Prs ops l) (hlen : l.length = ops.size) {i : Nat} {o : RO} {v : Value} {h1 : AH} (hi : i ∈ L) (hl : l[i]? = some o) (hr : readyL ops L i = true) (hdl : ∀ k ∈ bindL ops i, ls.getD k false = true)
    (hs : StS P X pur o e h v h1) {dp : List Nat} (hdp : (dp.all fun k => ((predsGo [] ops.toList).getD i 0).testBit k) = true) (hob : ∀ d ∈ D, inL dp d.i = false → reread d.o d.t h1 = true) :
    StS P X pur o ep h v h1 ∧ MI P X pur ops l (without L i) Fl (D.filter fun d => !inL dp d.i) (putD e o.dst v) (putD ep o.dst v) h1 (ls.setIfInBounds i true) := by
  have hnd := nodep M.cl hdl
  have ils : i < ops.size := M.lt i hi
  have hne : ∀ f ∈ Fl, f.i ≠ i := fun f hf x => M.dj f hf (x ▸ hi)
  have lt : ∀ g ∈ Fl, g.i < ops.size ∧ ls.getD g.i true = false := fun g hg => by
    have hlt : g.i < ops.size := by rw [← hlen]; exact (List.getElem?_eq_some_iff.1 (M.at_ g hg)).1
    exact ⟨hlt, (M.lsd _ hlt).2 (.inr (List.mem_map.2 ⟨g, hg, rfl⟩))⟩
  have ndi : ∀ f ∈ Fl, ¬ Dep ops i f.i := fun f hf => hnd _ (lt f hf).2 (lt f hf).1
  have ap : ∀ f ∈ Fl, AP f.o o := fun f hf => hpr i f.i o f.o hl (M.at_ f hf) (Ne.symm (hne f hf)) (ndi f hf) (fun hd => dep_L M.clL hd (M.dj f hf) hi)
  obtain ⟨k1, k2⟩ := M.agr.put (v := v) ap
  refine ⟨hs.env fun t ht => ?_, fun j hj => M.lt j (mem_without.1 hj).1, M.nd, fun f hf hm => M.dj f hf (mem_without.1 hm).1, M.at_, by rw [k2, ← M.env], k1, fun f hf => ?_, fun f hf => ?_, M.ord, clL_without M.clL hr, by simpa using M.sz, fun j hj => ?_, ?_⟩
  · rw [M.env]
    exact (foldF_get fun g hg => (ap g hg).a t ht).symm
  · rcases M.fd f hf with hc | ⟨hc, hb, ha, hd⟩
    · exact (M.ob f hf).free OK hc h1
    · refine reread_sound (t := ⟨f.env, hb, f.v, ha⟩) (M.ob f hf) hc (hob _ hd ?_)
      cases hx : inL dp f.i with
      | false => rfl
      | true =>
        exfalso
        have hx := inL_all hdp hx
        exact ndi f hf (predsGo_spec ops ops.toList [] (by intro i m hm; simp at hm) (by intro k o hk; simpa using hk) i f.i hx)
  · refine (M.fd f hf).imp id (And.imp id fun ⟨hb, ha, hd⟩ => ⟨hb, ha, List.mem_filter.2 ⟨hd, ?_⟩⟩)
    cases hx : inL dp f.i with
    | false => simp [hx]
    | true =>
      exfalso
      have hx := inL_all hdp hx
      exact ndi f hf (predsGo_spec ops ops.toList [] (by intro i m hm; simp at hm) (by intro k o hk; simpa using hk) i f.i hx)
  · by_cases hji : i = j
    · subst hji
      have hlt2 : i < ls.size := by rw [M.sz]; exact hj
      rw [Array.getD_eq_getD_getElem?]
      simp only [Array.getElem?_setIfInBounds_self_of_lt hlt2, Option.getD_some]
      constructor
      · intro h; cases h
      · rintro (h | h)
        · exact absurd rfl (mem_without.1 h).2
        · obtain ⟨g, hg, hgi⟩ := List.mem_map.1 h
          exact absurd hgi (hne g hg)
    · rw [getD_set_ne _ hji, M.lsd j hj, mem_without]
      constructor
      · rintro (h | h)
        · exact .inl ⟨h, fun x => hji x.symm⟩
        · exact .inr h
      · rintro (h | h)
        · exact .inl h.1
        · exact .inr h
  · intro j oj hj hoj k hk
    by_cases hji : i = j
    · subst hji
      exact getD_set_true (hdl k (by simp [bindL, hoj, hk]))
    · rw [getD_set_ne _ hji] at hj
      exact getD_set_true (M.cl j oj hj hoj k hk)
end
theorem any_opsM (OK : XOK P F X pur) (hF : FOK P pur F) {n : Nat} {ops : Array Oper} {l : List RO} (he : early ops = true) (hpr : Prs ops l) (hlen : l.length = ops.size)
    (hspec : ∀ (i : Nat) (o : Oper) (r : RO), ops[i]? = some o → l[i]? = some r → rOper P n ops o = some r) {Qp : Env → AH → Prop} {base : Nat} {w0 : World} {Q : Exit → Act → World → Prop} :
    ∀ (fuel : Nat) (t : RTree) (L : List Nat) (Fl : List FE) (D : List DE) (ls : Array Bool) {b : Bt} {h : AH} {w : World} {e ep : Env} {a : Act},
    MI P X pur ops l L Fl D e ep h ls → L.length + Fl.length ≤ fuel → chkT pur (predsGo [] ops.toList) ops l true t L = true → TrO F X l t D e h Qp →
    Sim b h base w0 w → Rl b ep w a n → a.defers = [] → (∀ e' h', Qp e' h' → ∀ c a' w1, Rl (b ++ c) e' w1 a' n → SLe w.shape? w1.shape? → Sim (b ++ c) h' base w0 w1 → a'.defers = [] → Q .normal a' w1) →
    wpAny P .any ops Q fuel ls a w := by
  have fin : ∀ {t : RTree} {L : List Nat} {Fl : List FE} {D : List DE} {ls : Array Bool} {b : Bt} {h : AH} {w : World} {e ep : Env} {a : Act}, MI P X pur ops l L Fl D e ep h ls → L = [] → Fl = [] → chkT pur (predsGo [] ops.toList) ops l true t L = true → TrO F X l t D e h Qp →
      Sim b h base w0 w → Rl b ep w a n → a.defers = [] → (∀ e' h', Qp e' h' → ∀ c a' w1, Rl (b ++ c) e' w1 a' n → SLe w.shape? w1.shape? → Sim (b ++ c) h' base w0 w1 → a'.defers = [] → Q .normal a' w1) → Q .normal a w := by
    intro t L Fl D ls b h w e ep a M h1 h2 hc ht H R hd hQ
    subst h1 h2
    have := chkT_leaf hc
    subst this
    have he := M.env
    simp only [foldF] at he
    subst he
    exact hQ _ _ ht [] a w (by rw [List.append_nil]; exact R) (SLe.refl _) (by rw [List.append_nil]; exact H) hd
  intro fuel
  induction fuel with
  | zero =>
    intro t L Fl D ls b h w e ep a M hlf hc ht H R hd hQ
    have h1 : L = [] := List.length_eq_zero_iff.1 (by omega)
    have h2 : Fl = [] := List.length_eq_zero_iff.1 (by omega)
    refine ⟨?_, fin M h1 h2 hc ht H R hd hQ⟩
    apply List.eq_nil_iff_forall_not_mem.2
    intro i hi
    rw [mem_ready] at hi
    obtain ⟨h3, o, h4, _⟩ := hi
    have := (M.lsd i (Array.getElem?_eq_some_iff.1 h4).1).1 h3
    subst h1 h2
    simp at this
  | succ fuel ih =>
    have stuck : ∀ (t : RTree) (L : List Nat) (Fl : List FE) (D : List DE) (ls : Array Bool) {b : Bt} {h : AH} {w : World} {e ep : Env} {a : Act},
        MI P X pur ops l L Fl D e ep h ls → L.length + Fl.length ≤ fuel + 1 → chkT pur (predsGo [] ops.toList) ops l true t L = true → TrO F X l t D e h Qp →
        (∀ j ∈ L, readyL ops L j = true → ∃ dp t', (dp.all fun k => ((predsGo [] ops.toList).getD j 0).testBit k) = true ∧ chkT pur (predsGo [] ops.toList) ops l true t' (without L j) = true ∧ TrO F X l (.m j dp t') D e h Qp) →
        Sim b h base w0 w → Rl b ep w a n → a.defers = [] → (∀ e' h', Qp e' h' → ∀ c a' w1, Rl (b ++ c) e' w1 a' n → SLe w.shape? w1.shape? → Sim (b ++ c) h' base w0 w1 → a'.defers = [] → Q .normal a' w1) →
        wpAny P .any ops Q (fuel + 1) ls a w := by
      intro t L Fl D ls b h w e ep a M hlf hc ht hcov H R hd hQ
      refine ⟨fun hre => ?_, fun i hi => ?_⟩
      · have hall := all_listed he M.sz hre
        have h1 : L = [] := List.eq_nil_iff_forall_not_mem.2 fun i hi => hall i (M.lt i hi) ((M.lsd i (M.lt i hi)).2 (.inl hi))
        have h2 : Fl = [] := List.eq_nil_iff_forall_not_mem.2 fun f hf => by
          have hlt : f.i < ops.size := by rw [← hlen]; exact (List.getElem?_eq_some_iff.1 (M.at_ f hf)).1
          exact hall _ hlt ((M.lsd _ hlt).2 (.inr (List.mem_map.2 ⟨f, hf, rfl⟩)))
        exact fin M h1 h2 hc ht H R hd hQ
      · rw [mem_ready] at hi
        obtain ⟨h1, o, ho, hdeps⟩ := hi
        have hlt : i < ops.size := (Array.getElem?_eq_some_iff.1 ho).1
        have hdl : ∀ k ∈ bindL ops i, ls.getD k false = true := by
          intro k hk
          simp only [bindL, ho] at hk
          obtain ⟨ed, h3, h4, rfl⟩ := mem_binding.1 hk
          exact hdeps ed h3 h4
        rcases (M.lsd i hlt).1 h1 with hL | hFl
        · have hrL : readyL ops L i = true := List.all_eq_true.2 fun k hk => by
            have h2 := hdl k hk
            have hne : k ∉ L := fun hm => lsd_ne h2 ((M.lsd k (M.lt k hm)).2 (.inl hm))
            simp [hne]
          obtain ⟨dp, t', hdp, hc', r, v, h1', hl, hs, hob, ht'⟩ := hcov i hL hrL
          have hs' := hs.sts OK hF
          obtain ⟨hsp, M'⟩ := M.doneM OK hpr hlen hL hl hrL hdl hs' hdp hob
          have hro := hspec i o r ho hl
          refine step_sound H R ho hro hsp fun c v' w1 hv hS HS => ?_
          refine ih t' _ _ _ _ M' (by have := without_len hL; omega) hc' ht' HS (R.put hS hv (rOper_spec hro).2.2) (by rw [put_defers]; exact hd) fun e' h' hq c' a' w2 R2 hS2 HS2 hd2 => ?_
          exact hQ e' h' hq (c ++ c') a' w2 (by rw [← List.append_assoc]; exact R2) (hS.trans hS2) (by rw [← List.append_assoc]; exact HS2) hd2
        · obtain ⟨f, hf, rfl⟩ := List.mem_map.1 hFl
          obtain ⟨A, B, hsp⟩ := List.append_of_mem hf
          subst hsp
          have hl := M.at_ f hf
          obtain ⟨hs', M'⟩ := M.doneF hpr hlen hdl
          have hro := hspec f.i o f.o ho hl
          refine step_sound H R ho hro hs' fun c v' w1 hv hS HS => ?_
          refine ih t _ _ _ _ M' (by simp at hlf ⊢; omega) hc ht HS (R.put hS hv (rOper_spec hro).2.2) (by rw [put_defers]; exact hd) fun e' h' hq c' a' w2 R2 hS2 HS2 hd2 => ?_
          exact hQ e' h' hq (c ++ c') a' w2 (by rw [← List.append_assoc]; exact R2) (hS.trans hS2) (by rw [← List.append_assoc]; exact HS2) hd2
    intro t
    induction t with
    | leaf =>
      intro L Fl D ls b h w e ep a M hlf hc ht H R hd hQ
      refine stuck _ L Fl D ls M hlf hc ht (fun j hj _ => ?_) H R hd hQ
      simp [chkT] at hc
      subst hc; cases hj
    | q i t iht =>
      intro L Fl D ls b h w e ep a M hlf hc ht H R hd hQ
      have hc0 := hc
      simp only [chkT, Bool.true_and, Bool.and_eq_true] at hc
      obtain ⟨⟨⟨h1, h2⟩, h3⟩, h4⟩ := hc
      have hi : i ∈ L := by simpa using h1
      obtain ⟨o, v, h1', hl, hs, ht'⟩ := ht
      have hs' := hs.sts OK hF
      have hcl : o.op.cls pur = 2 := by have := Nat.eq_of_beq_eq_true h3; simpa [qOf, hl] using this
      have := hs'.quiet OK (by omega)
      subst this
      have M' := M.float hi hl h2 hs' (D' := D) (fun _ h => h) (.inl hcl)
      exact iht _ _ _ _ M' (by have := without_len hi; simp; omega) h4 ht' H R hd hQ
    | r i t iht =>
      intro L Fl D ls b h w e ep a M hlf hc ht H R hd hQ
      simp only [chkT, Bool.true_and, Bool.and_eq_true] at hc
      obtain ⟨⟨⟨h1, h2⟩, h3⟩, h4⟩ := hc
      have hi : i ∈ L := by simpa using h1
      obtain ⟨o, v, h1', hl, hs, ht'⟩ := ht
      have hs' := hs.sts OK hF
      have hcl : o.op.cls pur = 1 := by have := Nat.eq_of_beq_eq_true h3; simpa [qOf, hl] using this
      have := hs'.quiet OK (by omega)
      subst this
      have M' := M.float hi hl h2 hs' (D' := ⟨i, o, ⟨e, h1', v, h1'⟩⟩ :: D) (fun _ h => List.mem_cons_of_mem _ h) (.inr ⟨hcl, _, _, List.mem_cons_self ..⟩)
      exact iht _ _ _ _ M' (by have := without_len hi; simp; omega) h4 ht' H R hd hQ
    | m i dp t iht =>
      intro L Fl D ls b h w e ep a M hlf hc ht H R hd hQ
      refine stuck _ L Fl D ls M hlf hc ht (fun j hj hr => ?_) H R hd hQ
      simp only [chkT, Bool.and_eq_true, Bool.not_true, Bool.false_or] at hc
      obtain ⟨⟨⟨⟨h1, h2⟩, h3⟩, h4⟩, h5⟩ := hc
      have := List.all_eq_true.1 h5 j hj
      rw [hr] at this
      have hji : j = i := Nat.eq_of_beq_eq_true (by simpa using this)
      subst hji
      exact ⟨dp, t, h3, h4, ht⟩
    | alt x y ihx ihy =>
      intro L Fl D ls b h w e ep a M hlf hc ht H R hd hQ
      refine stuck _ L Fl D ls M hlf hc ht (fun j hj hr => ?_) H R hd hQ
      simp only [chkT, Bool.and_eq_true, Bool.not_true, Bool.false_or] at hc
      obtain ⟨⟨h1, h2⟩, h5⟩ := hc
      have := List.all_eq_true.1 h5 j hj
      rw [hr] at this
      have hm : j ∈ heads x ++ heads y := by simpa using this
      rcases List.mem_append.1 hm with hm | hm
      · obtain ⟨dp, t', _, _, k1, k2, k3⟩ := heads_at h1 ht.1 hm; exact ⟨dp, t', k1, k2, k3⟩
      · obtain ⟨dp, t', _, _, k1, k2, k3⟩ := heads_at h2 ht.2 hm; exact ⟨dp, t', k1, k2, k3⟩
theorem regionM_sound (OK : XOK P F X pur) (hF : FOK P pur F) {id n : Nat} {ops : Array Oper} {draw : Bool} {l : List RO} {t : RTree} (hr : rRegion P pur n ops draw = some (.many l t)) {b : Bt} {h : AH} {base : Nat} {w0 w : World} {e : Env} {a : Act} {Q : Exit → Act → World → Prop} {Qp : Env → AH → Prop}
    (H : Sim b h base w0 w) (R : Rl b e w a n) (hd : a.defers = []) (ht : TrO F X l t [] e h Qp)
    (hQ : ∀ e' h', Qp e' h' → ∀ c a' w1, Rl (b ++ c) e' w1 a' n → SLe w.shape? w1.shape? → Sim (b ++ c) h' base w0 w1 → a'.defers = [] → Q .normal a' w1) :
    (Code.region id ops draw).wp P Q a w := by
  unfold rRegion at hr
  split at hr
  · rename_i l' hl
    obtain ⟨hlen, hspec⟩ := rOps_spec hl
    have hlen' : l'.length = ops.size := by simpa using hlen
    cases draw with
    | false => simp at hr
    | true =>
      simp only [if_true] at hr
      split at hr
      · simp at hr
      · split at hr
        · simp at hr
        · rcases manyOf_cases P pur ops l' with hm | ⟨t', hm, hmx, he, hpa, hck⟩
          · rw [hm] at hr; simp at hr
          · rw [hm] at hr
            simp only [Option.some.injEq, RCode.many.injEq] at hr
            obtain ⟨rfl, rfl⟩ := hr
            apply wp_region_any hmx
            have R' : Rl b e w.drew a n := ⟨R.get, R.size⟩
            show wpAny P .any ops Q ops.size _ a w.drew
            refine any_opsM OK hF he (prs_of hpa) hlen' (fun i o r ho hr => hspec i o r (by simpa using ho) hr) ops.size t' (List.range ops.size) [] [] _ ?_ (by simp) hck ht H.drew R' hd hQ
            refine ⟨fun i hi => List.mem_range.1 hi, by simp, by simp, by simp, rfl, trivial, by simp, by simp, by simp, fun i hi hn => absurd (List.mem_range.2 hi) hn, by simp, fun i hi => ?_, fun i o hi _ => ?_⟩
            · rw [Array.getD_eq_getD_getElem?]
              simp [hi]
            · exfalso
              rw [Array.getD_eq_getD_getElem?, Array.getElem?_replicate] at hi
              split at hi <;> simp at hi
  · exact absurd hr (by simp)
end
end Go.Proofs.YtpnmeednimpjdaaGreat.AM
