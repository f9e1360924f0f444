/- The abstract machine, twelfth part: regions, code, functions: what the abstract machine tells of a call holds of the model's. -/
import Derived.Test.YtpgidiompdabdaaGreatAmK
namespace Go.Proofs.YtpgidiompdabdaaGreat.AM
open Go Go.RowKit
set_option linter.unusedSimpArgs false
set_option linter.unusedVariables false

/-! ### Regions -/
/-- Of each operation: those that come before it in whatever order is drawn. -/
def binding (o : Oper) : List Nat := (o.after.toList.filter (Region.binds .any)).map (·.on)
def predsGo (acc : List Nat) : List Oper → List Nat
  | [] => acc
  | o :: os => predsGo (acc ++ [(binding o).foldl (fun m k => (m ||| 2 ^ k) ||| acc.getD k 0) 0]) os
def early (ops : Array Oper) : Bool := (List.range ops.size).all fun i => match ops[i]? with | some o => (binding o).all (· < i) | none => true
def pairs (pur : List FuncId) (ops : Array Oper) (l : List RO) : Bool :=
  let ps := predsGo [] ops.toList
  (List.range l.length).all fun i => (List.range i).all fun j => (ps.getD i 0).testBit j || (match l[j]?, l[i]? with | some q, some r => apartB q r && calmB pur q r | _, _ => true)
/-- Pairs that are neither ordered nor calm: one of the two writes, the other one reads; the run looks at them. -/
def quietB (pur : List FuncId) (o : RO) : Bool := decide (1 ≤ o.op.cls pur)
def pairsT (pur : List FuncId) (ops : Array Oper) (l : List RO) : Bool :=
  let ps := predsGo [] ops.toList
  (List.range l.length).all fun i => (List.range i).all fun j => (ps.getD i 0).testBit j || (match l[j]?, l[i]? with | some q, some r => apartB q r && (quietB pur q || quietB pur r) | _, _ => true)
def chkOf (pur : List FuncId) (ops : Array Oper) (l : List RO) : List (Nat × Nat × Bool) :=
  let ps := predsGo [] ops.toList
  (List.range l.length).flatMap fun i => (List.range i).flatMap fun j => if (ps.getD i 0).testBit j = true then [] else (match l[j]?, l[i]? with
    | some q, some r => if quietB pur q = false ∧ r.op.cls pur = 1 then [(j, i, true)] else if quietB pur r = false ∧ q.op.cls pur = 1 then [(j, i, false)] else []
    | _, _ => [])
def pairsA (ops : Array Oper) (l : List RO) : Bool :=
  let ps := predsGo [] ops.toList
  (List.range l.length).all fun i => (List.range i).all fun j => (ps.getD i 0).testBit j || (match l[j]?, l[i]? with | some q, some r => apartB q r | _, _ => true)
def bindL (ops : Array Oper) (i : Nat) : List Nat := match ops[i]? with | some o => binding o | none => []
def readyL (ops : Array Oper) (L : List Nat) (i : Nat) : Bool := (bindL ops i).all fun k => !L.contains k
def qOf (pur : List FuncId) (l : List RO) (i : Nat) : Nat := match l[i]? with | some o => o.op.cls pur | none => 0
def without (L : List Nat) (i : Nat) : List Nat := L.filter fun k => !Nat.beq k i
def alts : List RTree → Option RTree
  | [] => none
  | [t] => some t
  | t :: ts => (alts ts).map (.alt t)
def grow (pur : List FuncId) (ps : List Nat) (ops : Array Oper) (l : List RO) : Nat → List Nat → Option RTree
  | 0, L => if L.isEmpty then some .leaf else none
  | f + 1, L => if L.isEmpty then some .leaf else match L.find? fun i => readyL ops L i && !Nat.beq (qOf pur l i) 0 with
    | some i => (grow pur ps ops l f (without L i)).map fun t => if Nat.beq (qOf pur l i) 1 then .r i t else .q i t
    | none => match (L.filter (readyL ops L)).mapM fun i => (grow pur ps ops l f (without L i)).map (RTree.m i ((List.range ops.size).filter fun j => (ps.getD i 0).testBit j)) with
      | some ts => alts ts
      | none => none
def heads : RTree → List Nat
  | .m i _ _ => [i]
  | .alt a b => heads a ++ heads b
  | _ => []
def chkT (pur : List FuncId) (ps : List Nat) (ops : Array Oper) (l : List RO) : Bool → RTree → List Nat → Bool
  | top, .leaf, L => top && L.isEmpty
  | top, .q i t, L => top && (L.contains i && readyL ops L i && Nat.beq (qOf pur l i) 2 && chkT pur ps ops l true t (without L i))
  | top, .r i t, L => top && (L.contains i && readyL ops L i && Nat.beq (qOf pur l i) 1 && chkT pur ps ops l true t (without L i))
  | top, .m i dp t, L => L.contains i && readyL ops L i && dp.all (fun j => (ps.getD i 0).testBit j) && chkT pur ps ops l true t (without L i) && (!top || L.all fun j => !readyL ops L j || Nat.beq j i)
  | top, .alt a b, L => chkT pur ps ops l false a L && chkT pur ps ops l false b L && (!top || L.all fun j => !readyL ops L j || (heads a ++ heads b).contains j)
def manyOf (P : Program) (pur : List FuncId) (ops : Array Oper) (l : List RO) : RCode :=
  if P.follows .mixedOrders = true ∧ early ops = true ∧ pairsA ops l = true then match grow pur (predsGo [] ops.toList) ops l (ops.size + 1) (List.range ops.size) with
    | some t => if chkT pur (predsGo [] ops.toList) ops l true t (List.range ops.size) = true then .many l t else .stop
    | none => .stop
  else .stop
theorem manyOf_cases (P : Program) (pur : List FuncId) (ops : Array Oper) (l : List RO) : manyOf P pur ops l = .stop ∨ ∃ t, manyOf P pur ops l = .many l t ∧ P.follows .mixedOrders = true ∧ early ops = true ∧ pairsA ops l = true ∧ chkT pur (predsGo [] ops.toList) ops l true t (List.range ops.size) = true := by
  unfold manyOf
  split
  · rename_i h
    split
    · rename_i t _
      split
      · rename_i hc; exact .inr ⟨t, rfl, h.1, h.2.1, h.2.2, hc⟩
      · exact .inl rfl
    · exact .inl rfl
  · exact .inl rfl
def rRegion (P : Program) (pur : List FuncId) (n : Nat) (ops : Array Oper) (draw : Bool) : Option RCode :=
  match rOps P n ops ops.toList with
  | some l => if draw = true then (if P.follows .mixedOrders = true ∧ early ops = true ∧ pairs pur ops l = true then some (.region l) else if P.follows .mixedOrders = true ∧ early ops = true ∧ pairsT pur ops l = true then some (.drawn l (chkOf pur ops l)) else some (manyOf P pur ops l)) else some (.region l)
  | none => none
def rCode (P : Program) (pur : List FuncId) (n : Nat) : Code → Option RCode
  | .skip => some .skip
  | .region _ ops draw => rRegion P pur n ops draw
  | .seq a b => match rCode P pur n a, rCode P pur n b with
    | some x, some y => some (.seq x y)
    | _, _ => none
  | .cond c a b => match rOpd c, rCode P pur n a, rCode P pur n b with
    | some z, some x, some y => some (.cond z x y)
    | _, _, _ => none
  | .block id c => (rCode P pur n c).map (.block id)
  | .loop c => (rCode P pur n c).map .loop
  | .exit id => some (.exit id)
  | .ret => some .ret
  | _ => some .stop

inductive Dep (ops : Array Oper) : Nat → Nat → Prop where
  | one {i j o} : ops[i]? = some o → j ∈ binding o → Dep ops i j
  | more {i k j o} : ops[i]? = some o → k ∈ binding o → Dep ops k j → Dep ops i j
theorem fold_bits (g : Nat → Nat) (j : Nat) : ∀ (l : List Nat) (m : Nat), (l.foldl (fun m k => (m ||| 2 ^ k) ||| g k) m).testBit j = true → m.testBit j = true ∨ ∃ k ∈ l, k = j ∨ (g k).testBit j = true
  | [], m, h => .inl h
  | k :: l, m, h => by
    rw [List.foldl_cons] at h
    rcases fold_bits g j l _ h with h | ⟨k', hk, h⟩
    · rw [Nat.testBit_or, Nat.testBit_or, Nat.testBit_two_pow] at h
      simp only [Bool.or_eq_true, decide_eq_true_eq] at h
      rcases h with (h | h) | h
      · exact .inl h
      · exact .inr ⟨k, by simp, .inl h⟩
      · exact .inr ⟨k, by simp, .inr h⟩
    · exact .inr ⟨k', by simp [hk], h⟩
theorem predsGo_spec (ops : Array Oper) : ∀ (os : List Oper) (acc : List Nat), (∀ i m, (acc.getD i 0).testBit m = true → Dep ops i m) → (∀ k o, os[k]? = some o → ops[acc.length + k]? = some o) → ∀ i m, ((predsGo acc os).getD i 0).testBit m = true → Dep ops i m
  | [], acc, h, _, i, m, hm => h i m hm
  | o :: os, acc, h, ho, i, m, hm => by
    refine predsGo_spec ops os _ ?_ ?_ i m hm
    · intro i m hm
      rw [List.getD_eq_getElem?_getD, List.getElem?_append] at hm
      split at hm
      · exact h i m (by rw [List.getD_eq_getElem?_getD]; exact hm)
      · rename_i hi
        by_cases hi2 : i - acc.length = 0
        · have hie : i = acc.length := by omega
          rw [hi2] at hm
          simp only [List.getElem?_cons_zero, Option.getD_some] at hm
          have hoi : ops[i]? = some o := by have := ho 0 o rfl; rw [hie]; simpa using this
          rcases fold_bits _ _ _ _ hm with hm | ⟨k, hk, hm⟩
          · simp at hm
          · rcases hm with rfl | hm
            · exact .one hoi hk
            · exact .more hoi hk (h k m hm)
        · rw [List.getElem?_eq_none (by simp; omega)] at hm
          simp at hm
    · intro k o' hk
      have := ho (k + 1) o' (by simpa using hk)
      rw [List.length_append]
      simpa [Nat.add_assoc, Nat.add_comm 1 k] using this
section
variable {P : Program} {F : Funs} {X : Exts} {pur : List FuncId}
theorem Dep.listed {ops : Array Oper} {ls : Array Bool} (hcl : ∀ i o, ls.getD i false = true → ops[i]? = some o → ∀ k ∈ binding o, ls.getD k false = true) {i j : Nat} (hd : Dep ops i j) :
    (∀ o, ops[i]? = some o → ∀ k ∈ binding o, ls.getD k false = true) → ls.getD j false = true := by
  induction hd with
  | one h1 h2 => exact fun h => h _ h1 _ h2
  | more h1 h2 _ ih => exact fun h => ih fun o ho k hk => hcl _ _ (h _ h1 _ h2) ho k hk
theorem mem_binding {o : Oper} {k : Nat} : k ∈ binding o ↔ ∃ e ∈ o.after, Region.binds .any e = true ∧ e.on = k := by
  simp [binding, and_assoc]

/-- The operations that are still to come, in the text's order. -/
def Pend (P : Program) (n : Nat) (ops : Array Oper) (ps : List (Nat × RO)) : Prop := ∀ i r, (i, r) ∈ ps → ∃ o, ops[i]? = some o ∧ rOper P n ops o = some r
theorem flat_ops {n : Nat} {ops : Array Oper} : ∀ (ps : List (Nat × RO)), Pend P n ops ps → ∀ {b : Bt} {h : AH} {base : Nat} {w0 w : World} {e e' : Env} {h' : AH} {a : Act} {Q : Exit → Act → World → Prop},
    Sim b h base w0 w → Rl b e w a n → a.defers = [] → RunS P X pur (ps.map (·.2)) e h e' h' → (∀ c a' w1, Rl (b ++ c) e' w1 a' n → SLe w.shape? w1.shape? → Sim (b ++ c) h' base w0 w1 → a'.defers = [] → Q .normal a' w1) →
    wpOps P ops Q (ps.map (·.1)) a w
  | [], _, b, h, base, w0, w, e, e', h', a, Q, H, R, hd, hr, hQ => by
    obtain ⟨rfl, rfl⟩ := hr
    exact hQ [] a w (by rw [List.append_nil]; exact R) (SLe.refl _) (by rw [List.append_nil]; exact H) hd
  | (i, r) :: ps, hp, b, h, base, w0, w, e, e', h', a, Q, H, R, hd, hr, hQ => by
    obtain ⟨v, h1, hs, hr⟩ := hr
    obtain ⟨o, hi, ho⟩ := hp i r (by simp)
    rw [List.map_cons, wpOps_cons]
    refine step_sound H R hi ho hs fun c v' w1 hv hS HS => ?_
    refine flat_ops ps (fun i r h => hp i r (by simp [h])) HS (R.put hS hv (rOper_spec ho).2.2) (by rw [put_defers]; exact hd) hr fun c' a' w2 R2 hS2 HS2 hd2 => ?_
    exact hQ (c ++ c') a' w2 (by rw [← List.append_assoc]; exact R2) (hS.trans hS2) (by rw [← List.append_assoc]; exact HS2) hd2

theorem any_ops (OK : XOK P F X pur) {n : Nat} {ops : Array Oper} (he : early ops = true)
    (hpair : ∀ i j r q oi oj, j < i → ops[i]? = some oi → ops[j]? = some oj → rOper P n ops oi = some r → rOper P n ops oj = some q → Dep ops i j ∨ (apartB q r = true ∧ calmB pur q r = true)) :
    ∀ (fuel : Nat) (ps : List (Nat × RO)) (ls : Array Bool), ps.length ≤ fuel → Pend P n ops ps → (ps.map (·.1)).Pairwise (· < ·) → ls.size = ops.size → (∀ i, i < ops.size → (ls.getD i true = false ↔ i ∈ ps.map (·.1))) →
    (∀ i o, ls.getD i false = true → ops[i]? = some o → ∀ k ∈ binding o, ls.getD k false = true) →
    ∀ {b : Bt} {h : AH} {base : Nat} {w0 w : World} {e e' : Env} {h' : AH} {a : Act} {Q : Exit → Act → World → Prop},
    Sim b h base w0 w → Rl b e w a n → a.defers = [] → RunS P X pur (ps.map (·.2)) e h e' h' → (∀ c a' w1, Rl (b ++ c) e' w1 a' n → SLe w.shape? w1.shape? → Sim (b ++ c) h' base w0 w1 → a'.defers = [] → Q .normal a' w1) →
    wpAny P .any ops Q fuel ls a w := by
  have hready : ∀ (ps : List (Nat × RO)) (ls : Array Bool), Pend P n ops ps → (ps.map (·.1)).Pairwise (· < ·) → ls.size = ops.size → (∀ i, i < ops.size → (ls.getD i true = false ↔ i ∈ ps.map (·.1))) → Region.ready .any ops ls = [] → ps = [] := by
    intro ps ls hp hso hls hiff hre
    cases ps with
    | nil => rfl
    | cons p ps =>
      obtain ⟨i, r⟩ := p
      exfalso
      obtain ⟨o, hi, ho⟩ := hp i r (by simp)
      have hlt : i < ops.size := (Array.getElem?_eq_some_iff.1 hi).1
      have hmem : i ∈ Region.ready .any ops ls := by
        rw [mem_ready]
        refine ⟨(hiff i hlt).2 (by simp), o, hi, fun ed hed hb => ?_⟩
        have hk : ed.on < i := by
          have h1 := List.all_eq_true.1 he i (List.mem_range.2 hlt)
          rw [hi] at h1
          exact of_decide_eq_true (List.all_eq_true.1 h1 ed.on (mem_binding.2 ⟨ed, hed, hb, rfl⟩))
        have hkl : ed.on < ops.size := Nat.lt_trans hk hlt
        have hnot : ed.on ∉ ((i, r) :: ps).map (·.1) := by
          intro hm
          rw [List.map_cons, List.pairwise_cons] at hso
          rcases List.mem_cons.1 hm with h | h
          · have : ed.on = i := h
            omega
          · have := hso.1 _ h
            have h2 : i < ed.on := this
            omega
        have h2 : ¬ ls.getD ed.on true = false := fun h => hnot ((hiff _ hkl).1 h)
        have hk2 : ed.on < ls.size := by omega
        rw [Array.getD_eq_getD_getElem?, Array.getElem?_eq_getElem hk2] at h2 ⊢
        simpa using h2
      rw [hre] at hmem
      cases hmem
  intro fuel
  induction fuel with
  | zero =>
    intro ps ls hlen hp hso hls hiff hcl b h base w0 w e e' h' a Q H R hd hr hQ
    have hnil : ps = [] := List.length_eq_zero_iff.1 (by omega)
    subst hnil
    obtain ⟨rfl, rfl⟩ := hr
    refine ⟨?_, hQ [] a w (by rw [List.append_nil]; exact R) (SLe.refl _) (by rw [List.append_nil]; exact H) hd⟩
    apply List.eq_nil_iff_forall_not_mem.2
    intro i hi
    rw [mem_ready] at hi
    obtain ⟨h1, o, h2, _⟩ := hi
    have := (hiff i (Array.getElem?_eq_some_iff.1 h2).1).1 h1
    simp at this
  | succ fuel ih =>
    intro ps ls hlen hp hso hls hiff hcl b h base w0 w e e' h' a Q H R hd hr hQ
    refine ⟨fun hre => ?_, fun i hi => ?_⟩
    · have := hready ps ls hp hso hls hiff hre
      subst this
      obtain ⟨rfl, rfl⟩ := hr
      exact hQ [] a w (by rw [List.append_nil]; exact R) (SLe.refl _) (by rw [List.append_nil]; exact H) hd
    · rw [mem_ready] at hi
      obtain ⟨h1, o, ho, hdeps⟩ := hi
      have hlt : i < ops.size := (Array.getElem?_eq_some_iff.1 ho).1
      have hmem := (hiff i hlt).1 h1
      obtain ⟨⟨i', r⟩, hir, hii⟩ := List.mem_map.1 hmem
      simp only at hii; subst hii
      obtain ⟨pre, post, hsplit⟩ := List.append_of_mem hir
      obtain ⟨o', ho', hro⟩ := hp i' r hir
      rw [ho] at ho'; cases ho'
      have hdl : ∀ oo, ops[i']? = some oo → ∀ k ∈ binding oo, ls.getD k false = true := by
        intro oo hoo k hk
        rw [ho] at hoo; cases hoo
        obtain ⟨ed, h3, h4, rfl⟩ := mem_binding.1 hk
        exact hdeps ed h3 h4
      subst hsplit
      rw [List.map_append, List.map_cons] at hso
      have hso' := List.pairwise_append.1 hso
      have hcalm : ∀ q ∈ pre.map (·.2), apartB q r = true ∧ calmB pur q r = true := by
        intro q hq
        obtain ⟨⟨j, q'⟩, hjq, rfl⟩ := List.mem_map.1 hq
        obtain ⟨oj, hoj, hrj⟩ := hp j q' (by simp [hjq])
        have hji : j < i' := hso'.2.2 j (List.mem_map.2 ⟨_, hjq, rfl⟩) i' (by simp)
        rcases hpair i' j r q' o oj hji ho hoj hro hrj with hdep | h
        · exfalso
          have := hdep.listed hcl hdl
          have hj2 := (hiff j (Array.getElem?_eq_some_iff.1 hoj).1).2 (by simp only [List.map_append, List.mem_append]; exact .inl (List.mem_map.2 ⟨_, hjq, rfl⟩))
          have hjl : j < ls.size := by rw [hls]; exact (Array.getElem?_eq_some_iff.1 hoj).1
          rw [Array.getD_eq_getD_getElem?, Array.getElem?_eq_getElem hjl] at this hj2
          simp at this hj2
          rw [this] at hj2; cases hj2
        · exact h
      rw [List.map_append, List.map_cons] at hr
      have hr' := front OK hcalm hr
      obtain ⟨v, h1', hs, hr'⟩ := hr'
      refine step_sound H R ho hro hs fun c v' w1 hv hS HS => ?_
      refine ih (pre ++ post) _ (by simp at hlen ⊢; omega) (fun j q hj => hp j q (by rcases List.mem_append.1 hj with h | h <;> simp [h])) ?_ (by simpa using hls) ?_ ?_ HS (R.put hS hv (rOper_spec hro).2.2) (by rw [put_defers]; exact hd)
        (by rw [List.map_append]; exact hr') fun c' a' w2 R2 hS2 HS2 hd2 => hQ (c ++ c') a' w2 (by rw [← List.append_assoc]; exact R2) (hS.trans hS2) (by rw [← List.append_assoc]; exact HS2) hd2
      · rw [List.map_append]
        refine List.pairwise_append.2 ⟨hso'.1, (List.pairwise_cons.1 hso'.2.1).2, fun x hx y hy => hso'.2.2 x hx y (by simp at hy ⊢; exact .inr hy)⟩
      · intro j hj
        by_cases hji : i' = j
        · subst hji
          have hlt2 : i' < ls.size := by omega
          rw [Array.getD_eq_getD_getElem?]
          simp only [Array.getElem?_setIfInBounds_self_of_lt hlt2, Option.getD_some]
          constructor
          · intro h; cases h
          · intro h
            exfalso
            rw [List.map_append, List.mem_append] at h
            rcases h with h | h
            · have := hso'.2.2 i' h i' (by simp); omega
            · have := (List.pairwise_cons.1 hso'.2.1).1 i' h; omega
        · rw [getD_set_ne _ hji, hiff j hj]
          simp only [List.map_append, List.map_cons, List.mem_append, List.mem_cons]
          constructor
          · rintro (h | h | h)
            · exact .inl h
            · exact absurd h.symm hji
            · exact .inr h
          · rintro (h | h)
            · exact .inl h
            · exact .inr (.inr h)
      · intro j oj hj hoj k hk
        by_cases hji : i' = j
        · subst hji
          exact getD_set_true (hdl oj hoj k hk)
        · rw [getD_set_ne _ hji] at hj
          exact getD_set_true (hcl j oj hj hoj k hk)

theorem rOps_spec {n : Nat} {ops : Array Oper} : ∀ {os : List Oper} {l : List RO}, rOps P n ops os = some l → l.length = os.length ∧ ∀ (i : Nat) (o : Oper) (r : RO), os[i]? = some o → l[i]? = some r → rOper P n ops o = some r
  | [], l, h => by simp only [rOps, Option.some.injEq] at h; subst h; exact ⟨rfl, fun i o r h1 _ => by simp at h1⟩
  | o :: os, l, h => by
    simp only [rOps] at h
    split at h
    · rename_i r rs h1 h2
      simp only [Option.some.injEq] at h; subst h
      obtain ⟨q1, q2⟩ := rOps_spec h2
      refine ⟨by simp [q1], fun i o' r' ho hr => ?_⟩
      cases i with
      | zero => simp at ho hr; subst ho; subst hr; exact h1
      | succ i => exact q2 i o' r' (by simpa using ho) (by simpa using hr)
    · exact absurd h (by simp)
theorem zip_fst (l : List RO) : ((List.range l.length).zip l).map (·.1) = List.range l.length := by
  rw [List.map_fst_zip (by simp)]
theorem zip_snd (l : List RO) : ((List.range l.length).zip l).map (·.2) = l := by
  rw [List.map_snd_zip (by simp)]
theorem region_sound (OK : XOK P F X pur) {id n : Nat} {ops : Array Oper} {draw : Bool} {l : List RO} (hr : rRegion P pur n ops draw = some (.region l)) {b : Bt} {h : AH} {base : Nat} {w0 w : World} {e e' : Env} {h' : AH} {a : Act} {Q : Exit → Act → World → Prop}
    (H : Sim b h base w0 w) (R : Rl b e w a n) (hd : a.defers = []) (hrun : RunS P X pur l e h e' h') (hQ : ∀ c a' w1, Rl (b ++ c) e' w1 a' n → SLe w.shape? w1.shape? → Sim (b ++ c) h' base w0 w1 → a'.defers = [] → Q .normal a' w1) :
    (Code.region id ops draw).wp P Q a w := by
  unfold rRegion at hr
  split at hr
  · rename_i l' hl
    obtain ⟨hlen, hspec⟩ := rOps_spec hl
    have hlen' : l'.length = ops.size := by simpa using hlen
    have hpend : Pend P n ops ((List.range l'.length).zip l') := by
      intro i r hir
      obtain ⟨k, hk⟩ := List.mem_iff_getElem?.1 hir
      rw [List.getElem?_zip_eq_some] at hk
      obtain ⟨hk1, hk2⟩ := hk
      have hk3 : i = k := by
        have := List.getElem?_eq_some_iff.1 hk1
        obtain ⟨hlt, hh⟩ := this
        simpa using hh.symm
      subst hk3
      have hlt : i < ops.size := by rw [← hlen']; exact (List.getElem?_eq_some_iff.1 hk2).1
      exact ⟨ops[i], Array.getElem?_eq_getElem hlt, hspec i _ r (by simp [hlt]) hk2⟩
    cases draw with
    | false =>
      simp only [Bool.false_eq_true, if_false, Option.some.injEq, RCode.region.injEq] at hr
      subst hr
      apply wp_region
      have := flat_ops (Q := Q) _ hpend H R hd (by rw [zip_snd]; exact hrun) hQ
      rw [zip_fst, hlen'] at this
      exact this
    | true =>
      simp only [if_true] at hr
      split at hr
      · rename_i hc
        obtain ⟨hm, he, hp⟩ := hc
        simp only [Option.some.injEq, RCode.region.injEq] at hr
        subst hr
        apply wp_region_any hm
        have R' : Rl b e w.drew a n := ⟨R.get, R.size⟩
        show wpAny P .any ops Q ops.size _ a w.drew
        refine any_ops OK he ?_ ops.size ((List.range l'.length).zip l') _ (by simp [hlen']) hpend ?_ (by simp) ?_ ?_ H.drew R' hd (by rw [zip_snd]; exact hrun) hQ
        · intro i j r q oi oj hji hoi hoj hri hrj
          have hi : i < ops.size := (Array.getElem?_eq_some_iff.1 hoi).1
          have hj : j < ops.size := (Array.getElem?_eq_some_iff.1 hoj).1
          have hli : l'[i]? = some r := by
            have hlt : i < l'.length := by omega
            rw [List.getElem?_eq_getElem hlt]
            have := hspec i oi l'[i] (by rw [Array.getElem?_toList]; exact hoi) (List.getElem?_eq_getElem hlt)
            rw [hri] at this; exact this.symm
          have hlj : l'[j]? = some q := by
            have hlt : j < l'.length := by omega
            rw [List.getElem?_eq_getElem hlt]
            have := hspec j oj l'[j] (by rw [Array.getElem?_toList]; exact hoj) (List.getElem?_eq_getElem hlt)
            rw [hrj] at this; exact this.symm
          have h1 := List.all_eq_true.1 (List.all_eq_true.1 hp i (List.mem_range.2 (by omega))) j (List.mem_range.2 hji)
          rw [hli, hlj, Bool.or_eq_true, Bool.and_eq_true] at h1
          rcases h1 with h1 | h1
          · refine .inl (predsGo_spec ops ops.toList [] (by intro i m hm; simp at hm) (by intro k o hk; simpa using hk) i j h1)
          · exact .inr h1
        · rw [zip_fst]; exact List.pairwise_lt_range
        · intro i hi
          rw [zip_fst, hlen', Array.getD_eq_getD_getElem?]
          simp [hi]
        · intro i o hi _
          exfalso
          rw [Array.getD_eq_getD_getElem?, Array.getElem?_replicate] at hi
          split at hi <;> simp at hi
      · split at hr
        · exact absurd hr (by simp)
        · rcases manyOf_cases P pur ops l' with hm | ⟨_, hm, _⟩ <;> rw [hm] at hr <;> simp at hr
  · exact absurd hr (by simp)
end
end Go.Proofs.YtpgidiompdabdaaGreat.AM
