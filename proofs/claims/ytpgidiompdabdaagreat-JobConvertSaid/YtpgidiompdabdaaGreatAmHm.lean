/- The abstract machine, eighth part again: maps whose keys are whole numbers, strings or bools. -/
import Derived.Test.YtpgidiompdabdaaGreatAmHz
namespace Go.Proofs.YtpgidiompdabdaaGreat.AM
open Go Go.RowKit
set_option linter.unusedSimpArgs false
set_option linter.unusedVariables false

section
variable {P : Program} {b : Bt} {h h1 : AH} {base : Nat} {w0 w : World} {e : Env} {a : Act} {n : Nat}
def skIs : SK → TypeDesc → Prop
  | .i, .int _ => True
  | .s, .string => True
  | .b, .bool => True
  | _, _ => False
theorem skOf_spec {t : TypeId} {kd : SK} (h : skOf P t = some kd) : ∃ d, P.underlying t = some d ∧ skIs kd d := by
  unfold skOf at h
  split at h <;> first | (cases h; done) | (rename_i q; cases h; exact ⟨_, q, trivial⟩)
theorem kEq1_g0 {kd : SK} {x y : Value} {r : Bool} (h : kEq1 kd x y = some r) : g0 x = true ∧ g0 y = true := by
  cases kd <;> cases x <;> cases y <;> simp [kEq1, g0] at h ⊢
theorem kEq1_now {kd : SK} {d : TypeDesc} {x y : Value} {r : Bool} (hd : skIs kd d) (h : kEq1 kd x y = some r) : Instr.sameNow d x y = some r := by
  cases kd <;> cases d <;> simp only [skIs] at hd <;> cases x <;> cases y <;> simp_all [kEq1, Instr.sameNow]
theorem bbeq (x y : ByteArray) : (x == y) = true ↔ x = y := by
  rw [beq_toListBytes]
  constructor
  · intro h
    have h2 : x.data.toList = y.data.toList := by simpa [ByteArray.toList_eq] using h
    cases x; cases y
    congr 1
    exact Array.ext' h2
  · rintro rfl; simp
theorem kEq1_eq {kd : SK} {x y : Value} (h : kEq1 kd x y = some true) : x = y := by
  cases kd <;> cases x <;> cases y <;> simp_all [kEq1, bbeq]
theorem sameBits_refl {kd : SK} {x : Value} {r : Bool} (h : kEq1 kd x x = some r) : Instr.sameBits 10000 x x = true := by
  cases kd <;> cases x <;> simp_all [kEq1, Instr.sameBits, (bbeq _ _).2 rfl]
theorem checkKey_ok {kd : SK} {d : TypeDesc} {t : TypeId} {v : Value} {em : Bool} (hd : skIs kd d) (ht : P.underlying t = some d) : (Instr.checkKey em 10000 t v).run P w = .ok () w := by
  have key : ∀ n, (Instr.checkKey em (n + 1) t v).run P w = .ok () w := by
    intro n
    cases kd <;> cases d <;> simp only [skIs] at hd <;> simp [Instr.checkKey, run_under ht]
  exact key 9999
theorem find_rel {kd : SK} {d : TypeDesc} (hd : skIs kd d) {S : Sh} (k nv : Value) : ∀ (es : List (Value × Value)) (es' : List MapEntry) (i : Nat) (r : Option Value), LR (VR b S) (es.map (·.1)) (es'.map (·.key)) → LR (VR b S) (es.map (·.2)) (es'.map (·.val)) → mFind kd k es = some r →
    (r = none ∧ Instr.findNow d k es' i = some none ∧ mSet kd k nv es = es ++ [(k, nv)]) ∨
    ∃ v j v' en, r = some v ∧ Instr.findNow d k es' i = some (some (i + j, v')) ∧ VR b S v v' ∧ es'[j]? = some en ∧ en.key = k ∧ (mSet kd k nv es).map (·.1) = es.map (·.1) ∧ (mSet kd k nv es).map (·.2) = (es.map (·.2)).set j nv
  | [], es', i, r, h1, h2, hf => by
    simp only [mFind, Option.some.injEq] at hf; subst hf
    have : es' = [] := by simpa using h1.unnil
    subst this
    exact .inl ⟨rfl, rfl, rfl⟩
  | (k0, v0) :: es, es', i, r, h1, h2, hf => by
    cases es' with
    | nil => exact absurd h1.1 (by simp)
    | cons en es' =>
      obtain ⟨x1, r1, e1, hx1, hr1⟩ := LR.uncons h1
      obtain ⟨x2, r2, e2, hx2, hr2⟩ := LR.uncons h2
      simp only [List.map_cons, List.cons.injEq] at e1 e2
      obtain ⟨rfl, rfl⟩ := e1
      obtain ⟨rfl, rfl⟩ := e2
      simp only [mFind] at hf
      split at hf
      · rename_i hk
        simp only [Option.some.injEq] at hf; subst hf
        have hg := kEq1_g0 hk
        have hke : en.key = k0 := hx1.g0_inv hg.2
        have hkk := kEq1_eq hk
        refine .inr ⟨v0, 0, en.val, en, rfl, ?_, hx2, rfl, by rw [hke, hkk], ?_, ?_⟩
        · simp only [Instr.findNow]
          rw [hke, kEq1_now hd hk]
          rfl
        · simp only [mSet]
          rw [hk]
          simp [hkk]
        · simp only [mSet]
          rw [hk]
          simp
      · rename_i hk
        have hg := kEq1_g0 hk
        have hke : en.key = k0 := hx1.g0_inv hg.2
        have hnow : Instr.findNow d k (en :: es') i = Instr.findNow d k es' (i + 1) := by
          simp only [Instr.findNow]
          rw [hke, kEq1_now hd hk]
        have hset : mSet kd k nv ((k0, v0) :: es) = (k0, v0) :: mSet kd k nv es := by
          simp only [mSet]; rw [hk]
        rcases find_rel hd k nv es es' (i + 1) r hr1 hr2 hf with ⟨q1, q2, q3⟩ | ⟨v, j, v', en', q1, q2, q3, q4, q5, q6, q7⟩
        · exact .inl ⟨q1, by rw [hnow]; exact q2, by rw [hset, q3]; rfl⟩
        · refine .inr ⟨v, j + 1, v', en', q1, by rw [hnow, q2]; congr 3; omega, q3, by simpa using q4, q5, ?_, ?_⟩
          · rw [hset]; simp [q6]
          · rw [hset]; simp [q7]
      · exact absurd hf (by simp)
theorem findNow_none {d : TypeDesc} {kd : SK} (hd : skIs kd d) (k : Value) : ∀ (es : List (Value × Value)) (es' : List MapEntry) (S : Sh), LR (VR b S) (es.map (·.1)) (es'.map (·.key)) → mFind kd k es = some none → kEq1 kd k k ≠ none → ∀ x ∈ es', x.key ≠ k
  | [], es', S, h1, _, _ => by
    have : es' = [] := by simpa using h1.unnil
    subst this
    intro x hx; cases hx
  | (k0, v0) :: es, es', S, h1, hf, hk0 => by
    cases es' with
    | nil => intro x hx; cases hx
    | cons en es' =>
      obtain ⟨x1, r1, e1, hx1, hr1⟩ := LR.uncons h1
      simp only [List.map_cons, List.cons.injEq] at e1
      obtain ⟨rfl, rfl⟩ := e1
      simp only [mFind] at hf
      split at hf
      · cases hf
      · rename_i hk
        have hke : en.key = k0 := hx1.g0_inv (kEq1_g0 hk).2
        intro x hx
        rcases List.mem_cons.1 hx with rfl | hx
        · intro h
          rw [← hke, h] at hk
          cases kd <;> cases k <;> simp_all [kEq1, (bbeq _ _).2 rfl]
        · exact findNow_none hd k es es' S hr1 hf hk0 x hx
      · cases hf
theorem getObj_map {r : Nat} {es : Array MapEntry} {c : Nat} (h : w.heap[r]? = some (.map es c)) : (getObj r).run P w = .ok (.map es c) w := by
  simp only [getObj, Sem.run, h]
theorem setObj_map {r : Nat} {es : Array MapEntry} {c : Nat} {o : Obj} (h : w.heap[r]? = some (.map es c)) : (setObj r o).run P w = .ok () (wset w r o) := by
  simp only [setObj, Sem.run, h]; rfl
theorem look_sound (H : Sim b h base w0 w) (R : Rl b e w a n) {t : TypeId} {x i : Operand} {ok : Bool} {r : ROp} (hr : resolve P (.lookup t x i ok) = some r) {v : Value} (hv : ev r e h = some (v, h1)) :
    Out b h1 base w0 w v ((Instr.lookup t (a.eval x) (a.eval i) ok).run P w) := by
  simp only [resolve] at hr
  split at hr
  · rename_i k el xo io ht hx hi
    split at hr
    · rename_i kd z hkd hz
      split at hr
      · rename_i hg
        simp only [Option.some.injEq] at hr; subst hr
        obtain ⟨d, hd, hsk⟩ := skOf_spec hkd
        simp only [ev] at hv
        have fin : ∀ (u u' : Value) (bb : Bool), VR b w.shape? u u' → VR b w.shape? (if ok = true then .tuple #[u, .bool bb] else u) (if ok = true then .tuple #[u', .bool bb] else u') := by
          intro u u' bb hu
          cases ok with
          | false => exact hu
          | true => exact VR.of_lr_tuple (l := [u, .bool bb]) (l' := [u', .bool bb]) (.cons hu (.cons (.scal rfl) .nil))
        split at hv
        · rename_i kv hxv hiv
          simp only [Option.map_eq_some_iff, Prod.mk.injEq] at hv
          obtain ⟨q, hq, rfl, rfl⟩ := hv
          rw [(opd_sound R hx hxv).g0_inv rfl, (opd_sound R hi hiv).g0_inv (kEq1_g0 hq).1]
          refine Out.same H ?_ (fin z z false (.g1 hg))
          simp [Instr.lookup, run_under ht, checkKey_ok hsk hd, Instr.findKey, run_under hd, Instr.findNow, run_zero hz]
        · rename_i j kv hxv hiv
          split at hv
          · rename_i es hj
            have hget := mapAt_get hj
            obtain ⟨kb, sb, hb, hp⟩ := (opd_sound R hx hxv).map_inv
            obtain ⟨k2, s2, hb2, hbase, es', clock, hkk, hl1, hl2, hst0⟩ := H.obj j _ hget
            rw [hb] at hb2; cases hb2
            split at hv
            · rename_i q u hq hf
              simp only [Option.some.injEq, Prod.mk.injEq] at hv; obtain ⟨rfl, rfl⟩ := hv
              rw [hp, (opd_sound R hi hiv).g0_inv (kEq1_g0 hq).1]
              rcases find_rel hsk kv kv es es'.toList 0 _ hl1 hl2 hf with ⟨c, _⟩ | ⟨u2, jj, v', en, e1, e2, e3, _⟩
              · cases c
              · cases e1
                refine Out.same H ?_ (fin u v' true e3)
                simp [Instr.lookup, run_under ht, getObj_map hkk, checkKey_ok hsk hd, Instr.findKey, run_under hd, e2]
            · rename_i q hq hf
              simp only [Option.some.injEq, Prod.mk.injEq] at hv; obtain ⟨rfl, rfl⟩ := hv
              rw [hp, (opd_sound R hi hiv).g0_inv (kEq1_g0 hq).1]
              rcases find_rel hsk kv kv es es'.toList 0 _ hl1 hl2 hf with ⟨_, e2, _⟩ | ⟨u2, jj, v', en, e1, _⟩
              · refine Out.same H ?_ (fin z z false (.g1 hg))
                simp [Instr.lookup, run_under ht, getObj_map hkk, checkKey_ok hsk hd, Instr.findKey, run_under hd, e2, run_zero hz]
              · cases e1
            · exact absurd hv (by simp)
          · exact absurd hv (by simp)
        · exact absurd hv (by simp)
      · exact absurd hr (by simp)
    · exact absurd hr (by simp)
  · exact absurd hr (by simp)
theorem wset_map_shape {w : World} {k : Nat} {es es' : Array MapEntry} {c c' : Nat} (hk : w.heap[k]? = some (.map es c)) : (wset w k (.map es' c')).shape? = w.shape? := by
  funext j
  unfold World.shape?
  by_cases ej : k = j
  · subst ej; rw [wset_same _ _ _ (Array.getElem?_eq_some_iff.1 hk).1, hk]
  · rw [wset_ne _ _ ej]
theorem upd_sound (H : Sim b h base w0 w) (R : Rl b e w a n) {t : TypeId} {m k x : Operand} {r : ROp} (hr : resolve P (.mapUpdate t m k x) = some r) {v : Value} (hv : ev r e h = some (v, h1)) :
    ∃ (u : Value) (w1 : World), (Instr.mapUpdate t (a.eval m) (a.eval k) (a.eval x)).run P w = .ok () w1 ∧ v = undef ∧ SLe w.shape? w1.shape? ∧ Sim b h1 base w0 w1 := by
  simp only [resolve] at hr
  split at hr
  · rename_i kt el mo ko xo ht hm hk hx
    simp only [Option.map_eq_some_iff] at hr
    obtain ⟨kd, hkd, rfl⟩ := hr
    obtain ⟨d, hd, hsk⟩ := skOf_spec hkd
    simp only [ev] at hv
    split at hv
    · rename_i j kv xv hmv hkv hxv
      split at hv
      · rename_i es hj
        have hget := mapAt_get hj
        obtain ⟨kb, sb, hb, hp⟩ := (opd_sound R hm hmv).map_inv
        obtain ⟨k2, s2, hb2, hbase, es', clock, hkk, hl1, hl2, hst0⟩ := H.obj j _ hget
        rw [hb] at hb2; cases hb2
        have hlt := (Array.getElem?_eq_some_iff.1 hkk).1
        split at hv
        · rename_i q u hq hf
          simp only [Option.some.injEq, Prod.mk.injEq] at hv; obtain ⟨rfl, rfl⟩ := hv
          have hke := (opd_sound R hk hkv).g0_inv (kEq1_g0 hq).1
          have hxr := opd_sound R hx hxv
          rw [hp, hke]
          rcases find_rel hsk kv xv es es'.toList 0 _ hl1 hl2 hf with ⟨e1, e2, e3⟩ | ⟨u2, jj, v', en, e1, e2, e3, e4, e5, e6, e7⟩
          · refine ⟨undef, wset w kb (.map (es'.push { key := kv, val := a.eval x, born := clock }) (clock + 1)), ?_, rfl, by rw [wset_map_shape hkk]; exact SLe.refl _, ?_⟩
            · simp [Instr.mapUpdate, run_under ht, getObj_map hkk, checkKey_ok hsk hd, Instr.findKey, run_under hd, e2, setObj_map hkk]
            · refine H.put hget rfl hb (by rw [wset_map_shape hkk]; exact SLe.refl _) ⟨hbase, _, _, wset_same _ _ _ hlt, ?_, ?_, ?_⟩
              · rw [wset_map_shape hkk, e3, List.map_append, Array.toList_push, List.map_append]
                exact hl1.append (.cons (.scal (kEq1_g0 hq).1) .nil)
              · rw [wset_map_shape hkk, e3, List.map_append, Array.toList_push, List.map_append]
                exact hl2.append (.cons hxr .nil)
              · obtain ⟨s1, s2, s3⟩ := hst0
                refine ⟨fun y hy => ?_, ?_, ?_⟩
                · rw [Array.toList_push] at hy
                  rcases List.mem_append.1 hy with hy | hy
                  · exact Nat.lt_succ_of_lt (s1 y hy)
                  · simp at hy; subst hy; exact Nat.lt_succ_self _
                · rw [Array.toList_push, List.map_append]
                  refine List.nodup_append.2 ⟨s2, by simp, fun a ha c hc hac => ?_⟩
                  simp at hc
                  obtain ⟨y, hy, rfl⟩ := List.mem_map.1 ha
                  have := s1 y hy
                  omega
                · rw [Array.toList_push, List.map_append]
                  refine List.nodup_append.2 ⟨s3, by simp, fun a ha c hc hac => ?_⟩
                  simp at hc
                  obtain ⟨y, hy, rfl⟩ := List.mem_map.1 ha
                  exact findNow_none hsk kv es es'.toList _ hl1 (by rw [hf, e1]) (by rw [hq]; simp) y hy (by rw [hac, hc])
          · have hen : es'[jj]? = some en := by rw [← Array.getElem?_toList]; exact e4
            have hjl := (Array.getElem?_eq_some_iff.1 hen).1
            refine ⟨undef, wset w kb (.map (es'.modify jj fun en => { en with key := kv, val := a.eval x }) clock), ?_, rfl, by rw [wset_map_shape hkk]; exact SLe.refl _, ?_⟩
            · have hst : (Instr.keyThatStays (((es'[0 + jj]?).map (·.key)).getD kv) kv).run P w = .ok kv w := by
                rw [Nat.zero_add, hen]
                simp only [Option.map_some, Option.getD_some, e5, Instr.keyThatStays, sameBits_refl hq, if_true, Sem.run_pure]
              simp only [Instr.mapUpdate, Sem.run_bind, run_under ht, Result.andThen_ok, getObj_map hkk, checkKey_ok hsk hd, Instr.findKey, run_under hd, e2, Sem.run_pure, hst, setObj_map hkk, Nat.zero_add]
              rw [Nat.zero_add] at hst
              simp only [hst, Result.andThen_ok, setObj_map hkk]
            · refine H.put hget rfl hb (by rw [wset_map_shape hkk]; exact SLe.refl _) ⟨hbase, _, _, wset_same _ _ _ hlt, ?_, ?_, ?_⟩
              · rw [wset_map_shape hkk, e6]
                refine ⟨by have := hl1.1; simpa using this, fun i v v' h1 h2 => ?_⟩
                refine hl1.2 i v v' h1 ?_
                rw [List.getElem?_map, Array.getElem?_toList, Array.getElem?_modify] at h2
                rw [List.getElem?_map, Array.getElem?_toList]
                split at h2
                · rename_i hij; subst hij
                  rw [hen] at h2 ⊢
                  simpa [e5] using h2
                · exact h2
              · rw [wset_map_shape hkk, e7]
                refine ⟨by have := hl2.1; simpa using this, fun i v v' h1 h2 => ?_⟩
                rw [List.getElem?_map, Array.getElem?_toList, Array.getElem?_modify] at h2
                rw [List.getElem?_set] at h1
                split at h2
                · rename_i hij; subst hij
                  rw [if_pos rfl] at h1
                  split at h1
                  · simp only [Option.some.injEq] at h1; subst h1
                    rw [hen] at h2
                    simp at h2; subst h2
                    exact hxr
                  · exact absurd h1 (by simp)
                · rename_i hij
                  rw [if_neg hij] at h1
                  exact hl2.2 i v v' h1 (by rw [List.getElem?_map, Array.getElem?_toList]; exact h2)
              · obtain ⟨s1, s2, s3⟩ := hst0
                have hmod : (es'.modify jj fun en => { en with key := kv, val := a.eval x }).toList = es'.toList.set jj { en with key := kv, val := a.eval x } := by
                  apply List.ext_getElem?
                  intro i
                  rw [Array.getElem?_toList, Array.getElem?_modify, List.getElem?_set]
                  split
                  · rename_i hij; subst hij
                    rw [if_pos (by simpa using hjl), hen]; rfl
                  · rw [Array.getElem?_toList]
                have hb1 : (es'.toList.set jj { en with key := kv, val := a.eval x }).map (·.born) = es'.toList.map (·.born) := by
                  rw [List.map_set]
                  refine List.ext_getElem? fun i => ?_
                  rw [List.getElem?_set]
                  split
                  · rename_i hij; subst hij
                    rw [List.getElem?_map, e4]; simp [hjl]
                  · rfl
                have hb2 : (es'.toList.set jj { en with key := kv, val := a.eval x }).map (·.key) = es'.toList.map (·.key) := by
                  rw [List.map_set]
                  refine List.ext_getElem? fun i => ?_
                  rw [List.getElem?_set]
                  split
                  · rename_i hij; subst hij
                    rw [List.getElem?_map, e4]; simp [hjl, e5]
                  · rfl
                refine ⟨fun y hy => ?_, ?_, ?_⟩
                · rw [hmod] at hy
                  rcases List.mem_or_eq_of_mem_set hy with hy | rfl
                  · exact s1 y hy
                  · exact s1 en (List.mem_of_getElem? e4)
                · rw [hmod, hb1]; exact s2
                · rw [hmod, hb2]; exact s3
        · exact absurd hv (by simp)
      · exact absurd hv (by simp)
    · exact absurd hv (by simp)
  · exact absurd hr (by simp)
end
end Go.Proofs.YtpgidiompdabdaaGreat.AM
