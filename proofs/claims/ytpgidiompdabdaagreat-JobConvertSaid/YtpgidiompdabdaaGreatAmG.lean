/- The abstract machine, seventh part: the rest of the operations. -/
import Derived.Test.YtpgidiompdabdaaGreatAmF
import Derived.Laws.StructEq
namespace Go.Proofs.YtpgidiompdabdaaGreat.AM
open Go Go.RowKit
set_option linter.unusedSimpArgs false
set_option linter.unusedVariables false

section
variable {P : Program} {b : Bt} {h h1 : AH} {base : Nat} {w0 w : World} {e : Env} {a : Act} {n : Nat}

/-! ### Equality of structs -/
theorem kEq_append : ∀ (k1 k2 : List SK) (x1 x2 y1 y2 : List Value), x1.length = k1.length → y1.length = k1.length →
    kEq (k1 ++ k2) (x1 ++ x2) (y1 ++ y2) = (match kEq k1 x1 y1 with | some true => kEq k2 x2 y2 | some false => some false | none => none)
  | [], k2, [], x2, [], y2, _, _ => rfl
  | k :: k1, k2, x :: x1, x2, y :: y1, y2, h1, h2 => by
    simp only [List.cons_append, kEq]
    cases kEq1 k x y with
    | none => rfl
    | some q => cases q
                · rfl
                · exact kEq_append k1 k2 x1 x2 y1 y2 (by simpa using h1) (by simpa using h2)
  | [], _, _ :: _, _, _, _, h1, _ => by simp at h1
  | [], _, [], _, _ :: _, _, _, h2 => by simp at h2
  | _ :: _, _, [], _, _, _, h1, _ => by simp at h1
  | _ :: _, _, _ :: _, _, [], _, _, h2 => by simp at h2
def mkT (P : Program) (t : TypeId) (xs : List Value) (u : Value) : Prop :=
  match isAggP P t with
  | some true => u = .agg xs.toArray
  | some false => xs = [u]
  | none => False
theorem part_T {t : TypeId} {cs : List Value} {off m : Nat} (hm : szOf P t = some m) (hl : off + m ≤ cs.length) (hA : ∃ g, isAggP P t = some g) (h1 : isAggP P t = some false → m = 1) :
    ∃ u, (part t cs.toArray off).run P w = .ok u w ∧ mkT P t ((cs.drop off).take m) u := by
  obtain ⟨g, hg⟩ := hA
  unfold mkT
  cases g with
  | true =>
    rw [hg]
    refine ⟨_, ?_, rfl⟩
    simp only [part, Sem.run_bind, run_agg hg, Result.andThen_ok, if_true, run_size hm, Sem.run_pure]
    congr 2
    apply Array.ext'
    simp [List.drop_take]
  | false =>
    rw [hg]
    have := h1 hg; subst this
    have hlt : off < cs.length := by omega
    refine ⟨cs[off], ?_, ?_⟩
    · simp only [part, Sem.run_bind, run_agg hg, Result.andThen_ok, Bool.false_eq_true, if_false]
      simp [hlt]
    · show (cs.drop off).take 1 = [cs[off]]
      rw [List.drop_eq_getElem_cons hlt]; rfl
theorem flat_agg {d : Nat} {t : TypeId} {ks : List SK} (hf : flat P d t = some ks) : (∃ g, isAggP P t = some g) ∧ (isAggP P t = some false → ks.length = 1) := by
  cases d with
  | zero => simp [flat] at hf
  | succ d =>
    simp only [flat] at hf
    unfold isAggP
    split at hf <;> rename_i hu <;> first | (simp only [Option.some.injEq] at hf; subst hf; rw [hu]; exact ⟨⟨_, rfl⟩, fun _ => rfl⟩) | (rw [hu]; exact ⟨⟨_, rfl⟩, fun hx => by simp [isAggD] at hx⟩) | (exact absurd hf (by simp))
theorem equal_flat : ∀ (d : Nat) (t : TypeId) (ks : List SK), flat P d t = some ks → ∀ (xs ys : List Value) (u v : Value) (r : Bool), xs.length = ks.length → ys.length = ks.length → mkT P t xs u → mkT P t ys v →
    kEq ks xs ys = some r → ∀ D, d ≤ D → (Op.equalIn D t u v).run P w = .ok r w
  | 0, t, ks, hf, _, _, _, _, _, _, _, _, _, _, _, _ => absurd hf (by simp [flat])
  | d + 1, t, ks, hf, xs, ys, u, v, r, hx, hy, hu, hv, hk, D, hD => by
    obtain ⟨D, rfl⟩ : ∃ D', D = D' + 1 := ⟨D - 1, by omega⟩
    simp only [flat] at hf
    unfold mkT isAggP at hu hv
    split at hf
    · rename_i q hq
      simp only [Option.some.injEq] at hf; subst hf
      simp only [hq, Option.map_some, isAggD] at hu hv
      subst hu; subst hv
      simp only [kEq] at hk
      cases u <;> cases v <;> simp only [kEq1] at hk <;> try (exact absurd hk (by simp))
      rename_i k1 a1 k2 a2
      by_cases e : k1 = k2
      · subst e
        rw [run_equalIn_int w D t k1 q a1 a2 hq]
        rw [if_pos rfl] at hk
        congr 1
        cases hb : (a1 == a2) <;> simp_all
      · simp [e] at hk
    · rename_i hq
      simp only [Option.some.injEq] at hf; subst hf
      simp only [hq, Option.map_some, isAggD] at hu hv
      subst hu; subst hv
      simp only [kEq] at hk
      cases u <;> cases v <;> simp only [kEq1] at hk <;> try (exact absurd hk (by simp))
      rename_i a1 a2
      rw [run_equalIn_string w D t a1 a2 hq, ← beq_toListBytes]
      congr 1
      cases hb : (a1 == a2) <;> simp_all
    · rename_i hq
      simp only [Option.some.injEq] at hf; subst hf
      simp only [hq, Option.map_some, isAggD] at hu hv
      subst hu; subst hv
      simp only [kEq] at hk
      cases u <;> cases v <;> simp only [kEq1] at hk <;> try (exact absurd hk (by simp))
      rename_i a1 a2
      rw [run_equalIn_bool' w D t a1 a2 hq]
      congr 1
      cases hb : (a1 == a2) <;> simp_all
    · rename_i fs hq
      split at hf
      · exact absurd hf (by simp)
      · rename_i hst
        simp only [hq, Option.map_some, isAggD] at hu hv
        subst hu; subst hv
        have hfo : P.fieldsOf t = fs := by simp [Program.fieldsOf, hq]
        rw [run_equalIn_struct w D t _ _ (by rw [hfo]; exact hq) (by simpa using hst), hfo]
        have key : ∀ (fl : List Field) (off : Nat) (k2 : List SK), flatF (flat P d) (szOf P) fl off = some k2 → off + k2.length ≤ xs.length → off + k2.length ≤ ys.length →
            ∀ r, kEq k2 ((xs.drop off).take k2.length) ((ys.drop off).take k2.length) = some r → (Op.eqFields D xs.toArray ys.toArray fl).run P w = .ok r w := by
          intro fl
          induction fl with
          | nil =>
            intro off k2 h1 _ _ r h2
            simp only [flatF, Option.some.injEq] at h1; subst h1
            simp [kEq] at h2; subst h2
            simp [Op.eqFields]
          | cons f fl ih =>
            intro off k2 h1 hlx hly r h2
            simp only [flatF] at h1
            split at h1
            · rename_i hc
              obtain ⟨hname, hoff⟩ := hc
              split at h1
              · rename_i ks1 hf1
                split at h1
                · rename_i hsz
                  simp only [Option.map_eq_some_iff] at h1
                  obtain ⟨k3, hf3, rfl⟩ := h1
                  rw [List.length_append] at hlx hly
                  obtain ⟨hag, hag1⟩ := flat_agg hf1
                  obtain ⟨u1, hu1, hu2⟩ := part_T (w := w) hsz (cs := xs) (off := off) (by omega) hag hag1
                  obtain ⟨v1, hv1, hv2⟩ := part_T (w := w) hsz (cs := ys) (off := off) (by omega) hag hag1
                  have sx : (xs.drop off).take (ks1 ++ k3).length = (xs.drop off).take ks1.length ++ (xs.drop (off + ks1.length)).take k3.length := by
                    rw [List.length_append, List.take_add, List.drop_drop]
                  have sy : (ys.drop off).take (ks1 ++ k3).length = (ys.drop off).take ks1.length ++ (ys.drop (off + ks1.length)).take k3.length := by
                    rw [List.length_append, List.take_add, List.drop_drop]
                  have lx : ((xs.drop off).take ks1.length).length = ks1.length := by simp; omega
                  have ly : ((ys.drop off).take ks1.length).length = ks1.length := by simp; omega
                  rw [sx, sy, kEq_append _ _ _ _ _ _ lx ly] at h2
                  simp only [Op.eqFields, hname, ne_eq, not_false_eq_true, if_true, Sem.run_bind, hoff, hu1, hv1, Result.andThen_ok]
                  cases hk1 : kEq ks1 ((xs.drop off).take ks1.length) ((ys.drop off).take ks1.length) with
                  | none => rw [hk1] at h2; exact absurd h2 (by simp)
                  | some q =>
                    rw [hk1] at h2
                    rw [equal_flat d f.type ks1 hf1 _ _ u1 v1 q lx ly hu2 hv2 hk1 D (by omega)]
                    cases q with
                    | false => simp only [Option.some.injEq] at h2; subst h2; simp
                    | true =>
                      simp only [Result.andThen_ok, Bool.not_true, Bool.false_eq_true, if_false]
                      exact ih (off + ks1.length) k3 hf3 (by omega) (by omega) r h2
                · exact absurd h1 (by simp)
              · exact absurd h1 (by simp)
            · exact absurd h1 (by simp)
        refine key fs.toList 0 ks hf (by omega) (by omega) r ?_
        rw [List.drop_zero, List.drop_zero, ← hx, List.take_length, hx, ← hy, List.take_length]; exact hk
    · exact absurd hf (by simp)
end
end Go.Proofs.YtpgidiompdabdaaGreat.AM
