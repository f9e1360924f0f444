/- Walks: what the functions compute. -/
import Derived.Test.YtdpiggphcohmmaaTypes
namespace Go.Proofs.Ytdpiggphcohmmaa.AM
open Go
set_option linter.unusedSimpArgs false
set_option linter.unusedVariables false
set_option maxRecDepth 4000

/-! ### Merging, plainly -/
section
variable {α : Type} (le : α → α → Bool)
def goM (x : α) (rec : List α → List α) : List α → List α
  | [] => x :: rec []
  | y :: ys => if le x y then x :: rec (y :: ys) else y :: goM x rec ys
def mrg : List α → List α → List α
  | [], ys => ys
  | x :: xs, ys => goM le x (mrg xs) ys
theorem mrg_cons (x y : α) (xs ys : List α) : mrg le (x :: xs) (y :: ys) = if le x y then x :: mrg le xs (y :: ys) else y :: mrg le (x :: xs) ys := rfl
theorem mrg_nil : ∀ xs : List α, mrg le xs [] = xs
  | [] => rfl
  | x :: xs => by show x :: mrg le xs [] = _; rw [mrg_nil xs]
theorem mrg_split : ∀ (U1 V1 U2 V2 : List α), (∀ u ∈ U2, ∀ v ∈ V1, le u v = false) → (∀ u ∈ U1, ∀ v ∈ V2, le u v = true) → mrg le (U1 ++ U2) (V1 ++ V2) = mrg le U1 V1 ++ mrg le U2 V2
  | [], [], U2, V2, _, _ => rfl
  | [], v :: V1, U2, V2, h1, h2 => by
    cases U2 with
    | nil => show v :: V1 ++ V2 = v :: V1 ++ V2; rfl
    | cons u U2 =>
      show mrg le (u :: U2) (v :: (V1 ++ V2)) = _
      rw [mrg_cons, h1 u (List.mem_cons_self ..) v (List.mem_cons_self ..)]
      have := mrg_split [] V1 (u :: U2) V2 (fun a ha b hb => h1 a ha b (List.mem_cons_of_mem _ hb)) (fun a ha => by simp at ha)
      simp only [Bool.false_eq_true, if_false]
      rw [List.nil_append] at this
      rw [this]; rfl
  | u :: U1, [], U2, V2, h1, h2 => by
    cases V2 with
    | nil => simp only [List.append_nil, mrg_nil]
    | cons v V2 =>
      show mrg le (u :: (U1 ++ U2)) (v :: V2) = _
      rw [mrg_cons, h2 u (List.mem_cons_self ..) v (List.mem_cons_self ..)]
      have := mrg_split U1 [] U2 (v :: V2) (fun a ha b hb => by simp at hb) (fun a ha b hb => h2 a (List.mem_cons_of_mem _ ha) b hb)
      simp only [if_true]
      rw [List.nil_append] at this
      rw [this, mrg_nil, mrg_nil]; rfl
  | u :: U1, v :: V1, U2, V2, h1, h2 => by
    show mrg le (u :: (U1 ++ U2)) (v :: (V1 ++ V2)) = _
    rw [mrg_cons, mrg_cons]
    split
    · have := mrg_split U1 (v :: V1) U2 V2 h1 (fun a ha b hb => h2 a (List.mem_cons_of_mem _ ha) b hb)
      rw [List.cons_append] at this; rw [this]; rfl
    · have := mrg_split (u :: U1) V1 U2 V2 (fun a ha b hb => h1 a ha b (List.mem_cons_of_mem _ hb)) h2
      rw [List.cons_append] at this; rw [this]; rfl
  termination_by U1 V1 => U1.length + V1.length
theorem mrg_len : ∀ (U V : List α), (mrg le U V).length = U.length + V.length
  | [], V => by simp [mrg]
  | u :: U, [] => by rw [mrg_nil]; simp
  | u :: U, v :: V => by
    rw [mrg_cons]; split
    · simp [mrg_len U (v :: V)]; omega
    · simp [mrg_len (u :: U) V]; omega
  termination_by U V => U.length + V.length
/-- A total order, but that some may be alike. -/
structure Ord0 : Prop where
  tot : ∀ a b, le a b = true ∨ le b a = true
  trans : ∀ a b c, le a b = true → le b c = true → le a c = true
def Sor (l : List α) : Prop := l.Pairwise (fun a b => le a b = true)
def ins (x : α) : List α → List α
  | [] => [x]
  | y :: ys => if le x y then x :: y :: ys else y :: ins x ys
def isort : List α → List α
  | [] => []
  | x :: xs => ins le x (isort xs)
theorem ins_eq (x : α) : ∀ l, ins le x l = mrg le [x] l
  | [] => rfl
  | y :: l => by show _ = if le x y then x :: mrg le [] (y :: l) else y :: mrg le [x] l; rw [ins, ins_eq x l]; rfl
theorem ins_mrg (O : Ord0 le) (x : α) : ∀ (S T : List α), ins le x (mrg le S T) = mrg le (ins le x S) T
  | [], T => ins_eq le x T
  | s :: S, [] => by rw [mrg_nil, mrg_nil]
  | s :: S, t :: T => by
    rw [mrg_cons]
    by_cases h1 : le x s = true
    · have e1 : ins le x (s :: S) = x :: s :: S := by simp [ins, h1]
      rw [e1]
      by_cases h2 : le x t = true
      · rw [mrg_cons, if_pos h2, mrg_cons]
        split
        · simp [ins, h1]
        · simp [ins, h2]
      · have h3 : ¬ le s t = true := fun h => h2 (O.trans _ _ _ h1 h)
        rw [if_neg h3, mrg_cons, if_neg h2]
        have := ins_mrg O x (s :: S) T
        rw [e1] at this
        simp [ins, h2, this]
    · have e1 : ins le x (s :: S) = s :: ins le x S := by simp [ins, h1]
      rw [e1, mrg_cons]
      split
      · have := ins_mrg O x S (t :: T)
        simp [ins, h1, this]
      · rename_i h2
        have h3 : ¬ le x t = true := fun h => by
          rcases O.tot s t with h4 | h4
          · exact h2 h4
          · exact h1 (O.trans _ _ _ h h4)
        have := ins_mrg O x (s :: S) T
        rw [e1] at this
        simp [ins, h3, this]
  termination_by S T => S.length + T.length
theorem isort_app (O : Ord0 le) : ∀ A B : List α, isort le (A ++ B) = mrg le (isort le A) (isort le B)
  | [], B => rfl
  | a :: A, B => by show ins le a (isort le (A ++ B)) = _; rw [isort_app O A B, ins_mrg le O]; rfl
theorem ins_mem {x z : α} : ∀ {l : List α}, z ∈ ins le x l ↔ z = x ∨ z ∈ l
  | [] => by simp [ins]
  | y :: l => by unfold ins; split <;> simp [ins_mem (l := l)]; grind
theorem ins_sor (O : Ord0 le) (x : α) : ∀ {l : List α}, Sor le l → Sor le (ins le x l)
  | [], _ => by simp [ins, Sor]
  | y :: l, h => by
    have hy := List.pairwise_cons.1 h
    unfold ins; split
    · rename_i hxy
      refine List.pairwise_cons.2 ⟨fun z hz => ?_, h⟩
      rcases List.mem_cons.1 hz with rfl | hz
      · exact hxy
      · exact O.trans _ _ _ hxy (hy.1 z hz)
    · rename_i hxy
      refine List.pairwise_cons.2 ⟨fun z hz => ?_, ins_sor O x hy.2⟩
      rcases (ins_mem le).1 hz with rfl | hz
      · rcases O.tot y z with h1 | h1
        · exact h1
        · exact absurd h1 hxy
      · exact hy.1 z hz
theorem isort_sor (O : Ord0 le) : ∀ l : List α, Sor le (isort le l)
  | [] => by simp [isort, Sor]
  | x :: l => ins_sor le O x (isort_sor O l)
theorem ins_len (x : α) : ∀ l, (ins le x l).length = l.length + 1
  | [] => rfl
  | y :: l => by unfold ins; split <;> simp [ins_len x l]
theorem isort_len : ∀ l : List α, (isort le l).length = l.length
  | [] => rfl
  | x :: l => by show (ins le x _).length = _; rw [ins_len, isort_len l]; rfl
theorem ins_perm (x : α) : ∀ l, (ins le x l).Perm (x :: l)
  | [] => List.Perm.refl _
  | y :: l => by
    unfold ins; split
    · exact List.Perm.refl _
    · exact ((ins_perm x l).cons y).trans (List.Perm.swap x y l)
theorem isort_perm : ∀ l : List α, (isort le l).Perm l
  | [] => List.Perm.refl _
  | x :: l => (ins_perm le x _).trans ((isort_perm l).cons x)
theorem mrg_left (O : Ord0 le) (U1 U2 : List α) (x : α) (h1 : ∀ u ∈ U1, le u x = true) (h2 : ∀ u ∈ U2, le u x = false) : mrg le (U1 ++ U2) [x] = U1 ++ x :: U2 := by
  have a := mrg_split le U1 [] U2 [x] (fun _ _ _ h => by simp at h) (fun u hu v hv => by simp at hv; subst hv; exact h1 u hu)
  have b := mrg_split le [] [x] U2 [] (fun u hu v hv => by simp at hv; subst hv; exact h2 u hu) (fun _ h => by simp at h)
  simp only [List.nil_append, List.append_nil, mrg_nil] at a b
  rw [a, b]; rfl
theorem mrg_right (V1 V2 : List α) (x : α) (h1 : ∀ v ∈ V1, le x v = false) (h2 : ∀ v ∈ V2, le x v = true) : mrg le [x] (V1 ++ V2) = V1 ++ x :: V2 := by
  have a := mrg_split le [] V1 [x] V2 (fun u hu v hv => by simp at hu; subst hu; exact h1 v hv) (fun _ h => by simp at h)
  have b := mrg_split le [x] [] [] V2 (fun _ h => by simp at h) (fun u hu v hv => by simp at hu; subst hu; exact h2 v hv)
  simp only [List.nil_append, List.append_nil, mrg_nil] at a b
  rw [a, b]; rfl
theorem Sor.app {A B : List α} : Sor le (A ++ B) ↔ Sor le A ∧ Sor le B ∧ ∀ a ∈ A, ∀ b ∈ B, le a b = true := List.pairwise_append
theorem Sor.get {l : List α} (h : Sor le l) {i j : Nat} (hij : i < j) {x y : α} (hx : l[i]? = some x) (hy : l[j]? = some y) : le x y = true := by
  obtain ⟨h1, rfl⟩ := List.getElem?_eq_some_iff.1 hx
  obtain ⟨h2, rfl⟩ := List.getElem?_eq_some_iff.1 hy
  exact List.pairwise_iff_getElem.1 h i j h1 h2 hij
theorem mrg_mem : ∀ (U V : List α) z, z ∈ mrg le U V ↔ z ∈ U ∨ z ∈ V
  | [], V, z => by simp [mrg]
  | u :: U, [], z => by rw [mrg_nil]; simp
  | u :: U, v :: V, z => by
    rw [mrg_cons]; split
    · simp [mrg_mem U (v :: V) z]; grind
    · simp [mrg_mem (u :: U) V z]; grind
  termination_by U V => U.length + V.length
theorem mrg_sor (O : Ord0 le) : ∀ (U V : List α), Sor le U → Sor le V → Sor le (mrg le U V)
  | [], V, _, h => h
  | u :: U, [], h, _ => by rw [mrg_nil]; exact h
  | u :: U, v :: V, h1, h2 => by
    have a1 := List.pairwise_cons.1 h1
    have a2 := List.pairwise_cons.1 h2
    have mem : ∀ (U V : List α) z, z ∈ mrg le U V → z ∈ U ∨ z ∈ V := by
      intro U V z hz
      have := mrg_mem le U V z
      exact this.1 hz
    rw [mrg_cons]; split
    · rename_i h
      refine List.pairwise_cons.2 ⟨fun z hz => ?_, mrg_sor O U (v :: V) a1.2 h2⟩
      rcases mem _ _ _ hz with hz | hz
      · exact a1.1 z hz
      · rcases List.mem_cons.1 hz with rfl | hz
        · exact h
        · exact O.trans _ _ _ h (a2.1 z hz)
    · rename_i h
      have h' : le v u = true := by rcases O.tot u v with h3 | h3
                                    · exact absurd h3 h
                                    · exact h3
      refine List.pairwise_cons.2 ⟨fun z hz => ?_, mrg_sor O (u :: U) V h1 a2.2⟩
      rcases mem _ _ _ hz with hz | hz
      · rcases List.mem_cons.1 hz with rfl | hz
        · exact h'
        · exact O.trans _ _ _ h' (a1.1 z hz)
      · exact a2.1 z hz
  termination_by U V => U.length + V.length
end
theorem set_at {α : Type} {P Q : List α} {x y : α} {i : Nat} (h : i = P.length) : (P ++ x :: Q).set i y = P ++ y :: Q := by
  subst h; rw [List.set_append_right _ _ (Nat.le_refl _), Nat.sub_self]; rfl
theorem get_mid {α : Type} {P Q : List α} {x : α} {i : Nat} (h : i = P.length) : (P ++ x :: Q)[i]? = some x := by
  subst h; rw [List.getElem?_append_right (Nat.le_refl _), Nat.sub_self]; rfl

end Go.Proofs.Ytdpiggphcohmmaa.AM
