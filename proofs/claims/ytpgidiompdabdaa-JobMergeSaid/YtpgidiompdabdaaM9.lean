/- Walks: what the functions compute. -/
import Derived.Test.YtpgidiompdabdaaTypes
namespace Go.Proofs.Ytpgidiompdabdaa.AM
open Go
set_option linter.unusedSimpArgs false
set_option linter.unusedVariables false
set_option maxRecDepth 4000

/-! ### Merging, plainly -/
section
variable {α : Type} (le : α → α → Bool)
def goM (x : α) (rec : List α → List α) : List α → List α
  | [] => x :: rec []
  | y :: ys => if le x y then x :: rec (y :: ys) else y :: goM x rec ys
def mrg : List α → List α → List α
  | [], ys => ys
  | x :: xs, ys => goM le x (mrg xs) ys
theorem mrg_cons (x y : α) (xs ys : List α) : mrg le (x :: xs) (y :: ys) = if le x y then x :: mrg le xs (y :: ys) else y :: mrg le (x :: xs) ys := rfl
theorem mrg_nil : ∀ xs : List α, mrg le xs [] = xs
  | [] => rfl
  | x :: xs => by show x :: mrg le xs [] = _; rw [mrg_nil xs]
theorem mrg_split : ∀ (U1 V1 U2 V2 : List α), (∀ u ∈ U2, ∀ v ∈ V1, le u v = false) → (∀ u ∈ U1, ∀ v ∈ V2, le u v = true) → mrg le (U1 ++ U2) (V1 ++ V2) = mrg le U1 V1 ++ mrg le U2 V2
  | [], [], U2, V2, _, _ => rfl
  | [], v :: V1, U2, V2, h1, h2 => by
    cases U2 with
    | nil => show v :: V1 ++ V2 = v :: V1 ++ V2; rfl
    | cons u U2 =>
      show mrg le (u :: U2) (v :: (V1 ++ V2)) = _
      rw [mrg_cons, h1 u (List.mem_cons_self ..) v (List.mem_cons_self ..)]
      have := mrg_split [] V1 (u :: U2) V2 (fun a ha b hb => h1 a ha b (List.mem_cons_of_mem _ hb)) (fun a ha => by simp at ha)
      simp only [Bool.false_eq_true, if_false]
      rw [List.nil_append] at this
      rw [this]; rfl
  | u :: U1, [], U2, V2, h1, h2 => by
    cases V2 with
    | nil => simp only [List.append_nil, mrg_nil]
    | cons v V2 =>
      show mrg le (u :: (U1 ++ U2)) (v :: V2) = _
      rw [mrg_cons, h2 u (List.mem_cons_self ..) v (List.mem_cons_self ..)]
      have := mrg_split U1 [] U2 (v :: V2) (fun a ha b hb => by simp at hb) (fun a ha b hb => h2 a (List.mem_cons_of_mem _ ha) b hb)
      simp only [if_true]
      rw [List.nil_append] at this
      rw [this, mrg_nil, mrg_nil]; rfl
  | u :: U1, v :: V1, U2, V2, h1, h2 => by
    show mrg le (u :: (U1 ++ U2)) (v :: (V1 ++ V2)) = _
    rw [mrg_cons, mrg_cons]
    split
    · have := mrg_split U1 (v :: V1) U2 V2 h1 (fun a ha b hb => h2 a (List.mem_cons_of_mem _ ha) b hb)
      rw [List.cons_append] at this; rw [this]; rfl
    · have := mrg_split (u :: U1) V1 U2 V2 (fun a ha b hb => h1 a ha b (List.mem_cons_of_mem _ hb)) h2
      rw [List.cons_append] at this; rw [this]; rfl
  termination_by U1 V1 => U1.length + V1.length
theorem mrg_len : ∀ (U V : List α), (mrg le U V).length = U.length + V.length
  | [], V => by simp [mrg]
  | u :: U, [] => by rw [mrg_nil]; simp
  | u :: U, v :: V => by
    rw [mrg_cons]; split
    · simp [mrg_len U (v :: V)]; omega
    · simp [mrg_len (u :: U) V]; omega
  termination_by U V => U.length + V.length
/-- A total order, but that some may be alike. -/
structure Ord0 : Prop where
  tot : ∀ a b, le a b = true ∨ le b a = true
  trans : ∀ a b c, le a b = true → le b c = true → le a c = true
def Sor (l : List α) : Prop := l.Pairwise (fun a b => le a b = true)
def ins (x : α) : List α → List α
  | [] => [x]
  | y :: ys => if le x y then x :: y :: ys else y :: ins x ys
def isort : List α → List α
  | [] => []
  | x :: xs => ins le x (isort xs)
theorem ins_eq (x : α) : ∀ l, ins le x l = mrg le [x] l
  | [] => rfl
  | y :: l => by show _ = if le x y then x :: mrg le [] (y :: l) else y :: mrg le [x] l; rw [ins, ins_eq x l]; rfl
theorem ins_mrg (O : Ord0 le) (x : α) : ∀ (S T : List α), ins le x (mrg le S T) = mrg le (ins le x S) T
  | [], T => ins_eq le x T
  | s :: S, [] => by rw [mrg_nil, mrg_nil]
  | s :: S, t :: T => by
    rw [mrg_cons]
    by_cases h1 : le x s = true
    · have e1 : ins le x (s :: S) = x :: s :: S := by simp [ins, h1]
      rw [e1]
      by_cases h2 : le x t = true
      · rw [mrg_cons, if_pos h2, mrg_cons]
        split
        · simp [ins, h1]
        · simp [ins, h2]
      · have h3 : ¬ le s t = true := fun h => h2 (O.trans _ _ _ h1 h)
        rw [if_neg h3, mrg_cons, if_neg h2]
        have := ins_mrg O x (s :: S) T
        rw [e1] at this
        simp [ins, h2, this]
    · have e1 : ins le x (s :: S) = s :: ins le x S := by simp [ins, h1]
      rw [e1, mrg_cons]
      split
      · have := ins_mrg O x S (t :: T)
        simp [ins, h1, this]
      · rename_i h2
        have h3 : ¬ le x t = true := fun h => by
          rcases O.tot s t with h4 | h4
          · exact h2 h4
          · exact h1 (O.trans _ _ _ h h4)
        have := ins_mrg O x (s :: S) T
        rw [e1] at this
        simp [ins, h3, this]
  termination_by S T => S.length + T.length
theorem isort_app (O : Ord0 le) : ∀ A B : List α, isort le (A ++ B) = mrg le (isort le A) (isort le B)
  | [], B => rfl
  | a :: A, B => by show ins le a (isort le (A ++ B)) = _; rw [isort_app O A B, ins_mrg le O]; rfl
theorem ins_mem {x z : α} : ∀ {l : List α}, z ∈ ins le x l ↔ z = x ∨ z ∈ l
  | [] => by simp [ins]
  | y :: l => by unfold ins; split <;> simp [ins_mem (l := l)]; grind
theorem ins_sor (O : Ord0 le) (x : α) : ∀ {l : List α}, Sor le l → Sor le (ins le x l)
  | [], _ => by simp [ins, Sor]
  | y :: l, h => by
    have hy := List.pairwise_cons.1 h
    unfold ins; split
    · rename_i hxy
      refine List.pairwise_cons.2 ⟨fun z hz => ?_, h⟩
      rcases List.mem_cons.1 hz with rfl | hz
      · exact hxy
      · exact O.trans _ _ _ hxy (hy.1 z hz)
    · rename_i hxy
      refine List.pairwise_cons.2 ⟨fun z hz => ?_, ins_sor O x hy.2⟩
      rcases (ins_mem le).1 hz with rfl | hz
      · rcases O.tot y z with h1 | h1
        · exact h1
        · exact absurd h1 hxy
      · exact hy.1 z hz
theorem isort_sor (O : Ord0 le) : ∀ l : List α, Sor le (isort le l)
  | [] => by simp [isort, Sor]
  | x :: l => ins_sor le O x (isort_sor O l)
theorem ins_len (x : α) : ∀ l, (ins le x l).length = l.length + 1
  | [] => rfl
  | y :: l => by unfold ins; split <;> simp [ins_len x l]
theorem isort_len : ∀ l : List α, (isort le l).length = l.length
  | [] => rfl
  | x :: l => by show (ins le x _).length = _; rw [ins_len, isort_len l]; rfl
theorem ins_perm (x : α) : ∀ l, (ins le x l).Perm (x :: l)
  | [] => List.Perm.refl _
  | y :: l => by
    unfold ins; split
    · exact List.Perm.refl _
    · exact ((ins_perm x l).cons y).trans (List.Perm.swap x y l)
theorem isort_perm : ∀ l : List α, (isort le l).Perm l
  | [] => List.Perm.refl _
  | x :: l => (ins_perm le x _).trans ((isort_perm l).cons x)
theorem mrg_left (O : Ord0 le) (U1 U2 : List α) (x : α) (h1 : ∀ u ∈ U1, le u x = true) (h2 : ∀ u ∈ U2, le u x = false) : mrg le (U1 ++ U2) [x] = U1 ++ x :: U2 := by
  have a := mrg_split le U1 [] U2 [x] (fun _ _ _ h => by simp at h) (fun u hu v hv => by simp at hv; subst hv; exact h1 u hu)
  have b := mrg_split le [] [x] U2 [] (fun u hu v hv => by simp at hv; subst hv; exact h2 u hu) (fun _ h => by simp at h)
  simp only [List.nil_append, List.append_nil, mrg_nil] at a b
  rw [a, b]; rfl
theorem mrg_right (V1 V2 : List α) (x : α) (h1 : ∀ v ∈ V1, le x v = false) (h2 : ∀ v ∈ V2, le x v = true) : mrg le [x] (V1 ++ V2) = V1 ++ x :: V2 := by
  have a := mrg_split le [] V1 [x] V2 (fun u hu v hv => by simp at hu; subst hu; exact h1 v hv) (fun _ h => by simp at h)
  have b := mrg_split le [x] [] [] V2 (fun _ h => by simp at h) (fun u hu v hv => by simp at hu; subst hu; exact h2 v hv)
  simp only [List.nil_append, List.append_nil, mrg_nil] at a b
  rw [a, b]; rfl
theorem Sor.app {A B : List α} : Sor le (A ++ B) ↔ Sor le A ∧ Sor le B ∧ ∀ a ∈ A, ∀ b ∈ B, le a b = true := List.pairwise_append
theorem Sor.get {l : List α} (h : Sor le l) {i j : Nat} (hij : i < j) {x y : α} (hx : l[i]? = some x) (hy : l[j]? = some y) : le x y = true := by
  obtain ⟨h1, rfl⟩ := List.getElem?_eq_some_iff.1 hx
  obtain ⟨h2, rfl⟩ := List.getElem?_eq_some_iff.1 hy
  exact List.pairwise_iff_getElem.1 h i j h1 h2 hij
theorem mrg_mem : ∀ (U V : List α) z, z ∈ mrg le U V ↔ z ∈ U ∨ z ∈ V
  | [], V, z => by simp [mrg]
  | u :: U, [], z => by rw [mrg_nil]; simp
  | u :: U, v :: V, z => by
    rw [mrg_cons]; split
    · simp [mrg_mem U (v :: V) z]; grind
    · simp [mrg_mem (u :: U) V z]; grind
  termination_by U V => U.length + V.length
theorem mrg_sor (O : Ord0 le) : ∀ (U V : List α), Sor le U → Sor le V → Sor le (mrg le U V)
  | [], V, _, h => h
  | u :: U, [], h, _ => by rw [mrg_nil]; exact h
  | u :: U, v :: V, h1, h2 => by
    have a1 := List.pairwise_cons.1 h1
    have a2 := List.pairwise_cons.1 h2
    have mem : ∀ (U V : List α) z, z ∈ mrg le U V → z ∈ U ∨ z ∈ V := by
      intro U V z hz
      have := mrg_mem le U V z
      exact this.1 hz
    rw [mrg_cons]; split
    · rename_i h
      refine List.pairwise_cons.2 ⟨fun z hz => ?_, mrg_sor O U (v :: V) a1.2 h2⟩
      rcases mem _ _ _ hz with hz | hz
      · exact a1.1 z hz
      · rcases List.mem_cons.1 hz with rfl | hz
        · exact h
        · exact O.trans _ _ _ h (a2.1 z hz)
    · rename_i h
      have h' : le v u = true := by rcases O.tot u v with h3 | h3
                                    · exact absurd h3 h
                                    · exact h3
      refine List.pairwise_cons.2 ⟨fun z hz => ?_, mrg_sor O (u :: U) V h1 a2.2⟩
      rcases mem _ _ _ hz with hz | hz
      · rcases List.mem_cons.1 hz with rfl | hz
        · exact h'
        · exact O.trans _ _ _ h' (a1.1 z hz)
      · exact a2.1 z hz
  termination_by U V => U.length + V.length
end
theorem set_at {α : Type} {P Q : List α} {x y : α} {i : Nat} (h : i = P.length) : (P ++ x :: Q).set i y = P ++ y :: Q := by
  subst h; rw [List.set_append_right _ _ (Nat.le_refl _), Nat.sub_self]; rfl
theorem get_mid {α : Type} {P Q : List α} {x : α} {i : Nat} (h : i = P.length) : (P ++ x :: Q)[i]? = some x := by
  subst h; rw [List.getElem?_append_right (Nat.le_refl _), Nat.sub_self]; rfl
/-! ### The library's stable sort -/
def Cmp {α : Type} (g : FuncId) (T : Ty α) (lt : α → α → Bool) : Prop := ∀ (H : SH) (a b : α), WF F X g [T.val a, T.val b] H (fun r H' => H' = H ∧ ∃ n : Int, r = .int .i64 n ∧ (n < 0 ↔ lt a b = true))
abbrev fv (g : FuncId) : Value := .func (.func g) #[] #[]
theorem cons_of {α : Type} {l : List α} (h : 0 < l.length) : ∃ x t, l = x :: t := by
  cases l with
  | nil => simp at h
  | cons x t => exact ⟨x, t, rfl⟩
theorem nil_of {α : Type} {l : List α} (h : l.length = 0) : l = [] := List.length_eq_zero_iff.1 h
theorem snoc_of {α : Type} {l : List α} (h : 0 < l.length) : ∃ t x, l = t ++ [x] := by
  rcases List.eq_nil_or_concat l with rfl | ⟨t, x, rfl⟩
  · simp at h
  · exact ⟨t, x, by simp⟩
theorem lp_swap {α : Type} {T : Ty α} (h5 : T.es = 5) (hg : T.agg = true) {H : SH} {s : Value} {A B C : List α} {n a b : Nat} (ha : a = A.length) : ∀ (m : Nat) (U2 V2 U1 V1 xs : List α) (i : Nat), U2.length = m → V2.length = m → U1.length = i → V1.length = i → n = i + m → b = A.length + n + B.length → xs = A ++ (V1 ++ U2) ++ B ++ (U1 ++ V2) ++ C → xs.length ≤ 1000000 →
    WC F X (.loop L_slices_swapRangeCmpFunc_api_Rec_0) [(10, .int .i64 i), (3, .int .i64 n), (0, s), (1, .int .i64 a), (2, .int .i64 b)] (SL s T xs :: H)
      (KPost fun x l' H' => x = .exit 0 ∧ l' = [] ∧ H' = SL s T (A ++ (V1 ++ V2) ++ B ++ (U1 ++ U2) ++ C) :: H) := by
  intro m
  induction m using Nat.strongRecOn with
  | _ m ih =>
    intro U2 V2 U1 V1 xs i hum hvm hu hv hn hb hxs hL
    refine WC_loop ?_
    refine WC_seq ?_
    refine WC_seq ?_
    refine WC_region ?_
    iterate 3 refine WO_step rfl (S_pure rfl ?_)
    refine WO_nil ?_
    refine KSeq_n ?_
    refine WC_cond rfl (fun hb1 => ?_) (fun hb1 => ?_)
    ·
     try simp only [bsT] at hb1
     obtain ⟨m, rfl⟩ : ∃ m', m = m' + 1 := ⟨m - 1, by omega⟩
     obtain ⟨u, U2, rfl⟩ := cons_of (l := U2) (by omega)
     obtain ⟨v, V2, rfl⟩ := cons_of (l := V2) (by omega)
     simp only [List.length_cons] at hum hvm
     have e1 : xs = (A ++ V1) ++ u :: (U2 ++ B ++ (U1 ++ v :: V2) ++ C) := by rw [hxs]; simp
     have e2 : xs = (A ++ V1 ++ u :: U2 ++ B ++ U1) ++ v :: (V2 ++ C) := by rw [hxs]; simp
     have hx1 : xs[a + i]? = some u := by rw [e1]; exact get_mid (by simp; omega)
     have hx2 : xs[b + i]? = some v := by rw [e2]; exact get_mid (by simp; omega)
     have e3 : (xs.set (a + i) v).set (b + i) u = A ++ (V1 ++ [v] ++ U2) ++ B ++ (U1 ++ [u] ++ V2) ++ C := by
       rw [e1, set_at (by simp; omega), show (A ++ V1) ++ v :: (U2 ++ B ++ (U1 ++ v :: V2) ++ C) = (A ++ V1 ++ v :: U2 ++ B ++ U1) ++ v :: (V2 ++ C) by simp, set_at (by simp; omega)]; simp
     have hl1 := lt_of_get hx1
     have hl2 := lt_of_get hx2
     refine WC_skip ?_
     refine KSeq_n ?_
     refine WC_seq ?_
     refine WC_block ?_
     refine WC_region ?_
     iterate 3 refine WO_step rfl (S_pure rfl ?_)
     first | refine WO_step rfl (S_addN rfl rfl (by omega) ?_) | refine WO_step rfl (S_pure rfl ?_)
     iterate 3 refine WO_step rfl (S_pure rfl ?_)
     first | refine WO_step rfl (S_addN rfl rfl (by omega) ?_) | refine WO_step rfl (S_pure rfl ?_)
     iterate 3 refine WO_step rfl (S_pure rfl ?_)
     first | refine WO_step rfl (S_addN rfl rfl (by omega) ?_) | refine WO_step rfl (S_pure rfl ?_)
     refine WO_step rfl (S_idx rfl rfl rdA (by first | rfl | assumption | (symm; assumption)) (by rfl) (by first | assumption | omega | exact lt_of_get (by assumption) | (simp only [List.length_set]; first | assumption | omega | exact lt_of_get (by assumption))) fun hp28 => ?_)
     refine WO_step rfl (S_loadE rfl rdA (by first | rfl | assumption | (symm; assumption)) (by first | rfl | assumption | (symm; assumption)) (by first | rfl | assumption | (symm; assumption)) (by assumption) ?_)
     iterate 3 refine WO_step rfl (S_pure rfl ?_)
     first | refine WO_step rfl (S_addN rfl rfl (by omega) ?_) | refine WO_step rfl (S_pure rfl ?_)
     refine WO_step rfl (S_idx rfl rfl rdA (by first | rfl | assumption | (symm; assumption)) (by rfl) (by first | assumption | omega | exact lt_of_get (by assumption) | (simp only [List.length_set]; first | assumption | omega | exact lt_of_get (by assumption))) fun hp34 => ?_)
     refine WO_step rfl (S_loadE rfl rdA (by first | rfl | assumption | (symm; assumption)) (by first | rfl | assumption | (symm; assumption)) (by first | rfl | assumption | (symm; assumption)) (by assumption) ?_)
     refine WO_step rfl (S_idx rfl rfl rdA (by first | rfl | assumption | (symm; assumption)) (by rfl) (by first | assumption | omega | exact lt_of_get (by assumption) | (simp only [List.length_set]; first | assumption | omega | exact lt_of_get (by assumption))) fun hp36 => ?_)
     refine WO_step rfl (S_storeW rfl rfl pkA (by first | rfl | assumption | (symm; assumption)) (by rfl) (by first | rfl | assumption | (symm; assumption)) (by first | assumption | omega | exact lt_of_get (by assumption) | (simp only [List.length_set]; first | assumption | omega | exact lt_of_get (by assumption))) ?_)
     refine WO_step rfl (S_idx rfl rfl rdA (by first | rfl | assumption | (symm; assumption)) (by rfl) (by first | assumption | omega | exact lt_of_get (by assumption) | (simp only [List.length_set]; first | assumption | omega | exact lt_of_get (by assumption))) fun hp37 => ?_)
     refine WO_step rfl (S_storeW rfl rfl pkA (by first | rfl | assumption | (symm; assumption)) (by rfl) (by first | rfl | assumption | (symm; assumption)) (by first | assumption | omega | exact lt_of_get (by assumption) | (simp only [List.length_set]; first | assumption | omega | exact lt_of_get (by assumption))) ?_)
     refine WO_nil ?_
     refine KBlock_n ?_
     refine KSeq_n ?_
     refine WC_region ?_
     refine WO_step rfl (S_pure rfl ?_)
     first | refine WO_step rfl (S_addN (b := 1) rfl rfl (by omega) ?_) | refine WO_step rfl (S_pure rfl ?_)
     refine WO_step rfl (S_pure rfl ?_)
     refine WO_nil ?_
     refine KLoop_n ?_
     have := ih m (by omega) U2 V2 (U1 ++ [u]) (V1 ++ [v]) _ (i + 1) (by omega) (by omega) (by simp [hu]) (by simp [hv]) (by omega) hb e3 (by simpa using hL)
     simp only [List.append_assoc, List.singleton_append] at this ⊢
     exact WC_weak this seA hsA
    ·
     try simp only [bsT] at hb1
     refine WC_exit ?_
     refine KSeq_x ?_
     refine KLoop_x ?_
     obtain rfl := nil_of (l := U2) (by omega)
     obtain rfl := nil_of (l := V2) (by omega)
     rw [hxs]; exact KPost_i seA hsA ⟨rfl, rfl, rfl⟩
theorem sp_swap {α : Type} {T : Ty α} (h5 : T.es = 5) (hg : T.agg = true) {H : SH} {s c : Value} {A U B V C xs : List α} {n a b : Nat} (hxs : xs = A ++ U ++ B ++ V ++ C) (hL : xs.length ≤ 1000000) (ha : a = A.length) (hu : U.length = n) (hv : V.length = n) (hb : b = A.length + n + B.length) :
    WF F X f_slices_swapRangeCmpFunc_api_Rec [s, .int .i64 a, .int .i64 b, .int .i64 n, c] (SL s T xs :: H) (fun r H' => H' = SL s T (A ++ V ++ B ++ U ++ C) :: H) := by
  refine WF_fn F_slices_swapRangeCmpFunc_api_Rec ?_
  refine WC_seq ?_
  refine WC_region ?_
  refine WO_step rfl (S_pure rfl ?_)
  refine WO_nil ?_
  refine KSeq_n ?_
  refine WC_block ?_
  refine WC_post (WC_weak (lp_swap h5 hg (A := A) (B := B) (C := C) ha n U V [] [] xs 0 (by omega) (by omega) rfl rfl (by omega) hb (by simpa using hxs) hL) seA hsA) ?_
  rintro x l' H' ⟨rfl, rfl, rfl⟩
  refine KBlock_h ?_
  refine KFn_n ResL.nil ?_
  exact ⟨_, hsA, rfl⟩
theorem lp_rot {α : Type} {T : Ty α} (h5 : T.es = 5) (hg : T.agg = true) {H : SH} {s c : Value} {m : Nat} {R : List α} : ∀ (k : Nat) (A U V C xs : List α) (i j : Nat), i + j ≤ k → U.length = i → V.length = j → 0 < i → 0 < j → m = A.length + i → xs = A ++ U ++ V ++ C → xs.length ≤ 1000000 → R = A ++ V ++ U ++ C →
    WC F X (.loop L_slices_rotateCmpFunc_api_Rec_0) [(10, .int .i64 i), (11, .int .i64 j), (0, s), (2, .int .i64 m), (4, c)] (SL s T xs :: H)
      (KPost fun x l' H' => ∃ (A U V C : List α) (i : Nat), x = .exit 0 ∧ l' = [(10, .int .i64 i), (0, s), (2, .int .i64 m), (4, c)] ∧ H' = SL s T (A ++ U ++ V ++ C) :: H ∧ U.length = i ∧ V.length = i ∧ m = A.length + i ∧ R = A ++ V ++ U ++ C ∧ (A ++ U ++ V ++ C).length ≤ 1000000) := by
  intro k
  induction k using Nat.strongRecOn with
  | _ k ih =>
    intro A U V C xs i j hk hu hv hi hj hm hxs hL hR
    have hlen : A.length + i + j ≤ 1000000 := by rw [hxs] at hL; simp at hL; omega
    refine WC_loop ?_
    refine WC_seq ?_
    refine WC_seq ?_
    refine WC_region ?_
    iterate 2 refine WO_step rfl (S_pure rfl ?_)
    first | refine WO_step rfl (S_neS rfl rfl ?_) | refine WO_step rfl (S_pure rfl ?_)
    refine WO_nil ?_
    refine KSeq_n ?_
    refine WC_cond rfl (fun hb1 => ?_) (fun hb1 => ?_)
    ·
     try simp only [bsT] at hb1
     refine WC_skip ?_
     refine KSeq_n ?_
     refine WC_block ?_
     refine WC_seq ?_
     refine WC_region ?_
     iterate 3 refine WO_step rfl (S_pure rfl ?_)
     refine WO_nil ?_
     refine KSeq_n ?_
     refine WC_cond rfl (fun hb2 => ?_) (fun hb2 => ?_)
     ·
      try simp only [bsT] at hb2
      refine WC_seq ?_
      refine WC_region ?_
      iterate 3 refine WO_step rfl (S_pure rfl ?_)
      first | refine WO_step rfl (S_subN rfl rfl (by omega) ?_) | refine WO_step rfl (S_pure rfl ?_)
      iterate 3 refine WO_step rfl (S_pure rfl ?_)
      refine WO_call rfl rfl rfl ?_
      have hsp := List.take_append_drop j U
      have h1 : (U.take j).length = j := by rw [List.length_take]; omega
      refine (sp_swap h5 hg (A := A) (U := U.take j) (B := U.drop j) (V := V) (C := C) (by rw [hxs, ← hsp]; simp) hL (by omega) h1 hv (by rw [List.length_drop]; omega)).mono ?_
      rintro _ _ rfl
      refine WO_nil ?_
      refine KSeq_n ?_
      refine WC_region ?_
      iterate 2 refine WO_step rfl (S_pure rfl ?_)
      first | refine WO_step rfl (S_subN rfl rfl (by omega) ?_) | refine WO_step rfl (S_pure rfl ?_)
      refine WO_step rfl (S_pure rfl ?_)
      refine WO_nil ?_
      refine KBlock_n ?_
      refine KLoop_n ?_
      have hL' : (A ++ V ++ U.drop j ++ U.take j ++ C).length ≤ 1000000 := by rw [hxs] at hL; simp at hL ⊢; omega
      exact WC_weak (ih (i - j + j) (by omega) (A ++ V) (U.drop j) (U.take j) C _ (i - j) j (by omega) (by rw [List.length_drop]; omega) h1 (by omega) (by omega) (by simp; omega) (by simp) hL' (by rw [hR, ← hsp]; simp)) seA (by simp only [List.append_assoc]; exact hsA)
     ·
      try simp only [bsT] at hb2
      refine WC_seq ?_
      refine WC_region ?_
      iterate 3 refine WO_step rfl (S_pure rfl ?_)
      first | refine WO_step rfl (S_subN rfl rfl (by omega) ?_) | refine WO_step rfl (S_pure rfl ?_)
      iterate 2 refine WO_step rfl (S_pure rfl ?_)
      first | refine WO_step rfl (S_addN rfl rfl (by omega) ?_) | refine WO_step rfl (S_pure rfl ?_)
      refine WO_step rfl (S_pure rfl ?_)
      first | refine WO_step rfl (S_subN rfl rfl (by omega) ?_) | refine WO_step rfl (S_pure rfl ?_)
      iterate 2 refine WO_step rfl (S_pure rfl ?_)
      refine WO_call rfl rfl rfl ?_
      have hsp := List.take_append_drop (j - i) V
      have h1 : (V.drop (j - i)).length = i := by rw [List.length_drop]; omega
      have e1 : xs = A ++ U ++ V.take (j - i) ++ V.drop (j - i) ++ C := by
        rw [hxs]; conv => lhs; rw [← hsp]
        simp
      refine (sp_swap h5 hg (A := A) (U := U) (B := V.take (j - i)) (V := V.drop (j - i)) (C := C) e1 hL (by omega) hu h1 (by rw [List.length_take]; omega)).mono ?_
      rintro _ _ rfl
      refine WO_nil ?_
      refine KSeq_n ?_
      refine WC_region ?_
      iterate 2 refine WO_step rfl (S_pure rfl ?_)
      first | refine WO_step rfl (S_subN rfl rfl (by omega) ?_) | refine WO_step rfl (S_pure rfl ?_)
      refine WO_step rfl (S_pure rfl ?_)
      refine WO_nil ?_
      refine KBlock_n ?_
      refine KLoop_n ?_
      have e2 : R = A ++ V.take (j - i) ++ V.drop (j - i) ++ (U ++ C) := by
        rw [hR]; conv => lhs; rw [← hsp]
        simp
      have hL' : (A ++ V.drop (j - i) ++ V.take (j - i) ++ U ++ C).length ≤ 1000000 := by rw [hxs] at hL; simp at hL ⊢; omega
      exact WC_weak (ih (i + (j - i)) (by omega) A (V.drop (j - i)) (V.take (j - i)) (U ++ C) (A ++ V.drop (j - i) ++ V.take (j - i) ++ U ++ C) i (j - i) (by omega) h1 (by rw [List.length_take]; omega) (by omega) (by omega) (by omega) (by simp) (by simpa using hL') e2) seA (by simp only [List.append_assoc]; exact hsA)
    ·
     try simp only [bsT] at hb1
     refine WC_exit ?_
     refine KSeq_x ?_
     refine KLoop_x ?_
     have hij : i = j := by simp at hb1; omega
     subst hij
     exact KPost_i (l' := [(10, .int .i64 i), (0, s), (2, .int .i64 m), (4, c)]) (H' := SL s T (A ++ U ++ V ++ C) :: H) seA (by rw [hxs]; exact hsA) ⟨A, U, V, C, i, rfl, rfl, rfl, hu, hv, hm, hR, by rw [← hxs]; exact hL⟩
theorem sp_rot {α : Type} {T : Ty α} (h5 : T.es = 5) (hg : T.agg = true) {H : SH} {s c : Value} {A U V C xs : List α} {a m b : Nat} (hxs : xs = A ++ U ++ V ++ C) (hL : xs.length ≤ 1000000) (ha : a = A.length) (hm : m = a + U.length) (hb : b = m + V.length) (hu : 0 < U.length) (hv : 0 < V.length) :
    WF F X f_slices_rotateCmpFunc_api_Rec [s, .int .i64 a, .int .i64 m, .int .i64 b, c] (SL s T xs :: H) (fun r H' => H' = SL s T (A ++ V ++ U ++ C) :: H) := by
  have hlen : A.length + U.length + V.length ≤ 1000000 := by rw [hxs] at hL; simp at hL; omega
  refine WF_fn F_slices_rotateCmpFunc_api_Rec ?_
  refine WC_seq ?_
  refine WC_region ?_
  iterate 2 refine WO_step rfl (S_pure rfl ?_)
  first | refine WO_step rfl (S_subN rfl rfl (by omega) ?_) | refine WO_step rfl (S_pure rfl ?_)
  refine WO_step rfl (S_pure rfl ?_)
  refine WO_nil ?_
  refine KSeq_n ?_
  refine WC_seq ?_
  refine WC_region ?_
  iterate 2 refine WO_step rfl (S_pure rfl ?_)
  first | refine WO_step rfl (S_subN rfl rfl (by omega) ?_) | refine WO_step rfl (S_pure rfl ?_)
  refine WO_step rfl (S_pure rfl ?_)
  refine WO_nil ?_
  refine KSeq_n ?_
  refine WC_seq ?_
  refine WC_block ?_
  refine WC_post (WC_weak (lp_rot h5 hg (m := m) (R := A ++ V ++ U ++ C) (c := c) (U.length + V.length) A U V C xs (m - a) (b - m) (by omega) (by omega) (by omega) (by omega) (by omega) (by omega) hxs hL rfl) seA hsA) ?_
  rintro x l' H' ⟨A', U', V', C', i, rfl, rfl, rfl, h1, h2, h3, h4, h5'⟩
  have h6 : A'.length + i ≤ 1000000 := by simp at h5'; omega
  refine KBlock_h ?_
  refine KSeq_n ?_
  refine WC_region ?_
  iterate 3 refine WO_step rfl (S_pure rfl ?_)
  first | refine WO_step rfl (S_subN rfl rfl (by omega) ?_) | refine WO_step rfl (S_pure rfl ?_)
  iterate 3 refine WO_step rfl (S_pure rfl ?_)
  refine WO_call rfl rfl rfl ?_
  refine (sp_swap h5 hg (A := A') (U := U') (B := []) (V := V') (C := C') (by simp) (by simpa using h5') (by omega) h1 h2 (by simp; omega)).mono ?_
  rintro _ _ rfl
  refine WO_nil ?_
  refine KFn_n ResL.nil ?_
  refine ⟨_, hsA, ?_⟩
  rw [h4]; simp
abbrev leOf {α : Type} (lt : α → α → Bool) (a b : α) : Bool := !lt b a
theorem lp_ins1 {α : Type} {T : Ty α} (h5 : T.es = 5) (hg : T.agg = true) {lt : α → α → Bool} (O : Ord0 (leOf lt)) {g : FuncId} (hc : Cmp g T lt) {H : SH} {s : Value} {P R : List α} {x : α} {a : Nat} {vi vb : Value} (ha : a = P.length) : ∀ (m : Nat) (W1 W2 xs : List α) (j : Nat), W1.length = m → j = a + m → Sor (leOf lt) (W1 ++ W2) → (∀ w ∈ W2, leOf lt w x = false) → xs = P ++ W1 ++ x :: W2 ++ R → xs.length ≤ 1000000 →
    WC F X (.loop L_slices_insertionSortCmpFunc_api_Rec_1) [(9, .int .i64 j), (1, .int .i64 a), (3, fv g), (0, s), (8, vi), (2, vb)] (SL s T xs :: H)
      (KPost fun y l' H' => y = .exit 2 ∧ l' = [(1, .int .i64 a), (3, fv g), (0, s), (8, vi), (2, vb)] ∧ H' = SL s T (P ++ mrg (leOf lt) (W1 ++ W2) [x] ++ R) :: H) := by
  intro m
  induction m using Nat.strongRecOn with
  | _ m ih =>
    intro W1 W2 xs j hm hj hs hw hxs hL
    refine WC_loop ?_
    refine WC_seq ?_
    refine WC_seq ?_
    refine WC_region ?_
    iterate 4 refine WO_step rfl (S_pure rfl ?_)
    refine WO_cases (t := 21) rfl (fun hg1 => ?_) (fun hg1 => ?_)
    ·
     try simp only [bsT] at hg1
     obtain ⟨m, rfl⟩ : ∃ m', m = m' + 1 := ⟨m - 1, by omega⟩
     obtain ⟨W1, w, rfl⟩ := snoc_of (l := W1) (by omega)
     simp only [List.length_append, List.length_singleton] at hm
     have e1 : xs = (P ++ W1) ++ w :: (x :: W2 ++ R) := by rw [hxs]; simp
     have e2 : xs = (P ++ W1 ++ [w]) ++ x :: (W2 ++ R) := by rw [hxs]; simp
     have hx1 : xs[j - 1]? = some w := by rw [e1]; exact get_mid (by simp; omega)
     have hx2 : xs[j]? = some x := by rw [e2]; exact get_mid (by simp; omega)
     have hl1 := lt_of_get hx1
     have hl2 := lt_of_get hx2
     iterate 3 refine WO_step rfl (S_pure rfl ?_)
     refine WO_step rfl (S_idx rfl rfl rdA (by first | rfl | assumption | (symm; assumption)) (by rfl) (by first | assumption | omega | exact lt_of_get (by assumption) | (simp only [List.length_set]; first | assumption | omega | exact lt_of_get (by assumption))) fun hp25 => ?_)
     refine WO_step rfl (S_loadE rfl rdA (by first | rfl | assumption | (symm; assumption)) (by first | rfl | assumption | (symm; assumption)) (by first | rfl | assumption | (symm; assumption)) (by assumption) ?_)
     iterate 2 refine WO_step rfl (S_pure rfl ?_)
     first | refine WO_step rfl (S_subN (b := 1) rfl rfl (by omega) ?_) | refine WO_step rfl (S_pure rfl ?_)
     refine WO_step rfl (S_idx rfl rfl rdA (by first | rfl | assumption | (symm; assumption)) (by rfl) (by first | assumption | omega | exact lt_of_get (by assumption) | (simp only [List.length_set]; first | assumption | omega | exact lt_of_get (by assumption))) fun hp30 => ?_)
     refine WO_step rfl (S_loadE rfl rdA (by first | rfl | assumption | (symm; assumption)) (by first | rfl | assumption | (symm; assumption)) (by first | rfl | assumption | (symm; assumption)) (by assumption) ?_)
     refine WO_call rfl rfl rfl ?_
     refine (hc _ _ _).mono ?_
     rintro _ _ ⟨rfl, n, rfl, hn⟩
     iterate 2 refine WO_step rfl (S_pure rfl ?_)
     refine WO_nil ?_
     refine KSeq_n ?_
     refine WC_cond rfl (fun hb1 => ?_) (fun hb1 => ?_)
     ·
      try simp only [bsT] at hb1
      refine WC_skip ?_
      refine KSeq_n ?_
      refine WC_seq ?_
      refine WC_block ?_
      refine WC_region ?_
      iterate 4 refine WO_step rfl (S_pure rfl ?_)
      first | refine WO_step rfl (S_subN (b := 1) rfl rfl (by omega) ?_) | refine WO_step rfl (S_pure rfl ?_)
      iterate 2 refine WO_step rfl (S_pure rfl ?_)
      first | refine WO_step rfl (S_subN (b := 1) rfl rfl (by omega) ?_) | refine WO_step rfl (S_pure rfl ?_)
      refine WO_step rfl (S_idx rfl rfl rdA (by first | rfl | assumption | (symm; assumption)) (by rfl) (by first | assumption | omega | exact lt_of_get (by assumption) | (simp only [List.length_set]; first | assumption | omega | exact lt_of_get (by assumption))) fun hp45 => ?_)
      refine WO_step rfl (S_loadE rfl rdA (by first | rfl | assumption | (symm; assumption)) (by first | rfl | assumption | (symm; assumption)) (by first | rfl | assumption | (symm; assumption)) (by assumption) ?_)
      iterate 2 refine WO_step rfl (S_pure rfl ?_)
      refine WO_step rfl (S_idx rfl rfl rdA (by first | rfl | assumption | (symm; assumption)) (by rfl) (by first | assumption | omega | exact lt_of_get (by assumption) | (simp only [List.length_set]; first | assumption | omega | exact lt_of_get (by assumption))) fun hp49 => ?_)
      refine WO_step rfl (S_loadE rfl rdA (by first | rfl | assumption | (symm; assumption)) (by first | rfl | assumption | (symm; assumption)) (by first | rfl | assumption | (symm; assumption)) (by assumption) ?_)
      refine WO_step rfl (S_idx rfl rfl rdA (by first | rfl | assumption | (symm; assumption)) (by rfl) (by first | assumption | omega | exact lt_of_get (by assumption) | (simp only [List.length_set]; first | assumption | omega | exact lt_of_get (by assumption))) fun hp51 => ?_)
      refine WO_step rfl (S_storeW rfl rfl pkA (by first | rfl | assumption | (symm; assumption)) (by rfl) (by first | rfl | assumption | (symm; assumption)) (by first | assumption | omega | exact lt_of_get (by assumption) | (simp only [List.length_set]; first | assumption | omega | exact lt_of_get (by assumption))) ?_)
      refine WO_step rfl (S_idx rfl rfl rdA (by first | rfl | assumption | (symm; assumption)) (by rfl) (by first | assumption | omega | exact lt_of_get (by assumption) | (simp only [List.length_set]; first | assumption | omega | exact lt_of_get (by assumption))) fun hp52 => ?_)
      refine WO_step rfl (S_storeW rfl rfl pkA (by first | rfl | assumption | (symm; assumption)) (by rfl) (by first | rfl | assumption | (symm; assumption)) (by first | assumption | omega | exact lt_of_get (by assumption) | (simp only [List.length_set]; first | assumption | omega | exact lt_of_get (by assumption))) ?_)
      refine WO_nil ?_
      refine KBlock_n ?_
      refine KSeq_n ?_
      refine WC_region ?_
      refine WO_step rfl (S_pure rfl ?_)
      first | refine WO_step rfl (S_subN (b := 1) rfl rfl (by omega) ?_) | refine WO_step rfl (S_pure rfl ?_)
      refine WO_step rfl (S_pure rfl ?_)
      refine WO_nil ?_
      refine KLoop_n ?_
      rw [hn] at hb1
      have hlt : leOf lt w x = false := by simp [leOf, hb1]
      have e3 : (xs.set j w).set (j - 1) x = P ++ W1 ++ x :: (w :: W2) ++ R := by
        rw [e2, set_at (by simp; omega), show (P ++ W1 ++ [w]) ++ w :: (W2 ++ R) = (P ++ W1) ++ w :: (w :: (W2 ++ R)) by simp, set_at (by simp; omega)]; simp
      have hs' : Sor (leOf lt) (W1 ++ (w :: W2)) := by simpa using hs
      have := ih m (by omega) W1 (w :: W2) _ (j - 1) (by omega) (by omega) hs' (by intro z hz; rcases List.mem_cons.1 hz with rfl | hz; exact hlt; exact hw z hz) e3 (by simpa using hL)
      simp only [List.append_assoc, List.singleton_append] at this ⊢
      exact WC_weak this seA hsA
     ·
      try simp only [bsT] at hb1
      refine WC_exit ?_
      refine KSeq_x ?_
      refine KLoop_x ?_
      rw [hn] at hb1
      have hle : leOf lt w x = true := by simp [leOf, hb1]
      have h1 : ∀ u ∈ W1 ++ [w], leOf lt u x = true := by
        intro u hu
        rcases List.mem_append.1 hu with hu | hu
        · have hs1 := ((Sor.app _).1 hs).1
          have := ((Sor.app _).1 hs1).2.2 u hu w (by simp)
          exact O.trans _ _ _ this hle
        · simp at hu; subst hu; exact hle
      rw [hxs, mrg_left _ O _ _ _ h1 hw]; exact KPost_i seA (by simp only [List.append_assoc]; exact hsA) ⟨rfl, rfl, rfl⟩
    ·
     try simp only [bsT] at hg1
     iterate 12 refine WO_off rfl ?_
     refine WO_step rfl (S_pure rfl ?_)
     refine WO_nil ?_
     refine KSeq_n ?_
     refine WC_cond rfl (fun h => ?_) (fun _ => ?_)
     · exact absurd h (by decide)
     refine WC_exit ?_
     refine KSeq_x ?_
     refine KLoop_x ?_
     obtain rfl := nil_of (l := W1) (by omega)
     rw [hxs, mrg_left _ O _ _ _ (fun u hu => by simp at hu) hw]; exact KPost_i seA (by simp only [List.append_assoc]; exact hsA) ⟨rfl, rfl, rfl⟩
theorem lp_ins0 {α : Type} {T : Ty α} (h5 : T.es = 5) (hg : T.agg = true) {lt : α → α → Bool} (O : Ord0 (leOf lt)) {g : FuncId} (hc : Cmp g T lt) {H : SH} {s : Value} {P R : List α} {a b : Nat} (ha : a = P.length) : ∀ (m : Nat) (S1 S2 xs : List α) (i : Nat), S2.length = m → (i = a + S1.length ∨ S2 = [] ∧ a + S1.length ≤ i) → b = a + S1.length + m → xs = P ++ isort (leOf lt) S1 ++ S2 ++ R → xs.length ≤ 1000000 → i ≤ 1000001 →
    WC F X (.loop L_slices_insertionSortCmpFunc_api_Rec_0) [(8, .int .i64 i), (1, .int .i64 a), (2, .int .i64 b), (3, fv g), (0, s)] (SL s T xs :: H)
      (KPost fun y l' H' => y = .exit 0 ∧ l' = [] ∧ H' = SL s T (P ++ isort (leOf lt) (S1 ++ S2) ++ R) :: H) := by
  intro m
  induction m using Nat.strongRecOn with
  | _ m ih =>
    intro S1 S2 xs i hm hi hb hxs hL hi2
    refine WC_loop ?_
    refine WC_seq ?_
    refine WC_seq ?_
    refine WC_region ?_
    iterate 3 refine WO_step rfl (S_pure rfl ?_)
    refine WO_nil ?_
    refine KSeq_n ?_
    refine WC_cond rfl (fun hb1 => ?_) (fun hb1 => ?_)
    ·
     try simp only [bsT] at hb1
     obtain ⟨m, rfl⟩ : ∃ m', m = m' + 1 := ⟨m - 1, by omega⟩
     obtain ⟨x, S2, rfl⟩ := cons_of (l := S2) (by omega)
     have hi' : i = a + S1.length := by
       rcases hi with h | ⟨h, _⟩
       · exact h
       · simp at h
     simp only [List.length_cons] at hm
     refine WC_skip ?_
     refine KSeq_n ?_
     refine WC_seq ?_
     refine WC_block ?_
     refine WC_seq ?_
     refine WC_region ?_
     iterate 2 refine WO_step rfl (S_pure rfl ?_)
     refine WO_nil ?_
     refine KSeq_n ?_
     refine WC_block ?_
     have hil := isort_len (leOf lt) S1
     refine WC_post (WC_weak (lp_ins1 h5 hg O hc (P := P) (R := S2 ++ R) (x := x) (vi := .int .i64 i) (vb := .int .i64 b) ha S1.length (isort (leOf lt) S1) [] xs i hil hi' (by simpa using isort_sor (leOf lt) O S1) (by simp) (by rw [hxs]; simp) hL) seA hsA) ?_
     rintro y l' H' ⟨rfl, rfl, rfl⟩
     rw [List.append_nil]
     refine KBlock_h ?_
     refine KBlock_n ?_
     refine KSeq_n ?_
     refine WC_region ?_
     refine WO_step rfl (S_pure rfl ?_)
     first | refine WO_step rfl (S_addN (b := 1) rfl rfl (by omega) ?_) | refine WO_step rfl (S_pure rfl ?_)
     refine WO_step rfl (S_pure rfl ?_)
     refine WO_nil ?_
     refine KLoop_n ?_
     have e1 : isort (leOf lt) (S1 ++ [x]) = mrg (leOf lt) (isort (leOf lt) S1) [x] := by rw [isort_app _ O]; rfl
     have hl2 : S1.length + 1 + m + a ≤ 1000000 := by rw [hxs] at hL; simp at hL; omega
     have := ih m (by omega) (S1 ++ [x]) S2 (P ++ isort (leOf lt) (S1 ++ [x]) ++ S2 ++ R) (i + 1) (by omega) (.inl (by simp; omega)) (by simp; omega) rfl (by simp [isort_len]; rw [hxs] at hL; simp [hil] at hL; omega) (by omega)
     rw [e1] at this
     simp only [List.append_assoc, List.singleton_append] at this ⊢
     exact WC_weak this seA hsA
    ·
     try simp only [bsT] at hb1
     refine WC_exit ?_
     refine KSeq_x ?_
     refine KLoop_x ?_
     have hz : S2 = [] := by
       rcases hi with h | ⟨h, _⟩
       · exact nil_of (by omega)
       · exact h
     subst hz
     rw [hxs, List.append_nil, List.append_nil]; exact KPost_i seA hsA ⟨rfl, rfl, rfl⟩
theorem sp_ins {α : Type} {T : Ty α} (h5 : T.es = 5) (hg : T.agg = true) {lt : α → α → Bool} (O : Ord0 (leOf lt)) {g : FuncId} (hc : Cmp g T lt) {H : SH} {s : Value} {P S R xs : List α} {a b : Nat} (hxs : xs = P ++ S ++ R) (hL : xs.length ≤ 1000000) (ha : a = P.length) (hb : b = a + S.length) :
    WF F X f_slices_insertionSortCmpFunc_api_Rec [s, .int .i64 a, .int .i64 b, fv g] (SL s T xs :: H) (fun r H' => H' = SL s T (P ++ isort (leOf lt) S ++ R) :: H) := by
  have hlen : P.length + S.length ≤ 1000000 := by rw [hxs] at hL; simp at hL; omega
  refine WF_fn F_slices_insertionSortCmpFunc_api_Rec ?_
  refine WC_seq ?_
  refine WC_region ?_
  refine WO_step rfl (S_pure rfl ?_)
  first | refine WO_step rfl (S_addN (b := 1) rfl rfl (by omega) ?_) | refine WO_step rfl (S_pure rfl ?_)
  refine WO_step rfl (S_pure rfl ?_)
  refine WO_nil ?_
  refine KSeq_n ?_
  refine WC_block ?_
  have h0 : ∃ S1 S2, S = S1 ++ S2 ∧ isort (leOf lt) S1 = S1 ∧ (a + 1 = a + S1.length ∨ S2 = [] ∧ a + S1.length ≤ a + 1) := by
    cases S with
    | nil => exact ⟨[], [], rfl, rfl, .inr ⟨rfl, by simp⟩⟩
    | cons x S => exact ⟨[x], S, rfl, rfl, .inl rfl⟩
  obtain ⟨S1, S2, rfl, h1, h2⟩ := h0
  refine WC_post (WC_weak (lp_ins0 h5 hg O hc (P := P) (R := R) (b := b) ha S2.length S1 S2 xs (a + 1) rfl h2 (by rw [List.length_append] at hb; omega) (by rw [hxs, h1]; simp) hL (by omega)) seA hsA) ?_
  rintro y l' H' ⟨rfl, rfl, rfl⟩
  refine KBlock_h ?_
  refine KFn_n ResL.nil ?_
  exact ⟨_, hsA, rfl⟩
/-! ### The library's stable sort, second part -/
theorem lp_sym0 {α : Type} {T : Ty α} (h5 : T.es = 5) (hg : T.agg = true) {lt : α → α → Bool} {g : FuncId} (hc : Cmp g T lt) {H : SH} {s : Value} {xs : List α} {u : α} {a m b : Nat} {v2 v3 : Value} (hb : b ≤ xs.length) (hL : xs.length ≤ 1000000) (hu : xs[a]? = some u) : ∀ (k i j : Nat), j - i ≤ k → m ≤ i → i ≤ j → j ≤ b → (i = m ∨ ∃ y, xs[i - 1]? = some y ∧ lt y u = true) → (j = b ∨ ∃ y, xs[j]? = some y ∧ lt y u = false) →
    WC F X (.loop L_slices_symMergeCmpFunc_api_Rec_0) [(10, .int .i64 i), (11, .int .i64 j), (0, s), (1, .int .i64 a), (4, fv g), (2, v2), (3, v3)] (SL s T xs :: H)
      (KPost fun x l' H' => ∃ i : Nat, x = .exit 0 ∧ l' = [(10, .int .i64 i), (0, s), (1, .int .i64 a), (4, fv g), (2, v2), (3, v3)] ∧ H' = SL s T xs :: H ∧ m ≤ i ∧ i ≤ b ∧ (i = m ∨ ∃ y, xs[i - 1]? = some y ∧ lt y u = true) ∧ (i = b ∨ ∃ y, xs[i]? = some y ∧ lt y u = false)) := by
  intro k
  induction k using Nat.strongRecOn with
  | _ k ih =>
    intro i j hk hmi hij hjb h1 h2
    refine WC_loop ?_
    refine WC_seq ?_
    refine WC_seq ?_
    refine WC_region ?_
    iterate 3 refine WO_step rfl (S_pure rfl ?_)
    refine WO_nil ?_
    refine KSeq_n ?_
    refine WC_cond rfl (fun hb1 => ?_) (fun hb1 => ?_)
    ·
     try simp only [bsT] at hb1
     obtain ⟨y, hy⟩ := get_of_lt (l := xs) (a := (i + j) / 2) (by omega)
     have hl1 := lt_of_get hu
     refine WC_skip ?_
     refine KSeq_n ?_
     refine WC_block ?_
     refine WC_seq ?_
     refine WC_region ?_
     iterate 2 refine WO_step rfl (S_pure rfl ?_)
     first | refine WO_step rfl (S_addN rfl rfl (by omega) ?_) | refine WO_step rfl (S_pure rfl ?_)
     first | refine WO_step rfl (S_toU rfl (by omega) ?_) | refine WO_step rfl (S_pure rfl ?_)
     first | refine WO_step rfl (S_half rfl (by omega) ?_) | refine WO_step rfl (S_pure rfl ?_)
     first | refine WO_step rfl (S_toI rfl (by omega) ?_) | refine WO_step rfl (S_pure rfl ?_)
     refine WO_step rfl (S_pure rfl ?_)
     refine WO_nil ?_
     refine KSeq_n ?_
     refine WC_seq ?_
     refine WC_region ?_
     iterate 3 refine WO_step rfl (S_pure rfl ?_)
     refine WO_step rfl (S_idx rfl rfl rdA (by first | rfl | assumption | (symm; assumption)) (by rfl) (by first | assumption | omega | exact lt_of_get (by assumption) | (simp only [List.length_set]; first | assumption | omega | exact lt_of_get (by assumption))) fun hp43 => ?_)
     refine WO_step rfl (S_loadE rfl rdA (by first | rfl | assumption | (symm; assumption)) (by first | rfl | assumption | (symm; assumption)) (by first | rfl | assumption | (symm; assumption)) (by assumption) ?_)
     iterate 2 refine WO_step rfl (S_pure rfl ?_)
     refine WO_step rfl (S_idx rfl rfl rdA (by first | rfl | assumption | (symm; assumption)) (by rfl) (by first | assumption | omega | exact lt_of_get (by assumption) | (simp only [List.length_set]; first | assumption | omega | exact lt_of_get (by assumption))) fun hp47 => ?_)
     refine WO_step rfl (S_loadE rfl rdA (by first | rfl | assumption | (symm; assumption)) (by first | rfl | assumption | (symm; assumption)) (by first | rfl | assumption | (symm; assumption)) (by assumption) ?_)
     refine WO_call rfl rfl rfl ?_
     refine (hc _ _ _).mono ?_
     rintro _ _ ⟨rfl, n, rfl, hn⟩
     refine WO_step rfl (S_pure rfl ?_)
     refine WO_nil ?_
     refine KSeq_n ?_
     refine WC_cond rfl (fun hb2 => ?_) (fun hb2 => ?_)
     ·
      try simp only [bsT] at hb2
      refine WC_region ?_
      refine WO_step rfl (S_pure rfl ?_)
      first | refine WO_step rfl (S_addN (b := 1) rfl rfl (by omega) ?_) | refine WO_step rfl (S_pure rfl ?_)
      refine WO_step rfl (S_pure rfl ?_)
      refine WO_nil ?_
      refine KBlock_n ?_
      refine KLoop_n ?_
      rw [hn] at hb2
      exact WC_weak (ih (j - ((i + j) / 2 + 1)) (by omega) ((i + j) / 2 + 1) j (by omega) (by omega) (by omega) hjb (.inr ⟨y, hy, hb2⟩) h2) seA hsA
     ·
      try simp only [bsT] at hb2
      refine WC_region ?_
      iterate 2 refine WO_step rfl (S_pure rfl ?_)
      refine WO_nil ?_
      refine KBlock_n ?_
      refine KLoop_n ?_
      rw [hn] at hb2
      exact WC_weak (ih ((i + j) / 2 - i) (by omega) i ((i + j) / 2) (by omega) (by omega) (by omega) (by omega) h1 (.inr ⟨y, hy, by simpa using hb2⟩)) seA hsA
    ·
     try simp only [bsT] at hb1
     refine WC_exit ?_
     refine KSeq_x ?_
     refine KLoop_x ?_
     obtain rfl : i = j := by omega
     exact KPost_i (l' := [(10, .int .i64 i), (0, s), (1, .int .i64 a), (4, fv g), (2, v2), (3, v3)]) (H' := SL s T xs :: H) seA hsA ⟨i, rfl, rfl, rfl, hmi, hjb, h1, h2⟩
theorem lp_sym1 {α : Type} {T : Ty α} (h5 : T.es = 5) (hg : T.agg = true) {H : SH} {s : Value} {P R : List α} {u : α} {i : Nat} : ∀ (n : Nat) (A B xs : List α) (k : Nat), B.length = n → k = P.length + A.length → i = k + n + 1 → xs = P ++ A ++ u :: B ++ R → xs.length ≤ 1000000 →
    WC F X (.loop L_slices_symMergeCmpFunc_api_Rec_1) [(13, .int .i64 k), (10, .int .i64 i), (0, s)] (SL s T xs :: H)
      (KPost fun x l' H' => x = .exit 2 ∧ l' = [] ∧ H' = SL s T (P ++ (A ++ B) ++ u :: R) :: H) := by
  intro n
  induction n using Nat.strongRecOn with
  | _ n ih =>
    intro A B xs k hn hk hi hxs hL
    have hlen : P.length + A.length + n + 1 ≤ 1000000 := by rw [hxs] at hL; simp at hL; omega
    refine WC_loop ?_
    refine WC_seq ?_
    refine WC_seq ?_
    refine WC_region ?_
    iterate 2 refine WO_step rfl (S_pure rfl ?_)
    first | refine WO_step rfl (S_subN (b := 1) rfl rfl (by omega) ?_) | refine WO_step rfl (S_pure rfl ?_)
    refine WO_step rfl (S_pure rfl ?_)
    refine WO_nil ?_
    refine KSeq_n ?_
    refine WC_cond rfl (fun hb1 => ?_) (fun hb1 => ?_)
    ·
     try simp only [bsT] at hb1
     obtain ⟨n, rfl⟩ : ∃ m', n = m' + 1 := ⟨n - 1, by omega⟩
     obtain ⟨v, B, rfl⟩ := cons_of (l := B) (by omega)
     simp only [List.length_cons] at hn
     have e1 : xs = (P ++ A) ++ u :: (v :: B ++ R) := by rw [hxs]; simp
     have e2 : xs = (P ++ A ++ [u]) ++ v :: (B ++ R) := by rw [hxs]; simp
     have hx1 : xs[k]? = some u := by rw [e1]; exact get_mid (by simp; omega)
     have hx2 : xs[k + 1]? = some v := by rw [e2]; exact get_mid (by simp; omega)
     have e3 : (xs.set k v).set (k + 1) u = P ++ (A ++ [v]) ++ u :: B ++ R := by
       rw [e1, set_at (by simp; omega), show (P ++ A) ++ v :: (v :: B ++ R) = (P ++ A ++ [v]) ++ v :: (B ++ R) by simp, set_at (by simp; omega)]; simp
     have hl1 := lt_of_get hx1
     have hl2 := lt_of_get hx2
     refine WC_skip ?_
     refine KSeq_n ?_
     refine WC_seq ?_
     refine WC_block ?_
     refine WC_region ?_
     iterate 4 refine WO_step rfl (S_pure rfl ?_)
     first | refine WO_step rfl (S_addN (b := 1) rfl rfl (by omega) ?_) | refine WO_step rfl (S_pure rfl ?_)
     iterate 2 refine WO_step rfl (S_pure rfl ?_)
     first | refine WO_step rfl (S_addN (b := 1) rfl rfl (by omega) ?_) | refine WO_step rfl (S_pure rfl ?_)
     refine WO_step rfl (S_idx rfl rfl rdA (by first | rfl | assumption | (symm; assumption)) (by rfl) (by first | assumption | omega | exact lt_of_get (by assumption) | (simp only [List.length_set]; first | assumption | omega | exact lt_of_get (by assumption))) fun hp69 => ?_)
     refine WO_step rfl (S_loadE rfl rdA (by first | rfl | assumption | (symm; assumption)) (by first | rfl | assumption | (symm; assumption)) (by first | rfl | assumption | (symm; assumption)) (by assumption) ?_)
     iterate 2 refine WO_step rfl (S_pure rfl ?_)
     refine WO_step rfl (S_idx rfl rfl rdA (by first | rfl | assumption | (symm; assumption)) (by rfl) (by first | assumption | omega | exact lt_of_get (by assumption) | (simp only [List.length_set]; first | assumption | omega | exact lt_of_get (by assumption))) fun hp73 => ?_)
     refine WO_step rfl (S_loadE rfl rdA (by first | rfl | assumption | (symm; assumption)) (by first | rfl | assumption | (symm; assumption)) (by first | rfl | assumption | (symm; assumption)) (by assumption) ?_)
     refine WO_step rfl (S_idx rfl rfl rdA (by first | rfl | assumption | (symm; assumption)) (by rfl) (by first | assumption | omega | exact lt_of_get (by assumption) | (simp only [List.length_set]; first | assumption | omega | exact lt_of_get (by assumption))) fun hp75 => ?_)
     refine WO_step rfl (S_storeW rfl rfl pkA (by first | rfl | assumption | (symm; assumption)) (by rfl) (by first | rfl | assumption | (symm; assumption)) (by first | assumption | omega | exact lt_of_get (by assumption) | (simp only [List.length_set]; first | assumption | omega | exact lt_of_get (by assumption))) ?_)
     refine WO_step rfl (S_idx rfl rfl rdA (by first | rfl | assumption | (symm; assumption)) (by rfl) (by first | assumption | omega | exact lt_of_get (by assumption) | (simp only [List.length_set]; first | assumption | omega | exact lt_of_get (by assumption))) fun hp76 => ?_)
     refine WO_step rfl (S_storeW rfl rfl pkA (by first | rfl | assumption | (symm; assumption)) (by rfl) (by first | rfl | assumption | (symm; assumption)) (by first | assumption | omega | exact lt_of_get (by assumption) | (simp only [List.length_set]; first | assumption | omega | exact lt_of_get (by assumption))) ?_)
     refine WO_nil ?_
     refine KBlock_n ?_
     refine KSeq_n ?_
     refine WC_region ?_
     refine WO_step rfl (S_pure rfl ?_)
     first | refine WO_step rfl (S_addN (b := 1) rfl rfl (by omega) ?_) | refine WO_step rfl (S_pure rfl ?_)
     refine WO_step rfl (S_pure rfl ?_)
     refine WO_nil ?_
     refine KLoop_n ?_
     have := ih n (by omega) (A ++ [v]) B _ (k + 1) (by omega) (by simp; omega) (by omega) e3 (by simpa using hL)
     simp only [List.append_assoc, List.singleton_append] at this ⊢
     exact WC_weak this seA hsA
    ·
     try simp only [bsT] at hb1
     refine WC_exit ?_
     refine KSeq_x ?_
     refine KLoop_x ?_
     obtain rfl := nil_of (l := B) (by omega)
     rw [hxs]; exact KPost_i seA (by simp only [List.append_assoc, List.append_nil, List.cons_append, List.nil_append]; exact hsA) ⟨rfl, rfl, rfl⟩
theorem lp_sym2 {α : Type} {T : Ty α} (h5 : T.es = 5) (hg : T.agg = true) {lt : α → α → Bool} {g : FuncId} (hc : Cmp g T lt) {H : SH} {s : Value} {xs : List α} {v : α} {a m : Nat} {v1 v3 : Value} (hb : m ≤ xs.length) (hL : xs.length ≤ 1000000) (hv : xs[m]? = some v) : ∀ (k i j : Nat), j - i ≤ k → a ≤ i → i ≤ j → j ≤ m → (i = a ∨ ∃ y, xs[i - 1]? = some y ∧ lt v y = false) → (j = m ∨ ∃ y, xs[j]? = some y ∧ lt v y = true) →
    WC F X (.loop L_slices_symMergeCmpFunc_api_Rec_2) [(14, .int .i64 i), (15, .int .i64 j), (0, s), (2, .int .i64 m), (4, fv g), (1, v1), (3, v3)] (SL s T xs :: H)
      (KPost fun x l' H' => ∃ i : Nat, x = .exit 4 ∧ l' = [(14, .int .i64 i), (0, s), (2, .int .i64 m), (4, fv g), (1, v1), (3, v3)] ∧ H' = SL s T xs :: H ∧ a ≤ i ∧ i ≤ m ∧ (i = a ∨ ∃ y, xs[i - 1]? = some y ∧ lt v y = false) ∧ (i = m ∨ ∃ y, xs[i]? = some y ∧ lt v y = true)) := by
  intro k
  induction k using Nat.strongRecOn with
  | _ k ih =>
    intro i j hk hmi hij hjb h1 h2
    refine WC_loop ?_
    refine WC_seq ?_
    refine WC_seq ?_
    refine WC_region ?_
    iterate 3 refine WO_step rfl (S_pure rfl ?_)
    refine WO_nil ?_
    refine KSeq_n ?_
    refine WC_cond rfl (fun hb1 => ?_) (fun hb1 => ?_)
    ·
     try simp only [bsT] at hb1
     obtain ⟨y, hy⟩ := get_of_lt (l := xs) (a := (i + j) / 2) (by omega)
     have hl1 := lt_of_get hv
     refine WC_skip ?_
     refine KSeq_n ?_
     refine WC_block ?_
     refine WC_seq ?_
     refine WC_region ?_
     iterate 2 refine WO_step rfl (S_pure rfl ?_)
     first | refine WO_step rfl (S_addN rfl rfl (by omega) ?_) | refine WO_step rfl (S_pure rfl ?_)
     first | refine WO_step rfl (S_toU rfl (by omega) ?_) | refine WO_step rfl (S_pure rfl ?_)
     first | refine WO_step rfl (S_half rfl (by omega) ?_) | refine WO_step rfl (S_pure rfl ?_)
     first | refine WO_step rfl (S_toI rfl (by omega) ?_) | refine WO_step rfl (S_pure rfl ?_)
     refine WO_step rfl (S_pure rfl ?_)
     refine WO_nil ?_
     refine KSeq_n ?_
     refine WC_seq ?_
     refine WC_region ?_
     iterate 3 refine WO_step rfl (S_pure rfl ?_)
     refine WO_step rfl (S_idx rfl rfl rdA (by first | rfl | assumption | (symm; assumption)) (by rfl) (by first | assumption | omega | exact lt_of_get (by assumption) | (simp only [List.length_set]; first | assumption | omega | exact lt_of_get (by assumption))) fun hp95 => ?_)
     refine WO_step rfl (S_loadE rfl rdA (by first | rfl | assumption | (symm; assumption)) (by first | rfl | assumption | (symm; assumption)) (by first | rfl | assumption | (symm; assumption)) (by assumption) ?_)
     iterate 2 refine WO_step rfl (S_pure rfl ?_)
     refine WO_step rfl (S_idx rfl rfl rdA (by first | rfl | assumption | (symm; assumption)) (by rfl) (by first | assumption | omega | exact lt_of_get (by assumption) | (simp only [List.length_set]; first | assumption | omega | exact lt_of_get (by assumption))) fun hp99 => ?_)
     refine WO_step rfl (S_loadE rfl rdA (by first | rfl | assumption | (symm; assumption)) (by first | rfl | assumption | (symm; assumption)) (by first | rfl | assumption | (symm; assumption)) (by assumption) ?_)
     refine WO_call rfl rfl rfl ?_
     refine (hc _ _ _).mono ?_
     rintro _ _ ⟨rfl, n, rfl, hn⟩
     iterate 2 refine WO_step rfl (S_pure rfl ?_)
     refine WO_nil ?_
     refine KSeq_n ?_
     refine WC_cond rfl (fun hb2 => ?_) (fun hb2 => ?_)
     ·
      try simp only [bsT] at hb2
      refine WC_region ?_
      refine WO_step rfl (S_pure rfl ?_)
      first | refine WO_step rfl (S_addN (b := 1) rfl rfl (by omega) ?_) | refine WO_step rfl (S_pure rfl ?_)
      refine WO_step rfl (S_pure rfl ?_)
      refine WO_nil ?_
      refine KBlock_n ?_
      refine KLoop_n ?_
      rw [hn] at hb2
      exact WC_weak (ih (j - ((i + j) / 2 + 1)) (by omega) ((i + j) / 2 + 1) j (by omega) (by omega) (by omega) hjb (.inr ⟨y, hy, by simpa using hb2⟩) h2) seA hsA
     ·
      try simp only [bsT] at hb2
      refine WC_region ?_
      iterate 2 refine WO_step rfl (S_pure rfl ?_)
      refine WO_nil ?_
      refine KBlock_n ?_
      refine KLoop_n ?_
      rw [hn] at hb2
      exact WC_weak (ih ((i + j) / 2 - i) (by omega) i ((i + j) / 2) (by omega) (by omega) (by omega) (by omega) h1 (.inr ⟨y, hy, by simpa using hb2⟩)) seA hsA
    ·
     try simp only [bsT] at hb1
     refine WC_exit ?_
     refine KSeq_x ?_
     refine KLoop_x ?_
     obtain rfl : i = j := by omega
     exact KPost_i (l' := [(14, .int .i64 i), (0, s), (2, .int .i64 m), (4, fv g), (1, v1), (3, v3)]) (H' := SL s T xs :: H) seA hsA ⟨i, rfl, rfl, rfl, hmi, hjb, h1, h2⟩
theorem lp_sym3 {α : Type} {T : Ty α} (h5 : T.es = 5) (hg : T.agg = true) {H : SH} {s : Value} {P R : List α} {v : α} {i : Nat} (hi : i = P.length) : ∀ (n : Nat) (A B xs : List α) (k : Nat), A.length = n → k = i + n → xs = P ++ A ++ v :: B ++ R → xs.length ≤ 1000000 →
    WC F X (.loop L_slices_symMergeCmpFunc_api_Rec_3) [(17, .int .i64 k), (14, .int .i64 i), (0, s)] (SL s T xs :: H)
      (KPost fun x l' H' => x = .exit 6 ∧ l' = [] ∧ H' = SL s T (P ++ v :: (A ++ B) ++ R) :: H) := by
  intro n
  induction n using Nat.strongRecOn with
  | _ n ih =>
    intro A B xs k hn hk hxs hL
    have hlen : P.length + n + 1 ≤ 1000000 := by rw [hxs] at hL; simp at hL; omega
    refine WC_loop ?_
    refine WC_seq ?_
    refine WC_seq ?_
    refine WC_region ?_
    iterate 3 refine WO_step rfl (S_pure rfl ?_)
    refine WO_nil ?_
    refine KSeq_n ?_
    refine WC_cond rfl (fun hb1 => ?_) (fun hb1 => ?_)
    ·
     try simp only [bsT] at hb1
     obtain ⟨n, rfl⟩ : ∃ m', n = m' + 1 := ⟨n - 1, by omega⟩
     obtain ⟨A, w, rfl⟩ := snoc_of (l := A) (by omega)
     simp only [List.length_append, List.length_singleton] at hn
     have e1 : xs = (P ++ A) ++ w :: (v :: B ++ R) := by rw [hxs]; simp
     have e2 : xs = (P ++ A ++ [w]) ++ v :: (B ++ R) := by rw [hxs]; simp
     have hx1 : xs[k - 1]? = some w := by rw [e1]; exact get_mid (by simp; omega)
     have hx2 : xs[k]? = some v := by rw [e2]; exact get_mid (by simp; omega)
     have e3 : (xs.set k w).set (k - 1) v = P ++ A ++ v :: (w :: B) ++ R := by
       rw [e2, set_at (by simp; omega), show (P ++ A ++ [w]) ++ w :: (B ++ R) = (P ++ A) ++ w :: (w :: (B ++ R)) by simp, set_at (by simp; omega)]; simp
     have hl1 := lt_of_get hx1
     have hl2 := lt_of_get hx2
     refine WC_skip ?_
     refine KSeq_n ?_
     refine WC_seq ?_
     refine WC_block ?_
     refine WC_region ?_
     iterate 4 refine WO_step rfl (S_pure rfl ?_)
     first | refine WO_step rfl (S_subN (b := 1) rfl rfl (by omega) ?_) | refine WO_step rfl (S_pure rfl ?_)
     iterate 2 refine WO_step rfl (S_pure rfl ?_)
     first | refine WO_step rfl (S_subN (b := 1) rfl rfl (by omega) ?_) | refine WO_step rfl (S_pure rfl ?_)
     refine WO_step rfl (S_idx rfl rfl rdA (by first | rfl | assumption | (symm; assumption)) (by rfl) (by first | assumption | omega | exact lt_of_get (by assumption) | (simp only [List.length_set]; first | assumption | omega | exact lt_of_get (by assumption))) fun hp121 => ?_)
     refine WO_step rfl (S_loadE rfl rdA (by first | rfl | assumption | (symm; assumption)) (by first | rfl | assumption | (symm; assumption)) (by first | rfl | assumption | (symm; assumption)) (by assumption) ?_)
     iterate 2 refine WO_step rfl (S_pure rfl ?_)
     refine WO_step rfl (S_idx rfl rfl rdA (by first | rfl | assumption | (symm; assumption)) (by rfl) (by first | assumption | omega | exact lt_of_get (by assumption) | (simp only [List.length_set]; first | assumption | omega | exact lt_of_get (by assumption))) fun hp125 => ?_)
     refine WO_step rfl (S_loadE rfl rdA (by first | rfl | assumption | (symm; assumption)) (by first | rfl | assumption | (symm; assumption)) (by first | rfl | assumption | (symm; assumption)) (by assumption) ?_)
     refine WO_step rfl (S_idx rfl rfl rdA (by first | rfl | assumption | (symm; assumption)) (by rfl) (by first | assumption | omega | exact lt_of_get (by assumption) | (simp only [List.length_set]; first | assumption | omega | exact lt_of_get (by assumption))) fun hp127 => ?_)
     refine WO_step rfl (S_storeW rfl rfl pkA (by first | rfl | assumption | (symm; assumption)) (by rfl) (by first | rfl | assumption | (symm; assumption)) (by first | assumption | omega | exact lt_of_get (by assumption) | (simp only [List.length_set]; first | assumption | omega | exact lt_of_get (by assumption))) ?_)
     refine WO_step rfl (S_idx rfl rfl rdA (by first | rfl | assumption | (symm; assumption)) (by rfl) (by first | assumption | omega | exact lt_of_get (by assumption) | (simp only [List.length_set]; first | assumption | omega | exact lt_of_get (by assumption))) fun hp128 => ?_)
     refine WO_step rfl (S_storeW rfl rfl pkA (by first | rfl | assumption | (symm; assumption)) (by rfl) (by first | rfl | assumption | (symm; assumption)) (by first | assumption | omega | exact lt_of_get (by assumption) | (simp only [List.length_set]; first | assumption | omega | exact lt_of_get (by assumption))) ?_)
     refine WO_nil ?_
     refine KBlock_n ?_
     refine KSeq_n ?_
     refine WC_region ?_
     refine WO_step rfl (S_pure rfl ?_)
     first | refine WO_step rfl (S_subN (b := 1) rfl rfl (by omega) ?_) | refine WO_step rfl (S_pure rfl ?_)
     refine WO_step rfl (S_pure rfl ?_)
     refine WO_nil ?_
     refine KLoop_n ?_
     have := ih n (by omega) A (w :: B) _ (k - 1) (by omega) (by omega) e3 (by simpa using hL)
     simp only [List.append_assoc, List.singleton_append, List.cons_append, List.nil_append] at this ⊢
     exact WC_weak this seA hsA
    ·
     try simp only [bsT] at hb1
     refine WC_exit ?_
     refine KSeq_x ?_
     refine KLoop_x ?_
     obtain rfl := nil_of (l := A) (by omega)
     rw [hxs]; exact KPost_i seA (by simp only [List.append_assoc, List.append_nil, List.cons_append, List.nil_append]; exact hsA) ⟨rfl, rfl, rfl⟩
theorem lp_sym4 {α : Type} {T : Ty α} (h5 : T.es = 5) (hg : T.agg = true) {lt : α → α → Bool} {g : FuncId} (hc : Cmp g T lt) {H : SH} {s : Value} {xs : List α} {p lo hi b : Nat} {v1 v2 v3 v18 v19 : Value} (hb : b ≤ xs.length) (hL : xs.length ≤ 1000000) (hhi : hi ≤ p + 1) (hhi2 : hi ≤ xs.length) (hlo : p < b + lo) (hp : p ≤ 2000000) : ∀ (k i j : Nat), j - i ≤ k → lo ≤ i → i ≤ j → j ≤ hi → (i = lo ∨ ∃ x y, xs[p - (i - 1)]? = some x ∧ xs[i - 1]? = some y ∧ lt x y = false) → (j = hi ∨ ∃ x y, xs[p - j]? = some x ∧ xs[j]? = some y ∧ lt x y = true) →
    WC F X (.loop L_slices_symMergeCmpFunc_api_Rec_4) [(20, .int .i64 i), (21, .int .i64 j), (22, .int .i64 p), (0, s), (4, fv g), (1, v1), (2, v2), (3, v3), (18, v18), (19, v19)] (SL s T xs :: H)
      (KPost fun x l' H' => ∃ i : Nat, x = .exit 8 ∧ l' = [(20, .int .i64 i), (0, s), (4, fv g), (1, v1), (2, v2), (3, v3), (18, v18), (19, v19)] ∧ H' = SL s T xs :: H ∧ lo ≤ i ∧ i ≤ hi ∧ (i = lo ∨ ∃ x y, xs[p - (i - 1)]? = some x ∧ xs[i - 1]? = some y ∧ lt x y = false) ∧ (i = hi ∨ ∃ x y, xs[p - i]? = some x ∧ xs[i]? = some y ∧ lt x y = true)) := by
  intro k
  induction k using Nat.strongRecOn with
  | _ k ih =>
    intro i j hk hmi hij hjb h1 h2
    refine WC_loop ?_
    refine WC_seq ?_
    refine WC_seq ?_
    refine WC_region ?_
    iterate 3 refine WO_step rfl (S_pure rfl ?_)
    refine WO_nil ?_
    refine KSeq_n ?_
    refine WC_cond rfl (fun hb1 => ?_) (fun hb1 => ?_)
    ·
     try simp only [bsT] at hb1
     obtain ⟨y, hy⟩ := get_of_lt (l := xs) (a := (i + j) / 2) (by omega)
     obtain ⟨x, hx⟩ := get_of_lt (l := xs) (a := p - (i + j) / 2) (by omega)
     refine WC_skip ?_
     refine KSeq_n ?_
     refine WC_block ?_
     refine WC_seq ?_
     refine WC_region ?_
     iterate 2 refine WO_step rfl (S_pure rfl ?_)
     first | refine WO_step rfl (S_addN rfl rfl (by omega) ?_) | refine WO_step rfl (S_pure rfl ?_)
     first | refine WO_step rfl (S_toU rfl (by omega) ?_) | refine WO_step rfl (S_pure rfl ?_)
     first | refine WO_step rfl (S_half rfl (by omega) ?_) | refine WO_step rfl (S_pure rfl ?_)
     first | refine WO_step rfl (S_toI rfl (by omega) ?_) | refine WO_step rfl (S_pure rfl ?_)
     refine WO_step rfl (S_pure rfl ?_)
     refine WO_nil ?_
     refine KSeq_n ?_
     refine WC_seq ?_
     refine WC_region ?_
     iterate 4 refine WO_step rfl (S_pure rfl ?_)
     first | refine WO_step rfl (S_subN rfl rfl (by omega) ?_) | refine WO_step rfl (S_pure rfl ?_)
     refine WO_step rfl (S_idx rfl rfl rdA (by first | rfl | assumption | (symm; assumption)) (by rfl) (by first | assumption | omega | exact lt_of_get (by assumption) | (simp only [List.length_set]; first | assumption | omega | exact lt_of_get (by assumption))) fun hp163 => ?_)
     refine WO_step rfl (S_loadE rfl rdA (by first | rfl | assumption | (symm; assumption)) (by first | rfl | assumption | (symm; assumption)) (by first | rfl | assumption | (symm; assumption)) (by assumption) ?_)
     iterate 2 refine WO_step rfl (S_pure rfl ?_)
     refine WO_step rfl (S_idx rfl rfl rdA (by first | rfl | assumption | (symm; assumption)) (by rfl) (by first | assumption | omega | exact lt_of_get (by assumption) | (simp only [List.length_set]; first | assumption | omega | exact lt_of_get (by assumption))) fun hp167 => ?_)
     refine WO_step rfl (S_loadE rfl rdA (by first | rfl | assumption | (symm; assumption)) (by first | rfl | assumption | (symm; assumption)) (by first | rfl | assumption | (symm; assumption)) (by assumption) ?_)
     refine WO_call rfl rfl rfl ?_
     refine (hc _ _ _).mono ?_
     rintro _ _ ⟨rfl, n, rfl, hn⟩
     iterate 2 refine WO_step rfl (S_pure rfl ?_)
     refine WO_nil ?_
     refine KSeq_n ?_
     refine WC_cond rfl (fun hb2 => ?_) (fun hb2 => ?_)
     ·
      try simp only [bsT] at hb2
      refine WC_region ?_
      refine WO_step rfl (S_pure rfl ?_)
      first | refine WO_step rfl (S_addN (b := 1) rfl rfl (by omega) ?_) | refine WO_step rfl (S_pure rfl ?_)
      refine WO_step rfl (S_pure rfl ?_)
      refine WO_nil ?_
      refine KBlock_n ?_
      refine KLoop_n ?_
      rw [hn] at hb2
      exact WC_weak (ih (j - ((i + j) / 2 + 1)) (by omega) ((i + j) / 2 + 1) j (by omega) (by omega) (by omega) hjb (.inr ⟨x, y, hx, hy, by simpa using hb2⟩) h2) seA hsA
     ·
      try simp only [bsT] at hb2
      refine WC_region ?_
      iterate 2 refine WO_step rfl (S_pure rfl ?_)
      refine WO_nil ?_
      refine KBlock_n ?_
      refine KLoop_n ?_
      rw [hn] at hb2
      exact WC_weak (ih ((i + j) / 2 - i) (by omega) i ((i + j) / 2) (by omega) (by omega) (by omega) (by omega) h1 (.inr ⟨x, y, hx, hy, by simpa using hb2⟩)) seA hsA
    ·
     try simp only [bsT] at hb1
     refine WC_exit ?_
     refine KSeq_x ?_
     refine KLoop_x ?_
     obtain rfl : i = j := by omega
     exact KPost_i (l' := [(20, .int .i64 i), (0, s), (4, fv g), (1, v1), (2, v2), (3, v3), (18, v18), (19, v19)]) (H' := SL s T xs :: H) seA hsA ⟨i, rfl, rfl, rfl, hmi, hjb, h1, h2⟩
theorem get_seg {α : Type} {A B C : List α} {i k : Nat} (hi : i = A.length + k) (hk : k < B.length) : (A ++ B ++ C)[i]? = B[k]? := by
  subst hi
  rw [List.append_assoc, List.getElem?_append_right (by omega), Nat.add_sub_cancel_left, List.getElem?_append_left hk]
theorem Ord0.refl {α : Type} {le : α → α → Bool} (O : Ord0 le) (a : α) : le a a = true := (O.tot a a).elim id id
theorem Sor.le {α : Type} {le : α → α → Bool} (O : Ord0 le) {l : List α} (h : Sor le l) {i j : Nat} (hij : i ≤ j) {x y : α} (hx : l[i]? = some x) (hy : l[j]? = some y) : le x y = true := by
  rcases Nat.lt_or_eq_of_le hij with h1 | h1
  · exact h.get _ h1 hx hy
  · subst h1; rw [hx] at hy; cases hy; exact O.refl x
theorem mem_take {α : Type} {l : List α} {p : Nat} {x : α} (h : x ∈ l.take p) : ∃ k, k < p ∧ l[k]? = some x := by
  obtain ⟨k, hk⟩ := List.getElem?_of_mem h
  have := (List.getElem?_eq_some_iff.1 hk).1
  rw [List.length_take] at this
  rw [List.getElem?_take, if_pos (by omega)] at hk
  exact ⟨k, by omega, hk⟩
theorem mem_drop {α : Type} {l : List α} {p : Nat} {x : α} (h : x ∈ l.drop p) : ∃ k, p ≤ k ∧ l[k]? = some x := by
  obtain ⟨k, hk⟩ := List.getElem?_of_mem h
  rw [List.getElem?_drop] at hk
  exact ⟨p + k, by omega, hk⟩
theorem split_both {α : Type} {le : α → α → Bool} (O : Ord0 le) {U V : List α} (hU : Sor le U) (hV : Sor le V) {p q : Nat} (h1 : p = 0 ∨ q = V.length ∨ ∃ x y, V[q]? = some x ∧ U[p - 1]? = some y ∧ le y x = true) (h2 : p = U.length ∨ q = 0 ∨ ∃ x y, V[q - 1]? = some x ∧ U[p]? = some y ∧ le y x = false) :
    mrg le U V = mrg le (U.take p) (V.take q) ++ mrg le (U.drop p) (V.drop q) := by
  rw [← mrg_split le (U.take p) (V.take q) (U.drop p) (V.drop q), List.take_append_drop, List.take_append_drop]
  · intro u hu v hv
    obtain ⟨i, hi, hu⟩ := mem_drop hu
    obtain ⟨j, hj, hv⟩ := mem_take hv
    rcases h2 with h2 | h2 | ⟨x, y, hx, hy, h⟩
    · have := (List.getElem?_eq_some_iff.1 hu).1; omega
    · omega
    · have e1 := hU.le O hi hy hu
      have e2 := hV.le O (by omega : j ≤ q - 1) hv hx
      cases hc : le u v with
      | false => rfl
      | true => rw [O.trans _ _ _ (O.trans _ _ _ e1 hc) e2] at h; cases h
  · intro u hu v hv
    obtain ⟨i, hi, hu⟩ := mem_take hu
    obtain ⟨j, hj, hv⟩ := mem_drop hv
    rcases h1 with h1 | h1 | ⟨x, y, hx, hy, h⟩
    · omega
    · have := (List.getElem?_eq_some_iff.1 hv).1; omega
    · exact O.trans _ _ _ (hU.le O (by omega : i ≤ p - 1) hu hy) (O.trans _ _ _ h (hV.le O hj hx hv))
theorem split_right {α : Type} {le : α → α → Bool} (O : Ord0 le) {V : List α} {u : α} (hV : Sor le V) {p : Nat} (h1 : p = 0 ∨ ∃ y, V[p - 1]? = some y ∧ le u y = false) (h2 : p = V.length ∨ ∃ y, V[p]? = some y ∧ le u y = true) : mrg le [u] V = V.take p ++ u :: V.drop p := by
  have := split_both O (U := [u]) (V := V) (by simp [Sor]) hV (p := 0) (q := p) (.inl rfl) (by
    rcases h1 with h | ⟨y, h, h'⟩
    · exact .inr (.inl h)
    · exact .inr (.inr ⟨y, u, h, rfl, h'⟩))
  rw [this]
  have e : mrg le [u] (V.drop p) = u :: V.drop p := by
    have := mrg_right le [] (V.drop p) u (fun v hv => by simp at hv) (fun v hv => by
      obtain ⟨j, hj, hv⟩ := mem_drop hv
      rcases h2 with h | ⟨y, h, h'⟩
      · have := (List.getElem?_eq_some_iff.1 hv).1; omega
      · exact O.trans _ _ _ h' (hV.le O hj h hv))
    simpa using this
  simp only [List.take_zero, List.drop_zero]
  rw [e]; rfl
theorem split_left {α : Type} {le : α → α → Bool} (O : Ord0 le) {U : List α} {v : α} (hU : Sor le U) {p : Nat} (h1 : p = 0 ∨ ∃ y, U[p - 1]? = some y ∧ le y v = true) (h2 : p = U.length ∨ ∃ y, U[p]? = some y ∧ le y v = false) : mrg le U [v] = U.take p ++ v :: U.drop p := by
  rw [← mrg_left le O (U.take p) (U.drop p) v, List.take_append_drop]
  · intro u hu
    obtain ⟨i, hi, hu⟩ := mem_take hu
    rcases h1 with h | ⟨y, h, h'⟩
    · omega
    · exact O.trans _ _ _ (hU.le O (by omega : i ≤ p - 1) hu h) h'
  · intro u hu
    obtain ⟨i, hi, hu⟩ := mem_drop hu
    rcases h2 with h | ⟨y, h, h'⟩
    · have := (List.getElem?_eq_some_iff.1 hu).1; omega
    · cases hc : le u v with
      | false => rfl
      | true => rw [O.trans _ _ _ (hU.le O hi h hu) hc] at h'; cases h'
set_option maxHeartbeats 4000000 in
theorem sp_sym {α : Type} {T : Ty α} (h5 : T.es = 5) (hg : T.agg = true) {lt : α → α → Bool} (O : Ord0 (leOf lt)) {g : FuncId} (hc : Cmp g T lt) {s : Value} : ∀ (k : Nat) {H : SH} {P U V Q xs : List α} {a m b : Nat}, U.length + V.length ≤ k → xs = P ++ U ++ V ++ Q → xs.length ≤ 1000000 → a = P.length → m = a + U.length → b = m + V.length → 0 < U.length → 0 < V.length → Sor (leOf lt) U → Sor (leOf lt) V →
    WF F X f_slices_symMergeCmpFunc_api_Rec [s, .int .i64 a, .int .i64 m, .int .i64 b, fv g] (SL s T xs :: H) (fun r H' => H' = SL s T (P ++ mrg (leOf lt) U V ++ Q) :: H) := by
  intro k
  induction k using Nat.strongRecOn with
  | _ k ih =>
    intro H P U V Q xs a m b hk hxs hL ha hm hb hu0 hv0 hU hV
    have hlen : P.length + U.length + V.length ≤ xs.length := by rw [hxs]; simp only [List.length_append]; omega
    have gU : ∀ i, a ≤ i → i < m → xs[i]? = U[i - a]? := fun i h1 h2 => by rw [hxs, List.append_assoc (P ++ U)]; exact get_seg (by omega) (by omega)
    have gV : ∀ i, m ≤ i → i < b → xs[i]? = V[i - m]? := fun i h1 h2 => by rw [hxs]; exact get_seg (A := P ++ U) (by simp; omega) (by omega)
    refine WF_fn F_slices_symMergeCmpFunc_api_Rec ?_
    refine WC_seq ?_
    refine WC_seq ?_
    refine WC_region ?_
    iterate 2 refine WO_step rfl (S_pure rfl ?_)
    first | refine WO_step rfl (S_subN rfl rfl (by omega) ?_) | refine WO_step rfl (S_pure rfl ?_)
    first | refine WO_step rfl (S_eqS rfl rfl ?_) | refine WO_step rfl (S_pure rfl ?_)
    refine WO_nil ?_
    refine KSeq_n ?_
    refine WC_cond rfl (fun hb1 => ?_) (fun hb1 => ?_)
    ·
     try simp only [bsT] at hb1
     obtain ⟨u, hu⟩ : ∃ u, U = [u] := by
       obtain ⟨u, U, rfl⟩ := cons_of hu0
       obtain rfl := nil_of (l := U) (by simp at hm; omega)
       exact ⟨u, rfl⟩
     subst hu
     have hua : xs[a]? = some u := by rw [gU a (by omega) (by omega), Nat.sub_self]; rfl
     refine WC_seq ?_
     refine WC_region ?_
     iterate 2 refine WO_step rfl (S_pure rfl ?_)
     refine WO_nil ?_
     refine KSeq_n ?_
     refine WC_seq ?_
     refine WC_region ?_
     iterate 2 refine WO_step rfl (S_pure rfl ?_)
     refine WO_nil ?_
     refine KSeq_n ?_
     refine WC_seq ?_
     refine WC_block ?_
     refine WC_post (WC_weak (lp_sym0 h5 hg hc (b := b) (v2 := .int .i64 m) (v3 := .int .i64 b) (by omega) hL hua (b - m) m b (by omega) (by omega) (by omega) (by omega) (.inl rfl) (.inl rfl)) seA hsA) ?_
     rintro x l' H' ⟨i, rfl, rfl, rfl, h1, h2, h3, h4⟩
     have hsp := List.take_append_drop (i - m) V
     have hml : m = a + 1 := by simpa using hm
     refine KBlock_h ?_
     refine KSeq_n ?_
     refine WC_seq ?_
     refine WC_seq ?_
     refine WC_region ?_
     iterate 2 refine WO_step rfl (S_pure rfl ?_)
     refine WO_nil ?_
     refine KSeq_n ?_
     refine WC_block ?_
     have e0 : V ++ Q = V.take (i - m) ++ (V.drop (i - m) ++ Q) := by rw [← List.append_assoc, hsp]
     have e1 : xs = P ++ [] ++ u :: V.take (i - m) ++ (V.drop (i - m) ++ Q) := by
       rw [hxs]; simp only [List.append_assoc, e0, List.nil_append, List.cons_append]
     refine WC_post (WC_weak (lp_sym1 h5 hg (P := P) (R := V.drop (i - m) ++ Q) (u := u) (i := i) (i - m) [] (V.take (i - m)) xs a (by rw [List.length_take]; omega) (by simp; omega) (by omega) e1 hL) seA hsA) ?_
     rintro x l' H' ⟨rfl, rfl, rfl⟩
     refine KBlock_h ?_
     refine KSeq_n ?_
     refine WC_ret ?_
     refine KSeq_r ?_
     refine KFn_r ResL.nil ?_
     refine ⟨_, hsA, ?_⟩
     rw [split_right O hV (p := i - m)]
     · simp
     · rcases h3 with h | ⟨y, h, h'⟩
       · left; omega
       · by_cases hi0 : i = m
         · left; omega
         · right; refine ⟨y, ?_, by simp [leOf, h']⟩
           rw [gV (i - 1) (by omega) (by omega)] at h
           rw [← h]; congr 1; omega
     · rcases h4 with h | ⟨y, h, h'⟩
       · left; omega
       · by_cases hi0 : i = b
         · left; omega
         · right; exact ⟨y, by rw [gV i (by omega) (by omega)] at h; exact h, by simp [leOf, h']⟩
    ·
     try simp only [bsT] at hb1
     refine WC_skip ?_
     refine KSeq_n ?_
     refine WC_seq ?_
     refine WC_seq ?_
     refine WC_region ?_
     iterate 2 refine WO_step rfl (S_pure rfl ?_)
     first | refine WO_step rfl (S_subN rfl rfl (by omega) ?_) | refine WO_step rfl (S_pure rfl ?_)
     first | refine WO_step rfl (S_eqS rfl rfl ?_) | refine WO_step rfl (S_pure rfl ?_)
     refine WO_nil ?_
     refine KSeq_n ?_
     refine WC_cond rfl (fun hb2 => ?_) (fun hb2 => ?_)
     ·
      try simp only [bsT] at hb2
      obtain ⟨v, hv⟩ : ∃ v, V = [v] := by
        obtain ⟨v, V, rfl⟩ := cons_of hv0
        obtain rfl := nil_of (l := V) (by simp at hb; omega)
        exact ⟨v, rfl⟩
      subst hv
      have hbl : b = m + 1 := by simpa using hb
      have hvm : xs[m]? = some v := by rw [gV m (by omega) (by omega), Nat.sub_self]; rfl
      refine WC_seq ?_
      refine WC_region ?_
      iterate 2 refine WO_step rfl (S_pure rfl ?_)
      refine WO_nil ?_
      refine KSeq_n ?_
      refine WC_seq ?_
      refine WC_region ?_
      iterate 2 refine WO_step rfl (S_pure rfl ?_)
      refine WO_nil ?_
      refine KSeq_n ?_
      refine WC_seq ?_
      refine WC_block ?_
      refine WC_post (WC_weak (lp_sym2 h5 hg hc (a := a) (v1 := .int .i64 a) (v3 := .int .i64 b) (by omega) hL hvm (m - a) a m (by omega) (by omega) (by omega) (by omega) (.inl rfl) (.inl rfl)) seA hsA) ?_
      rintro x l' H' ⟨i, rfl, rfl, rfl, h1, h2, h3, h4⟩
      have hsp := List.take_append_drop (i - a) U
      have htl : (U.take (i - a)).length = i - a := by rw [List.length_take]; omega
      refine KBlock_h ?_
      refine KSeq_n ?_
      refine WC_seq ?_
      refine WC_seq ?_
      refine WC_region ?_
      iterate 2 refine WO_step rfl (S_pure rfl ?_)
      refine WO_nil ?_
      refine KSeq_n ?_
      refine WC_block ?_
      have e1 : xs = (P ++ U.take (i - a)) ++ U.drop (i - a) ++ v :: [] ++ Q := by
        rw [hxs]; conv => lhs; rw [← hsp]
        simp
      refine WC_post (WC_weak (lp_sym3 h5 hg (P := P ++ U.take (i - a)) (R := Q) (v := v) (i := i) (by simp [htl]; omega) (m - i) (U.drop (i - a)) [] xs m (by rw [List.length_drop]; omega) (by omega) e1 hL) seA hsA) ?_
      rintro x l' H' ⟨rfl, rfl, rfl⟩
      refine KBlock_h ?_
      refine KSeq_n ?_
      refine WC_ret ?_
      refine KSeq_r ?_
      refine KFn_r ResL.nil ?_
      refine ⟨_, hsA, ?_⟩
      rw [split_left O hU (p := i - a)]
      · simp
      · rcases h3 with h | ⟨y, h, h'⟩
        · left; omega
        · by_cases hi0 : i = a
          · left; omega
          · right; refine ⟨y, ?_, by simp [leOf, h']⟩
            rw [gU (i - 1) (by omega) (by omega)] at h
            rw [← h]; congr 1; omega
      · rcases h4 with h | ⟨y, h, h'⟩
        · left; omega
        · by_cases hi0 : i = m
          · left; omega
          · right; exact ⟨y, by rw [gU i (by omega) (by omega)] at h; exact h, by simp [leOf, h']⟩
     ·
      try simp only [bsT] at hb2
      refine WC_skip ?_
      refine KSeq_n ?_
      refine WC_seq ?_
      refine WC_region ?_
      iterate 2 refine WO_step rfl (S_pure rfl ?_)
      first | refine WO_step rfl (S_addN rfl rfl (by omega) ?_) | refine WO_step rfl (S_pure rfl ?_)
      first | refine WO_step rfl (S_toU rfl (by omega) ?_) | refine WO_step rfl (S_pure rfl ?_)
      first | refine WO_step rfl (S_half rfl (by omega) ?_) | refine WO_step rfl (S_pure rfl ?_)
      first | refine WO_step rfl (S_toI rfl (by omega) ?_) | refine WO_step rfl (S_pure rfl ?_)
      refine WO_step rfl (S_pure rfl ?_)
      refine WO_nil ?_
      refine KSeq_n ?_
      refine WC_seq ?_
      refine WC_region ?_
      iterate 2 refine WO_step rfl (S_pure rfl ?_)
      first | refine WO_step rfl (S_addN rfl rfl (by omega) ?_) | refine WO_step rfl (S_pure rfl ?_)
      refine WO_step rfl (S_pure rfl ?_)
      refine WO_nil ?_
      refine KSeq_n ?_
      refine WC_seq ?_
      refine WC_region ?_
      iterate 2 refine WO_step rfl (S_pure rfl ?_)
      refine WO_nil ?_
      refine KSeq_n ?_
      refine WC_seq ?_
      refine WC_post (P := fun x l' H' => ∃ lo hi : Nat, x = .normal ∧ l' = [(20, .int .i64 lo), (21, .int .i64 hi), (0, s), (1, .int .i64 a), (2, .int .i64 m), (3, .int .i64 b), (4, fv g), (18, .int .i64 (((a + b) / 2 : Nat) : Int)), (19, .int .i64 (((a + b) / 2 + m : Nat) : Int))] ∧ H' = SL s T xs :: H ∧ ((a + b) / 2 < m ∧ lo = (a + b) / 2 + m - b ∧ hi = (a + b) / 2 ∨ m ≤ (a + b) / 2 ∧ lo = a ∧ hi = m)) ?_ ?_
      ·
       refine WC_seq ?_
       refine WC_region ?_
       iterate 3 refine WO_step rfl (S_pure rfl ?_)
       refine WO_nil ?_
       refine KSeq_n ?_
       refine WC_cond rfl (fun hb3 => ?_) (fun hb3 => ?_)
       ·
        try simp only [bsT] at hb3
        refine WC_seq ?_
        refine WC_region ?_
        iterate 2 refine WO_step rfl (S_pure rfl ?_)
        first | refine WO_step rfl (S_subN rfl rfl (by omega) ?_) | refine WO_step rfl (S_pure rfl ?_)
        refine WO_step rfl (S_pure rfl ?_)
        refine WO_nil ?_
        refine KSeq_n ?_
        refine WC_region ?_
        iterate 2 refine WO_step rfl (S_pure rfl ?_)
        refine WO_nil ?_
        exact KPost_i (l' := [(20, .int .i64 (((a + b) / 2 + m - b : Nat) : Int)), (21, .int .i64 (((a + b) / 2 : Nat) : Int)), (0, s), (1, .int .i64 a), (2, .int .i64 m), (3, .int .i64 b), (4, fv g), (18, .int .i64 (((a + b) / 2 : Nat) : Int)), (19, .int .i64 (((a + b) / 2 + m : Nat) : Int))]) seA hsA ⟨_, _, rfl, rfl, rfl, .inl ⟨by omega, rfl, rfl⟩⟩
       ·
        try simp only [bsT] at hb3
        refine WC_seq ?_
        refine WC_region ?_
        iterate 2 refine WO_step rfl (S_pure rfl ?_)
        refine WO_nil ?_
        refine KSeq_n ?_
        refine WC_region ?_
        iterate 2 refine WO_step rfl (S_pure rfl ?_)
        refine WO_nil ?_
        exact KPost_i (l' := [(20, .int .i64 a), (21, .int .i64 m), (0, s), (1, .int .i64 a), (2, .int .i64 m), (3, .int .i64 b), (4, fv g), (18, .int .i64 (((a + b) / 2 : Nat) : Int)), (19, .int .i64 (((a + b) / 2 + m : Nat) : Int))]) seA hsA ⟨_, _, rfl, rfl, rfl, .inr ⟨by omega, rfl, rfl⟩⟩
      ·
       rintro x l' H' ⟨lo, hi, rfl, rfl, rfl, hlh⟩
       have hmid : a ≤ (a + b) / 2 ∧ (a + b) / 2 < b := by omega
       refine KSeq_n ?_
       refine WC_seq ?_
       refine WC_region ?_
       refine WO_step rfl (S_pure rfl ?_)
       first | refine WO_step rfl (S_subN (b := 1) rfl rfl (by omega) ?_) | refine WO_step rfl (S_pure rfl ?_)
       refine WO_step rfl (S_pure rfl ?_)
       refine WO_nil ?_
       refine KSeq_n ?_
       refine WC_seq ?_
       refine WC_block ?_
       refine WC_post (WC_weak (lp_sym4 h5 hg hc (p := (a + b) / 2 + m - 1) (lo := lo) (hi := hi) (b := b) (v1 := .int .i64 a) (v2 := .int .i64 m) (v3 := .int .i64 b) (v18 := .int .i64 (((a + b) / 2 : Nat) : Int)) (v19 := .int .i64 (((a + b) / 2 + m : Nat) : Int)) (by omega) hL (by omega) (by omega) (by omega) (by omega) (hi - lo) lo hi (by omega) (by omega) (by omega) (by omega) (.inl rfl) (.inl rfl)) seA hsA) ?_
       rintro x l' H' ⟨st, rfl, rfl, rfl, h1, h2, h3, h4⟩
       obtain ⟨en, hen⟩ : ∃ en, en = (a + b) / 2 + m - st := ⟨_, rfl⟩
       obtain ⟨p, hp⟩ : ∃ p, p = st - a := ⟨_, rfl⟩
       obtain ⟨q, hq⟩ : ∃ q, q = en - m := ⟨_, rfl⟩
       generalize hmd : (a + b) / 2 = mid at *
       have hst : a ≤ st ∧ st ≤ m := by omega
       have hen2 : m ≤ en ∧ en ≤ b := by omega
       have hspU := List.take_append_drop p U
       have hspV := List.take_append_drop q V
       have lU1 : (U.take p).length = p := by rw [List.length_take]; omega
       have lV1 : (V.take q).length = q := by rw [List.length_take]; omega
       have lU2 : (U.drop p).length = U.length - p := by rw [List.length_drop]
       have lV2 : (V.drop q).length = V.length - q := by rw [List.length_drop]
       have hsplit : mrg (leOf lt) U V = mrg (leOf lt) (U.take p) (V.take q) ++ mrg (leOf lt) (U.drop p) (V.drop q) := by
         refine split_both O hU hV ?_ ?_
         · rcases h3 with h | ⟨x, y, hx, hy, h⟩
           · rcases hlh with hh | hh
             · right; left; omega
             · left; omega
           · by_cases c1 : p = 0
             · exact .inl c1
             · by_cases c2 : q = V.length
               · exact .inr (.inl c2)
               · right; right
                 rw [show mid + m - 1 - (st - 1) = en by omega, gV en (by omega) (by omega)] at hx
                 rw [gU (st - 1) (by omega) (by omega)] at hy
                 exact ⟨x, y, by rw [hq]; exact hx, by rw [← hy]; congr 1; omega, by simp [leOf, h]⟩
         · rcases h4 with h | ⟨x, y, hx, hy, h⟩
           · rcases hlh with hh | hh
             · right; left; omega
             · left; omega
           · by_cases c1 : p = U.length
             · exact .inl c1
             · by_cases c2 : q = 0
               · exact .inr (.inl c2)
               · right; right
                 rw [show mid + m - 1 - st = en - 1 by omega, gV (en - 1) (by omega) (by omega)] at hx
                 rw [gU st (by omega) (by omega)] at hy
                 exact ⟨x, y, by rw [← hx]; congr 1; omega, by rw [hp]; exact hy, by simp [leOf, h]⟩
       have hU1 := ((Sor.app _).1 (by rw [hspU]; exact hU : Sor (leOf lt) (U.take p ++ U.drop p)))
       have hV1 := ((Sor.app _).1 (by rw [hspV]; exact hV : Sor (leOf lt) (V.take q ++ V.drop q)))
       refine KBlock_h ?_
       refine KSeq_n ?_
       refine WC_seq ?_
       refine WC_region ?_
       iterate 2 refine WO_step rfl (S_pure rfl ?_)
       refine WO_step rfl (S_subN rfl rfl (by omega) ?_)
       rw [← hen]
       refine WO_step rfl (S_pure rfl ?_)
       refine WO_nil ?_
       refine KSeq_n ?_
       refine WC_seq ?_
       refine WC_post (P := fun x l' H' => x = .normal ∧ l' = [(0, s), (1, .int .i64 a), (3, .int .i64 b), (4, fv g), (18, .int .i64 mid), (20, .int .i64 st), (24, .int .i64 en)] ∧ H' = SL s T (P ++ U.take p ++ V.take q ++ U.drop p ++ V.drop q ++ Q) :: H) ?_ ?_
       ·
        refine WC_seq ?_
        refine WC_region ?_
        iterate 4 refine WO_step rfl (S_pure rfl ?_)
        refine WO_cases (t := 181) rfl (fun hg1 => ?_) (fun hg1 => ?_)
        ·
         try simp only [bsT] at hg1
         iterate 4 refine WO_step rfl (S_pure rfl ?_)
         refine WO_nil ?_
         refine KSeq_n ?_
         refine WC_cond rfl (fun hb4 => ?_) (fun hb4 => ?_)
         ·
          try simp only [bsT] at hb4
          refine WC_region ?_
          iterate 5 refine WO_step rfl (S_pure rfl ?_)
          refine WO_call rfl rfl rfl ?_
          have e0V : V ++ Q = V.take q ++ (V.drop q ++ Q) := by rw [← List.append_assoc, hspV]
          have e0U : ∀ Z, U ++ Z = U.take p ++ (U.drop p ++ Z) := fun Z => by rw [← List.append_assoc, hspU]
          have e1 : xs = (P ++ U.take p) ++ U.drop p ++ V.take q ++ (V.drop q ++ Q) := by
            rw [hxs]; simp only [List.append_assoc, e0V, e0U]
          refine (sp_rot h5 hg e1 hL (by simp only [List.length_append]; omega) (by omega) (by omega) (by omega) (by omega)).mono ?_
          rintro _ _ rfl
          refine WO_nil ?_
          exact KPost_i (l' := [(0, s), (1, .int .i64 a), (3, .int .i64 b), (4, fv g), (18, .int .i64 mid), (20, .int .i64 st), (24, .int .i64 en)]) (H' := SL s T (P ++ U.take p ++ V.take q ++ U.drop p ++ V.drop q ++ Q) :: H) seA (by simp only [List.append_assoc]; exact hsA) ⟨rfl, rfl, rfl⟩
         ·
          try simp only [bsT] at hb4
          refine WC_skip ?_
          have e1 : xs = P ++ U.take p ++ V.take q ++ U.drop p ++ V.drop q ++ Q := by
            have : q = 0 := by omega
            subst this
            rw [hxs]; conv => lhs; rw [← hspU]
            simp
          exact KPost_i (l' := [(0, s), (1, .int .i64 a), (3, .int .i64 b), (4, fv g), (18, .int .i64 mid), (20, .int .i64 st), (24, .int .i64 en)]) (H' := SL s T (P ++ U.take p ++ V.take q ++ U.drop p ++ V.drop q ++ Q) :: H) seA (by rw [← e1]; exact hsA) ⟨rfl, rfl, rfl⟩
        ·
         try simp only [bsT] at hg1
         iterate 3 refine WO_off rfl ?_
         refine WO_step rfl (S_pure rfl ?_)
         refine WO_nil ?_
         refine KSeq_n ?_
         refine WC_cond rfl (fun h => ?_) (fun _ => ?_)
         · exact absurd h (by decide)
         refine WC_skip ?_
         have e1 : xs = P ++ U.take p ++ V.take q ++ U.drop p ++ V.drop q ++ Q := by
           have h0 : U.drop p = [] := nil_of (by omega)
           have h1 : U.take p = U := by rw [h0, List.append_nil] at hspU; exact hspU
           have h2 : V ++ Q = V.take q ++ (V.drop q ++ Q) := by rw [← List.append_assoc, hspV]
           rw [h0, h1, hxs]; simp only [List.append_assoc, h2, List.nil_append]
         exact KPost_i (l' := [(0, s), (1, .int .i64 a), (3, .int .i64 b), (4, fv g), (18, .int .i64 mid), (20, .int .i64 st), (24, .int .i64 en)]) (H' := SL s T (P ++ U.take p ++ V.take q ++ U.drop p ++ V.drop q ++ Q) :: H) seA (by rw [← e1]; exact hsA) ⟨rfl, rfl, rfl⟩
       ·
        rintro x l' H' ⟨rfl, rfl, rfl⟩
        have hL2 : (P ++ U.take p ++ V.take q ++ U.drop p ++ V.drop q ++ Q).length ≤ 1000000 := by
          rw [hxs] at hL; simp only [List.length_append] at hL ⊢; omega
        refine KSeq_n ?_
        refine WC_seq ?_
        refine WC_post (P := fun x l' H' => x = .normal ∧ l' = [(0, s), (1, .int .i64 a), (3, .int .i64 b), (4, fv g), (18, .int .i64 mid), (24, .int .i64 en)] ∧ H' = SL s T (P ++ mrg (leOf lt) (U.take p) (V.take q) ++ U.drop p ++ V.drop q ++ Q) :: H) ?_ ?_
        ·
         refine WC_seq ?_
         refine WC_region ?_
         iterate 4 refine WO_step rfl (S_pure rfl ?_)
         refine WO_cases (t := 195) rfl (fun hg2 => ?_) (fun hg2 => ?_)
         ·
          try simp only [bsT] at hg2
          iterate 4 refine WO_step rfl (S_pure rfl ?_)
          refine WO_nil ?_
          refine KSeq_n ?_
          refine WC_cond rfl (fun hb5 => ?_) (fun hb5 => ?_)
          ·
           try simp only [bsT] at hb5
           refine WC_region ?_
           iterate 5 refine WO_step rfl (S_pure rfl ?_)
           refine WO_call rfl rfl rfl ?_
           refine (ih (p + q) (by omega) (P := P) (U := U.take p) (V := V.take q) (Q := U.drop p ++ V.drop q ++ Q) (by omega) (by simp) hL2 ha (by omega) (by omega) (by omega) (by omega) hU1.1 hV1.1).mono ?_
           rintro _ _ rfl
           refine WO_nil ?_
           exact KPost_i (l' := [(0, s), (1, .int .i64 a), (3, .int .i64 b), (4, fv g), (18, .int .i64 mid), (24, .int .i64 en)]) (H' := SL s T (P ++ mrg (leOf lt) (U.take p) (V.take q) ++ U.drop p ++ V.drop q ++ Q) :: H) seA (by simp only [List.append_assoc]; exact hsA) ⟨rfl, rfl, rfl⟩
          ·
           try simp only [bsT] at hb5
           refine WC_skip ?_
           have e1 : mrg (leOf lt) (U.take p) (V.take q) = U.take p ++ V.take q := by
             have : V.take q = [] := nil_of (by omega)
             rw [this, mrg_nil, List.append_nil]
           exact KPost_i (l' := [(0, s), (1, .int .i64 a), (3, .int .i64 b), (4, fv g), (18, .int .i64 mid), (24, .int .i64 en)]) (H' := SL s T (P ++ mrg (leOf lt) (U.take p) (V.take q) ++ U.drop p ++ V.drop q ++ Q) :: H) seA (by rw [e1]; simp only [List.append_assoc]; exact hsA) ⟨rfl, rfl, rfl⟩
         ·
          try simp only [bsT] at hg2
          iterate 3 refine WO_off rfl ?_
          refine WO_step rfl (S_pure rfl ?_)
          refine WO_nil ?_
          refine KSeq_n ?_
          refine WC_cond rfl (fun h => ?_) (fun _ => ?_)
          · exact absurd h (by decide)
          refine WC_skip ?_
          have e1 : mrg (leOf lt) (U.take p) (V.take q) = U.take p ++ V.take q := by
            have : U.take p = [] := nil_of (by omega)
            rw [this]; rfl
          exact KPost_i (l' := [(0, s), (1, .int .i64 a), (3, .int .i64 b), (4, fv g), (18, .int .i64 mid), (24, .int .i64 en)]) (H' := SL s T (P ++ mrg (leOf lt) (U.take p) (V.take q) ++ U.drop p ++ V.drop q ++ Q) :: H) seA (by rw [e1]; simp only [List.append_assoc]; exact hsA) ⟨rfl, rfl, rfl⟩
        ·
         rintro x l' H' ⟨rfl, rfl, rfl⟩
         have hml := mrg_len (leOf lt) (U.take p) (V.take q)
         have hL3 : (P ++ mrg (leOf lt) (U.take p) (V.take q) ++ U.drop p ++ V.drop q ++ Q).length ≤ 1000000 := by
           simp only [List.length_append] at hL2 ⊢; omega
         refine KSeq_n ?_
         refine WC_seq ?_
         refine WC_region ?_
         iterate 4 refine WO_step rfl (S_pure rfl ?_)
         refine WO_cases (t := 209) rfl (fun hg3 => ?_) (fun hg3 => ?_)
         ·
          try simp only [bsT] at hg3
          iterate 4 refine WO_step rfl (S_pure rfl ?_)
          refine WO_nil ?_
          refine KSeq_n ?_
          refine WC_cond rfl (fun hb6 => ?_) (fun hb6 => ?_)
          ·
           try simp only [bsT] at hb6
           refine WC_region ?_
           iterate 5 refine WO_step rfl (S_pure rfl ?_)
           refine WO_call rfl rfl rfl ?_
           refine (ih (U.length - p + (V.length - q)) (by omega) (P := P ++ mrg (leOf lt) (U.take p) (V.take q)) (U := U.drop p) (V := V.drop q) (Q := Q) (by omega) rfl hL3 (by simp only [List.length_append]; omega) (by omega) (by omega) (by omega) (by omega) hU1.2.1 hV1.2.1).mono ?_
           rintro _ _ rfl
           refine WO_nil ?_
           refine KFn_n ResL.nil ?_
           refine ⟨_, hsA, ?_⟩
           rw [hsplit]; simp
          ·
           try simp only [bsT] at hb6
           refine WC_skip ?_
           refine KFn_n ResL.nil ?_
           refine ⟨_, hsA, ?_⟩
           have e1 : mrg (leOf lt) (U.drop p) (V.drop q) = U.drop p ++ V.drop q := by
             have : V.drop q = [] := nil_of (by omega)
             rw [this, mrg_nil, List.append_nil]
           rw [hsplit, e1]; simp
         ·
          try simp only [bsT] at hg3
          iterate 3 refine WO_off rfl ?_
          refine WO_step rfl (S_pure rfl ?_)
          refine WO_nil ?_
          refine KSeq_n ?_
          refine WC_cond rfl (fun h => ?_) (fun _ => ?_)
          · exact absurd h (by decide)
          refine WC_skip ?_
          refine KFn_n ResL.nil ?_
          refine ⟨_, hsA, ?_⟩
          have e1 : mrg (leOf lt) (U.drop p) (V.drop q) = U.drop p ++ V.drop q := by
            have : U.drop p = [] := nil_of (by omega)
            rw [this]; rfl
          rw [hsplit, e1]; simp

end Go.Proofs.Ytpgidiompdabdaa.AM
