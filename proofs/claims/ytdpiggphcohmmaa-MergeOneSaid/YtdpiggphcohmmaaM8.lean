/- Walks: what the functions compute. -/
import Derived.Test.YtdpiggphcohmmaaM7
namespace Go.Proofs.Ytdpiggphcohmmaa.AM
open Go
set_option linter.unusedSimpArgs false
set_option linter.unusedVariables false
set_option maxRecDepth 4000

/-! ### The library's stable sort -/
def Cmp {α : Type} (g : FuncId) (T : Ty α) (lt : α → α → Bool) : Prop := ∀ (H : SH) (a b : α), WF F X g [T.val a, T.val b] H (fun r H' => H' = H ∧ ∃ n : Int, r = .int .i64 n ∧ (n < 0 ↔ lt a b = true))
abbrev fv (g : FuncId) : Value := .func (.func g) #[] #[]
theorem cons_of {α : Type} {l : List α} (h : 0 < l.length) : ∃ x t, l = x :: t := by
  cases l with
  | nil => simp at h
  | cons x t => exact ⟨x, t, rfl⟩
theorem nil_of {α : Type} {l : List α} (h : l.length = 0) : l = [] := List.length_eq_zero_iff.1 h
theorem snoc_of {α : Type} {l : List α} (h : 0 < l.length) : ∃ t x, l = t ++ [x] := by
  rcases List.eq_nil_or_concat l with rfl | ⟨t, x, rfl⟩
  · simp at h
  · exact ⟨t, x, by simp⟩
theorem lp_swap {α : Type} {T : Ty α} (h5 : T.es = 5) (hg : T.agg = true) {H : SH} {s : Value} {A B C : List α} {n a b : Nat} (ha : a = A.length) : ∀ (m : Nat) (U2 V2 U1 V1 xs : List α) (i : Nat), U2.length = m → V2.length = m → U1.length = i → V1.length = i → n = i + m → b = A.length + n + B.length → xs = A ++ (V1 ++ U2) ++ B ++ (U1 ++ V2) ++ C → xs.length ≤ 1000000 →
    WC F X (.loop L_slices_swapRangeCmpFunc_api_Rec_0) [(10, .int .i64 i), (3, .int .i64 n), (0, s), (1, .int .i64 a), (2, .int .i64 b)] (SL s T xs :: H)
      (KPost fun x l' H' => x = .exit 0 ∧ l' = [] ∧ H' = SL s T (A ++ (V1 ++ V2) ++ B ++ (U1 ++ U2) ++ C) :: H) := by
  intro m
  induction m using Nat.strongRecOn with
  | _ m ih =>
    intro U2 V2 U1 V1 xs i hum hvm hu hv hn hb hxs hL
    refine WC_loop ?_
    refine WC_seq ?_
    refine WC_seq ?_
    refine WC_region ?_
    refine WO_step rfl (S_pure rfl ?_)
    refine WO_step rfl (S_pure rfl ?_)
    refine WO_step rfl (S_pure rfl ?_)
    refine WO_nil ?_
    refine KSeq_n ?_
    refine WC_cond rfl (fun hb1 => ?_) (fun hb1 => ?_)
    ·
      try simp only [decide_eq_true_eq, decide_eq_false_iff_not, Bool.not_eq_true', Bool.not_eq_false', beq_iff_eq, bne_iff_ne, beq_eq_false_iff_ne, Int.ofNat_lt, Int.ofNat_le, Int.ofNat_inj, ne_eq, gt_iff_lt, ge_iff_le] at hb1
      obtain ⟨m, rfl⟩ : ∃ m', m = m' + 1 := ⟨m - 1, by omega⟩
      obtain ⟨u, U2, rfl⟩ := cons_of (l := U2) (by omega)
      obtain ⟨v, V2, rfl⟩ := cons_of (l := V2) (by omega)
      simp only [List.length_cons] at hum hvm
      have e1 : xs = (A ++ V1) ++ u :: (U2 ++ B ++ (U1 ++ v :: V2) ++ C) := by rw [hxs]; simp
      have e2 : xs = (A ++ V1 ++ u :: U2 ++ B ++ U1) ++ v :: (V2 ++ C) := by rw [hxs]; simp
      have hx1 : xs[a + i]? = some u := by rw [e1]; exact get_mid (by simp; omega)
      have hx2 : xs[b + i]? = some v := by rw [e2]; exact get_mid (by simp; omega)
      have e3 : (xs.set (a + i) v).set (b + i) u = A ++ (V1 ++ [v] ++ U2) ++ B ++ (U1 ++ [u] ++ V2) ++ C := by
        rw [e1, set_at (by simp; omega), show (A ++ V1) ++ v :: (U2 ++ B ++ (U1 ++ v :: V2) ++ C) = (A ++ V1 ++ v :: U2 ++ B ++ U1) ++ v :: (V2 ++ C) by simp, set_at (by simp; omega)]; simp
      have hl1 := lt_of_get hx1
      have hl2 := lt_of_get hx2
      refine WC_skip ?_
      refine KSeq_n ?_
      refine WC_seq ?_
      refine WC_block ?_
      refine WC_region ?_
      refine WO_step rfl (S_pure rfl ?_)
      refine WO_step rfl (S_pure rfl ?_)
      refine WO_step rfl (S_pure rfl ?_)
      first | refine WO_step rfl (S_addN rfl rfl (by omega) ?_) | refine WO_step rfl (S_pure rfl ?_)
      refine WO_step rfl (S_pure rfl ?_)
      refine WO_step rfl (S_pure rfl ?_)
      refine WO_step rfl (S_pure rfl ?_)
      first | refine WO_step rfl (S_addN rfl rfl (by omega) ?_) | refine WO_step rfl (S_pure rfl ?_)
      refine WO_step rfl (S_pure rfl ?_)
      refine WO_step rfl (S_pure rfl ?_)
      refine WO_step rfl (S_pure rfl ?_)
      first | refine WO_step rfl (S_addN rfl rfl (by omega) ?_) | refine WO_step rfl (S_pure rfl ?_)
      refine WO_step rfl (S_idx rfl rfl (by repeat (first | assumption | exact RD.head | exact RD.nil | apply RD.tail)) (by first | rfl | assumption | (symm; assumption)) (by rfl) (by first | assumption | omega | exact lt_of_get (by assumption) | (simp only [List.length_set]; first | assumption | omega | exact lt_of_get (by assumption))) fun hp28 => ?_)
      refine WO_step rfl (S_loadE rfl (by repeat (first | assumption | exact RD.head | exact RD.nil | apply RD.tail)) (by first | rfl | assumption | (symm; assumption)) (by first | rfl | assumption | (symm; assumption)) (by first | rfl | assumption | (symm; assumption)) (by assumption) ?_)
      refine WO_step rfl (S_pure rfl ?_)
      refine WO_step rfl (S_pure rfl ?_)
      refine WO_step rfl (S_pure rfl ?_)
      first | refine WO_step rfl (S_addN rfl rfl (by omega) ?_) | refine WO_step rfl (S_pure rfl ?_)
      refine WO_step rfl (S_idx rfl rfl (by repeat (first | assumption | exact RD.head | exact RD.nil | apply RD.tail)) (by first | rfl | assumption | (symm; assumption)) (by rfl) (by first | assumption | omega | exact lt_of_get (by assumption) | (simp only [List.length_set]; first | assumption | omega | exact lt_of_get (by assumption))) fun hp34 => ?_)
      refine WO_step rfl (S_loadE rfl (by repeat (first | assumption | exact RD.head | exact RD.nil | apply RD.tail)) (by first | rfl | assumption | (symm; assumption)) (by first | rfl | assumption | (symm; assumption)) (by first | rfl | assumption | (symm; assumption)) (by assumption) ?_)
      refine WO_step rfl (S_idx rfl rfl (by repeat (first | assumption | exact RD.head | exact RD.nil | apply RD.tail)) (by first | rfl | assumption | (symm; assumption)) (by rfl) (by first | assumption | omega | exact lt_of_get (by assumption) | (simp only [List.length_set]; first | assumption | omega | exact lt_of_get (by assumption))) fun hp36 => ?_)
      refine WO_step rfl (S_storeW rfl rfl (by repeat (first | exact Pick.head | apply Pick.tail)) (by first | rfl | assumption | (symm; assumption)) (by rfl) (by first | rfl | assumption | (symm; assumption)) (by first | assumption | omega | exact lt_of_get (by assumption) | (simp only [List.length_set]; first | assumption | omega | exact lt_of_get (by assumption))) ?_)
      refine WO_step rfl (S_idx rfl rfl (by repeat (first | assumption | exact RD.head | exact RD.nil | apply RD.tail)) (by first | rfl | assumption | (symm; assumption)) (by rfl) (by first | assumption | omega | exact lt_of_get (by assumption) | (simp only [List.length_set]; first | assumption | omega | exact lt_of_get (by assumption))) fun hp37 => ?_)
      refine WO_step rfl (S_storeW rfl rfl (by repeat (first | exact Pick.head | apply Pick.tail)) (by first | rfl | assumption | (symm; assumption)) (by rfl) (by first | rfl | assumption | (symm; assumption)) (by first | assumption | omega | exact lt_of_get (by assumption) | (simp only [List.length_set]; first | assumption | omega | exact lt_of_get (by assumption))) ?_)
      refine WO_nil ?_
      refine KBlock_n ?_
      refine KSeq_n ?_
      refine WC_region ?_
      refine WO_step rfl (S_pure rfl ?_)
      first | refine WO_step rfl (S_addN (b := 1) rfl rfl (by omega) ?_) | refine WO_step rfl (S_pure rfl ?_)
      refine WO_step rfl (S_pure rfl ?_)
      refine WO_nil ?_
      refine KLoop_n ?_
      have := ih m (by omega) U2 V2 (U1 ++ [u]) (V1 ++ [v]) _ (i + 1) (by omega) (by omega) (by simp [hu]) (by simp [hv]) (by omega) hb e3 (by simpa using hL)
      simp only [List.append_assoc, List.singleton_append] at this ⊢
      exact WC_weak this (by repeat (first | exact SubE.nil | apply SubE.cons rfl)) (by repeat (first | exact HSub.refl | refine HSub.pick (by repeat (first | exact Pick.head | apply Pick.tail)) ?_ | apply HSub.drop))
    ·
      try simp only [decide_eq_true_eq, decide_eq_false_iff_not, Bool.not_eq_true', Bool.not_eq_false', beq_iff_eq, bne_iff_ne, beq_eq_false_iff_ne, Int.ofNat_lt, Int.ofNat_le, Int.ofNat_inj, ne_eq, gt_iff_lt, ge_iff_le] at hb1
      refine WC_exit ?_
      refine KSeq_x ?_
      refine KLoop_x ?_
      obtain rfl := nil_of (l := U2) (by omega)
      obtain rfl := nil_of (l := V2) (by omega)
      rw [hxs]; exact KPost_i (by repeat (first | exact SubE.nil | apply SubE.cons rfl)) (by repeat (first | exact HSub.refl | refine HSub.pick (by repeat (first | exact Pick.head | apply Pick.tail)) ?_ | apply HSub.drop)) ⟨rfl, rfl, rfl⟩
theorem sp_swap {α : Type} {T : Ty α} (h5 : T.es = 5) (hg : T.agg = true) {H : SH} {s c : Value} {A U B V C xs : List α} {n a b : Nat} (hxs : xs = A ++ U ++ B ++ V ++ C) (hL : xs.length ≤ 1000000) (ha : a = A.length) (hu : U.length = n) (hv : V.length = n) (hb : b = A.length + n + B.length) :
    WF F X f_slices_swapRangeCmpFunc_api_Rec [s, .int .i64 a, .int .i64 b, .int .i64 n, c] (SL s T xs :: H) (fun r H' => H' = SL s T (A ++ V ++ B ++ U ++ C) :: H) := by
  refine WF_fn F_slices_swapRangeCmpFunc_api_Rec ?_
  refine WC_seq ?_
  refine WC_region ?_
  refine WO_step rfl (S_pure rfl ?_)
  refine WO_nil ?_
  refine KSeq_n ?_
  refine WC_block ?_
  refine WC_post (WC_weak (lp_swap h5 hg (A := A) (B := B) (C := C) ha n U V [] [] xs 0 (by omega) (by omega) rfl rfl (by omega) hb (by simpa using hxs) hL) (by repeat (first | exact SubE.nil | apply SubE.cons rfl)) (by repeat (first | exact HSub.refl | refine HSub.pick (by repeat (first | exact Pick.head | apply Pick.tail)) ?_ | apply HSub.drop))) ?_
  rintro x l' H' ⟨rfl, rfl, rfl⟩
  refine KBlock_h ?_
  refine KFn_n ResL.nil ?_
  exact ⟨_, (by repeat (first | exact HSub.refl | refine HSub.pick (by repeat (first | exact Pick.head | apply Pick.tail)) ?_ | apply HSub.drop)), rfl⟩
theorem lp_rot {α : Type} {T : Ty α} (h5 : T.es = 5) (hg : T.agg = true) {H : SH} {s c : Value} {m : Nat} {R : List α} : ∀ (k : Nat) (A U V C xs : List α) (i j : Nat), i + j ≤ k → U.length = i → V.length = j → 0 < i → 0 < j → m = A.length + i → xs = A ++ U ++ V ++ C → xs.length ≤ 1000000 → R = A ++ V ++ U ++ C →
    WC F X (.loop L_slices_rotateCmpFunc_api_Rec_0) [(10, .int .i64 i), (11, .int .i64 j), (0, s), (2, .int .i64 m), (4, c)] (SL s T xs :: H)
      (KPost fun x l' H' => ∃ (A U V C : List α) (i : Nat), x = .exit 0 ∧ l' = [(10, .int .i64 i), (0, s), (2, .int .i64 m), (4, c)] ∧ H' = SL s T (A ++ U ++ V ++ C) :: H ∧ U.length = i ∧ V.length = i ∧ m = A.length + i ∧ R = A ++ V ++ U ++ C ∧ (A ++ U ++ V ++ C).length ≤ 1000000) := by
  intro k
  induction k using Nat.strongRecOn with
  | _ k ih =>
    intro A U V C xs i j hk hu hv hi hj hm hxs hL hR
    have hlen : A.length + i + j ≤ 1000000 := by rw [hxs] at hL; simp at hL; omega
    refine WC_loop ?_
    refine WC_seq ?_
    refine WC_seq ?_
    refine WC_region ?_
    refine WO_step rfl (S_pure rfl ?_)
    refine WO_step rfl (S_pure rfl ?_)
    first | refine WO_step rfl (S_neS rfl rfl ?_) | refine WO_step rfl (S_pure rfl ?_)
    refine WO_nil ?_
    refine KSeq_n ?_
    refine WC_cond rfl (fun hb1 => ?_) (fun hb1 => ?_)
    ·
      try simp only [decide_eq_true_eq, decide_eq_false_iff_not, Bool.not_eq_true', Bool.not_eq_false', beq_iff_eq, bne_iff_ne, beq_eq_false_iff_ne, Int.ofNat_lt, Int.ofNat_le, Int.ofNat_inj, ne_eq, gt_iff_lt, ge_iff_le] at hb1
      refine WC_skip ?_
      refine KSeq_n ?_
      refine WC_block ?_
      refine WC_seq ?_
      refine WC_region ?_
      refine WO_step rfl (S_pure rfl ?_)
      refine WO_step rfl (S_pure rfl ?_)
      refine WO_step rfl (S_pure rfl ?_)
      refine WO_nil ?_
      refine KSeq_n ?_
      refine WC_cond rfl (fun hb2 => ?_) (fun hb2 => ?_)
      ·
        try simp only [decide_eq_true_eq, decide_eq_false_iff_not, Bool.not_eq_true', Bool.not_eq_false', beq_iff_eq, bne_iff_ne, beq_eq_false_iff_ne, Int.ofNat_lt, Int.ofNat_le, Int.ofNat_inj, ne_eq, gt_iff_lt, ge_iff_le] at hb2
        refine WC_seq ?_
        refine WC_region ?_
        refine WO_step rfl (S_pure rfl ?_)
        refine WO_step rfl (S_pure rfl ?_)
        refine WO_step rfl (S_pure rfl ?_)
        first | refine WO_step rfl (S_subN rfl rfl (by omega) ?_) | refine WO_step rfl (S_pure rfl ?_)
        refine WO_step rfl (S_pure rfl ?_)
        refine WO_step rfl (S_pure rfl ?_)
        refine WO_step rfl (S_pure rfl ?_)
        refine WO_call rfl rfl rfl ?_
        have hsp := List.take_append_drop j U
        have h1 : (U.take j).length = j := by rw [List.length_take]; omega
        refine (sp_swap h5 hg (A := A) (U := U.take j) (B := U.drop j) (V := V) (C := C) (by rw [hxs, ← hsp]; simp) hL (by omega) h1 hv (by rw [List.length_drop]; omega)).mono ?_
        rintro _ _ rfl
        refine WO_nil ?_
        refine KSeq_n ?_
        refine WC_region ?_
        refine WO_step rfl (S_pure rfl ?_)
        refine WO_step rfl (S_pure rfl ?_)
        first | refine WO_step rfl (S_subN rfl rfl (by omega) ?_) | refine WO_step rfl (S_pure rfl ?_)
        refine WO_step rfl (S_pure rfl ?_)
        refine WO_nil ?_
        refine KBlock_n ?_
        refine KLoop_n ?_
        have hL' : (A ++ V ++ U.drop j ++ U.take j ++ C).length ≤ 1000000 := by rw [hxs] at hL; simp at hL ⊢; omega
        exact WC_weak (ih (i - j + j) (by omega) (A ++ V) (U.drop j) (U.take j) C _ (i - j) j (by omega) (by rw [List.length_drop]; omega) h1 (by omega) (by omega) (by simp; omega) (by simp) hL' (by rw [hR, ← hsp]; simp)) (by repeat (first | exact SubE.nil | apply SubE.cons rfl)) (by simp only [List.append_assoc]; exact (by repeat (first | exact HSub.refl | refine HSub.pick (by repeat (first | exact Pick.head | apply Pick.tail)) ?_ | apply HSub.drop)))
      ·
        try simp only [decide_eq_true_eq, decide_eq_false_iff_not, Bool.not_eq_true', Bool.not_eq_false', beq_iff_eq, bne_iff_ne, beq_eq_false_iff_ne, Int.ofNat_lt, Int.ofNat_le, Int.ofNat_inj, ne_eq, gt_iff_lt, ge_iff_le] at hb2
        refine WC_seq ?_
        refine WC_region ?_
        refine WO_step rfl (S_pure rfl ?_)
        refine WO_step rfl (S_pure rfl ?_)
        refine WO_step rfl (S_pure rfl ?_)
        first | refine WO_step rfl (S_subN rfl rfl (by omega) ?_) | refine WO_step rfl (S_pure rfl ?_)
        refine WO_step rfl (S_pure rfl ?_)
        refine WO_step rfl (S_pure rfl ?_)
        first | refine WO_step rfl (S_addN rfl rfl (by omega) ?_) | refine WO_step rfl (S_pure rfl ?_)
        refine WO_step rfl (S_pure rfl ?_)
        first | refine WO_step rfl (S_subN rfl rfl (by omega) ?_) | refine WO_step rfl (S_pure rfl ?_)
        refine WO_step rfl (S_pure rfl ?_)
        refine WO_step rfl (S_pure rfl ?_)
        refine WO_call rfl rfl rfl ?_
        have hsp := List.take_append_drop (j - i) V
        have h1 : (V.drop (j - i)).length = i := by rw [List.length_drop]; omega
        have e1 : xs = A ++ U ++ V.take (j - i) ++ V.drop (j - i) ++ C := by
          rw [hxs]; conv => lhs; rw [← hsp]
          simp
        refine (sp_swap h5 hg (A := A) (U := U) (B := V.take (j - i)) (V := V.drop (j - i)) (C := C) e1 hL (by omega) hu h1 (by rw [List.length_take]; omega)).mono ?_
        rintro _ _ rfl
        refine WO_nil ?_
        refine KSeq_n ?_
        refine WC_region ?_
        refine WO_step rfl (S_pure rfl ?_)
        refine WO_step rfl (S_pure rfl ?_)
        first | refine WO_step rfl (S_subN rfl rfl (by omega) ?_) | refine WO_step rfl (S_pure rfl ?_)
        refine WO_step rfl (S_pure rfl ?_)
        refine WO_nil ?_
        refine KBlock_n ?_
        refine KLoop_n ?_
        have e2 : R = A ++ V.take (j - i) ++ V.drop (j - i) ++ (U ++ C) := by
          rw [hR]; conv => lhs; rw [← hsp]
          simp
        have hL' : (A ++ V.drop (j - i) ++ V.take (j - i) ++ U ++ C).length ≤ 1000000 := by rw [hxs] at hL; simp at hL ⊢; omega
        exact WC_weak (ih (i + (j - i)) (by omega) A (V.drop (j - i)) (V.take (j - i)) (U ++ C) (A ++ V.drop (j - i) ++ V.take (j - i) ++ U ++ C) i (j - i) (by omega) h1 (by rw [List.length_take]; omega) (by omega) (by omega) (by omega) (by simp) (by simpa using hL') e2) (by repeat (first | exact SubE.nil | apply SubE.cons rfl)) (by simp only [List.append_assoc]; exact (by repeat (first | exact HSub.refl | refine HSub.pick (by repeat (first | exact Pick.head | apply Pick.tail)) ?_ | apply HSub.drop)))
    ·
      try simp only [decide_eq_true_eq, decide_eq_false_iff_not, Bool.not_eq_true', Bool.not_eq_false', beq_iff_eq, bne_iff_ne, beq_eq_false_iff_ne, Int.ofNat_lt, Int.ofNat_le, Int.ofNat_inj, ne_eq, gt_iff_lt, ge_iff_le] at hb1
      refine WC_exit ?_
      refine KSeq_x ?_
      refine KLoop_x ?_
      have hij : i = j := by simp at hb1; omega
      subst hij
      exact KPost_i (l' := [(10, .int .i64 i), (0, s), (2, .int .i64 m), (4, c)]) (H' := SL s T (A ++ U ++ V ++ C) :: H) (by repeat (first | exact SubE.nil | apply SubE.cons rfl)) (by rw [hxs]; exact (by repeat (first | exact HSub.refl | refine HSub.pick (by repeat (first | exact Pick.head | apply Pick.tail)) ?_ | apply HSub.drop))) ⟨A, U, V, C, i, rfl, rfl, rfl, hu, hv, hm, hR, by rw [← hxs]; exact hL⟩
theorem sp_rot {α : Type} {T : Ty α} (h5 : T.es = 5) (hg : T.agg = true) {H : SH} {s c : Value} {A U V C xs : List α} {a m b : Nat} (hxs : xs = A ++ U ++ V ++ C) (hL : xs.length ≤ 1000000) (ha : a = A.length) (hm : m = a + U.length) (hb : b = m + V.length) (hu : 0 < U.length) (hv : 0 < V.length) :
    WF F X f_slices_rotateCmpFunc_api_Rec [s, .int .i64 a, .int .i64 m, .int .i64 b, c] (SL s T xs :: H) (fun r H' => H' = SL s T (A ++ V ++ U ++ C) :: H) := by
  have hlen : A.length + U.length + V.length ≤ 1000000 := by rw [hxs] at hL; simp at hL; omega
  refine WF_fn F_slices_rotateCmpFunc_api_Rec ?_
  refine WC_seq ?_
  refine WC_region ?_
  refine WO_step rfl (S_pure rfl ?_)
  refine WO_step rfl (S_pure rfl ?_)
  first | refine WO_step rfl (S_subN rfl rfl (by omega) ?_) | refine WO_step rfl (S_pure rfl ?_)
  refine WO_step rfl (S_pure rfl ?_)
  refine WO_nil ?_
  refine KSeq_n ?_
  refine WC_seq ?_
  refine WC_region ?_
  refine WO_step rfl (S_pure rfl ?_)
  refine WO_step rfl (S_pure rfl ?_)
  first | refine WO_step rfl (S_subN rfl rfl (by omega) ?_) | refine WO_step rfl (S_pure rfl ?_)
  refine WO_step rfl (S_pure rfl ?_)
  refine WO_nil ?_
  refine KSeq_n ?_
  refine WC_seq ?_
  refine WC_block ?_
  refine WC_post (WC_weak (lp_rot h5 hg (m := m) (R := A ++ V ++ U ++ C) (c := c) (U.length + V.length) A U V C xs (m - a) (b - m) (by omega) (by omega) (by omega) (by omega) (by omega) (by omega) hxs hL rfl) (by repeat (first | exact SubE.nil | apply SubE.cons rfl)) (by repeat (first | exact HSub.refl | refine HSub.pick (by repeat (first | exact Pick.head | apply Pick.tail)) ?_ | apply HSub.drop))) ?_
  rintro x l' H' ⟨A', U', V', C', i, rfl, rfl, rfl, h1, h2, h3, h4, h5'⟩
  have h6 : A'.length + i ≤ 1000000 := by simp at h5'; omega
  refine KBlock_h ?_
  refine KSeq_n ?_
  refine WC_region ?_
  refine WO_step rfl (S_pure rfl ?_)
  refine WO_step rfl (S_pure rfl ?_)
  refine WO_step rfl (S_pure rfl ?_)
  first | refine WO_step rfl (S_subN rfl rfl (by omega) ?_) | refine WO_step rfl (S_pure rfl ?_)
  refine WO_step rfl (S_pure rfl ?_)
  refine WO_step rfl (S_pure rfl ?_)
  refine WO_step rfl (S_pure rfl ?_)
  refine WO_call rfl rfl rfl ?_
  refine (sp_swap h5 hg (A := A') (U := U') (B := []) (V := V') (C := C') (by simp) (by simpa using h5') (by omega) h1 h2 (by simp; omega)).mono ?_
  rintro _ _ rfl
  refine WO_nil ?_
  refine KFn_n ResL.nil ?_
  refine ⟨_, (by repeat (first | exact HSub.refl | refine HSub.pick (by repeat (first | exact Pick.head | apply Pick.tail)) ?_ | apply HSub.drop)), ?_⟩
  rw [h4]; simp
abbrev leOf {α : Type} (lt : α → α → Bool) (a b : α) : Bool := !lt b a
theorem lp_ins1 {α : Type} {T : Ty α} (h5 : T.es = 5) (hg : T.agg = true) {lt : α → α → Bool} (O : Ord0 (leOf lt)) {g : FuncId} (hc : Cmp g T lt) {H : SH} {s : Value} {P R : List α} {x : α} {a : Nat} {vi vb : Value} (ha : a = P.length) : ∀ (m : Nat) (W1 W2 xs : List α) (j : Nat), W1.length = m → j = a + m → Sor (leOf lt) (W1 ++ W2) → (∀ w ∈ W2, leOf lt w x = false) → xs = P ++ W1 ++ x :: W2 ++ R → xs.length ≤ 1000000 →
    WC F X (.loop L_slices_insertionSortCmpFunc_api_Rec_1) [(9, .int .i64 j), (1, .int .i64 a), (3, fv g), (0, s), (8, vi), (2, vb)] (SL s T xs :: H)
      (KPost fun y l' H' => y = .exit 2 ∧ l' = [(1, .int .i64 a), (3, fv g), (0, s), (8, vi), (2, vb)] ∧ H' = SL s T (P ++ mrg (leOf lt) (W1 ++ W2) [x] ++ R) :: H) := by
  intro m
  induction m using Nat.strongRecOn with
  | _ m ih =>
    intro W1 W2 xs j hm hj hs hw hxs hL
    refine WC_loop ?_
    refine WC_seq ?_
    refine WC_seq ?_
    refine WC_region ?_
    refine WO_step rfl (S_pure rfl ?_)
    refine WO_step rfl (S_pure rfl ?_)
    refine WO_step rfl (S_pure rfl ?_)
    refine WO_step rfl (S_pure rfl ?_)
    refine WO_cases (t := 21) rfl (fun hg1 => ?_) (fun hg1 => ?_)
    ·
      try simp only [decide_eq_true_eq, decide_eq_false_iff_not, Bool.not_eq_true', Bool.not_eq_false', beq_iff_eq, bne_iff_ne, beq_eq_false_iff_ne, Int.ofNat_lt, Int.ofNat_le, Int.ofNat_inj, ne_eq, gt_iff_lt, ge_iff_le] at hg1
      obtain ⟨m, rfl⟩ : ∃ m', m = m' + 1 := ⟨m - 1, by omega⟩
      obtain ⟨W1, w, rfl⟩ := snoc_of (l := W1) (by omega)
      simp only [List.length_append, List.length_singleton] at hm
      have e1 : xs = (P ++ W1) ++ w :: (x :: W2 ++ R) := by rw [hxs]; simp
      have e2 : xs = (P ++ W1 ++ [w]) ++ x :: (W2 ++ R) := by rw [hxs]; simp
      have hx1 : xs[j - 1]? = some w := by rw [e1]; exact get_mid (by simp; omega)
      have hx2 : xs[j]? = some x := by rw [e2]; exact get_mid (by simp; omega)
      have hl1 := lt_of_get hx1
      have hl2 := lt_of_get hx2
      refine WO_step rfl (S_pure rfl ?_)
      refine WO_step rfl (S_pure rfl ?_)
      refine WO_step rfl (S_pure rfl ?_)
      refine WO_step rfl (S_idx rfl rfl (by repeat (first | assumption | exact RD.head | exact RD.nil | apply RD.tail)) (by first | rfl | assumption | (symm; assumption)) (by rfl) (by first | assumption | omega | exact lt_of_get (by assumption) | (simp only [List.length_set]; first | assumption | omega | exact lt_of_get (by assumption))) fun hp25 => ?_)
      refine WO_step rfl (S_loadE rfl (by repeat (first | assumption | exact RD.head | exact RD.nil | apply RD.tail)) (by first | rfl | assumption | (symm; assumption)) (by first | rfl | assumption | (symm; assumption)) (by first | rfl | assumption | (symm; assumption)) (by assumption) ?_)
      refine WO_step rfl (S_pure rfl ?_)
      refine WO_step rfl (S_pure rfl ?_)
      first | refine WO_step rfl (S_subN (b := 1) rfl rfl (by omega) ?_) | refine WO_step rfl (S_pure rfl ?_)
      refine WO_step rfl (S_idx rfl rfl (by repeat (first | assumption | exact RD.head | exact RD.nil | apply RD.tail)) (by first | rfl | assumption | (symm; assumption)) (by rfl) (by first | assumption | omega | exact lt_of_get (by assumption) | (simp only [List.length_set]; first | assumption | omega | exact lt_of_get (by assumption))) fun hp30 => ?_)
      refine WO_step rfl (S_loadE rfl (by repeat (first | assumption | exact RD.head | exact RD.nil | apply RD.tail)) (by first | rfl | assumption | (symm; assumption)) (by first | rfl | assumption | (symm; assumption)) (by first | rfl | assumption | (symm; assumption)) (by assumption) ?_)
      refine WO_call rfl rfl rfl ?_
      refine (hc _ _ _).mono ?_
      rintro _ _ ⟨rfl, n, rfl, hn⟩
      refine WO_step rfl (S_pure rfl ?_)
      refine WO_step rfl (S_pure rfl ?_)
      refine WO_nil ?_
      refine KSeq_n ?_
      refine WC_cond rfl (fun hb1 => ?_) (fun hb1 => ?_)
      ·
        try simp only [decide_eq_true_eq, decide_eq_false_iff_not, Bool.not_eq_true', Bool.not_eq_false', beq_iff_eq, bne_iff_ne, beq_eq_false_iff_ne, Int.ofNat_lt, Int.ofNat_le, Int.ofNat_inj, ne_eq, gt_iff_lt, ge_iff_le] at hb1
        refine WC_skip ?_
        refine KSeq_n ?_
        refine WC_seq ?_
        refine WC_block ?_
        refine WC_region ?_
        refine WO_step rfl (S_pure rfl ?_)
        refine WO_step rfl (S_pure rfl ?_)
        refine WO_step rfl (S_pure rfl ?_)
        refine WO_step rfl (S_pure rfl ?_)
        first | refine WO_step rfl (S_subN (b := 1) rfl rfl (by omega) ?_) | refine WO_step rfl (S_pure rfl ?_)
        refine WO_step rfl (S_pure rfl ?_)
        refine WO_step rfl (S_pure rfl ?_)
        first | refine WO_step rfl (S_subN (b := 1) rfl rfl (by omega) ?_) | refine WO_step rfl (S_pure rfl ?_)
        refine WO_step rfl (S_idx rfl rfl (by repeat (first | assumption | exact RD.head | exact RD.nil | apply RD.tail)) (by first | rfl | assumption | (symm; assumption)) (by rfl) (by first | assumption | omega | exact lt_of_get (by assumption) | (simp only [List.length_set]; first | assumption | omega | exact lt_of_get (by assumption))) fun hp45 => ?_)
        refine WO_step rfl (S_loadE rfl (by repeat (first | assumption | exact RD.head | exact RD.nil | apply RD.tail)) (by first | rfl | assumption | (symm; assumption)) (by first | rfl | assumption | (symm; assumption)) (by first | rfl | assumption | (symm; assumption)) (by assumption) ?_)
        refine WO_step rfl (S_pure rfl ?_)
        refine WO_step rfl (S_pure rfl ?_)
        refine WO_step rfl (S_idx rfl rfl (by repeat (first | assumption | exact RD.head | exact RD.nil | apply RD.tail)) (by first | rfl | assumption | (symm; assumption)) (by rfl) (by first | assumption | omega | exact lt_of_get (by assumption) | (simp only [List.length_set]; first | assumption | omega | exact lt_of_get (by assumption))) fun hp49 => ?_)
        refine WO_step rfl (S_loadE rfl (by repeat (first | assumption | exact RD.head | exact RD.nil | apply RD.tail)) (by first | rfl | assumption | (symm; assumption)) (by first | rfl | assumption | (symm; assumption)) (by first | rfl | assumption | (symm; assumption)) (by assumption) ?_)
        refine WO_step rfl (S_idx rfl rfl (by repeat (first | assumption | exact RD.head | exact RD.nil | apply RD.tail)) (by first | rfl | assumption | (symm; assumption)) (by rfl) (by first | assumption | omega | exact lt_of_get (by assumption) | (simp only [List.length_set]; first | assumption | omega | exact lt_of_get (by assumption))) fun hp51 => ?_)
        refine WO_step rfl (S_storeW rfl rfl (by repeat (first | exact Pick.head | apply Pick.tail)) (by first | rfl | assumption | (symm; assumption)) (by rfl) (by first | rfl | assumption | (symm; assumption)) (by first | assumption | omega | exact lt_of_get (by assumption) | (simp only [List.length_set]; first | assumption | omega | exact lt_of_get (by assumption))) ?_)
        refine WO_step rfl (S_idx rfl rfl (by repeat (first | assumption | exact RD.head | exact RD.nil | apply RD.tail)) (by first | rfl | assumption | (symm; assumption)) (by rfl) (by first | assumption | omega | exact lt_of_get (by assumption) | (simp only [List.length_set]; first | assumption | omega | exact lt_of_get (by assumption))) fun hp52 => ?_)
        refine WO_step rfl (S_storeW rfl rfl (by repeat (first | exact Pick.head | apply Pick.tail)) (by first | rfl | assumption | (symm; assumption)) (by rfl) (by first | rfl | assumption | (symm; assumption)) (by first | assumption | omega | exact lt_of_get (by assumption) | (simp only [List.length_set]; first | assumption | omega | exact lt_of_get (by assumption))) ?_)
        refine WO_nil ?_
        refine KBlock_n ?_
        refine KSeq_n ?_
        refine WC_region ?_
        refine WO_step rfl (S_pure rfl ?_)
        first | refine WO_step rfl (S_subN (b := 1) rfl rfl (by omega) ?_) | refine WO_step rfl (S_pure rfl ?_)
        refine WO_step rfl (S_pure rfl ?_)
        refine WO_nil ?_
        refine KLoop_n ?_
        rw [hn] at hb1
        have hlt : leOf lt w x = false := by simp [leOf, hb1]
        have e3 : (xs.set j w).set (j - 1) x = P ++ W1 ++ x :: (w :: W2) ++ R := by
          rw [e2, set_at (by simp; omega), show (P ++ W1 ++ [w]) ++ w :: (W2 ++ R) = (P ++ W1) ++ w :: (w :: (W2 ++ R)) by simp, set_at (by simp; omega)]; simp
        have hs' : Sor (leOf lt) (W1 ++ (w :: W2)) := by simpa using hs
        have := ih m (by omega) W1 (w :: W2) _ (j - 1) (by omega) (by omega) hs' (by intro z hz; rcases List.mem_cons.1 hz with rfl | hz; exact hlt; exact hw z hz) e3 (by simpa using hL)
        simp only [List.append_assoc, List.singleton_append] at this ⊢
        exact WC_weak this (by repeat (first | exact SubE.nil | apply SubE.cons rfl)) (by repeat (first | exact HSub.refl | refine HSub.pick (by repeat (first | exact Pick.head | apply Pick.tail)) ?_ | apply HSub.drop))
      ·
        try simp only [decide_eq_true_eq, decide_eq_false_iff_not, Bool.not_eq_true', Bool.not_eq_false', beq_iff_eq, bne_iff_ne, beq_eq_false_iff_ne, Int.ofNat_lt, Int.ofNat_le, Int.ofNat_inj, ne_eq, gt_iff_lt, ge_iff_le] at hb1
        refine WC_exit ?_
        refine KSeq_x ?_
        refine KLoop_x ?_
        rw [hn] at hb1
        have hle : leOf lt w x = true := by simp [leOf, hb1]
        have h1 : ∀ u ∈ W1 ++ [w], leOf lt u x = true := by
          intro u hu
          rcases List.mem_append.1 hu with hu | hu
          · have hs1 := ((Sor.app _).1 hs).1
            have := ((Sor.app _).1 hs1).2.2 u hu w (by simp)
            exact O.trans _ _ _ this hle
          · simp at hu; subst hu; exact hle
        rw [hxs, mrg_left _ O _ _ _ h1 hw]; exact KPost_i (by repeat (first | exact SubE.nil | apply SubE.cons rfl)) (by simp only [List.append_assoc]; exact (by repeat (first | exact HSub.refl | refine HSub.pick (by repeat (first | exact Pick.head | apply Pick.tail)) ?_ | apply HSub.drop))) ⟨rfl, rfl, rfl⟩
    ·
      try simp only [decide_eq_true_eq, decide_eq_false_iff_not, Bool.not_eq_true', Bool.not_eq_false', beq_iff_eq, bne_iff_ne, beq_eq_false_iff_ne, Int.ofNat_lt, Int.ofNat_le, Int.ofNat_inj, ne_eq, gt_iff_lt, ge_iff_le] at hg1
      refine WO_off rfl ?_
      refine WO_off rfl ?_
      refine WO_off rfl ?_
      refine WO_off rfl ?_
      refine WO_off rfl ?_
      refine WO_off rfl ?_
      refine WO_off rfl ?_
      refine WO_off rfl ?_
      refine WO_off rfl ?_
      refine WO_off rfl ?_
      refine WO_off rfl ?_
      refine WO_off rfl ?_
      refine WO_step rfl (S_pure rfl ?_)
      refine WO_nil ?_
      refine KSeq_n ?_
      refine WC_cond rfl (fun h => ?_) (fun _ => ?_)
      · exact absurd h (by decide)
      refine WC_exit ?_
      refine KSeq_x ?_
      refine KLoop_x ?_
      obtain rfl := nil_of (l := W1) (by omega)
      rw [hxs, mrg_left _ O _ _ _ (fun u hu => by simp at hu) hw]; exact KPost_i (by repeat (first | exact SubE.nil | apply SubE.cons rfl)) (by simp only [List.append_assoc]; exact (by repeat (first | exact HSub.refl | refine HSub.pick (by repeat (first | exact Pick.head | apply Pick.tail)) ?_ | apply HSub.drop))) ⟨rfl, rfl, rfl⟩
theorem lp_ins0 {α : Type} {T : Ty α} (h5 : T.es = 5) (hg : T.agg = true) {lt : α → α → Bool} (O : Ord0 (leOf lt)) {g : FuncId} (hc : Cmp g T lt) {H : SH} {s : Value} {P R : List α} {a b : Nat} (ha : a = P.length) : ∀ (m : Nat) (S1 S2 xs : List α) (i : Nat), S2.length = m → (i = a + S1.length ∨ S2 = [] ∧ a + S1.length ≤ i) → b = a + S1.length + m → xs = P ++ isort (leOf lt) S1 ++ S2 ++ R → xs.length ≤ 1000000 → i ≤ 1000001 →
    WC F X (.loop L_slices_insertionSortCmpFunc_api_Rec_0) [(8, .int .i64 i), (1, .int .i64 a), (2, .int .i64 b), (3, fv g), (0, s)] (SL s T xs :: H)
      (KPost fun y l' H' => y = .exit 0 ∧ l' = [] ∧ H' = SL s T (P ++ isort (leOf lt) (S1 ++ S2) ++ R) :: H) := by
  intro m
  induction m using Nat.strongRecOn with
  | _ m ih =>
    intro S1 S2 xs i hm hi hb hxs hL hi2
    refine WC_loop ?_
    refine WC_seq ?_
    refine WC_seq ?_
    refine WC_region ?_
    refine WO_step rfl (S_pure rfl ?_)
    refine WO_step rfl (S_pure rfl ?_)
    refine WO_step rfl (S_pure rfl ?_)
    refine WO_nil ?_
    refine KSeq_n ?_
    refine WC_cond rfl (fun hb1 => ?_) (fun hb1 => ?_)
    ·
      try simp only [decide_eq_true_eq, decide_eq_false_iff_not, Bool.not_eq_true', Bool.not_eq_false', beq_iff_eq, bne_iff_ne, beq_eq_false_iff_ne, Int.ofNat_lt, Int.ofNat_le, Int.ofNat_inj, ne_eq, gt_iff_lt, ge_iff_le] at hb1
      obtain ⟨m, rfl⟩ : ∃ m', m = m' + 1 := ⟨m - 1, by omega⟩
      obtain ⟨x, S2, rfl⟩ := cons_of (l := S2) (by omega)
      have hi' : i = a + S1.length := by
        rcases hi with h | ⟨h, _⟩
        · exact h
        · simp at h
      simp only [List.length_cons] at hm
      refine WC_skip ?_
      refine KSeq_n ?_
      refine WC_seq ?_
      refine WC_block ?_
      refine WC_seq ?_
      refine WC_region ?_
      refine WO_step rfl (S_pure rfl ?_)
      refine WO_step rfl (S_pure rfl ?_)
      refine WO_nil ?_
      refine KSeq_n ?_
      refine WC_block ?_
      have hil := isort_len (leOf lt) S1
      refine WC_post (WC_weak (lp_ins1 h5 hg O hc (P := P) (R := S2 ++ R) (x := x) (vi := .int .i64 i) (vb := .int .i64 b) ha S1.length (isort (leOf lt) S1) [] xs i hil hi' (by simpa using isort_sor (leOf lt) O S1) (by simp) (by rw [hxs]; simp) hL) (by repeat (first | exact SubE.nil | apply SubE.cons rfl)) (by repeat (first | exact HSub.refl | refine HSub.pick (by repeat (first | exact Pick.head | apply Pick.tail)) ?_ | apply HSub.drop))) ?_
      rintro y l' H' ⟨rfl, rfl, rfl⟩
      rw [List.append_nil]
      refine KBlock_h ?_
      refine KBlock_n ?_
      refine KSeq_n ?_
      refine WC_region ?_
      refine WO_step rfl (S_pure rfl ?_)
      first | refine WO_step rfl (S_addN (b := 1) rfl rfl (by omega) ?_) | refine WO_step rfl (S_pure rfl ?_)
      refine WO_step rfl (S_pure rfl ?_)
      refine WO_nil ?_
      refine KLoop_n ?_
      have e1 : isort (leOf lt) (S1 ++ [x]) = mrg (leOf lt) (isort (leOf lt) S1) [x] := by rw [isort_app _ O]; rfl
      have hl2 : S1.length + 1 + m + a ≤ 1000000 := by rw [hxs] at hL; simp at hL; omega
      have := ih m (by omega) (S1 ++ [x]) S2 (P ++ isort (leOf lt) (S1 ++ [x]) ++ S2 ++ R) (i + 1) (by omega) (.inl (by simp; omega)) (by simp; omega) rfl (by simp [isort_len]; rw [hxs] at hL; simp [hil] at hL; omega) (by omega)
      rw [e1] at this
      simp only [List.append_assoc, List.singleton_append] at this ⊢
      exact WC_weak this (by repeat (first | exact SubE.nil | apply SubE.cons rfl)) (by repeat (first | exact HSub.refl | refine HSub.pick (by repeat (first | exact Pick.head | apply Pick.tail)) ?_ | apply HSub.drop))
    ·
      try simp only [decide_eq_true_eq, decide_eq_false_iff_not, Bool.not_eq_true', Bool.not_eq_false', beq_iff_eq, bne_iff_ne, beq_eq_false_iff_ne, Int.ofNat_lt, Int.ofNat_le, Int.ofNat_inj, ne_eq, gt_iff_lt, ge_iff_le] at hb1
      refine WC_exit ?_
      refine KSeq_x ?_
      refine KLoop_x ?_
      have hz : S2 = [] := by
        rcases hi with h | ⟨h, _⟩
        · exact nil_of (by omega)
        · exact h
      subst hz
      rw [hxs, List.append_nil, List.append_nil]; exact KPost_i (by repeat (first | exact SubE.nil | apply SubE.cons rfl)) (by repeat (first | exact HSub.refl | refine HSub.pick (by repeat (first | exact Pick.head | apply Pick.tail)) ?_ | apply HSub.drop)) ⟨rfl, rfl, rfl⟩
theorem sp_ins {α : Type} {T : Ty α} (h5 : T.es = 5) (hg : T.agg = true) {lt : α → α → Bool} (O : Ord0 (leOf lt)) {g : FuncId} (hc : Cmp g T lt) {H : SH} {s : Value} {P S R xs : List α} {a b : Nat} (hxs : xs = P ++ S ++ R) (hL : xs.length ≤ 1000000) (ha : a = P.length) (hb : b = a + S.length) :
    WF F X f_slices_insertionSortCmpFunc_api_Rec [s, .int .i64 a, .int .i64 b, fv g] (SL s T xs :: H) (fun r H' => H' = SL s T (P ++ isort (leOf lt) S ++ R) :: H) := by
  have hlen : P.length + S.length ≤ 1000000 := by rw [hxs] at hL; simp at hL; omega
  refine WF_fn F_slices_insertionSortCmpFunc_api_Rec ?_
  refine WC_seq ?_
  refine WC_region ?_
  refine WO_step rfl (S_pure rfl ?_)
  first | refine WO_step rfl (S_addN (b := 1) rfl rfl (by omega) ?_) | refine WO_step rfl (S_pure rfl ?_)
  refine WO_step rfl (S_pure rfl ?_)
  refine WO_nil ?_
  refine KSeq_n ?_
  refine WC_block ?_
  have h0 : ∃ S1 S2, S = S1 ++ S2 ∧ isort (leOf lt) S1 = S1 ∧ (a + 1 = a + S1.length ∨ S2 = [] ∧ a + S1.length ≤ a + 1) := by
    cases S with
    | nil => exact ⟨[], [], rfl, rfl, .inr ⟨rfl, by simp⟩⟩
    | cons x S => exact ⟨[x], S, rfl, rfl, .inl rfl⟩
  obtain ⟨S1, S2, rfl, h1, h2⟩ := h0
  refine WC_post (WC_weak (lp_ins0 h5 hg O hc (P := P) (R := R) (b := b) ha S2.length S1 S2 xs (a + 1) rfl h2 (by rw [List.length_append] at hb; omega) (by rw [hxs, h1]; simp) hL (by omega)) (by repeat (first | exact SubE.nil | apply SubE.cons rfl)) (by repeat (first | exact HSub.refl | refine HSub.pick (by repeat (first | exact Pick.head | apply Pick.tail)) ?_ | apply HSub.drop))) ?_
  rintro y l' H' ⟨rfl, rfl, rfl⟩
  refine KBlock_h ?_
  refine KFn_n ResL.nil ?_
  exact ⟨_, (by repeat (first | exact HSub.refl | refine HSub.pick (by repeat (first | exact Pick.head | apply Pick.tail)) ?_ | apply HSub.drop)), rfl⟩
end Go.Proofs.Ytdpiggphcohmmaa.AM
