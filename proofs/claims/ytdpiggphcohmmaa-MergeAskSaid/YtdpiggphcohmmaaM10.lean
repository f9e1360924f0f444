/- Walks: what the functions compute. -/
import Derived.Test.YtdpiggphcohmmaaM9
namespace Go.Proofs.Ytdpiggphcohmmaa.AM
open Go
set_option linter.unusedSimpArgs false
set_option linter.unusedVariables false
set_option maxRecDepth 4000

/-! ### The stable sort of a whole slice -/
theorem lp_st0 {α : Type} {T : Ty α} (h5 : T.es = 5) (hg : T.agg = true) {lt : α → α → Bool} (O : Ord0 (leOf lt)) {g : FuncId} (hc : Cmp g T lt) {H : SH} {s : Value} {n : Nat} : ∀ (k : Nat) (C : List (List α)) (R xs : List α) (a : Nat), R.length ≤ k → a = (C.map (isort (leOf lt))).flatten.length → n = a + R.length → (∀ c ∈ C, c.length = 20) → xs = (C.map (isort (leOf lt))).flatten ++ R → xs.length ≤ 1000000 →
    WC F X (.loop L_slices_stableCmpFunc_api_Rec_0) [(7, .int .i64 a), (8, .int .i64 ((a + 20 : Nat) : Int)), (6, .int .i64 20), (0, s), (1, .int .i64 n), (2, fv g)] (SL s T xs :: H)
      (KPost fun x l' H' => ∃ (D : List (List α)) (L : List α) (a : Nat), x = .exit 0 ∧ l' = [(7, .int .i64 a), (6, .int .i64 20), (0, s), (1, .int .i64 n), (2, fv g)] ∧ H' = SL s T ((D.map (isort (leOf lt))).flatten ++ L) :: H ∧ D.flatten ++ L = C.flatten ++ R ∧ (∀ c ∈ D, c.length = 20) ∧ L.length < 20 ∧ a = (D.map (isort (leOf lt))).flatten.length ∧ n = a + L.length) := by
  intro k
  induction k using Nat.strongRecOn with
  | _ k ih =>
    intro C R xs a hk ha hn hC hxs hL
    have hlen : a + R.length ≤ 1000000 := by rw [hxs] at hL; simp only [List.length_append] at hL; omega
    refine WC_loop ?_
    refine WC_seq ?_
    refine WC_seq ?_
    refine WC_region ?_
    refine WO_step rfl (S_pure rfl ?_)
    refine WO_step rfl (S_pure rfl ?_)
    refine WO_step rfl (S_pure rfl ?_)
    refine WO_nil ?_
    refine KSeq_n ?_
    refine WC_cond rfl (fun hb1 => ?_) (fun hb1 => ?_)
    ·
      try simp only [decide_eq_true_eq, decide_eq_false_iff_not, Bool.not_eq_true', Bool.not_eq_false', beq_iff_eq, bne_iff_ne, beq_eq_false_iff_ne, Int.ofNat_lt, Int.ofNat_le, Int.ofNat_inj, ne_eq, gt_iff_lt, ge_iff_le] at hb1
      have hsp := List.take_append_drop 20 R
      have htl : (R.take 20).length = 20 := by rw [List.length_take]; omega
      have hdl : (R.drop 20).length = R.length - 20 := by rw [List.length_drop]
      refine WC_skip ?_
      refine KSeq_n ?_
      refine WC_block ?_
      refine WC_seq ?_
      refine WC_region ?_
      refine WO_step rfl (S_pure rfl ?_)
      refine WO_step rfl (S_pure rfl ?_)
      refine WO_step rfl (S_pure rfl ?_)
      refine WO_step rfl (S_pure rfl ?_)
      refine WO_call rfl rfl rfl ?_
      refine (sp_ins h5 hg O hc (P := (C.map (isort (leOf lt))).flatten) (S := R.take 20) (R := R.drop 20) (by rw [hxs, List.append_assoc, hsp]) hL ha (by omega)).mono ?_
      rintro _ _ rfl
      refine WO_nil ?_
      refine KSeq_n ?_
      refine WC_seq ?_
      refine WC_region ?_
      refine WO_step rfl (S_pure rfl ?_)
      refine WO_step rfl (S_pure rfl ?_)
      refine WO_nil ?_
      refine KSeq_n ?_
      refine WC_region ?_
      refine WO_step rfl (S_pure rfl ?_)
      refine WO_step rfl (S_pure rfl ?_)
      refine WO_step rfl (S_addN (b := 20) rfl rfl (by omega) ?_)
      refine WO_step rfl (S_pure rfl ?_)
      refine WO_nil ?_
      refine KBlock_n ?_
      refine KLoop_n ?_
      have hil := isort_len (leOf lt) (R.take 20)
      have e1 : ((C ++ [R.take 20]).map (isort (leOf lt))).flatten = (C.map (isort (leOf lt))).flatten ++ isort (leOf lt) (R.take 20) := by simp
      have := ih (R.length - 20) (by omega) (C ++ [R.take 20]) (R.drop 20) _ (a + 20) (by omega) (by rw [e1, List.length_append]; omega) (by omega) (by intro c hc'; rcases List.mem_append.1 hc' with h | h; exact hC c h; simp at h; rw [h]; exact htl) rfl (by rw [e1]; simp only [List.length_append]; omega)
      rw [e1] at this
      have e2 : (C ++ [R.take 20]).flatten ++ R.drop 20 = C.flatten ++ R := by simp
      rw [e2] at this
      exact WC_weak this (by repeat (first | exact SubE.nil | apply SubE.cons rfl)) (by repeat (first | exact HSub.refl | refine HSub.pick (by repeat (first | exact Pick.head | apply Pick.tail)) ?_ | apply HSub.drop))
    ·
      try simp only [decide_eq_true_eq, decide_eq_false_iff_not, Bool.not_eq_true', Bool.not_eq_false', beq_iff_eq, bne_iff_ne, beq_eq_false_iff_ne, Int.ofNat_lt, Int.ofNat_le, Int.ofNat_inj, ne_eq, gt_iff_lt, ge_iff_le] at hb1
      refine WC_exit ?_
      refine KSeq_x ?_
      refine KLoop_x ?_
      exact KPost_i (l' := [(7, .int .i64 a), (6, .int .i64 20), (0, s), (1, .int .i64 n), (2, fv g)]) (H' := SL s T ((C.map (isort (leOf lt))).flatten ++ R) :: H) (by repeat (first | exact SubE.nil | apply SubE.cons rfl)) (by rw [← hxs]; exact (by repeat (first | exact HSub.refl | refine HSub.pick (by repeat (first | exact Pick.head | apply Pick.tail)) ?_ | apply HSub.drop))) ⟨C, R, a, rfl, rfl, rfl, rfl, hC, by omega, ha, hn⟩
theorem flat_len {α : Type} {k : Nat} : ∀ {C : List (List α)}, (∀ c ∈ C, c.length = k) → C.flatten.length = k * C.length
  | [], _ => by simp
  | c :: C, h => by
    rw [List.flatten_cons, List.length_append, h c (List.mem_cons_self ..), flat_len (fun d hd => h d (List.mem_cons_of_mem _ hd)), List.length_cons, Nat.mul_add]; omega
theorem iflat_len {α : Type} (le : α → α → Bool) : ∀ (C : List (List α)), (C.map (isort le)).flatten.length = C.flatten.length
  | [] => rfl
  | c :: C => by rw [List.map_cons, List.flatten_cons, List.flatten_cons, List.length_append, List.length_append, isort_len, iflat_len le C]
theorem lp_st2 {α : Type} {T : Ty α} (h5 : T.es = 5) (hg : T.agg = true) {lt : α → α → Bool} (O : Ord0 (leOf lt)) {g : FuncId} (hc : Cmp g T lt) {H : SH} {s : Value} {n bs : Nat} (hbs : 0 < bs) (hbs2 : bs ≤ 1000000) : ∀ (k : Nat) (D R : List (List α)) (L xs : List α) (a : Nat), R.length ≤ k → a = D.flatten.length → (∀ c ∈ R, c.length = bs) → L.length < bs → (∀ c ∈ D, c.length = 2 * bs) → n = a + bs * R.length + L.length → xs = (D.map (isort (leOf lt))).flatten ++ (R.map (isort (leOf lt))).flatten ++ isort (leOf lt) L → xs.length ≤ 1000000 →
    WC F X (.loop L_slices_stableCmpFunc_api_Rec_2) [(7, .int .i64 a), (8, .int .i64 ((a + 2 * bs : Nat) : Int)), (6, .int .i64 bs), (0, s), (1, .int .i64 n), (2, fv g)] (SL s T xs :: H)
      (KPost fun x l' H' => ∃ (D' R' : List (List α)) (a : Nat), x = .exit 4 ∧ l' = [(7, .int .i64 a), (6, .int .i64 bs), (0, s), (1, .int .i64 n), (2, fv g)] ∧ H' = SL s T ((D'.map (isort (leOf lt))).flatten ++ (R'.map (isort (leOf lt))).flatten ++ isort (leOf lt) L) :: H ∧ D'.flatten ++ R'.flatten = D.flatten ++ R.flatten ∧ (∀ c ∈ D', c.length = 2 * bs) ∧ (∀ c ∈ R', c.length = bs) ∧ R'.length ≤ 1 ∧ a = D'.flatten.length ∧ n = a + bs * R'.length + L.length) := by
  intro k
  induction k using Nat.strongRecOn with
  | _ k ih =>
    intro D R L xs a hk ha hR hLl hD hn hxs hL
    have hlen : n ≤ 1000000 := by rw [hxs] at hL; simp only [List.length_append, iflat_len, isort_len, flat_len hR] at hL; omega
    refine WC_loop ?_
    refine WC_seq ?_
    refine WC_seq ?_
    refine WC_region ?_
    refine WO_step rfl (S_pure rfl ?_)
    refine WO_step rfl (S_pure rfl ?_)
    refine WO_step rfl (S_pure rfl ?_)
    refine WO_nil ?_
    refine KSeq_n ?_
    refine WC_cond rfl (fun hb1 => ?_) (fun hb1 => ?_)
    ·
      try simp only [decide_eq_true_eq, decide_eq_false_iff_not, Bool.not_eq_true', Bool.not_eq_false', beq_iff_eq, bne_iff_ne, beq_eq_false_iff_ne, Int.ofNat_lt, Int.ofNat_le, Int.ofNat_inj, ne_eq, gt_iff_lt, ge_iff_le] at hb1
      have hR2 : 2 ≤ R.length := by
        rcases Nat.lt_or_ge R.length 2 with h | h
        · have : bs * R.length ≤ bs * 1 := Nat.mul_le_mul_left _ (by omega)
          omega
        · exact h
      obtain ⟨c1, R1, rfl⟩ := cons_of (l := R) (by omega)
      obtain ⟨c2, R2, rfl⟩ := cons_of (l := R1) (by simp at hR2; omega)
      have hc1 : c1.length = bs := hR c1 (by simp)
      have hc2 : c2.length = bs := hR c2 (by simp)
      have hmm := isort_app (leOf lt) O c1 c2
      have hl1 := isort_len (leOf lt) c1
      have hl2 := isort_len (leOf lt) c2
      simp only [List.length_cons] at hn hk
      have hmul : bs * (R2.length + 1 + 1) = bs * R2.length + 2 * bs := by rw [Nat.mul_add, Nat.mul_add]; omega
      refine WC_skip ?_
      refine KSeq_n ?_
      refine WC_block ?_
      refine WC_seq ?_
      refine WC_region ?_
      refine WO_step rfl (S_pure rfl ?_)
      refine WO_step rfl (S_pure rfl ?_)
      refine WO_step rfl (S_pure rfl ?_)
      refine WO_step rfl (S_pure rfl ?_)
      first | refine WO_step rfl (S_addN rfl rfl (by omega) ?_) | refine WO_step rfl (S_pure rfl ?_)
      refine WO_step rfl (S_pure rfl ?_)
      refine WO_step rfl (S_pure rfl ?_)
      refine WO_call rfl rfl rfl ?_
      refine (sp_sym h5 hg O hc (bs + bs) (P := (D.map (isort (leOf lt))).flatten) (U := isort (leOf lt) c1) (V := isort (leOf lt) c2) (Q := (R2.map (isort (leOf lt))).flatten ++ isort (leOf lt) L) (by omega) (by rw [hxs]; simp) hL (by rw [iflat_len]; exact ha) (by omega) (by omega) (by omega) (by omega) (isort_sor _ O _) (isort_sor _ O _)).mono ?_
      rintro _ _ rfl
      rw [← hmm]
      refine WO_nil ?_
      refine KSeq_n ?_
      refine WC_seq ?_
      refine WC_region ?_
      refine WO_step rfl (S_pure rfl ?_)
      refine WO_step rfl (S_pure rfl ?_)
      refine WO_nil ?_
      refine KSeq_n ?_
      refine WC_region ?_
      refine WO_step rfl (S_pure rfl ?_)
      refine WO_step rfl (S_pure rfl ?_)
      first | refine WO_step rfl (S_mulN (a := 2) rfl rfl (by omega) ?_) | refine WO_step rfl (S_pure rfl ?_)
      first | refine WO_step rfl (S_addN rfl rfl (by omega) ?_) | refine WO_step rfl (S_pure rfl ?_)
      refine WO_step rfl (S_pure rfl ?_)
      refine WO_nil ?_
      refine KBlock_n ?_
      refine KLoop_n ?_
      have e1 : ((D ++ [c1 ++ c2]).map (isort (leOf lt))).flatten = (D.map (isort (leOf lt))).flatten ++ isort (leOf lt) (c1 ++ c2) := by simp
      have e2 : (D ++ [c1 ++ c2]).flatten ++ R2.flatten = D.flatten ++ (c1 :: c2 :: R2).flatten := by simp
      have e3 : (D ++ [c1 ++ c2]).flatten.length = a + 2 * bs := by simp; simp at ha; omega
      have := ih R2.length (by omega) (D ++ [c1 ++ c2]) R2 L _ (a + 2 * bs) (by omega) e3.symm (fun c h => hR c (by simp [h])) hLl (by intro c h; rcases List.mem_append.1 h with h | h; exact hD c h; simp at h; rw [h, List.length_append]; omega) (by omega) rfl (by
        rw [hxs] at hL
        simp only [List.length_append, iflat_len, isort_len, e3] at hL ⊢
        simp only [List.flatten_cons, List.length_append] at hL
        omega)
      rw [e1, e2] at this
      exact WC_weak this (by repeat (first | exact SubE.nil | apply SubE.cons rfl)) (by simp only [List.append_assoc]; exact (by repeat (first | exact HSub.refl | refine HSub.pick (by repeat (first | exact Pick.head | apply Pick.tail)) ?_ | apply HSub.drop)))
    ·
      try simp only [decide_eq_true_eq, decide_eq_false_iff_not, Bool.not_eq_true', Bool.not_eq_false', beq_iff_eq, bne_iff_ne, beq_eq_false_iff_ne, Int.ofNat_lt, Int.ofNat_le, Int.ofNat_inj, ne_eq, gt_iff_lt, ge_iff_le] at hb1
      refine WC_exit ?_
      refine KSeq_x ?_
      refine KLoop_x ?_
      have hR1 : R.length ≤ 1 := by
        rcases Nat.lt_or_ge R.length 2 with h | h
        · omega
        · have : bs * 2 ≤ bs * R.length := Nat.mul_le_mul_left _ h
          omega
      exact KPost_i (l' := [(7, .int .i64 a), (6, .int .i64 bs), (0, s), (1, .int .i64 n), (2, fv g)]) (H' := SL s T ((D.map (isort (leOf lt))).flatten ++ (R.map (isort (leOf lt))).flatten ++ isort (leOf lt) L) :: H) (by repeat (first | exact SubE.nil | apply SubE.cons rfl)) (by rw [← hxs]; exact (by repeat (first | exact HSub.refl | refine HSub.pick (by repeat (first | exact Pick.head | apply Pick.tail)) ?_ | apply HSub.drop))) ⟨D, R, a, rfl, rfl, rfl, rfl, hD, hR, hR1, ha, hn⟩
theorem lp_st1 {α : Type} {T : Ty α} (h5 : T.es = 5) (hg : T.agg = true) {lt : α → α → Bool} (O : Ord0 (leOf lt)) {g : FuncId} (hc : Cmp g T lt) {H : SH} {s : Value} {n : Nat} {Z : List α} (hZ : Z.length = n) (hn1 : n ≤ 1000000) : ∀ (k bs : Nat) (R : List (List α)) (L : List α), n - bs ≤ k → 0 < bs → bs ≤ 2000000 → (∀ c ∈ R, c.length = bs) → L.length < bs → R.flatten ++ L = Z →
    WC F X (.loop L_slices_stableCmpFunc_api_Rec_1) [(6, .int .i64 bs), (0, s), (1, .int .i64 n), (2, fv g)] (SL s T ((R.map (isort (leOf lt))).flatten ++ isort (leOf lt) L) :: H)
      (KPost fun x l' H' => x = .exit 2 ∧ l' = [] ∧ H' = SL s T (isort (leOf lt) Z) :: H) := by
  intro k
  induction k using Nat.strongRecOn with
  | _ k ih =>
    intro bs R L hk hbs hbs2 hR hL hz
    have hnz : n = bs * R.length + L.length := by rw [← hZ, ← hz, List.length_append, flat_len hR]
    have hxl : ((R.map (isort (leOf lt))).flatten ++ isort (leOf lt) L).length = n := by rw [List.length_append, iflat_len, isort_len, flat_len hR]; omega
    refine WC_loop ?_
    refine WC_seq ?_
    refine WC_seq ?_
    refine WC_region ?_
    refine WO_step rfl (S_pure rfl ?_)
    refine WO_step rfl (S_pure rfl ?_)
    refine WO_step rfl (S_pure rfl ?_)
    refine WO_nil ?_
    refine KSeq_n ?_
    refine WC_cond rfl (fun hb1 => ?_) (fun hb1 => ?_)
    ·
      try simp only [decide_eq_true_eq, decide_eq_false_iff_not, Bool.not_eq_true', Bool.not_eq_false', beq_iff_eq, bne_iff_ne, beq_eq_false_iff_ne, Int.ofNat_lt, Int.ofNat_le, Int.ofNat_inj, ne_eq, gt_iff_lt, ge_iff_le] at hb1
      refine WC_skip ?_
      refine KSeq_n ?_
      refine WC_block ?_
      refine WC_seq ?_
      refine WC_region ?_
      refine WO_step rfl (S_pure rfl ?_)
      first | refine WO_step rfl (S_mulN (a := 2) rfl rfl (by omega) ?_) | refine WO_step rfl (S_pure rfl ?_)
      refine WO_step rfl (S_pure rfl ?_)
      refine WO_step rfl (S_pure rfl ?_)
      refine WO_nil ?_
      refine KSeq_n ?_
      refine WC_seq ?_
      refine WC_block ?_
      refine WC_post (WC_weak (lp_st2 h5 hg O hc (bs := bs) (n := n) hbs (by omega) R.length [] R L ((R.map (isort (leOf lt))).flatten ++ isort (leOf lt) L) 0 (by omega) rfl hR hL (by simp) (by omega) (by simp) (by omega)) (by repeat (first | exact SubE.nil | apply SubE.cons rfl | (apply SubE.consEq rfl; congr 1; omega))) (by repeat (first | exact HSub.refl | refine HSub.pick (by repeat (first | exact Pick.head | apply Pick.tail)) ?_ | apply HSub.drop))) ?_
      rintro x l' H' ⟨D, R', a, rfl, rfl, rfl, h1, h2, h3, h4, h5', h6⟩
      rw [List.flatten_nil, List.nil_append] at h1
      have hxl2 : ((D.map (isort (leOf lt))).flatten ++ (R'.map (isort (leOf lt))).flatten ++ isort (leOf lt) L).length ≤ 1000000 := by
        simp only [List.length_append, iflat_len, isort_len, flat_len h3]; omega
      have hbn : a ≤ n := by omega
      refine KBlock_h ?_
      refine KSeq_n ?_
      refine WC_seq ?_
      refine WC_seq ?_
      refine WC_region ?_
      refine WO_step rfl (S_pure rfl ?_)
      refine WO_step rfl (S_pure rfl ?_)
      first | refine WO_step rfl (S_addN rfl rfl (by omega) ?_) | refine WO_step rfl (S_pure rfl ?_)
      refine WO_step rfl (S_pure rfl ?_)
      refine WO_nil ?_
      refine KSeq_n ?_
      refine WC_seq ?_
      refine WC_region ?_
      refine WO_step rfl (S_pure rfl ?_)
      refine WO_step rfl (S_pure rfl ?_)
      refine WO_step rfl (S_pure rfl ?_)
      refine WO_nil ?_
      refine KSeq_n ?_
      refine WC_cond rfl (fun hb2 => ?_) (fun hb2 => ?_)
      ·
        try simp only [decide_eq_true_eq, decide_eq_false_iff_not, Bool.not_eq_true', Bool.not_eq_false', beq_iff_eq, bne_iff_ne, beq_eq_false_iff_ne, Int.ofNat_lt, Int.ofNat_le, Int.ofNat_inj, ne_eq, gt_iff_lt, ge_iff_le] at hb2
        have hR1 : R'.length = 1 := by
          rcases Nat.lt_or_ge R'.length 1 with h | h
          · have h0 : R'.length = 0 := by omega
            rw [h0] at h6; omega
          · omega
        obtain ⟨c, R2, rfl⟩ := cons_of (l := R') (by omega)
        obtain rfl := nil_of (l := R2) (by simpa using hR1)
        have hcl : c.length = bs := h3 c (by simp)
        have hl1 := isort_len (leOf lt) c
        have hl2 := isort_len (leOf lt) L
        simp only [List.length_singleton, Nat.mul_one] at h6
        refine WC_region ?_
        refine WO_step rfl (S_pure rfl ?_)
        refine WO_step rfl (S_pure rfl ?_)
        refine WO_step rfl (S_pure rfl ?_)
        refine WO_step rfl (S_pure rfl ?_)
        refine WO_step rfl (S_pure rfl ?_)
        refine WO_call rfl rfl rfl ?_
        refine (sp_sym h5 hg O hc (bs + L.length) (P := (D.map (isort (leOf lt))).flatten) (U := isort (leOf lt) c) (V := isort (leOf lt) L) (Q := []) (by omega) (by simp) hxl2 (by rw [iflat_len]; exact h5') (by omega) (by omega) (by omega) (by omega) (isort_sor _ O _) (isort_sor _ O _)).mono ?_
        rintro _ _ rfl
        rw [← isort_app _ O]
        refine WO_nil ?_
        refine KSeq_n ?_
        refine WC_region ?_
        refine WO_step rfl (S_pure rfl ?_)
        first | refine WO_step rfl (S_mulN (b := 2) rfl rfl (by omega) ?_) | refine WO_step rfl (S_pure rfl ?_)
        refine WO_step rfl (S_pure rfl ?_)
        refine WO_nil ?_
        refine KBlock_n ?_
        refine KLoop_n ?_
        have := ih (n - 2 * bs) (by omega) (2 * bs) D (c ++ L) (by omega) (by omega) (by omega) h2 (by rw [List.length_append]; omega) (by rw [← hz, ← h1]; simp)
        exact WC_weak this (by repeat (first | exact SubE.nil | apply SubE.cons rfl | (apply SubE.consEq rfl; congr 2; omega))) (by simp only [List.append_nil]; exact (by repeat (first | exact HSub.refl | refine HSub.pick (by repeat (first | exact Pick.head | apply Pick.tail)) ?_ | apply HSub.drop)))
      ·
        try simp only [decide_eq_true_eq, decide_eq_false_iff_not, Bool.not_eq_true', Bool.not_eq_false', beq_iff_eq, bne_iff_ne, beq_eq_false_iff_ne, Int.ofNat_lt, Int.ofNat_le, Int.ofNat_inj, ne_eq, gt_iff_lt, ge_iff_le] at hb2
        refine WC_skip ?_
        refine KSeq_n ?_
        refine WC_region ?_
        refine WO_step rfl (S_pure rfl ?_)
        first | refine WO_step rfl (S_mulN (b := 2) rfl rfl (by omega) ?_) | refine WO_step rfl (S_pure rfl ?_)
        refine WO_step rfl (S_pure rfl ?_)
        refine WO_nil ?_
        refine KBlock_n ?_
        refine KLoop_n ?_
        have hcase : R' = [] ∨ ∃ c, R' = [c] ∧ L = [] := by
          rcases Nat.lt_or_ge R'.length 1 with h | h
          · exact .inl (nil_of (by omega))
          · right
            obtain ⟨c, R2, rfl⟩ := cons_of (l := R') (by omega)
            obtain rfl := nil_of (l := R2) (by simp only [List.length_cons] at h4; omega)
            refine ⟨c, rfl, nil_of ?_⟩
            simp only [List.length_singleton, Nat.mul_one] at h6
            omega
        rcases hcase with rfl | ⟨c, rfl, rfl⟩
        · have := ih (n - 2 * bs) (by omega) (2 * bs) D L (by omega) (by omega) (by omega) h2 (by omega) (by rw [← hz, ← h1]; simp)
          exact WC_weak this (by repeat (first | exact SubE.nil | apply SubE.cons rfl | (apply SubE.consEq rfl; congr 2; omega))) (by simp only [List.map_nil, List.flatten_nil, List.append_nil]; exact (by repeat (first | exact HSub.refl | refine HSub.pick (by repeat (first | exact Pick.head | apply Pick.tail)) ?_ | apply HSub.drop)))
        · have := ih (n - 2 * bs) (by omega) (2 * bs) D c (by omega) (by omega) (by omega) h2 (by rw [h3 c (by simp)]; omega) (by rw [← hz, ← h1]; simp)
          exact WC_weak this (by repeat (first | exact SubE.nil | apply SubE.cons rfl | (apply SubE.consEq rfl; congr 2; omega))) (by simp only [List.map_cons, List.map_nil, List.flatten_cons, List.flatten_nil, List.append_nil, isort]; exact (by repeat (first | exact HSub.refl | refine HSub.pick (by repeat (first | exact Pick.head | apply Pick.tail)) ?_ | apply HSub.drop)))
    ·
      try simp only [decide_eq_true_eq, decide_eq_false_iff_not, Bool.not_eq_true', Bool.not_eq_false', beq_iff_eq, bne_iff_ne, beq_eq_false_iff_ne, Int.ofNat_lt, Int.ofNat_le, Int.ofNat_inj, ne_eq, gt_iff_lt, ge_iff_le] at hb1
      refine WC_exit ?_
      refine KSeq_x ?_
      refine KLoop_x ?_
      have hfin : (R.map (isort (leOf lt))).flatten ++ isort (leOf lt) L = isort (leOf lt) Z := by
        have hR1 : R.length ≤ 1 := by
          rcases Nat.lt_or_ge R.length 2 with h | h
          · omega
          · have : bs * 2 ≤ bs * R.length := Nat.mul_le_mul_left _ h
            omega
        rcases Nat.lt_or_ge R.length 1 with h | h
        · obtain rfl := nil_of (l := R) (by omega)
          rw [← hz]; simp
        · obtain ⟨c, R2, rfl⟩ := cons_of (l := R) (by omega)
          obtain rfl := nil_of (l := R2) (by simp only [List.length_cons] at hR1; omega)
          simp only [List.length_singleton, Nat.mul_one] at hnz
          obtain rfl := nil_of (l := L) (by omega)
          rw [← hz]; simp [isort]
      rw [hfin]; exact KPost_i (by repeat (first | exact SubE.nil | apply SubE.cons rfl)) (by repeat (first | exact HSub.refl | refine HSub.pick (by repeat (first | exact Pick.head | apply Pick.tail)) ?_ | apply HSub.drop)) ⟨rfl, rfl, rfl⟩
theorem sp_stable {α : Type} {T : Ty α} (h5 : T.es = 5) (hg : T.agg = true) {lt : α → α → Bool} (O : Ord0 (leOf lt)) {g : FuncId} (hc : Cmp g T lt) {H : SH} {s : Value} {xs : List α} (hL : xs.length ≤ 1000000) :
    WF F X f_slices_stableCmpFunc_api_Rec [s, .int .i64 xs.length, fv g] (SL s T xs :: H) (fun r H' => H' = SL s T (isort (leOf lt) xs) :: H) := by
  refine WF_fn F_slices_stableCmpFunc_api_Rec ?_
  refine WC_seq ?_
  refine WC_region ?_
  refine WO_step rfl (S_pure rfl ?_)
  refine WO_nil ?_
  refine KSeq_n ?_
  refine WC_seq ?_
  refine WC_region ?_
  refine WO_step rfl (S_pure rfl ?_)
  refine WO_step rfl (S_pure rfl ?_)
  refine WO_step rfl (S_pure rfl ?_)
  refine WO_nil ?_
  refine KSeq_n ?_
  refine WC_seq ?_
  refine WC_block ?_
  refine WC_post (WC_weak (lp_st0 h5 hg O hc (n := xs.length) xs.length [] xs xs 0 (by omega) rfl (by omega) (by simp) rfl hL) (by repeat (first | exact SubE.nil | apply SubE.cons rfl)) (by repeat (first | exact HSub.refl | refine HSub.pick (by repeat (first | exact Pick.head | apply Pick.tail)) ?_ | apply HSub.drop))) ?_
  rintro x l' H' ⟨D, L, a, rfl, rfl, rfl, h1, h2, h3, h4, h6⟩
  rw [List.flatten_nil, List.nil_append] at h1
  have hxl : ((D.map (isort (leOf lt))).flatten ++ L).length ≤ 1000000 := by rw [List.length_append, ← h4]; omega
  refine KBlock_h ?_
  refine KSeq_n ?_
  refine WC_seq ?_
  refine WC_region ?_
  refine WO_step rfl (S_pure rfl ?_)
  refine WO_step rfl (S_pure rfl ?_)
  refine WO_step rfl (S_pure rfl ?_)
  refine WO_step rfl (S_pure rfl ?_)
  refine WO_call rfl rfl rfl ?_
  refine (sp_ins h5 hg O hc (P := (D.map (isort (leOf lt))).flatten) (S := L) (R := []) (by simp) hxl h4 h6).mono ?_
  rintro _ _ rfl
  refine WO_nil ?_
  refine KSeq_n ?_
  refine WC_block ?_
  refine WC_post (WC_weak (lp_st1 h5 hg O hc (Z := xs) rfl hL xs.length 20 D L (by omega) (by omega) (by omega) h2 h3 h1) (by repeat (first | exact SubE.nil | apply SubE.cons rfl)) (by simp only [List.append_nil]; exact (by repeat (first | exact HSub.refl | refine HSub.pick (by repeat (first | exact Pick.head | apply Pick.tail)) ?_ | apply HSub.drop)))) ?_
  rintro x l' H' ⟨rfl, rfl, rfl⟩
  refine KBlock_h ?_
  refine KFn_n ResL.nil ?_
  exact ⟨_, (by repeat (first | exact HSub.refl | refine HSub.pick (by repeat (first | exact Pick.head | apply Pick.tail)) ?_ | apply HSub.drop)), rfl⟩
theorem sp_SortStable {α : Type} {T : Ty α} (h5 : T.es = 5) (hg : T.agg = true) {lt : α → α → Bool} (O : Ord0 (leOf lt)) {g : FuncId} (hc : Cmp g T lt) {H : SH} {s : Value} {xs : List α} (hL : xs.length ≤ 1000000) :
    WF F X f_slices_SortStableFunc_api_Rec [s, fv g] (SL s T xs :: H) (fun r H' => H' = SL s T (isort (leOf lt) xs) :: H) := by
  refine WF_fn F_slices_SortStableFunc_api_Rec ?_
  refine WC_region ?_
  refine WO_step rfl (S_pure rfl ?_)
  refine WO_step rfl (S_pure rfl ?_)
  first | refine WO_step rfl (S_pure rfl ?_) | refine WO_step rfl (S_lenS rfl (by repeat (first | assumption | exact RD.head | exact RD.nil | apply RD.tail)) ?_)
  refine WO_step rfl (S_pure rfl ?_)
  refine WO_call rfl rfl rfl ?_
  refine (sp_stable h5 hg O hc hL).mono ?_
  rintro _ _ rfl
  refine WO_nil ?_
  refine KFn_n ResL.nil ?_
  exact ⟨_, (by repeat (first | exact HSub.refl | refine HSub.pick (by repeat (first | exact Pick.head | apply Pick.tail)) ?_ | apply HSub.drop)), rfl⟩
end Go.Proofs.Ytdpiggphcohmmaa.AM
