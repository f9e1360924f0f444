/- Walks: what the functions compute. -/
import Derived.Test.YtpgidiompdabdaaM9
import Derived.Test.YtpgidiompdabdaaM6
namespace Go.Proofs.Ytpgidiompdabdaa.AM
open Go
set_option linter.unusedSimpArgs false
set_option linter.unusedVariables false
set_option maxRecDepth 4000

/-! ### The stable sort of a whole slice -/
theorem lp_st0 {α : Type} {T : Ty α} (h5 : T.es = 5) (hg : T.agg = true) {lt : α → α → Bool} (O : Ord0 (leOf lt)) {g : FuncId} (hc : Cmp g T lt) {H : SH} {s : Value} {n : Nat} : ∀ (k : Nat) (C : List (List α)) (R xs : List α) (a : Nat), R.length ≤ k → a = (C.map (isort (leOf lt))).flatten.length → n = a + R.length → (∀ c ∈ C, c.length = 20) → xs = (C.map (isort (leOf lt))).flatten ++ R → xs.length ≤ 1000000 →
    WC F X (.loop L_slices_stableCmpFunc_api_Rec_0) [(7, .int .i64 a), (8, .int .i64 ((a + 20 : Nat) : Int)), (6, .int .i64 20), (0, s), (1, .int .i64 n), (2, fv g)] (SL s T xs :: H)
      (KPost fun x l' H' => ∃ (D : List (List α)) (L : List α) (a : Nat), x = .exit 0 ∧ l' = [(7, .int .i64 a), (6, .int .i64 20), (0, s), (1, .int .i64 n), (2, fv g)] ∧ H' = SL s T ((D.map (isort (leOf lt))).flatten ++ L) :: H ∧ D.flatten ++ L = C.flatten ++ R ∧ (∀ c ∈ D, c.length = 20) ∧ L.length < 20 ∧ a = (D.map (isort (leOf lt))).flatten.length ∧ n = a + L.length) := by
  intro k
  induction k using Nat.strongRecOn with
  | _ k ih =>
    intro C R xs a hk ha hn hC hxs hL
    have hlen : a + R.length ≤ 1000000 := by rw [hxs] at hL; simp only [List.length_append] at hL; omega
    refine WC_loop ?_
    refine WC_seq ?_
    refine WC_seq ?_
    refine WC_region ?_
    iterate 3 refine WO_step rfl (S_pure rfl ?_)
    refine WO_nil ?_
    refine KSeq_n ?_
    refine WC_cond rfl (fun hb1 => ?_) (fun hb1 => ?_)
    ·
     try simp only [bsT] at hb1
     have hsp := List.take_append_drop 20 R
     have htl : (R.take 20).length = 20 := by rw [List.length_take]; omega
     have hdl : (R.drop 20).length = R.length - 20 := by rw [List.length_drop]
     refine WC_skip ?_
     refine KSeq_n ?_
     refine WC_block ?_
     refine WC_seq ?_
     refine WC_region ?_
     iterate 4 refine WO_step rfl (S_pure rfl ?_)
     refine WO_call rfl rfl rfl ?_
     refine (sp_ins h5 hg O hc (P := (C.map (isort (leOf lt))).flatten) (S := R.take 20) (R := R.drop 20) (by rw [hxs, List.append_assoc, hsp]) hL ha (by omega)).mono ?_
     rintro _ _ rfl
     refine WO_nil ?_
     refine KSeq_n ?_
     refine WC_seq ?_
     refine WC_region ?_
     iterate 2 refine WO_step rfl (S_pure rfl ?_)
     refine WO_nil ?_
     refine KSeq_n ?_
     refine WC_region ?_
     iterate 2 refine WO_step rfl (S_pure rfl ?_)
     refine WO_step rfl (S_addN (b := 20) rfl rfl (by omega) ?_)
     refine WO_step rfl (S_pure rfl ?_)
     refine WO_nil ?_
     refine KBlock_n ?_
     refine KLoop_n ?_
     have hil := isort_len (leOf lt) (R.take 20)
     have e1 : ((C ++ [R.take 20]).map (isort (leOf lt))).flatten = (C.map (isort (leOf lt))).flatten ++ isort (leOf lt) (R.take 20) := by simp
     have := ih (R.length - 20) (by omega) (C ++ [R.take 20]) (R.drop 20) _ (a + 20) (by omega) (by rw [e1, List.length_append]; omega) (by omega) (by intro c hc'; rcases List.mem_append.1 hc' with h | h; exact hC c h; simp at h; rw [h]; exact htl) rfl (by rw [e1]; simp only [List.length_append]; omega)
     rw [e1] at this
     have e2 : (C ++ [R.take 20]).flatten ++ R.drop 20 = C.flatten ++ R := by simp
     rw [e2] at this
     exact WC_weak this seA hsA
    ·
     try simp only [bsT] at hb1
     refine WC_exit ?_
     refine KSeq_x ?_
     refine KLoop_x ?_
     exact KPost_i (l' := [(7, .int .i64 a), (6, .int .i64 20), (0, s), (1, .int .i64 n), (2, fv g)]) (H' := SL s T ((C.map (isort (leOf lt))).flatten ++ R) :: H) seA (by rw [← hxs]; exact hsA) ⟨C, R, a, rfl, rfl, rfl, rfl, hC, by omega, ha, hn⟩
theorem flat_len {α : Type} {k : Nat} : ∀ {C : List (List α)}, (∀ c ∈ C, c.length = k) → C.flatten.length = k * C.length
  | [], _ => by simp
  | c :: C, h => by
    rw [List.flatten_cons, List.length_append, h c (List.mem_cons_self ..), flat_len (fun d hd => h d (List.mem_cons_of_mem _ hd)), List.length_cons, Nat.mul_add]; omega
theorem iflat_len {α : Type} (le : α → α → Bool) : ∀ (C : List (List α)), (C.map (isort le)).flatten.length = C.flatten.length
  | [] => rfl
  | c :: C => by rw [List.map_cons, List.flatten_cons, List.flatten_cons, List.length_append, List.length_append, isort_len, iflat_len le C]
theorem lp_st2 {α : Type} {T : Ty α} (h5 : T.es = 5) (hg : T.agg = true) {lt : α → α → Bool} (O : Ord0 (leOf lt)) {g : FuncId} (hc : Cmp g T lt) {H : SH} {s : Value} {n bs : Nat} (hbs : 0 < bs) (hbs2 : bs ≤ 1000000) : ∀ (k : Nat) (D R : List (List α)) (L xs : List α) (a : Nat), R.length ≤ k → a = D.flatten.length → (∀ c ∈ R, c.length = bs) → L.length < bs → (∀ c ∈ D, c.length = 2 * bs) → n = a + bs * R.length + L.length → xs = (D.map (isort (leOf lt))).flatten ++ (R.map (isort (leOf lt))).flatten ++ isort (leOf lt) L → xs.length ≤ 1000000 →
    WC F X (.loop L_slices_stableCmpFunc_api_Rec_2) [(7, .int .i64 a), (8, .int .i64 ((a + 2 * bs : Nat) : Int)), (6, .int .i64 bs), (0, s), (1, .int .i64 n), (2, fv g)] (SL s T xs :: H)
      (KPost fun x l' H' => ∃ (D' R' : List (List α)) (a : Nat), x = .exit 4 ∧ l' = [(7, .int .i64 a), (6, .int .i64 bs), (0, s), (1, .int .i64 n), (2, fv g)] ∧ H' = SL s T ((D'.map (isort (leOf lt))).flatten ++ (R'.map (isort (leOf lt))).flatten ++ isort (leOf lt) L) :: H ∧ D'.flatten ++ R'.flatten = D.flatten ++ R.flatten ∧ (∀ c ∈ D', c.length = 2 * bs) ∧ (∀ c ∈ R', c.length = bs) ∧ R'.length ≤ 1 ∧ a = D'.flatten.length ∧ n = a + bs * R'.length + L.length) := by
  intro k
  induction k using Nat.strongRecOn with
  | _ k ih =>
    intro D R L xs a hk ha hR hLl hD hn hxs hL
    have hlen : n ≤ 1000000 := by rw [hxs] at hL; simp only [List.length_append, iflat_len, isort_len, flat_len hR] at hL; omega
    refine WC_loop ?_
    refine WC_seq ?_
    refine WC_seq ?_
    refine WC_region ?_
    iterate 3 refine WO_step rfl (S_pure rfl ?_)
    refine WO_nil ?_
    refine KSeq_n ?_
    refine WC_cond rfl (fun hb1 => ?_) (fun hb1 => ?_)
    ·
     try simp only [bsT] at hb1
     have hR2 : 2 ≤ R.length := by
       rcases Nat.lt_or_ge R.length 2 with h | h
       · have : bs * R.length ≤ bs * 1 := Nat.mul_le_mul_left _ (by omega)
         omega
       · exact h
     obtain ⟨c1, R1, rfl⟩ := cons_of (l := R) (by omega)
     obtain ⟨c2, R2, rfl⟩ := cons_of (l := R1) (by simp at hR2; omega)
     have hc1 : c1.length = bs := hR c1 (by simp)
     have hc2 : c2.length = bs := hR c2 (by simp)
     have hmm := isort_app (leOf lt) O c1 c2
     have hl1 := isort_len (leOf lt) c1
     have hl2 := isort_len (leOf lt) c2
     simp only [List.length_cons] at hn hk
     have hmul : bs * (R2.length + 1 + 1) = bs * R2.length + 2 * bs := by rw [Nat.mul_add, Nat.mul_add]; omega
     refine WC_skip ?_
     refine KSeq_n ?_
     refine WC_block ?_
     refine WC_seq ?_
     refine WC_region ?_
     iterate 4 refine WO_step rfl (S_pure rfl ?_)
     first | refine WO_step rfl (S_addN rfl rfl (by omega) ?_) | refine WO_step rfl (S_pure rfl ?_)
     iterate 2 refine WO_step rfl (S_pure rfl ?_)
     refine WO_call rfl rfl rfl ?_
     refine (sp_sym h5 hg O hc (bs + bs) (P := (D.map (isort (leOf lt))).flatten) (U := isort (leOf lt) c1) (V := isort (leOf lt) c2) (Q := (R2.map (isort (leOf lt))).flatten ++ isort (leOf lt) L) (by omega) (by rw [hxs]; simp) hL (by rw [iflat_len]; exact ha) (by omega) (by omega) (by omega) (by omega) (isort_sor _ O _) (isort_sor _ O _)).mono ?_
     rintro _ _ rfl
     rw [← hmm]
     refine WO_nil ?_
     refine KSeq_n ?_
     refine WC_seq ?_
     refine WC_region ?_
     iterate 2 refine WO_step rfl (S_pure rfl ?_)
     refine WO_nil ?_
     refine KSeq_n ?_
     refine WC_region ?_
     iterate 2 refine WO_step rfl (S_pure rfl ?_)
     first | refine WO_step rfl (S_mulN (a := 2) rfl rfl (by omega) ?_) | refine WO_step rfl (S_pure rfl ?_)
     first | refine WO_step rfl (S_addN rfl rfl (by omega) ?_) | refine WO_step rfl (S_pure rfl ?_)
     refine WO_step rfl (S_pure rfl ?_)
     refine WO_nil ?_
     refine KBlock_n ?_
     refine KLoop_n ?_
     have e1 : ((D ++ [c1 ++ c2]).map (isort (leOf lt))).flatten = (D.map (isort (leOf lt))).flatten ++ isort (leOf lt) (c1 ++ c2) := by simp
     have e2 : (D ++ [c1 ++ c2]).flatten ++ R2.flatten = D.flatten ++ (c1 :: c2 :: R2).flatten := by simp
     have e3 : (D ++ [c1 ++ c2]).flatten.length = a + 2 * bs := by simp; simp at ha; omega
     have := ih R2.length (by omega) (D ++ [c1 ++ c2]) R2 L _ (a + 2 * bs) (by omega) e3.symm (fun c h => hR c (by simp [h])) hLl (by intro c h; rcases List.mem_append.1 h with h | h; exact hD c h; simp at h; rw [h, List.length_append]; omega) (by omega) rfl (by
       rw [hxs] at hL
       simp only [List.length_append, iflat_len, isort_len, e3] at hL ⊢
       simp only [List.flatten_cons, List.length_append] at hL
       omega)
     rw [e1, e2] at this
     exact WC_weak this seA (by simp only [List.append_assoc]; exact hsA)
    ·
     try simp only [bsT] at hb1
     refine WC_exit ?_
     refine KSeq_x ?_
     refine KLoop_x ?_
     have hR1 : R.length ≤ 1 := by
       rcases Nat.lt_or_ge R.length 2 with h | h
       · omega
       · have : bs * 2 ≤ bs * R.length := Nat.mul_le_mul_left _ h
         omega
     exact KPost_i (l' := [(7, .int .i64 a), (6, .int .i64 bs), (0, s), (1, .int .i64 n), (2, fv g)]) (H' := SL s T ((D.map (isort (leOf lt))).flatten ++ (R.map (isort (leOf lt))).flatten ++ isort (leOf lt) L) :: H) seA (by rw [← hxs]; exact hsA) ⟨D, R, a, rfl, rfl, rfl, rfl, hD, hR, hR1, ha, hn⟩
theorem lp_st1 {α : Type} {T : Ty α} (h5 : T.es = 5) (hg : T.agg = true) {lt : α → α → Bool} (O : Ord0 (leOf lt)) {g : FuncId} (hc : Cmp g T lt) {H : SH} {s : Value} {n : Nat} {Z : List α} (hZ : Z.length = n) (hn1 : n ≤ 1000000) : ∀ (k bs : Nat) (R : List (List α)) (L : List α), n - bs ≤ k → 0 < bs → bs ≤ 2000000 → (∀ c ∈ R, c.length = bs) → L.length < bs → R.flatten ++ L = Z →
    WC F X (.loop L_slices_stableCmpFunc_api_Rec_1) [(6, .int .i64 bs), (0, s), (1, .int .i64 n), (2, fv g)] (SL s T ((R.map (isort (leOf lt))).flatten ++ isort (leOf lt) L) :: H)
      (KPost fun x l' H' => x = .exit 2 ∧ l' = [] ∧ H' = SL s T (isort (leOf lt) Z) :: H) := by
  intro k
  induction k using Nat.strongRecOn with
  | _ k ih =>
    intro bs R L hk hbs hbs2 hR hL hz
    have hnz : n = bs * R.length + L.length := by rw [← hZ, ← hz, List.length_append, flat_len hR]
    have hxl : ((R.map (isort (leOf lt))).flatten ++ isort (leOf lt) L).length = n := by rw [List.length_append, iflat_len, isort_len, flat_len hR]; omega
    refine WC_loop ?_
    refine WC_seq ?_
    refine WC_seq ?_
    refine WC_region ?_
    iterate 3 refine WO_step rfl (S_pure rfl ?_)
    refine WO_nil ?_
    refine KSeq_n ?_
    refine WC_cond rfl (fun hb1 => ?_) (fun hb1 => ?_)
    ·
     try simp only [bsT] at hb1
     refine WC_skip ?_
     refine KSeq_n ?_
     refine WC_block ?_
     refine WC_seq ?_
     refine WC_region ?_
     refine WO_step rfl (S_pure rfl ?_)
     first | refine WO_step rfl (S_mulN (a := 2) rfl rfl (by omega) ?_) | refine WO_step rfl (S_pure rfl ?_)
     iterate 2 refine WO_step rfl (S_pure rfl ?_)
     refine WO_nil ?_
     refine KSeq_n ?_
     refine WC_seq ?_
     refine WC_block ?_
     refine WC_post (WC_weak (lp_st2 h5 hg O hc (bs := bs) (n := n) hbs (by omega) R.length [] R L ((R.map (isort (leOf lt))).flatten ++ isort (leOf lt) L) 0 (by omega) rfl hR hL (by simp) (by omega) (by simp) (by omega)) (by repeat (first | exact SubE.nil | apply SubE.cons rfl | (apply SubE.consEq rfl; congr 1; omega))) hsA) ?_
     rintro x l' H' ⟨D, R', a, rfl, rfl, rfl, h1, h2, h3, h4, h5', h6⟩
     rw [List.flatten_nil, List.nil_append] at h1
     have hxl2 : ((D.map (isort (leOf lt))).flatten ++ (R'.map (isort (leOf lt))).flatten ++ isort (leOf lt) L).length ≤ 1000000 := by
       simp only [List.length_append, iflat_len, isort_len, flat_len h3]; omega
     have hbn : a ≤ n := by omega
     refine KBlock_h ?_
     refine KSeq_n ?_
     refine WC_seq ?_
     refine WC_seq ?_
     refine WC_region ?_
     iterate 2 refine WO_step rfl (S_pure rfl ?_)
     first | refine WO_step rfl (S_addN rfl rfl (by omega) ?_) | refine WO_step rfl (S_pure rfl ?_)
     refine WO_step rfl (S_pure rfl ?_)
     refine WO_nil ?_
     refine KSeq_n ?_
     refine WC_seq ?_
     refine WC_region ?_
     iterate 3 refine WO_step rfl (S_pure rfl ?_)
     refine WO_nil ?_
     refine KSeq_n ?_
     refine WC_cond rfl (fun hb2 => ?_) (fun hb2 => ?_)
     ·
      try simp only [bsT] at hb2
      have hR1 : R'.length = 1 := by
        rcases Nat.lt_or_ge R'.length 1 with h | h
        · have h0 : R'.length = 0 := by omega
          rw [h0] at h6; omega
        · omega
      obtain ⟨c, R2, rfl⟩ := cons_of (l := R') (by omega)
      obtain rfl := nil_of (l := R2) (by simpa using hR1)
      have hcl : c.length = bs := h3 c (by simp)
      have hl1 := isort_len (leOf lt) c
      have hl2 := isort_len (leOf lt) L
      simp only [List.length_singleton, Nat.mul_one] at h6
      refine WC_region ?_
      iterate 5 refine WO_step rfl (S_pure rfl ?_)
      refine WO_call rfl rfl rfl ?_
      refine (sp_sym h5 hg O hc (bs + L.length) (P := (D.map (isort (leOf lt))).flatten) (U := isort (leOf lt) c) (V := isort (leOf lt) L) (Q := []) (by omega) (by simp) hxl2 (by rw [iflat_len]; exact h5') (by omega) (by omega) (by omega) (by omega) (isort_sor _ O _) (isort_sor _ O _)).mono ?_
      rintro _ _ rfl
      rw [← isort_app _ O]
      refine WO_nil ?_
      refine KSeq_n ?_
      refine WC_region ?_
      refine WO_step rfl (S_pure rfl ?_)
      first | refine WO_step rfl (S_mulN (b := 2) rfl rfl (by omega) ?_) | refine WO_step rfl (S_pure rfl ?_)
      refine WO_step rfl (S_pure rfl ?_)
      refine WO_nil ?_
      refine KBlock_n ?_
      refine KLoop_n ?_
      have := ih (n - 2 * bs) (by omega) (2 * bs) D (c ++ L) (by omega) (by omega) (by omega) h2 (by rw [List.length_append]; omega) (by rw [← hz, ← h1]; simp)
      exact WC_weak this (by repeat (first | exact SubE.nil | apply SubE.cons rfl | (apply SubE.consEq rfl; congr 2; omega))) (by simp only [List.append_nil]; exact hsA)
     ·
      try simp only [bsT] at hb2
      refine WC_skip ?_
      refine KSeq_n ?_
      refine WC_region ?_
      refine WO_step rfl (S_pure rfl ?_)
      first | refine WO_step rfl (S_mulN (b := 2) rfl rfl (by omega) ?_) | refine WO_step rfl (S_pure rfl ?_)
      refine WO_step rfl (S_pure rfl ?_)
      refine WO_nil ?_
      refine KBlock_n ?_
      refine KLoop_n ?_
      have hcase : R' = [] ∨ ∃ c, R' = [c] ∧ L = [] := by
        rcases Nat.lt_or_ge R'.length 1 with h | h
        · exact .inl (nil_of (by omega))
        · right
          obtain ⟨c, R2, rfl⟩ := cons_of (l := R') (by omega)
          obtain rfl := nil_of (l := R2) (by simp only [List.length_cons] at h4; omega)
          refine ⟨c, rfl, nil_of ?_⟩
          simp only [List.length_singleton, Nat.mul_one] at h6
          omega
      rcases hcase with rfl | ⟨c, rfl, rfl⟩
      · have := ih (n - 2 * bs) (by omega) (2 * bs) D L (by omega) (by omega) (by omega) h2 (by omega) (by rw [← hz, ← h1]; simp)
        exact WC_weak this (by repeat (first | exact SubE.nil | apply SubE.cons rfl | (apply SubE.consEq rfl; congr 2; omega))) (by simp only [List.map_nil, List.flatten_nil, List.append_nil]; exact hsA)
      · have := ih (n - 2 * bs) (by omega) (2 * bs) D c (by omega) (by omega) (by omega) h2 (by rw [h3 c (by simp)]; omega) (by rw [← hz, ← h1]; simp)
        exact WC_weak this (by repeat (first | exact SubE.nil | apply SubE.cons rfl | (apply SubE.consEq rfl; congr 2; omega))) (by simp only [List.map_cons, List.map_nil, List.flatten_cons, List.flatten_nil, List.append_nil, isort]; exact hsA)
    ·
     try simp only [bsT] at hb1
     refine WC_exit ?_
     refine KSeq_x ?_
     refine KLoop_x ?_
     have hfin : (R.map (isort (leOf lt))).flatten ++ isort (leOf lt) L = isort (leOf lt) Z := by
       have hR1 : R.length ≤ 1 := by
         rcases Nat.lt_or_ge R.length 2 with h | h
         · omega
         · have : bs * 2 ≤ bs * R.length := Nat.mul_le_mul_left _ h
           omega
       rcases Nat.lt_or_ge R.length 1 with h | h
       · obtain rfl := nil_of (l := R) (by omega)
         rw [← hz]; simp
       · obtain ⟨c, R2, rfl⟩ := cons_of (l := R) (by omega)
         obtain rfl := nil_of (l := R2) (by simp only [List.length_cons] at hR1; omega)
         simp only [List.length_singleton, Nat.mul_one] at hnz
         obtain rfl := nil_of (l := L) (by omega)
         rw [← hz]; simp [isort]
     rw [hfin]; exact KPost_i seA hsA ⟨rfl, rfl, rfl⟩
theorem sp_stable {α : Type} {T : Ty α} (h5 : T.es = 5) (hg : T.agg = true) {lt : α → α → Bool} (O : Ord0 (leOf lt)) {g : FuncId} (hc : Cmp g T lt) {H : SH} {s : Value} {xs : List α} (hL : xs.length ≤ 1000000) :
    WF F X f_slices_stableCmpFunc_api_Rec [s, .int .i64 xs.length, fv g] (SL s T xs :: H) (fun r H' => H' = SL s T (isort (leOf lt) xs) :: H) := by
  refine WF_fn F_slices_stableCmpFunc_api_Rec ?_
  refine WC_seq ?_
  refine WC_region ?_
  refine WO_step rfl (S_pure rfl ?_)
  refine WO_nil ?_
  refine KSeq_n ?_
  refine WC_seq ?_
  refine WC_region ?_
  iterate 3 refine WO_step rfl (S_pure rfl ?_)
  refine WO_nil ?_
  refine KSeq_n ?_
  refine WC_seq ?_
  refine WC_block ?_
  refine WC_post (WC_weak (lp_st0 h5 hg O hc (n := xs.length) xs.length [] xs xs 0 (by omega) rfl (by omega) (by simp) rfl hL) seA hsA) ?_
  rintro x l' H' ⟨D, L, a, rfl, rfl, rfl, h1, h2, h3, h4, h6⟩
  rw [List.flatten_nil, List.nil_append] at h1
  have hxl : ((D.map (isort (leOf lt))).flatten ++ L).length ≤ 1000000 := by rw [List.length_append, ← h4]; omega
  refine KBlock_h ?_
  refine KSeq_n ?_
  refine WC_seq ?_
  refine WC_region ?_
  iterate 4 refine WO_step rfl (S_pure rfl ?_)
  refine WO_call rfl rfl rfl ?_
  refine (sp_ins h5 hg O hc (P := (D.map (isort (leOf lt))).flatten) (S := L) (R := []) (by simp) hxl h4 h6).mono ?_
  rintro _ _ rfl
  refine WO_nil ?_
  refine KSeq_n ?_
  refine WC_block ?_
  refine WC_post (WC_weak (lp_st1 h5 hg O hc (Z := xs) rfl hL xs.length 20 D L (by omega) (by omega) (by omega) h2 h3 h1) seA (by simp only [List.append_nil]; exact hsA)) ?_
  rintro x l' H' ⟨rfl, rfl, rfl⟩
  refine KBlock_h ?_
  refine KFn_n ResL.nil ?_
  exact ⟨_, hsA, rfl⟩
theorem sp_SortStable {α : Type} {T : Ty α} (h5 : T.es = 5) (hg : T.agg = true) {lt : α → α → Bool} (O : Ord0 (leOf lt)) {g : FuncId} (hc : Cmp g T lt) {H : SH} {s : Value} {xs : List α} (hL : xs.length ≤ 1000000) :
    WF F X f_slices_SortStableFunc_api_Rec [s, fv g] (SL s T xs :: H) (fun r H' => H' = SL s T (isort (leOf lt) xs) :: H) := by
  refine WF_fn F_slices_SortStableFunc_api_Rec ?_
  refine WC_region ?_
  iterate 2 refine WO_step rfl (S_pure rfl ?_)
  first | refine WO_step rfl (S_pure rfl ?_) | refine WO_step rfl (S_lenS rfl rdA ?_)
  refine WO_step rfl (S_pure rfl ?_)
  refine WO_call rfl rfl rfl ?_
  refine (sp_stable h5 hg O hc hL).mono ?_
  rintro _ _ rfl
  refine WO_nil ?_
  refine KFn_n ResL.nil ?_
  exact ⟨_, hsA, rfl⟩
/-! ### The order of keys -/
theorem bl_irrefl : ∀ a : List UInt8, Op.bytesLess a a = false
  | [] => rfl
  | x :: a => by simp [Op.bytesLess, bl_irrefl a]
theorem bl_tri : ∀ a b : List UInt8, Op.bytesLess a b = true ∨ a = b ∨ Op.bytesLess b a = true
  | [], [] => .inr (.inl rfl)
  | [], y :: b => .inl rfl
  | x :: a, [] => .inr (.inr rfl)
  | x :: a, y :: b => by
    have ih := bl_tri a b
    simp only [Op.bytesLess, Bool.or_eq_true, Bool.and_eq_true, decide_eq_true_eq, beq_iff_eq, List.cons.injEq]
    rcases UInt8.lt_or_lt_of_ne (a := x) (b := y) |> fun f => (Classical.em (x = y)).elim (fun e => Or.inl e) (fun e => Or.inr (f e)) with e | e | e
    · subst e; rcases ih with h | h | h
      · exact .inl (.inr ⟨rfl, h⟩)
      · exact .inr (.inl ⟨rfl, h⟩)
      · exact .inr (.inr (.inr ⟨rfl, h⟩))
    · exact .inl (.inl e)
    · exact .inr (.inr (.inl e))
theorem bl_trans : ∀ a b c : List UInt8, Op.bytesLess a b = true → Op.bytesLess b c = true → Op.bytesLess a c = true
  | [], [], _, h, _ => by cases h
  | [], y :: b, [], _, h => by cases h
  | [], y :: b, z :: c, _, _ => rfl
  | x :: a, [], _, h, _ => by cases h
  | x :: a, y :: b, [], _, h => by cases h
  | x :: a, y :: b, z :: c, h1, h2 => by
    simp only [Op.bytesLess, Bool.or_eq_true, Bool.and_eq_true, decide_eq_true_eq, beq_iff_eq] at h1 h2 ⊢
    rcases h1 with h1 | ⟨rfl, h1⟩
    · rcases h2 with h2 | ⟨rfl, h2⟩
      · exact .inl (UInt8.lt_trans h1 h2)
      · exact .inl h1
    · rcases h2 with h2 | ⟨rfl, h2⟩
      · exact .inl h2
      · exact .inr ⟨rfl, bl_trans a b c h1 h2⟩
theorem lessK_irrefl (a : ByteArray) : lessK a a = false := by simp [lessK, sLt, bl_irrefl]
theorem lessK_tri (a b : ByteArray) : lessK a b = true ∨ a = b ∨ lessK b a = true := by
  unfold lessK sLt
  by_cases h : hashOf a < hashOf b
  · left; simp [h]
  · by_cases h2 : hashOf b < hashOf a
    · right; right; simp [h2]
    · have e : hashOf a = hashOf b := by omega
      rcases bl_tri a.toList b.toList with h3 | h3 | h3
      · left; simp [e, h3]
      · right; left; rw [toList_data, toList_data] at h3; exact ba_ext h3
      · right; right; simp [e, h3]
theorem lessK_trans {a b c : ByteArray} (h1 : lessK a b = true) (h2 : lessK b c = true) : lessK a c = true := by
  unfold lessK sLt at *
  simp only [Bool.or_eq_true, Bool.and_eq_true, decide_eq_true_eq] at *
  rcases h1 with h1 | ⟨e1, h1⟩ <;> rcases h2 with h2 | ⟨e2, h2⟩
  · left; omega
  · left; omega
  · left; omega
  · right; exact ⟨by omega, bl_trans _ _ _ h1 h2⟩
theorem lessK_asymm {a b : ByteArray} (h : lessK a b = true) : lessK b a = false := by
  cases hc : lessK b a with
  | false => rfl
  | true => have := lessK_trans h hc; rw [lessK_irrefl] at this; cases this
def ltR (a b : Rec) : Bool := lessK a.key b.key
theorem leK_trans {a b c : ByteArray} (h1 : lessK b a = false) (h2 : lessK c b = false) : lessK c a = false := by
  cases hc : lessK c a with
  | false => rfl
  | true =>
    rcases lessK_tri a b with h | h | h
    · rw [lessK_trans hc h] at h2; cases h2
    · subst h; rw [hc] at h2; cases h2
    · rw [h] at h1; cases h1
/-! ### Records with short keys -/
abbrev SRec := {r : Rec // r.key.size ≤ 20}
def TB : Ty SRec := ⟨5, 29, 56, true, fun r => TRec.enc r.1, fun r => TRec.val r.1, fun r => TRec.len r.1, fun r => TRec.ones r.1, fun r => TRec.hcells r.1, fun r => TRec.hmk r.1⟩
theorem TB_cells (xs : List SRec) : TB.cells xs = TRec.cells (xs.map (·.1)) := by
  induction xs with
  | nil => rfl
  | cons x xs ih => rw [Ty.cells, List.flatMap_cons, ← Ty.cells, ih]; rfl
theorem SL_TB {s : Value} (xs : List SRec) : SL s TB xs = SL s TRec (xs.map (·.1)) := by
  unfold SL; rw [TB_cells, List.length_map]; rfl
def short (l : List Rec) : Prop := ∀ x ∈ l, x.key.size ≤ 20
theorem short_sub {l : List Rec} (h : short l) : ∃ ys : List SRec, ys.map (·.1) = l := by
  induction l with
  | nil => exact ⟨[], rfl⟩
  | cons x l ih =>
    obtain ⟨ys, h1⟩ := ih (fun y hy => h y (List.mem_cons_of_mem _ hy))
    exact ⟨⟨x, h x (List.mem_cons_self ..)⟩ :: ys, by simp [h1]⟩
abbrev ltB (a b : SRec) : Bool := ltR a.1 b.1
theorem O_R : Ord0 (leOf ltR) := ⟨fun a b => by
    simp only [leOf, ltR]
    cases h : lessK b.key a.key with
    | false => exact .inl rfl
    | true => rw [lessK_asymm h]; exact .inr rfl, fun a b c h1 h2 => by
    simp only [leOf, ltR, Bool.not_eq_true'] at *
    exact leK_trans h1 h2⟩
theorem O_B : Ord0 (leOf ltB) := ⟨fun a b => O_R.tot a.1 b.1, fun a b c => O_R.trans a.1 b.1 c.1⟩
theorem ins_map (x : SRec) : ∀ l : List SRec, (ins (leOf ltB) x l).map (·.1) = ins (leOf ltR) x.1 (l.map (·.1))
  | [] => rfl
  | y :: l => by
    simp only [ins, List.map_cons]
    by_cases h : leOf ltB x y = true
    · have h' : leOf ltR x.1 y.1 = true := h
      simp [h, h']
    · have h' : ¬ leOf ltR x.1 y.1 = true := h
      simp [h, h', ins_map x l]
theorem isort_map : ∀ l : List SRec, (isort (leOf ltB) l).map (·.1) = isort (leOf ltR) (l.map (·.1))
  | [] => rfl
  | x :: l => by show (ins (leOf ltB) x (isort (leOf ltB) l)).map (·.1) = _; rw [ins_map, isort_map l]; rfl
theorem sp_Sort1 {H : SH} {a b : Rec} (ha : a.key.size ≤ 20) (hb : b.key.size ≤ 20) : WF F X f_merge_Sort_1 [TRec.val a, TRec.val b] H (fun r H' => H' = H ∧ ∃ n : Int, r = .int .i64 n ∧ (n < 0 ↔ ltR a b = true)) := by
  refine WF_fn F_merge_Sort_1 ?_
  refine WC_seq ?_
  refine WC_region ?_
  refine WO_step rfl (S_box rfl rfl fun i2 => ?_)
  refine WO_step rfl (S_box rfl rfl fun i3 => ?_)
  refine WO_step rfl (S_pure rfl ?_)
  refine WO_nil ?_
  refine KSeq_n ?_
  refine WC_seq ?_
  refine WC_block ?_
  refine WC_seq ?_
  refine WC_region ?_
  refine WO_step rfl (S_pure rfl ?_)
  refine WO_step rfl (S_loadO rfl pkA (by rfl) (by rfl) ?_)
  refine WO_step rfl (S_pure rfl ?_)
  refine WO_step rfl (S_loadO rfl pkA (by rfl) (by rfl) ?_)
  refine WO_call rfl rfl rfl ?_
  refine (sp_SLess (by omega) (by omega)).mono ?_
  rintro _ _ ⟨rfl, rfl⟩
  refine WO_step rfl (S_pure rfl ?_)
  refine WO_nil ?_
  refine KSeq_n ?_
  refine WC_cond rfl (fun hb1 => ?_) (fun hb1 => ?_)
  ·
   try simp only [bsT] at hb1
   refine WC_seq ?_
   refine WC_region ?_
   refine WO_step rfl (S_pure rfl ?_)
   refine WO_nil ?_
   refine KSeq_n ?_
   refine WC_ret ?_
   refine KBlock_r ?_
   refine KSeq_r ?_
   refine KFn_r (ResL.tmp rfl ResL.nil) ?_
   exact ⟨_, hsA, rfl, -1, rfl, by simp [ltR, hb1]⟩
  ·
   try simp only [bsT] at hb1
   refine WC_seq ?_
   refine WC_region ?_
   refine WO_step rfl (S_pure rfl ?_)
   refine WO_step rfl (S_loadO rfl pkA (by rfl) (by rfl) ?_)
   refine WO_step rfl (S_pure rfl ?_)
   refine WO_step rfl (S_loadO rfl pkA (by rfl) (by rfl) ?_)
   refine WO_call rfl rfl rfl ?_
   refine (sp_SLess (by omega) (by omega)).mono ?_
   rintro _ _ ⟨rfl, rfl⟩
   refine WO_step rfl (S_pure rfl ?_)
   refine WO_nil ?_
   refine KSeq_n ?_
   refine WC_cond rfl (fun hb2 => ?_) (fun hb2 => ?_)
   ·
    try simp only [bsT] at hb2
    refine WC_seq ?_
    refine WC_region ?_
    refine WO_step rfl (S_pure rfl ?_)
    refine WO_nil ?_
    refine KSeq_n ?_
    refine WC_ret ?_
    refine KBlock_r ?_
    refine KSeq_r ?_
    refine KFn_r (ResL.tmp rfl ResL.nil) ?_
    exact ⟨_, hsA, rfl, 1, rfl, by simp [ltR, hb1]⟩
   ·
    try simp only [bsT] at hb2
    refine WC_skip ?_
    refine KBlock_n ?_
    refine KSeq_n ?_
    refine WC_seq ?_
    refine WC_region ?_
    refine WO_step rfl (S_pure rfl ?_)
    refine WO_nil ?_
    refine KSeq_n ?_
    refine WC_ret ?_
    refine KFn_r (ResL.tmp rfl ResL.nil) ?_
    exact ⟨_, hsA, rfl, 0, rfl, by simp [ltR, hb1]⟩
theorem cmp_Sort1 : Cmp f_merge_Sort_1 TB ltB := fun H a b => sp_Sort1 a.2 b.2
theorem sp_New1 {H : SH} {a b : Rec} : WF F X f_merge_New_1 [TRec.val a, TRec.val b] H (fun r H' => H' = H ∧ r = .bool (decide (a.key = b.key))) := by
  refine WF_fn F_merge_New_1 ?_
  refine WC_seq ?_
  refine WC_region ?_
  refine WO_step rfl (S_box rfl rfl fun i2 => ?_)
  refine WO_step rfl (S_box rfl rfl fun i3 => ?_)
  refine WO_step rfl (S_pure rfl ?_)
  refine WO_nil ?_
  refine KSeq_n ?_
  refine WC_seq ?_
  refine WC_region ?_
  refine WO_step rfl (S_pure rfl ?_)
  refine WO_step rfl (S_loadO rfl pkA (by rfl) (by rfl) ?_)
  refine WO_step rfl (S_pure rfl ?_)
  refine WO_step rfl (S_loadO rfl pkA (by rfl) (by rfl) ?_)
  first | refine WO_step rfl (S_eqS rfl rfl ?_) | refine WO_step rfl (S_pure rfl ?_)
  refine WO_step rfl (S_pure rfl ?_)
  refine WO_nil ?_
  refine KSeq_n ?_
  refine WC_ret ?_
  refine KFn_r (ResL.tmp rfl ResL.nil) ?_
  exact ⟨_, hsA, rfl, rfl⟩
theorem sp_Clone_nil {H : SH} : WF F X f_slices_Clone_api_Rec [.slice none 0 0] H (fun r H' => ∃ w : SV, H' = SL w.toV TRec [] :: H ∧ r = w.toV) := by
  refine WF_view ?_
  refine WF_fn F_slices_Clone_api_Rec ?_
  refine WC_seq ?_
  refine WC_region ?_
  refine WO_step rfl (S_pure rfl ?_)
  refine WO_nil ?_
  refine KSeq_n ?_
  refine WC_seq ?_
  refine WC_seq ?_
  refine WC_region ?_
  iterate 2 refine WO_step rfl (S_pure rfl ?_)
  refine WO_nil ?_
  refine KSeq_n ?_
  refine WC_cond rfl (fun hb1 => ?_) (fun hb1 => ?_)
  ·
   try simp only [bsT] at hb1
   refine WC_seq ?_
   refine WC_region ?_
   refine WO_step rfl (S_pure rfl ?_)
   refine WO_nil ?_
   refine KSeq_n ?_
   refine WC_ret ?_
   refine KSeq_r ?_
   refine KFn_r (ResL.tmp rfl ResL.nil) ?_
   exact ⟨_, hsA, SL (SV.toV .nil) TRec [] :: H, fun h hh => HAg.addNil hh, .nil, rfl, rfl⟩
  ·
   try simp only [bsT] at hb1
   exact absurd hb1 (by decide)
   --stop
theorem sp_Clone_mk {H : SH} {i o n es : Nat} {l : List Rec} (hv : RD H (.slice (some ⟨i, o, none⟩) n es) TRec l) (hl : l.length ≤ 1000000) : WF F X f_slices_Clone_api_Rec [.slice (some ⟨i, o, none⟩) n es] H (fun r H' => ∃ w : SV, H' = SL w.toV TRec l :: H ∧ r = w.toV) := by
  refine WF_fn F_slices_Clone_api_Rec ?_
  refine WC_seq ?_
  refine WC_region ?_
  refine WO_step rfl (S_pure rfl ?_)
  refine WO_nil ?_
  refine KSeq_n ?_
  refine WC_seq ?_
  refine WC_seq ?_
  refine WC_region ?_
  iterate 2 refine WO_step rfl (S_pure rfl ?_)
  refine WO_nil ?_
  refine KSeq_n ?_
  refine WC_cond rfl (fun hb1 => ?_) (fun hb1 => ?_)
  ·
   try simp only [bsT] at hb1
   exact absurd hb1 (by simp)
   --stop
  ·
   try simp only [bsT] at hb1
   refine WC_skip ?_
   refine KSeq_n ?_
   refine WC_seq ?_
   refine WC_region ?_
   refine WO_step rfl (S_lit (vs := []) rfl rfl rfl fun w5 => ?_)
   refine WO_view (H' := SL w5.toV TRec [] :: H) (fun h hh => hh) ?_
   refine WO_step rfl (S_pure rfl ?_)
   refine WO_step rfl (S_app rfl rfl pkA (by first | exact SRC.str rfl rfl | (apply RD.src; repeat (first | assumption | exact RD.head | exact RD.nil | apply RD.tail))) (by rfl) (by rfl) (by (try simp only [List.length_append, List.length_cons, List.length_nil]); omega) fun w7 => ?_)
   refine WO_step rfl (S_pure rfl ?_)
   refine WO_nil ?_
   refine KSeq_n ?_
   refine WC_ret ?_
   refine KFn_r (ResL.tmp rfl ResL.nil) ?_
   exact ⟨_, hsA, _, rfl, rfl⟩
theorem sp_Clone {H : SH} {v : SV} {l : List Rec} (hv : RD H v.toV TRec l) (hl : l.length ≤ 1000000) : WF F X f_slices_Clone_api_Rec [v.toV] H (fun r H' => ∃ w : SV, H' = SL w.toV TRec l :: H ∧ r = w.toV) := by
  cases v with
  | nil =>
    intro a hH
    have hl0 : l = [] := by
      rcases hv.2 a hH with ⟨ro, t, h0, h1⟩ | ⟨h1, _⟩
      · rcases h1 with ⟨_, h1⟩ | ⟨i, o, c, h1, _⟩
        · exact nil_of h1
        · cases h1
      · exact nil_of h1
    subst hl0
    exact sp_Clone_nil a hH
  | mk i o n es => exact sp_Clone_mk hv hl
theorem sp_Sort {H : SH} {v : SV} {l : List Rec} (hv : RD H v.toV TRec l) (hl : l.length ≤ 1000000) (hs : short l) : WF F X f_merge_Sort [v.toV] H (fun r H' => ∃ w : SV, H' = SL w.toV TRec (isort (leOf ltR) l) :: H ∧ r = w.toV) := by
  obtain ⟨ys, hys⟩ := short_sub hs
  refine WF_fn F_merge_Sort ?_
  refine WC_seq ?_
  refine WC_region ?_
  refine WO_step rfl (S_pure rfl ?_)
  refine WO_nil ?_
  refine KSeq_n ?_
  refine WC_seq ?_
  refine WC_region ?_
  refine WO_step rfl (S_pure rfl ?_)
  refine WO_call rfl rfl rfl ?_
  refine (sp_Clone rdA (by omega)).mono ?_
  rintro _ _ ⟨wC, rfl, rfl⟩
  refine WO_step rfl (S_pure rfl ?_)
  refine WO_nil ?_
  refine KSeq_n ?_
  refine WC_seq ?_
  refine WC_region ?_
  refine WO_step rfl (S_pure rfl ?_)
  refine WO_call rfl rfl rfl ?_
  have e0 : (SL wC.toV TRec l :: H) = (SL wC.toV TB ys :: H) := by rw [SL_TB, hys]
  rw [e0]
  refine (sp_SortStable (T := TB) rfl rfl O_B cmp_Sort1 (by rw [← List.length_map (f := fun x : SRec => x.1), hys]; exact hl)).mono ?_
  rintro _ _ rfl
  rw [SL_TB, isort_map, hys]
  refine WO_nil ?_
  refine KSeq_n ?_
  refine WC_seq ?_
  refine WC_region ?_
  iterate 2 refine WO_step rfl (S_pure rfl ?_)
  refine WO_nil ?_
  refine KSeq_n ?_
  refine WC_ret ?_
  refine KFn_r (ResL.tmp rfl ResL.nil) ?_
  exact ⟨_, hsA, wC, rfl, rfl⟩
theorem sp_Grow {H : SH} {n : Nat} (hn : n ≤ 1000000) : WF F X f_slices_Grow_api_Rec [.slice none 0 0, .int .i64 n] H (fun r H' => ∃ w : SV, H' = SL w.toV TRec [] :: H ∧ r = w.toV) := by
  refine WF_view ?_
  refine WF_fn F_slices_Grow_api_Rec ?_
  refine WC_seq ?_
  refine WC_region ?_
  refine WO_step rfl (S_pure rfl ?_)
  refine WO_nil ?_
  refine KSeq_n ?_
  refine WC_seq ?_
  refine WC_seq ?_
  refine WC_region ?_
  iterate 2 refine WO_step rfl (S_pure rfl ?_)
  refine WO_nil ?_
  refine KSeq_n ?_
  refine WC_cond rfl (fun hb1 => ?_) (fun hb1 => ?_)
  ·
   try simp only [bsT] at hb1
   exfalso; omega
   --stop
  ·
   try simp only [bsT] at hb1
   refine WC_skip ?_
   refine KSeq_n ?_
   refine WC_seq ?_
   refine WC_seq ?_
   refine WC_region ?_
   iterate 4 refine WO_step rfl (S_pure rfl ?_)
   first | refine WO_step rfl (S_pure rfl ?_) | refine WO_step rfl (S_lenS rfl rdA ?_)
   refine WO_step rfl (S_pureE rfl (v' := .int .i64 0) ?_ ?_)
   · rfl
   refine WO_step rfl (S_pureE rfl (v' := .int .i64 (n : Int)) ?_ ?_)
   · rw [wrap_i64 (by omega) (by omega), Int.sub_zero]
   refine WO_step rfl (S_pure rfl ?_)
   refine WO_nil ?_
   refine KSeq_n ?_
   refine WC_seq ?_
   refine WC_region ?_
   iterate 2 refine WO_step rfl (S_pure rfl ?_)
   refine WO_nil ?_
   refine KSeq_n ?_
   refine WC_cond rfl (fun hb2 => ?_) (fun hb2 => ?_)
   ·
    try simp only [bsT] at hb2
    refine WC_region ?_
    iterate 3 refine WO_step rfl (S_pure rfl ?_)
    refine WO_step rfl (S_cut (s := .nil) (T := TRec) (xs := []) (a := 0) (b := 0) (m := 0) rfl RD.nil rfl LB.dflt (LB.mk rfl rfl) LB.dflt (by omega) (by omega) (by simp) ?_)
    refine WO_step rfl (S_pure rfl ?_)
    refine WO_step rfl (S_appZ (n := n) rfl rfl rfl (by omega) (by omega) fun i22 => ?_)
    refine WO_step rfl (S_pure rfl ?_)
    first | refine WO_step rfl (S_pure rfl ?_) | refine WO_step rfl (S_lenS rfl rdA ?_)
    refine WO_step rfl (S_cutX (a := 0) (b := 0) (m := n) rfl LB.dflt (LB.mk rfl rfl) LB.dflt (by omega) (by omega) (by omega) ?_)
    refine WO_step rfl (S_pure rfl ?_)
    refine WO_nil ?_
    refine KSeq_n ?_
    refine WC_seq ?_
    refine WC_region ?_
    iterate 2 refine WO_step rfl (S_pure rfl ?_)
    refine WO_nil ?_
    refine KSeq_n ?_
    refine WC_ret ?_
    refine KFn_r (ResL.tmp rfl ResL.nil) ?_
    exact ⟨_, hsA, SL (SV.mk i22 0 0 5).toV TRec [] :: H, fun h hh => HAg.rowSL rfl rfl hh, _, rfl, rfl⟩
   ·
    try simp only [bsT] at hb2
    refine WC_skip ?_
    refine KSeq_n ?_
    refine WC_seq ?_
    refine WC_region ?_
    iterate 2 refine WO_step rfl (S_pure rfl ?_)
    refine WO_nil ?_
    refine KSeq_n ?_
    refine WC_ret ?_
    refine KFn_r (ResL.tmp rfl ResL.nil) ?_
    exact ⟨_, hsA, SL (SV.toV .nil) TRec [] :: H, fun h hh => HAg.addNil hh, .nil, rfl, rfl⟩
theorem flat_take {α : Type} {ls : List (List α)} {k : Nat} {l : List α} (h : ls[k]? = some l) : (ls.take (k + 1)).flatten = (ls.take k).flatten ++ l := by
  rw [List.take_add_one, h]; simp
theorem flat_take_le {α : Type} : ∀ (ls : List (List α)) (k : Nat), (ls.take k).flatten.length ≤ ls.flatten.length
  | [], k => by simp
  | l :: ls, 0 => by simp
  | l :: ls, k + 1 => by have := flat_take_le ls k; simp at this ⊢; omega
theorem lp_Cat0 {H : SH} {v : Value} {svs : List SV} {ls : List (List Rec)} (hv : Rds H v svs TRecs TRec ls) (hl : ls.flatten.length ≤ 1000000) (hn : ls.length ≤ 1000000) : ∀ (n k : Nat), ls.length - k = n → k ≤ ls.length →
    WC F X (.loop L_slices_Concat_api_Rec_0) [(11, .int .i64 k), (10, .int .i64 ls.length), (9, v), (3, .int .i64 (ls.take k).flatten.length), (0, v)] H
      (KPost fun x l' H' => x = .exit 0 ∧ l' = [(3, .int .i64 ls.flatten.length), (0, v)] ∧ H' = H) := by
  intro n
  induction n using Nat.strongRecOn with
  | _ n ih =>
    intro k hk hkl
    have hle := flat_take_le ls k
    have hle2 := flat_take_le ls (k + 1)
    refine WC_loop ?_
    refine WC_seq ?_
    refine WC_region ?_
    refine WO_step rfl (S_pure rfl ?_)
    refine WO_nil ?_
    refine KSeq_n ?_
    refine WC_seq ?_
    refine WC_cond rfl (fun hb1 => ?_) (fun hb1 => ?_)
    ·
     try simp only [bsT] at hb1
     obtain ⟨sv, hsv⟩ := get_of_lt (l := svs) (a := k) (by rw [hv.len]; exact hb1)
     obtain ⟨l, hl1⟩ := get_of_lt hb1
     have hin := hv.ins k sv l hsv hl1
     have hout := hv.out
     have hft := flat_take hl1
     rw [hft, List.length_append] at hle2
     refine WC_skip ?_
     refine KSeq_n ?_
     refine WC_seq ?_
     refine WC_block ?_
     refine WC_seq ?_
     refine WC_region ?_
     refine WO_step rfl (S_idx rfl rfl rdA (by first | rfl | assumption | (symm; assumption)) (by rfl) (by first | assumption | omega | exact lt_of_get (by assumption) | (simp only [List.length_set]; first | assumption | omega | exact lt_of_get (by assumption))) fun hp13 => ?_)
     refine WO_step rfl (S_loadE rfl rdA (by first | rfl | assumption | (symm; assumption)) (by first | rfl | assumption | (symm; assumption)) (by first | rfl | assumption | (symm; assumption)) (by assumption) ?_)
     refine WO_step rfl (S_pure rfl ?_)
     refine WO_nil ?_
     refine KSeq_n ?_
     refine WC_seq ?_
     refine WC_region ?_
     iterate 2 refine WO_step rfl (S_pure rfl ?_)
     first | refine WO_step rfl (S_pure rfl ?_) | refine WO_step rfl (S_lenS rfl rdA ?_)
     first | refine WO_step rfl (S_addN rfl rfl (by omega) ?_) | refine WO_step rfl (S_pure rfl ?_)
     refine WO_step rfl (S_pure rfl ?_)
     refine WO_nil ?_
     refine KSeq_n ?_
     refine WC_seq ?_
     refine WC_region ?_
     iterate 2 refine WO_step rfl (S_pure rfl ?_)
     refine WO_nil ?_
     refine KSeq_n ?_
     refine WC_cond rfl (fun hb2 => ?_) (fun hb2 => ?_)
     ·
      try simp only [bsT] at hb2
      exfalso; omega
      --stop
     ·
      try simp only [bsT] at hb2
      refine WC_skip ?_
      refine KBlock_n ?_
      refine KSeq_n ?_
      refine WC_region ?_
      first | refine WO_step rfl (S_addN (b := 1) rfl rfl (by omega) ?_) | refine WO_step rfl (S_pure rfl ?_)
      refine WO_step rfl (S_pure rfl ?_)
      refine WO_nil ?_
      refine KLoop_n ?_
      have := ih (ls.length - (k + 1)) (by omega) (k + 1) rfl (by omega)
      rw [hft, List.length_append] at this
      exact WC_weak this seA hsA
    ·
     try simp only [bsT] at hb1
     refine WC_exit ?_
     refine KSeq_x ?_
     refine KLoop_x ?_
     rw [show k = ls.length by omega, List.take_length]
     exact KPost_i seA hsA ⟨rfl, rfl, rfl⟩
theorem lp_Cat1 {H : SH} {v : Value} {svs : List SV} {ls : List (List Rec)} (hv : Rds H v svs TRecs TRec ls) (hl : ls.flatten.length ≤ 1000000) (hn : ls.length ≤ 1000000) : ∀ (n k : Nat) (w : SV), ls.length - k = n → k ≤ ls.length →
    WC F X (.loop L_slices_Concat_api_Rec_1) [(27, .int .i64 k), (26, .int .i64 ls.length), (25, v), (6, w.toV)] (SL w.toV TRec (ls.take k).flatten :: H)
      (KPost fun x l' H' => ∃ w : SV, x = .exit 2 ∧ l' = [(6, w.toV)] ∧ H' = SL w.toV TRec ls.flatten :: H) := by
  intro n
  induction n using Nat.strongRecOn with
  | _ n ih =>
    intro k w hk hkl
    have hle := flat_take_le ls k
    have hle2 := flat_take_le ls (k + 1)
    refine WC_loop ?_
    refine WC_seq ?_
    refine WC_region ?_
    refine WO_step rfl (S_pure rfl ?_)
    refine WO_nil ?_
    refine KSeq_n ?_
    refine WC_seq ?_
    refine WC_cond rfl (fun hb1 => ?_) (fun hb1 => ?_)
    ·
     try simp only [bsT] at hb1
     obtain ⟨sv, hsv⟩ := get_of_lt (l := svs) (a := k) (by rw [hv.len]; exact hb1)
     obtain ⟨l, hl1⟩ := get_of_lt hb1
     have hin := hv.ins k sv l hsv hl1
     have hout := hv.out
     have hft := flat_take hl1
     rw [hft, List.length_append] at hle2
     refine WC_skip ?_
     refine KSeq_n ?_
     refine WC_seq ?_
     refine WC_block ?_
     refine WC_seq ?_
     refine WC_region ?_
     refine WO_step rfl (S_idx rfl rfl rdA (by first | rfl | assumption | (symm; assumption)) (by rfl) (by first | assumption | omega | exact lt_of_get (by assumption) | (simp only [List.length_set]; first | assumption | omega | exact lt_of_get (by assumption))) fun hp29 => ?_)
     refine WO_step rfl (S_loadE rfl rdA (by first | rfl | assumption | (symm; assumption)) (by first | rfl | assumption | (symm; assumption)) (by first | rfl | assumption | (symm; assumption)) (by assumption) ?_)
     refine WO_step rfl (S_pure rfl ?_)
     refine WO_nil ?_
     refine KSeq_n ?_
     refine WC_region ?_
     iterate 2 refine WO_step rfl (S_pure rfl ?_)
     refine WO_step rfl (S_app rfl rfl pkA (by first | exact SRC.str rfl rfl | (apply RD.src; repeat (first | assumption | exact RD.head | exact RD.nil | apply RD.tail))) (by rfl) (by rfl) (by (try simp only [List.length_append, List.length_cons, List.length_nil]); omega) fun w33 => ?_)
     refine WO_step rfl (S_pure rfl ?_)
     refine WO_nil ?_
     refine KBlock_n ?_
     refine KSeq_n ?_
     refine WC_region ?_
     first | refine WO_step rfl (S_addN (b := 1) rfl rfl (by omega) ?_) | refine WO_step rfl (S_pure rfl ?_)
     refine WO_step rfl (S_pure rfl ?_)
     refine WO_nil ?_
     refine KLoop_n ?_
     have := ih (ls.length - (k + 1)) (by omega) (k + 1) w33 rfl (by omega)
     rw [hft] at this
     exact WC_weak this seA hsA
    ·
     try simp only [bsT] at hb1
     refine WC_exit ?_
     refine KSeq_x ?_
     refine KLoop_x ?_
     refine KPost_i (l' := [(6, w.toV)]) (H' := SL w.toV TRec ls.flatten :: H) seA ?_ ⟨w, rfl, rfl, rfl⟩
     rw [show k = ls.length by omega, List.take_length]; exact hsA
theorem sp_Concat {H : SH} {v : Value} {svs : List SV} {ls : List (List Rec)} (hv : Rds H v svs TRecs TRec ls) (hl : ls.flatten.length ≤ 1000000) (hn : ls.length ≤ 1000000) : WF F X f_slices_Concat_api_Rec [v] H (fun r H' => ∃ w : SV, H' = SL w.toV TRec ls.flatten :: H ∧ r = w.toV) := by
  have hout := hv.out
  have hlen := hv.len
  refine WF_fn F_slices_Concat_api_Rec ?_
  refine WC_seq ?_
  refine WC_region ?_
  refine WO_step rfl (S_pure rfl ?_)
  refine WO_nil ?_
  refine KSeq_n ?_
  refine WC_seq ?_
  refine WC_region ?_
  refine WO_step rfl (S_pure rfl ?_)
  refine WO_nil ?_
  refine KSeq_n ?_
  refine WC_seq ?_
  refine WC_seq ?_
  refine WC_region ?_
  refine WO_step rfl (S_pure rfl ?_)
  refine WO_step rfl (S_lenS rfl hout ?_)
  rw [hlen]
  refine WO_step rfl (S_pure rfl ?_)
  refine WO_nil ?_
  refine KSeq_n ?_
  refine WC_block ?_
  refine WC_post (WC_weak (lp_Cat0 hv hl hn ls.length 0 (by omega) (by omega)) seA HSub.refl) ?_
  rintro x l' H' ⟨rfl, rfl, rfl⟩
  refine KBlock_h ?_
  refine KSeq_n ?_
  refine WC_seq ?_
  refine WC_region ?_
  refine WO_step rfl (S_pure rfl ?_)
  refine WO_call rfl rfl rfl ?_
  refine (sp_Grow hl).mono ?_
  rintro _ _ ⟨wG, rfl, rfl⟩
  refine WO_step rfl (S_pure rfl ?_)
  refine WO_nil ?_
  refine KSeq_n ?_
  refine WC_seq ?_
  refine WC_seq ?_
  refine WC_region ?_
  refine WO_step rfl (S_pure rfl ?_)
  refine WO_step rfl (S_lenS rfl hout.tail ?_)
  rw [hlen]
  refine WO_step rfl (S_pure rfl ?_)
  refine WO_nil ?_
  refine KSeq_n ?_
  refine WC_block ?_
  refine WC_post (WC_weak (lp_Cat1 hv hl hn ls.length 0 wG (by omega) (by omega)) seA hsA) ?_
  rintro x l' H' ⟨w, rfl, rfl, rfl⟩
  refine KBlock_h ?_
  refine KSeq_n ?_
  refine WC_seq ?_
  refine WC_region ?_
  iterate 2 refine WO_step rfl (S_pure rfl ?_)
  refine WO_nil ?_
  refine KSeq_n ?_
  refine WC_ret ?_
  refine KFn_r (ResL.tmp rfl ResL.nil) ?_
  exact ⟨_, hsA, w, rfl, rfl⟩
def ddpFrom : ByteArray → List Rec → List Rec
  | _, [] => []
  | k, y :: ys => if y.key = k then ddpFrom k ys else y :: ddpFrom y.key ys
def ddp : List Rec → List Rec
  | [] => []
  | x :: xs => x :: ddpFrom x.key xs
theorem ddpFrom_len : ∀ (k : ByteArray) (l : List Rec), (ddpFrom k l).length ≤ l.length
  | _, [] => by simp [ddpFrom]
  | k, y :: ys => by
    unfold ddpFrom; split
    · have := ddpFrom_len k ys; simp; omega
    · have := ddpFrom_len y.key ys; simp; omega
theorem ddp_len (l : List Rec) : (ddp l).length ≤ l.length := by
  cases l with
  | nil => simp [ddp]
  | cons x l => have := ddpFrom_len x.key l; simp [ddp]; omega
def cmpP (H : SH) (s : SV) (xs : List Rec) (z : Ex) (l' : SE) (H' : SH) : Prop :=
  (z = .exit 0 ∧ l' = [(0, s.toV)] ∧ H' = SL s.toV TRec xs :: H ∧ ddp xs = xs) ∨
  (∃ (r : SV) (H'' : SH), z = .ret ∧ l' = [(4, r.toV)] ∧ H' = H'' ∧ ∀ h, HAg H'' h → HAg (SL r.toV TRec (ddp xs) :: H) h)
theorem take_set_succ {α : Type} {l : List α} {k : Nat} {y : α} (h : k < l.length) : (l.set k y).take (k + 1) = l.take k ++ [y] := by
  rw [List.take_add_one, List.take_set_of_le (Nat.le_refl _), List.getElem?_set_self h]; rfl
theorem lp_Cmp1 {g : FuncId} (hc : ∀ (H : SH) (a b : Rec), WF F X g [TRec.val a, TRec.val b] H (fun r H' => H' = H ∧ r = .bool (decide (a.key = b.key)))) {H : SH} {s : SV} {xs : List Rec} {k0 : Nat} (hk0 : 1 ≤ k0) (hn : xs.length ≤ 1000000) (hk0n : k0 < xs.length) : ∀ (n k2 k : Nat) (cur : List Rec), xs.length - (k0 + k2) = n → 1 ≤ k2 → k0 + k2 ≤ xs.length → k ≤ k0 + k2 - 1 → k0 ≤ k → cur.length = xs.length → cur.drop (k0 + k2 - 1) = xs.drop (k0 + k2 - 1) → (∃ p, xs[k0 + k2 - 1]? = some p ∧ ddp xs = cur.take k ++ ddpFrom p.key (xs.drop (k0 + k2))) →
    WC F X (.loop L_slices_CompactFunc_api_Rec_1) [(7, .int .i64 k2), (5, .int .i64 k), (6, (s.sub 5 k0 (xs.length - k0)).toV), (0, s.toV), (1, fv g)] (SL s.toV TRec cur :: H)
      (KPost fun z l' H' => ∃ (k : Nat) (cur : List Rec), z = .exit 2 ∧ l' = [(5, .int .i64 k), (0, s.toV)] ∧ H' = SL s.toV TRec cur :: H ∧ cur.length = xs.length ∧ k ≤ xs.length ∧ ddp xs = cur.take k) := by
  intro n
  induction n using Nat.strongRecOn with
  | _ n ih =>
    intro k2 k cur hn2 hk2 hkk hk hk0k hcl hcd hdd
    obtain ⟨p, hp, hdd⟩ := hdd
    have hcp : cur[k0 + k2 - 1]? = some p := by
      have := congrArg (·[0]?) hcd
      simp only [List.getElem?_drop, Nat.add_zero] at this
      rw [this]; exact hp
    have hsub : RD (SL s.toV TRec cur :: H) (s.sub 5 k0 (xs.length - k0)).toV TRec ((cur.drop k0).take (xs.length - k0)) := RD.head.sub' rfl (by omega)
    have hsl : ((cur.drop k0).take (xs.length - k0)).length = xs.length - k0 := by rw [List.length_take, List.length_drop]; omega
    have hsp : ((cur.drop k0).take (xs.length - k0))[k2 - 1]? = some p := by
      rw [List.getElem?_take, if_pos (by omega), List.getElem?_drop, ← hcp]; congr 1; omega
    refine WC_loop ?_
    refine WC_seq ?_
    refine WC_seq ?_
    refine WC_region ?_
    iterate 2 refine WO_step rfl (S_pure rfl ?_)
    refine WO_step rfl (S_lenS rfl hsub ?_)
    rw [hsl]
    refine WO_step rfl (S_pure rfl ?_)
    refine WO_nil ?_
    refine KSeq_n ?_
    refine WC_cond rfl (fun hb1 => ?_) (fun hb1 => ?_)
    ·
     try simp only [bsT] at hb1
     obtain ⟨y, hy⟩ := get_of_lt (l := xs) (a := k0 + k2) (by omega)
     have hcy : cur[k0 + k2]? = some y := by
       have := congrArg (·[1]?) hcd
       simp only [List.getElem?_drop] at this
       rw [show k0 + k2 - 1 + 1 = k0 + k2 by omega] at this
       rw [this]; exact hy
     have hsy : ((cur.drop k0).take (xs.length - k0))[k2]? = some y := by
       rw [List.getElem?_take, if_pos (by omega), List.getElem?_drop]; exact hcy
     rw [drop_get hy] at hdd
     have hdr : cur.drop (k0 + k2) = xs.drop (k0 + k2) := by
       have := congrArg (List.drop 1) hcd
       simp only [List.drop_drop] at this
       rw [show k0 + k2 - 1 + 1 = k0 + k2 by omega] at this
       exact this
     refine WC_skip ?_
     refine KSeq_n ?_
     refine WC_seq ?_
     refine WC_block ?_
     refine WC_seq ?_
     refine WC_region ?_
     iterate 3 refine WO_step rfl (S_pure rfl ?_)
     refine WO_step rfl (S_idx rfl rfl hsub (by rfl) (by rfl) (lt_of_get hsy) fun hp41 => ?_)
     refine WO_step rfl (S_loadE rfl hsub (by rfl) (by rfl) (by rfl) hsy ?_)
     iterate 2 refine WO_step rfl (S_pure rfl ?_)
     first | refine WO_step rfl (S_subN (b := 1) rfl rfl (by omega) ?_) | refine WO_step rfl (S_pure rfl ?_)
     refine WO_step rfl (S_idx rfl rfl hsub (by rfl) (by rfl) (lt_of_get hsp) fun hp46 => ?_)
     refine WO_step rfl (S_loadE rfl hsub (by rfl) (by rfl) (by rfl) hsp ?_)
     refine WO_call rfl rfl rfl ?_
     refine (hc _ _ _).mono ?_
     rintro _ _ ⟨rfl, rfl⟩
     refine WO_step rfl (S_pure rfl ?_)
     refine WO_nil ?_
     refine KSeq_n ?_
     refine WC_cond rfl (fun hb2 => ?_) (fun hb2 => ?_)
     ·
      try simp only [bsT] at hb2
      refine WC_seq ?_
      refine WC_region ?_
      iterate 4 refine WO_step rfl (S_pure rfl ?_)
      refine WO_step rfl (S_idx rfl rfl hsub (by rfl) (by rfl) (lt_of_get hsy) fun hp54 => ?_)
      refine WO_step rfl (S_loadE rfl hsub (by rfl) (by rfl) (by rfl) hsy ?_)
      refine WO_step rfl (S_idx rfl rfl rdA (by first | rfl | assumption | (symm; assumption)) (by rfl) (by first | assumption | omega | exact lt_of_get (by assumption) | (simp only [List.length_set]; first | assumption | omega | exact lt_of_get (by assumption))) fun hp56 => ?_)
      refine WO_step rfl (S_storeW rfl rfl pkA (by first | rfl | assumption | (symm; assumption)) (by rfl) (by first | rfl | assumption | (symm; assumption)) (by first | assumption | omega | exact lt_of_get (by assumption) | (simp only [List.length_set]; first | assumption | omega | exact lt_of_get (by assumption))) ?_)
      refine WO_nil ?_
      refine KSeq_n ?_
      refine WC_region ?_
      refine WO_step rfl (S_pure rfl ?_)
      first | refine WO_step rfl (S_addN (b := 1) rfl rfl (by omega) ?_) | refine WO_step rfl (S_pure rfl ?_)
      refine WO_step rfl (S_pure rfl ?_)
      refine WO_nil ?_
      refine KBlock_n ?_
      refine KSeq_n ?_
      refine WC_region ?_
      refine WO_step rfl (S_pure rfl ?_)
      first | refine WO_step rfl (S_addN (b := 1) rfl rfl (by omega) ?_) | refine WO_step rfl (S_pure rfl ?_)
      refine WO_step rfl (S_pure rfl ?_)
      refine WO_nil ?_
      refine KLoop_n ?_
      have hkc : k < cur.length := by omega
      rw [ddpFrom, if_neg hb2] at hdd
      refine WC_weak (ih (xs.length - (k0 + (k2 + 1))) (by omega) (k2 + 1) (k + 1) (cur.set k y) rfl (by omega) (by omega) (by omega) (by omega) (by simpa using hcl) ?_ ⟨y, by rw [show k0 + (k2 + 1) - 1 = k0 + k2 by omega]; exact hy, ?_⟩) seA hsA
      · rw [show k0 + (k2 + 1) - 1 = k0 + k2 by omega, List.drop_set_of_lt (by omega)]; exact hdr
      · rw [take_set_succ hkc, hdd, List.append_assoc]; rfl
     ·
      try simp only [bsT] at hb2
      refine WC_skip ?_
      refine KBlock_n ?_
      refine KSeq_n ?_
      refine WC_region ?_
      refine WO_step rfl (S_pure rfl ?_)
      first | refine WO_step rfl (S_addN (b := 1) rfl rfl (by omega) ?_) | refine WO_step rfl (S_pure rfl ?_)
      refine WO_step rfl (S_pure rfl ?_)
      refine WO_nil ?_
      refine KLoop_n ?_
      rw [ddpFrom, if_pos hb2] at hdd
      refine WC_weak (ih (xs.length - (k0 + (k2 + 1))) (by omega) (k2 + 1) k cur rfl (by omega) (by omega) (by omega) (by omega) hcl ?_ ⟨y, by rw [show k0 + (k2 + 1) - 1 = k0 + k2 by omega]; exact hy, ?_⟩) seA hsA
      · rw [show k0 + (k2 + 1) - 1 = k0 + k2 by omega]; exact hdr
      · rw [hdd, ← hb2]; rfl
    ·
     try simp only [bsT] at hb1
     refine WC_exit ?_
     refine KSeq_x ?_
     refine KLoop_x ?_
     have e : k0 + k2 = xs.length := by omega
     rw [e, List.drop_length] at hdd
     exact KPost_i (l' := [(5, .int .i64 k), (0, s.toV)]) (H' := SL s.toV TRec cur :: H) seA hsA ⟨k, cur, rfl, rfl, rfl, hcl, by omega, by rw [hdd]; simp [ddpFrom]⟩
theorem lp_Cmp0 {g : FuncId} (hc : ∀ (H : SH) (a b : Rec), WF F X g [TRec.val a, TRec.val b] H (fun r H' => H' = H ∧ r = .bool (decide (a.key = b.key)))) {H : SH} {s : SV} {xs : List Rec} (hn : xs.length ≤ 1000000) : ∀ (n k : Nat), xs.length - k = n → 1 ≤ k → k ≤ xs.length → (∃ p, xs[k - 1]? = some p ∧ ddp xs = xs.take k ++ ddpFrom p.key (xs.drop k)) →
    WC F X (.loop L_slices_CompactFunc_api_Rec_0) [(5, .int .i64 k), (0, s.toV), (1, fv g)] (SL s.toV TRec xs :: H) (KPost (cmpP H s xs)) := by
  intro n
  induction n using Nat.strongRecOn with
  | _ n ih =>
    intro k hk hk1 hkn hdd
    obtain ⟨p, hp, hdd⟩ := hdd
    refine WC_loop ?_
    refine WC_seq ?_
    refine WC_seq ?_
    refine WC_region ?_
    iterate 2 refine WO_step rfl (S_pure rfl ?_)
    first | refine WO_step rfl (S_pure rfl ?_) | refine WO_step rfl (S_lenS rfl rdA ?_)
    refine WO_step rfl (S_pure rfl ?_)
    refine WO_nil ?_
    refine KSeq_n ?_
    refine WC_cond rfl (fun hb1 => ?_) (fun hb1 => ?_)
    ·
     try simp only [bsT] at hb1
     obtain ⟨y, hy⟩ := get_of_lt hb1
     rw [drop_get hy] at hdd
     refine WC_skip ?_
     refine KSeq_n ?_
     refine WC_seq ?_
     refine WC_block ?_
     refine WC_seq ?_
     refine WC_region ?_
     iterate 3 refine WO_step rfl (S_pure rfl ?_)
     refine WO_step rfl (S_idx rfl rfl rdA (by first | rfl | assumption | (symm; assumption)) (by rfl) (by first | assumption | omega | exact lt_of_get (by assumption) | (simp only [List.length_set]; first | assumption | omega | exact lt_of_get (by assumption))) fun hp21 => ?_)
     refine WO_step rfl (S_loadE rfl rdA (by first | rfl | assumption | (symm; assumption)) (by first | rfl | assumption | (symm; assumption)) (by first | rfl | assumption | (symm; assumption)) (by assumption) ?_)
     iterate 2 refine WO_step rfl (S_pure rfl ?_)
     first | refine WO_step rfl (S_subN (b := 1) rfl rfl (by omega) ?_) | refine WO_step rfl (S_pure rfl ?_)
     refine WO_step rfl (S_idx rfl rfl rdA (by first | rfl | assumption | (symm; assumption)) (by rfl) (by first | assumption | omega | exact lt_of_get (by assumption) | (simp only [List.length_set]; first | assumption | omega | exact lt_of_get (by assumption))) fun hp26 => ?_)
     refine WO_step rfl (S_loadE rfl rdA (by first | rfl | assumption | (symm; assumption)) (by first | rfl | assumption | (symm; assumption)) (by first | rfl | assumption | (symm; assumption)) (by assumption) ?_)
     refine WO_call rfl rfl rfl ?_
     refine (hc _ _ _).mono ?_
     rintro _ _ ⟨rfl, rfl⟩
     refine WO_nil ?_
     refine KSeq_n ?_
     refine WC_cond rfl (fun hb2 => ?_) (fun hb2 => ?_)
     ·
      try simp only [bsT] at hb2
      refine WC_seq ?_
      refine WC_region ?_
      iterate 2 refine WO_step rfl (S_pure rfl ?_)
      refine WO_step rfl (S_cut rfl rdA (by rfl) (LB.mk rfl rfl) LB.dflt LB.dflt (by omega) (by omega) (by omega) ?_)
      refine WO_step rfl (S_pure rfl ?_)
      refine WO_nil ?_
      refine KSeq_n ?_
      refine WC_seq ?_
      refine WC_seq ?_
      refine WC_region ?_
      refine WO_step rfl (S_pure rfl ?_)
      refine WO_nil ?_
      refine KSeq_n ?_
      refine WC_block ?_
      rw [ddpFrom, if_pos hb2] at hdd
      refine WC_post (WC_weak (lp_Cmp1 hc (s := s) (xs := xs) (k0 := k) hk1 hn hb1 (xs.length - (k + 1)) 1 k xs rfl (by omega) (by omega) (by omega) (by omega) rfl rfl ⟨y, by rw [Nat.add_sub_cancel]; exact hy, by rw [hdd, ← hb2]⟩) seA hsA) ?_
      rintro z l' H' ⟨k1, cur, rfl, rfl, rfl, h1, h2, h3⟩
      refine KBlock_h ?_
      refine KSeq_n ?_
      refine WC_seq ?_
      refine WC_region ?_
      iterate 2 refine WO_step rfl (S_pure rfl ?_)
      refine WO_step rfl (S_cut rfl RD.head (by rfl) (LB.mk rfl rfl) LB.dflt LB.dflt (by omega) (by omega) (by omega) ?_)
      -- op (.clear [.string ⟨#[]⟩, .bool false, .int .i64 0, .int .i64 0, .string ⟨#[]⟩] (.tmp 61))
      refine WO_step rfl (S_clearD (z := rec0) (T := TRec) (s := s.toV) (lo := k1) (m := cur.length - k1) rfl Pick.head (SV.sub_toV _ _ _ _) (by omega) (by rfl) ?_)
      refine WO_nil ?_
      refine KSeq_n ?_
      refine WC_seq ?_
      refine WC_region ?_
      iterate 2 refine WO_step rfl (S_pure rfl ?_)
      refine WO_step rfl (S_cut (a := 0) (b := k1) rfl RD.head (by rfl) LB.dflt (LB.mk rfl rfl) LB.dflt (by omega) (by simp only [List.length_append, List.length_take, List.length_drop, List.length_replicate]; omega) (by omega) ?_)
      refine WO_step rfl (S_pure rfl ?_)
      refine WO_nil ?_
      refine KSeq_n ?_
      refine WC_ret ?_
      refine KBlock_r ?_
      refine KSeq_r ?_
      refine KLoop_r ?_
      refine KPost_i (l' := [(4, (s.sub 5 0 (k1 - 0)).toV)]) seA hsA (.inr ⟨_, _, rfl, rfl, rfl, fun h hh => ?_⟩)
      have := hh.recutSL (es := 5) (lo := 0) (n := k1) rfl (by simp; omega)
      rw [List.drop_zero, List.append_assoc, List.take_append_of_le_length (by simp; omega), List.take_take, Nat.min_self, ← h3] at this
      exact this
     ·
      try simp only [bsT] at hb2
      refine WC_skip ?_
      refine KBlock_n ?_
      refine KSeq_n ?_
      refine WC_region ?_
      refine WO_step rfl (S_pure rfl ?_)
      first | refine WO_step rfl (S_addN (b := 1) rfl rfl (by omega) ?_) | refine WO_step rfl (S_pure rfl ?_)
      refine WO_step rfl (S_pure rfl ?_)
      refine WO_nil ?_
      refine KLoop_n ?_
      rw [ddpFrom, if_neg hb2] at hdd
      refine WC_weak (ih (xs.length - (k + 1)) (by omega) (k + 1) rfl (by omega) (by omega) ⟨y, by rw [Nat.add_sub_cancel]; exact hy, ?_⟩) seA hsA
      rw [List.take_add_one, hy, hdd, List.append_assoc]; rfl
    ·
     try simp only [bsT] at hb1
     refine WC_exit ?_
     refine KSeq_x ?_
     refine KLoop_x ?_
     have e : k = xs.length := by omega
     refine KPost_i (l' := [(0, s.toV)]) seA hsA (.inl ⟨rfl, rfl, rfl, ?_⟩)
     rw [hdd, e, List.take_length, List.drop_length]; simp [ddpFrom]
theorem sp_Compact {g : FuncId} (hc : ∀ (H : SH) (a b : Rec), WF F X g [TRec.val a, TRec.val b] H (fun r H' => H' = H ∧ r = .bool (decide (a.key = b.key)))) {H : SH} {s : SV} {xs : List Rec} (hn : xs.length ≤ 1000000) : WF F X f_slices_CompactFunc_api_Rec [s.toV, fv g] (SL s.toV TRec xs :: H) (fun r H' => ∃ w : SV, H' = SL w.toV TRec (ddp xs) :: H ∧ r = w.toV) := by
  refine WF_view ?_
  refine WF_fn F_slices_CompactFunc_api_Rec ?_
  refine WC_seq ?_
  refine WC_region ?_
  refine WO_step rfl (S_pure rfl ?_)
  refine WO_nil ?_
  refine KSeq_n ?_
  refine WC_seq ?_
  refine WC_seq ?_
  refine WC_region ?_
  refine WO_step rfl (S_pure rfl ?_)
  first | refine WO_step rfl (S_pure rfl ?_) | refine WO_step rfl (S_lenS rfl rdA ?_)
  refine WO_step rfl (S_pure rfl ?_)
  refine WO_nil ?_
  refine KSeq_n ?_
  refine WC_cond rfl (fun hb1 => ?_) (fun hb1 => ?_)
  ·
   try simp only [bsT] at hb1
   refine WC_seq ?_
   refine WC_region ?_
   iterate 2 refine WO_step rfl (S_pure rfl ?_)
   refine WO_nil ?_
   refine KSeq_n ?_
   refine WC_ret ?_
   refine KSeq_r ?_
   refine KFn_r (ResL.tmp rfl ResL.nil) ?_
   have hd : ddp xs = xs := by
     cases xs with
     | nil => rfl
     | cons x xs =>
       have : xs = [] := nil_of (by simp at hb1; omega)
       subst this; rfl
   exact ⟨_, hsA, _, fun h hh => hh, s, by rw [hd], rfl⟩
  ·
   try simp only [bsT] at hb1
   obtain ⟨p, xs', hxs⟩ := cons_of (l := xs) (by omega)
   refine WC_skip ?_
   refine KSeq_n ?_
   refine WC_seq ?_
   refine WC_seq ?_
   refine WC_region ?_
   refine WO_step rfl (S_pure rfl ?_)
   refine WO_nil ?_
   refine KSeq_n ?_
   refine WC_block ?_
   --out x0 r
   refine WC_post (WC_weak (lp_Cmp0 hc hn (xs.length - 1) 1 rfl (by omega) (by omega) ⟨p, by rw [hxs]; rfl, by rw [hxs]; rfl⟩) seA hsA) ?_
   rintro z l' H' (⟨rfl, rfl, rfl, h4⟩ | ⟨r, H'', rfl, rfl, rfl, h4⟩)
   ·
    refine KBlock_h ?_
    refine KSeq_n ?_
    refine WC_seq ?_
    refine WC_region ?_
    iterate 2 refine WO_step rfl (S_pure rfl ?_)
    refine WO_nil ?_
    refine KSeq_n ?_
    refine WC_ret ?_
    refine KFn_r (ResL.tmp rfl ResL.nil) ?_
    exact ⟨_, hsA, _, fun h hh => hh, s, by rw [h4], rfl⟩
   ·
    refine KBlock_r ?_
    refine KSeq_r ?_
    refine KFn_r (ResL.tmp rfl ResL.nil) ?_
    exact ⟨_, HSub.refl, _, h4, r, rfl, rfl⟩

end Go.Proofs.Ytpgidiompdabdaa.AM
