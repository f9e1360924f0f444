/- Walks: what the functions compute. -/
import Derived.Test.YtdpiggphcohmmaaM8
namespace Go.Proofs.Ytdpiggphcohmmaa.AM
open Go
set_option linter.unusedSimpArgs false
set_option linter.unusedVariables false
set_option maxRecDepth 4000

/-! ### The library's stable sort, second part -/
theorem lp_sym0 {α : Type} {T : Ty α} (h5 : T.es = 5) (hg : T.agg = true) {lt : α → α → Bool} {g : FuncId} (hc : Cmp g T lt) {H : SH} {s : Value} {xs : List α} {u : α} {a m b : Nat} {v2 v3 : Value} (hb : b ≤ xs.length) (hL : xs.length ≤ 1000000) (hu : xs[a]? = some u) : ∀ (k i j : Nat), j - i ≤ k → m ≤ i → i ≤ j → j ≤ b → (i = m ∨ ∃ y, xs[i - 1]? = some y ∧ lt y u = true) → (j = b ∨ ∃ y, xs[j]? = some y ∧ lt y u = false) →
    WC F X (.loop L_slices_symMergeCmpFunc_api_Rec_0) [(10, .int .i64 i), (11, .int .i64 j), (0, s), (1, .int .i64 a), (4, fv g), (2, v2), (3, v3)] (SL s T xs :: H)
      (KPost fun x l' H' => ∃ i : Nat, x = .exit 0 ∧ l' = [(10, .int .i64 i), (0, s), (1, .int .i64 a), (4, fv g), (2, v2), (3, v3)] ∧ H' = SL s T xs :: H ∧ m ≤ i ∧ i ≤ b ∧ (i = m ∨ ∃ y, xs[i - 1]? = some y ∧ lt y u = true) ∧ (i = b ∨ ∃ y, xs[i]? = some y ∧ lt y u = false)) := by
  intro k
  induction k using Nat.strongRecOn with
  | _ k ih =>
    intro i j hk hmi hij hjb h1 h2
    refine WC_loop ?_
    refine WC_seq ?_
    refine WC_seq ?_
    refine WC_region ?_
    refine WO_step rfl (S_pure rfl ?_)
    refine WO_step rfl (S_pure rfl ?_)
    refine WO_step rfl (S_pure rfl ?_)
    refine WO_nil ?_
    refine KSeq_n ?_
    refine WC_cond rfl (fun hb1 => ?_) (fun hb1 => ?_)
    ·
      try simp only [decide_eq_true_eq, decide_eq_false_iff_not, Bool.not_eq_true', Bool.not_eq_false', beq_iff_eq, bne_iff_ne, beq_eq_false_iff_ne, Int.ofNat_lt, Int.ofNat_le, Int.ofNat_inj, ne_eq, gt_iff_lt, ge_iff_le] at hb1
      obtain ⟨y, hy⟩ := get_of_lt (l := xs) (a := (i + j) / 2) (by omega)
      have hl1 := lt_of_get hu
      refine WC_skip ?_
      refine KSeq_n ?_
      refine WC_block ?_
      refine WC_seq ?_
      refine WC_region ?_
      refine WO_step rfl (S_pure rfl ?_)
      refine WO_step rfl (S_pure rfl ?_)
      first | refine WO_step rfl (S_addN rfl rfl (by omega) ?_) | refine WO_step rfl (S_pure rfl ?_)
      first | refine WO_step rfl (S_toU rfl (by omega) ?_) | refine WO_step rfl (S_pure rfl ?_)
      first | refine WO_step rfl (S_half rfl (by omega) ?_) | refine WO_step rfl (S_pure rfl ?_)
      first | refine WO_step rfl (S_toI rfl (by omega) ?_) | refine WO_step rfl (S_pure rfl ?_)
      refine WO_step rfl (S_pure rfl ?_)
      refine WO_nil ?_
      refine KSeq_n ?_
      refine WC_seq ?_
      refine WC_region ?_
      refine WO_step rfl (S_pure rfl ?_)
      refine WO_step rfl (S_pure rfl ?_)
      refine WO_step rfl (S_pure rfl ?_)
      refine WO_step rfl (S_idx rfl rfl (by repeat (first | assumption | exact RD.head | exact RD.nil | apply RD.tail)) (by first | rfl | assumption | (symm; assumption)) (by rfl) (by first | assumption | omega | exact lt_of_get (by assumption) | (simp only [List.length_set]; first | assumption | omega | exact lt_of_get (by assumption))) fun hp43 => ?_)
      refine WO_step rfl (S_loadE rfl (by repeat (first | assumption | exact RD.head | exact RD.nil | apply RD.tail)) (by first | rfl | assumption | (symm; assumption)) (by first | rfl | assumption | (symm; assumption)) (by first | rfl | assumption | (symm; assumption)) (by assumption) ?_)
      refine WO_step rfl (S_pure rfl ?_)
      refine WO_step rfl (S_pure rfl ?_)
      refine WO_step rfl (S_idx rfl rfl (by repeat (first | assumption | exact RD.head | exact RD.nil | apply RD.tail)) (by first | rfl | assumption | (symm; assumption)) (by rfl) (by first | assumption | omega | exact lt_of_get (by assumption) | (simp only [List.length_set]; first | assumption | omega | exact lt_of_get (by assumption))) fun hp47 => ?_)
      refine WO_step rfl (S_loadE rfl (by repeat (first | assumption | exact RD.head | exact RD.nil | apply RD.tail)) (by first | rfl | assumption | (symm; assumption)) (by first | rfl | assumption | (symm; assumption)) (by first | rfl | assumption | (symm; assumption)) (by assumption) ?_)
      refine WO_call rfl rfl rfl ?_
      refine (hc _ _ _).mono ?_
      rintro _ _ ⟨rfl, n, rfl, hn⟩
      refine WO_step rfl (S_pure rfl ?_)
      refine WO_nil ?_
      refine KSeq_n ?_
      refine WC_cond rfl (fun hb2 => ?_) (fun hb2 => ?_)
      ·
        try simp only [decide_eq_true_eq, decide_eq_false_iff_not, Bool.not_eq_true', Bool.not_eq_false', beq_iff_eq, bne_iff_ne, beq_eq_false_iff_ne, Int.ofNat_lt, Int.ofNat_le, Int.ofNat_inj, ne_eq, gt_iff_lt, ge_iff_le] at hb2
        refine WC_region ?_
        refine WO_step rfl (S_pure rfl ?_)
        first | refine WO_step rfl (S_addN (b := 1) rfl rfl (by omega) ?_) | refine WO_step rfl (S_pure rfl ?_)
        refine WO_step rfl (S_pure rfl ?_)
        refine WO_nil ?_
        refine KBlock_n ?_
        refine KLoop_n ?_
        rw [hn] at hb2
        exact WC_weak (ih (j - ((i + j) / 2 + 1)) (by omega) ((i + j) / 2 + 1) j (by omega) (by omega) (by omega) hjb (.inr ⟨y, hy, hb2⟩) h2) (by repeat (first | exact SubE.nil | apply SubE.cons rfl)) (by repeat (first | exact HSub.refl | refine HSub.pick (by repeat (first | exact Pick.head | apply Pick.tail)) ?_ | apply HSub.drop))
      ·
        try simp only [decide_eq_true_eq, decide_eq_false_iff_not, Bool.not_eq_true', Bool.not_eq_false', beq_iff_eq, bne_iff_ne, beq_eq_false_iff_ne, Int.ofNat_lt, Int.ofNat_le, Int.ofNat_inj, ne_eq, gt_iff_lt, ge_iff_le] at hb2
        refine WC_region ?_
        refine WO_step rfl (S_pure rfl ?_)
        refine WO_step rfl (S_pure rfl ?_)
        refine WO_nil ?_
        refine KBlock_n ?_
        refine KLoop_n ?_
        rw [hn] at hb2
        exact WC_weak (ih ((i + j) / 2 - i) (by omega) i ((i + j) / 2) (by omega) (by omega) (by omega) (by omega) h1 (.inr ⟨y, hy, by simpa using hb2⟩)) (by repeat (first | exact SubE.nil | apply SubE.cons rfl)) (by repeat (first | exact HSub.refl | refine HSub.pick (by repeat (first | exact Pick.head | apply Pick.tail)) ?_ | apply HSub.drop))
    ·
      try simp only [decide_eq_true_eq, decide_eq_false_iff_not, Bool.not_eq_true', Bool.not_eq_false', beq_iff_eq, bne_iff_ne, beq_eq_false_iff_ne, Int.ofNat_lt, Int.ofNat_le, Int.ofNat_inj, ne_eq, gt_iff_lt, ge_iff_le] at hb1
      refine WC_exit ?_
      refine KSeq_x ?_
      refine KLoop_x ?_
      obtain rfl : i = j := by omega
      exact KPost_i (l' := [(10, .int .i64 i), (0, s), (1, .int .i64 a), (4, fv g), (2, v2), (3, v3)]) (H' := SL s T xs :: H) (by repeat (first | exact SubE.nil | apply SubE.cons rfl)) (by repeat (first | exact HSub.refl | refine HSub.pick (by repeat (first | exact Pick.head | apply Pick.tail)) ?_ | apply HSub.drop)) ⟨i, rfl, rfl, rfl, hmi, hjb, h1, h2⟩
theorem lp_sym1 {α : Type} {T : Ty α} (h5 : T.es = 5) (hg : T.agg = true) {H : SH} {s : Value} {P R : List α} {u : α} {i : Nat} : ∀ (n : Nat) (A B xs : List α) (k : Nat), B.length = n → k = P.length + A.length → i = k + n + 1 → xs = P ++ A ++ u :: B ++ R → xs.length ≤ 1000000 →
    WC F X (.loop L_slices_symMergeCmpFunc_api_Rec_1) [(13, .int .i64 k), (10, .int .i64 i), (0, s)] (SL s T xs :: H)
      (KPost fun x l' H' => x = .exit 2 ∧ l' = [] ∧ H' = SL s T (P ++ (A ++ B) ++ u :: R) :: H) := by
  intro n
  induction n using Nat.strongRecOn with
  | _ n ih =>
    intro A B xs k hn hk hi hxs hL
    have hlen : P.length + A.length + n + 1 ≤ 1000000 := by rw [hxs] at hL; simp at hL; omega
    refine WC_loop ?_
    refine WC_seq ?_
    refine WC_seq ?_
    refine WC_region ?_
    refine WO_step rfl (S_pure rfl ?_)
    refine WO_step rfl (S_pure rfl ?_)
    first | refine WO_step rfl (S_subN (b := 1) rfl rfl (by omega) ?_) | refine WO_step rfl (S_pure rfl ?_)
    refine WO_step rfl (S_pure rfl ?_)
    refine WO_nil ?_
    refine KSeq_n ?_
    refine WC_cond rfl (fun hb1 => ?_) (fun hb1 => ?_)
    ·
      try simp only [decide_eq_true_eq, decide_eq_false_iff_not, Bool.not_eq_true', Bool.not_eq_false', beq_iff_eq, bne_iff_ne, beq_eq_false_iff_ne, Int.ofNat_lt, Int.ofNat_le, Int.ofNat_inj, ne_eq, gt_iff_lt, ge_iff_le] at hb1
      obtain ⟨n, rfl⟩ : ∃ m', n = m' + 1 := ⟨n - 1, by omega⟩
      obtain ⟨v, B, rfl⟩ := cons_of (l := B) (by omega)
      simp only [List.length_cons] at hn
      have e1 : xs = (P ++ A) ++ u :: (v :: B ++ R) := by rw [hxs]; simp
      have e2 : xs = (P ++ A ++ [u]) ++ v :: (B ++ R) := by rw [hxs]; simp
      have hx1 : xs[k]? = some u := by rw [e1]; exact get_mid (by simp; omega)
      have hx2 : xs[k + 1]? = some v := by rw [e2]; exact get_mid (by simp; omega)
      have e3 : (xs.set k v).set (k + 1) u = P ++ (A ++ [v]) ++ u :: B ++ R := by
        rw [e1, set_at (by simp; omega), show (P ++ A) ++ v :: (v :: B ++ R) = (P ++ A ++ [v]) ++ v :: (B ++ R) by simp, set_at (by simp; omega)]; simp
      have hl1 := lt_of_get hx1
      have hl2 := lt_of_get hx2
      refine WC_skip ?_
      refine KSeq_n ?_
      refine WC_seq ?_
      refine WC_block ?_
      refine WC_region ?_
      refine WO_step rfl (S_pure rfl ?_)
      refine WO_step rfl (S_pure rfl ?_)
      refine WO_step rfl (S_pure rfl ?_)
      refine WO_step rfl (S_pure rfl ?_)
      first | refine WO_step rfl (S_addN (b := 1) rfl rfl (by omega) ?_) | refine WO_step rfl (S_pure rfl ?_)
      refine WO_step rfl (S_pure rfl ?_)
      refine WO_step rfl (S_pure rfl ?_)
      first | refine WO_step rfl (S_addN (b := 1) rfl rfl (by omega) ?_) | refine WO_step rfl (S_pure rfl ?_)
      refine WO_step rfl (S_idx rfl rfl (by repeat (first | assumption | exact RD.head | exact RD.nil | apply RD.tail)) (by first | rfl | assumption | (symm; assumption)) (by rfl) (by first | assumption | omega | exact lt_of_get (by assumption) | (simp only [List.length_set]; first | assumption | omega | exact lt_of_get (by assumption))) fun hp69 => ?_)
      refine WO_step rfl (S_loadE rfl (by repeat (first | assumption | exact RD.head | exact RD.nil | apply RD.tail)) (by first | rfl | assumption | (symm; assumption)) (by first | rfl | assumption | (symm; assumption)) (by first | rfl | assumption | (symm; assumption)) (by assumption) ?_)
      refine WO_step rfl (S_pure rfl ?_)
      refine WO_step rfl (S_pure rfl ?_)
      refine WO_step rfl (S_idx rfl rfl (by repeat (first | assumption | exact RD.head | exact RD.nil | apply RD.tail)) (by first | rfl | assumption | (symm; assumption)) (by rfl) (by first | assumption | omega | exact lt_of_get (by assumption) | (simp only [List.length_set]; first | assumption | omega | exact lt_of_get (by assumption))) fun hp73 => ?_)
      refine WO_step rfl (S_loadE rfl (by repeat (first | assumption | exact RD.head | exact RD.nil | apply RD.tail)) (by first | rfl | assumption | (symm; assumption)) (by first | rfl | assumption | (symm; assumption)) (by first | rfl | assumption | (symm; assumption)) (by assumption) ?_)
      refine WO_step rfl (S_idx rfl rfl (by repeat (first | assumption | exact RD.head | exact RD.nil | apply RD.tail)) (by first | rfl | assumption | (symm; assumption)) (by rfl) (by first | assumption | omega | exact lt_of_get (by assumption) | (simp only [List.length_set]; first | assumption | omega | exact lt_of_get (by assumption))) fun hp75 => ?_)
      refine WO_step rfl (S_storeW rfl rfl (by repeat (first | exact Pick.head | apply Pick.tail)) (by first | rfl | assumption | (symm; assumption)) (by rfl) (by first | rfl | assumption | (symm; assumption)) (by first | assumption | omega | exact lt_of_get (by assumption) | (simp only [List.length_set]; first | assumption | omega | exact lt_of_get (by assumption))) ?_)
      refine WO_step rfl (S_idx rfl rfl (by repeat (first | assumption | exact RD.head | exact RD.nil | apply RD.tail)) (by first | rfl | assumption | (symm; assumption)) (by rfl) (by first | assumption | omega | exact lt_of_get (by assumption) | (simp only [List.length_set]; first | assumption | omega | exact lt_of_get (by assumption))) fun hp76 => ?_)
      refine WO_step rfl (S_storeW rfl rfl (by repeat (first | exact Pick.head | apply Pick.tail)) (by first | rfl | assumption | (symm; assumption)) (by rfl) (by first | rfl | assumption | (symm; assumption)) (by first | assumption | omega | exact lt_of_get (by assumption) | (simp only [List.length_set]; first | assumption | omega | exact lt_of_get (by assumption))) ?_)
      refine WO_nil ?_
      refine KBlock_n ?_
      refine KSeq_n ?_
      refine WC_region ?_
      refine WO_step rfl (S_pure rfl ?_)
      first | refine WO_step rfl (S_addN (b := 1) rfl rfl (by omega) ?_) | refine WO_step rfl (S_pure rfl ?_)
      refine WO_step rfl (S_pure rfl ?_)
      refine WO_nil ?_
      refine KLoop_n ?_
      have := ih n (by omega) (A ++ [v]) B _ (k + 1) (by omega) (by simp; omega) (by omega) e3 (by simpa using hL)
      simp only [List.append_assoc, List.singleton_append] at this ⊢
      exact WC_weak this (by repeat (first | exact SubE.nil | apply SubE.cons rfl)) (by repeat (first | exact HSub.refl | refine HSub.pick (by repeat (first | exact Pick.head | apply Pick.tail)) ?_ | apply HSub.drop))
    ·
      try simp only [decide_eq_true_eq, decide_eq_false_iff_not, Bool.not_eq_true', Bool.not_eq_false', beq_iff_eq, bne_iff_ne, beq_eq_false_iff_ne, Int.ofNat_lt, Int.ofNat_le, Int.ofNat_inj, ne_eq, gt_iff_lt, ge_iff_le] at hb1
      refine WC_exit ?_
      refine KSeq_x ?_
      refine KLoop_x ?_
      obtain rfl := nil_of (l := B) (by omega)
      rw [hxs]; exact KPost_i (by repeat (first | exact SubE.nil | apply SubE.cons rfl)) (by simp only [List.append_assoc, List.append_nil, List.cons_append, List.nil_append]; exact (by repeat (first | exact HSub.refl | refine HSub.pick (by repeat (first | exact Pick.head | apply Pick.tail)) ?_ | apply HSub.drop))) ⟨rfl, rfl, rfl⟩
theorem lp_sym2 {α : Type} {T : Ty α} (h5 : T.es = 5) (hg : T.agg = true) {lt : α → α → Bool} {g : FuncId} (hc : Cmp g T lt) {H : SH} {s : Value} {xs : List α} {v : α} {a m : Nat} {v1 v3 : Value} (hb : m ≤ xs.length) (hL : xs.length ≤ 1000000) (hv : xs[m]? = some v) : ∀ (k i j : Nat), j - i ≤ k → a ≤ i → i ≤ j → j ≤ m → (i = a ∨ ∃ y, xs[i - 1]? = some y ∧ lt v y = false) → (j = m ∨ ∃ y, xs[j]? = some y ∧ lt v y = true) →
    WC F X (.loop L_slices_symMergeCmpFunc_api_Rec_2) [(14, .int .i64 i), (15, .int .i64 j), (0, s), (2, .int .i64 m), (4, fv g), (1, v1), (3, v3)] (SL s T xs :: H)
      (KPost fun x l' H' => ∃ i : Nat, x = .exit 4 ∧ l' = [(14, .int .i64 i), (0, s), (2, .int .i64 m), (4, fv g), (1, v1), (3, v3)] ∧ H' = SL s T xs :: H ∧ a ≤ i ∧ i ≤ m ∧ (i = a ∨ ∃ y, xs[i - 1]? = some y ∧ lt v y = false) ∧ (i = m ∨ ∃ y, xs[i]? = some y ∧ lt v y = true)) := by
  intro k
  induction k using Nat.strongRecOn with
  | _ k ih =>
    intro i j hk hmi hij hjb h1 h2
    refine WC_loop ?_
    refine WC_seq ?_
    refine WC_seq ?_
    refine WC_region ?_
    refine WO_step rfl (S_pure rfl ?_)
    refine WO_step rfl (S_pure rfl ?_)
    refine WO_step rfl (S_pure rfl ?_)
    refine WO_nil ?_
    refine KSeq_n ?_
    refine WC_cond rfl (fun hb1 => ?_) (fun hb1 => ?_)
    ·
      try simp only [decide_eq_true_eq, decide_eq_false_iff_not, Bool.not_eq_true', Bool.not_eq_false', beq_iff_eq, bne_iff_ne, beq_eq_false_iff_ne, Int.ofNat_lt, Int.ofNat_le, Int.ofNat_inj, ne_eq, gt_iff_lt, ge_iff_le] at hb1
      obtain ⟨y, hy⟩ := get_of_lt (l := xs) (a := (i + j) / 2) (by omega)
      have hl1 := lt_of_get hv
      refine WC_skip ?_
      refine KSeq_n ?_
      refine WC_block ?_
      refine WC_seq ?_
      refine WC_region ?_
      refine WO_step rfl (S_pure rfl ?_)
      refine WO_step rfl (S_pure rfl ?_)
      first | refine WO_step rfl (S_addN rfl rfl (by omega) ?_) | refine WO_step rfl (S_pure rfl ?_)
      first | refine WO_step rfl (S_toU rfl (by omega) ?_) | refine WO_step rfl (S_pure rfl ?_)
      first | refine WO_step rfl (S_half rfl (by omega) ?_) | refine WO_step rfl (S_pure rfl ?_)
      first | refine WO_step rfl (S_toI rfl (by omega) ?_) | refine WO_step rfl (S_pure rfl ?_)
      refine WO_step rfl (S_pure rfl ?_)
      refine WO_nil ?_
      refine KSeq_n ?_
      refine WC_seq ?_
      refine WC_region ?_
      refine WO_step rfl (S_pure rfl ?_)
      refine WO_step rfl (S_pure rfl ?_)
      refine WO_step rfl (S_pure rfl ?_)
      refine WO_step rfl (S_idx rfl rfl (by repeat (first | assumption | exact RD.head | exact RD.nil | apply RD.tail)) (by first | rfl | assumption | (symm; assumption)) (by rfl) (by first | assumption | omega | exact lt_of_get (by assumption) | (simp only [List.length_set]; first | assumption | omega | exact lt_of_get (by assumption))) fun hp95 => ?_)
      refine WO_step rfl (S_loadE rfl (by repeat (first | assumption | exact RD.head | exact RD.nil | apply RD.tail)) (by first | rfl | assumption | (symm; assumption)) (by first | rfl | assumption | (symm; assumption)) (by first | rfl | assumption | (symm; assumption)) (by assumption) ?_)
      refine WO_step rfl (S_pure rfl ?_)
      refine WO_step rfl (S_pure rfl ?_)
      refine WO_step rfl (S_idx rfl rfl (by repeat (first | assumption | exact RD.head | exact RD.nil | apply RD.tail)) (by first | rfl | assumption | (symm; assumption)) (by rfl) (by first | assumption | omega | exact lt_of_get (by assumption) | (simp only [List.length_set]; first | assumption | omega | exact lt_of_get (by assumption))) fun hp99 => ?_)
      refine WO_step rfl (S_loadE rfl (by repeat (first | assumption | exact RD.head | exact RD.nil | apply RD.tail)) (by first | rfl | assumption | (symm; assumption)) (by first | rfl | assumption | (symm; assumption)) (by first | rfl | assumption | (symm; assumption)) (by assumption) ?_)
      refine WO_call rfl rfl rfl ?_
      refine (hc _ _ _).mono ?_
      rintro _ _ ⟨rfl, n, rfl, hn⟩
      refine WO_step rfl (S_pure rfl ?_)
      refine WO_step rfl (S_pure rfl ?_)
      refine WO_nil ?_
      refine KSeq_n ?_
      refine WC_cond rfl (fun hb2 => ?_) (fun hb2 => ?_)
      ·
        try simp only [decide_eq_true_eq, decide_eq_false_iff_not, Bool.not_eq_true', Bool.not_eq_false', beq_iff_eq, bne_iff_ne, beq_eq_false_iff_ne, Int.ofNat_lt, Int.ofNat_le, Int.ofNat_inj, ne_eq, gt_iff_lt, ge_iff_le] at hb2
        refine WC_region ?_
        refine WO_step rfl (S_pure rfl ?_)
        first | refine WO_step rfl (S_addN (b := 1) rfl rfl (by omega) ?_) | refine WO_step rfl (S_pure rfl ?_)
        refine WO_step rfl (S_pure rfl ?_)
        refine WO_nil ?_
        refine KBlock_n ?_
        refine KLoop_n ?_
        rw [hn] at hb2
        exact WC_weak (ih (j - ((i + j) / 2 + 1)) (by omega) ((i + j) / 2 + 1) j (by omega) (by omega) (by omega) hjb (.inr ⟨y, hy, by simpa using hb2⟩) h2) (by repeat (first | exact SubE.nil | apply SubE.cons rfl)) (by repeat (first | exact HSub.refl | refine HSub.pick (by repeat (first | exact Pick.head | apply Pick.tail)) ?_ | apply HSub.drop))
      ·
        try simp only [decide_eq_true_eq, decide_eq_false_iff_not, Bool.not_eq_true', Bool.not_eq_false', beq_iff_eq, bne_iff_ne, beq_eq_false_iff_ne, Int.ofNat_lt, Int.ofNat_le, Int.ofNat_inj, ne_eq, gt_iff_lt, ge_iff_le] at hb2
        refine WC_region ?_
        refine WO_step rfl (S_pure rfl ?_)
        refine WO_step rfl (S_pure rfl ?_)
        refine WO_nil ?_
        refine KBlock_n ?_
        refine KLoop_n ?_
        rw [hn] at hb2
        exact WC_weak (ih ((i + j) / 2 - i) (by omega) i ((i + j) / 2) (by omega) (by omega) (by omega) (by omega) h1 (.inr ⟨y, hy, by simpa using hb2⟩)) (by repeat (first | exact SubE.nil | apply SubE.cons rfl)) (by repeat (first | exact HSub.refl | refine HSub.pick (by repeat (first | exact Pick.head | apply Pick.tail)) ?_ | apply HSub.drop))
    ·
      try simp only [decide_eq_true_eq, decide_eq_false_iff_not, Bool.not_eq_true', Bool.not_eq_false', beq_iff_eq, bne_iff_ne, beq_eq_false_iff_ne, Int.ofNat_lt, Int.ofNat_le, Int.ofNat_inj, ne_eq, gt_iff_lt, ge_iff_le] at hb1
      refine WC_exit ?_
      refine KSeq_x ?_
      refine KLoop_x ?_
      obtain rfl : i = j := by omega
      exact KPost_i (l' := [(14, .int .i64 i), (0, s), (2, .int .i64 m), (4, fv g), (1, v1), (3, v3)]) (H' := SL s T xs :: H) (by repeat (first | exact SubE.nil | apply SubE.cons rfl)) (by repeat (first | exact HSub.refl | refine HSub.pick (by repeat (first | exact Pick.head | apply Pick.tail)) ?_ | apply HSub.drop)) ⟨i, rfl, rfl, rfl, hmi, hjb, h1, h2⟩
theorem lp_sym3 {α : Type} {T : Ty α} (h5 : T.es = 5) (hg : T.agg = true) {H : SH} {s : Value} {P R : List α} {v : α} {i : Nat} (hi : i = P.length) : ∀ (n : Nat) (A B xs : List α) (k : Nat), A.length = n → k = i + n → xs = P ++ A ++ v :: B ++ R → xs.length ≤ 1000000 →
    WC F X (.loop L_slices_symMergeCmpFunc_api_Rec_3) [(17, .int .i64 k), (14, .int .i64 i), (0, s)] (SL s T xs :: H)
      (KPost fun x l' H' => x = .exit 6 ∧ l' = [] ∧ H' = SL s T (P ++ v :: (A ++ B) ++ R) :: H) := by
  intro n
  induction n using Nat.strongRecOn with
  | _ n ih =>
    intro A B xs k hn hk hxs hL
    have hlen : P.length + n + 1 ≤ 1000000 := by rw [hxs] at hL; simp at hL; omega
    refine WC_loop ?_
    refine WC_seq ?_
    refine WC_seq ?_
    refine WC_region ?_
    refine WO_step rfl (S_pure rfl ?_)
    refine WO_step rfl (S_pure rfl ?_)
    refine WO_step rfl (S_pure rfl ?_)
    refine WO_nil ?_
    refine KSeq_n ?_
    refine WC_cond rfl (fun hb1 => ?_) (fun hb1 => ?_)
    ·
      try simp only [decide_eq_true_eq, decide_eq_false_iff_not, Bool.not_eq_true', Bool.not_eq_false', beq_iff_eq, bne_iff_ne, beq_eq_false_iff_ne, Int.ofNat_lt, Int.ofNat_le, Int.ofNat_inj, ne_eq, gt_iff_lt, ge_iff_le] at hb1
      obtain ⟨n, rfl⟩ : ∃ m', n = m' + 1 := ⟨n - 1, by omega⟩
      obtain ⟨A, w, rfl⟩ := snoc_of (l := A) (by omega)
      simp only [List.length_append, List.length_singleton] at hn
      have e1 : xs = (P ++ A) ++ w :: (v :: B ++ R) := by rw [hxs]; simp
      have e2 : xs = (P ++ A ++ [w]) ++ v :: (B ++ R) := by rw [hxs]; simp
      have hx1 : xs[k - 1]? = some w := by rw [e1]; exact get_mid (by simp; omega)
      have hx2 : xs[k]? = some v := by rw [e2]; exact get_mid (by simp; omega)
      have e3 : (xs.set k w).set (k - 1) v = P ++ A ++ v :: (w :: B) ++ R := by
        rw [e2, set_at (by simp; omega), show (P ++ A ++ [w]) ++ w :: (B ++ R) = (P ++ A) ++ w :: (w :: (B ++ R)) by simp, set_at (by simp; omega)]; simp
      have hl1 := lt_of_get hx1
      have hl2 := lt_of_get hx2
      refine WC_skip ?_
      refine KSeq_n ?_
      refine WC_seq ?_
      refine WC_block ?_
      refine WC_region ?_
      refine WO_step rfl (S_pure rfl ?_)
      refine WO_step rfl (S_pure rfl ?_)
      refine WO_step rfl (S_pure rfl ?_)
      refine WO_step rfl (S_pure rfl ?_)
      first | refine WO_step rfl (S_subN (b := 1) rfl rfl (by omega) ?_) | refine WO_step rfl (S_pure rfl ?_)
      refine WO_step rfl (S_pure rfl ?_)
      refine WO_step rfl (S_pure rfl ?_)
      first | refine WO_step rfl (S_subN (b := 1) rfl rfl (by omega) ?_) | refine WO_step rfl (S_pure rfl ?_)
      refine WO_step rfl (S_idx rfl rfl (by repeat (first | assumption | exact RD.head | exact RD.nil | apply RD.tail)) (by first | rfl | assumption | (symm; assumption)) (by rfl) (by first | assumption | omega | exact lt_of_get (by assumption) | (simp only [List.length_set]; first | assumption | omega | exact lt_of_get (by assumption))) fun hp121 => ?_)
      refine WO_step rfl (S_loadE rfl (by repeat (first | assumption | exact RD.head | exact RD.nil | apply RD.tail)) (by first | rfl | assumption | (symm; assumption)) (by first | rfl | assumption | (symm; assumption)) (by first | rfl | assumption | (symm; assumption)) (by assumption) ?_)
      refine WO_step rfl (S_pure rfl ?_)
      refine WO_step rfl (S_pure rfl ?_)
      refine WO_step rfl (S_idx rfl rfl (by repeat (first | assumption | exact RD.head | exact RD.nil | apply RD.tail)) (by first | rfl | assumption | (symm; assumption)) (by rfl) (by first | assumption | omega | exact lt_of_get (by assumption) | (simp only [List.length_set]; first | assumption | omega | exact lt_of_get (by assumption))) fun hp125 => ?_)
      refine WO_step rfl (S_loadE rfl (by repeat (first | assumption | exact RD.head | exact RD.nil | apply RD.tail)) (by first | rfl | assumption | (symm; assumption)) (by first | rfl | assumption | (symm; assumption)) (by first | rfl | assumption | (symm; assumption)) (by assumption) ?_)
      refine WO_step rfl (S_idx rfl rfl (by repeat (first | assumption | exact RD.head | exact RD.nil | apply RD.tail)) (by first | rfl | assumption | (symm; assumption)) (by rfl) (by first | assumption | omega | exact lt_of_get (by assumption) | (simp only [List.length_set]; first | assumption | omega | exact lt_of_get (by assumption))) fun hp127 => ?_)
      refine WO_step rfl (S_storeW rfl rfl (by repeat (first | exact Pick.head | apply Pick.tail)) (by first | rfl | assumption | (symm; assumption)) (by rfl) (by first | rfl | assumption | (symm; assumption)) (by first | assumption | omega | exact lt_of_get (by assumption) | (simp only [List.length_set]; first | assumption | omega | exact lt_of_get (by assumption))) ?_)
      refine WO_step rfl (S_idx rfl rfl (by repeat (first | assumption | exact RD.head | exact RD.nil | apply RD.tail)) (by first | rfl | assumption | (symm; assumption)) (by rfl) (by first | assumption | omega | exact lt_of_get (by assumption) | (simp only [List.length_set]; first | assumption | omega | exact lt_of_get (by assumption))) fun hp128 => ?_)
      refine WO_step rfl (S_storeW rfl rfl (by repeat (first | exact Pick.head | apply Pick.tail)) (by first | rfl | assumption | (symm; assumption)) (by rfl) (by first | rfl | assumption | (symm; assumption)) (by first | assumption | omega | exact lt_of_get (by assumption) | (simp only [List.length_set]; first | assumption | omega | exact lt_of_get (by assumption))) ?_)
      refine WO_nil ?_
      refine KBlock_n ?_
      refine KSeq_n ?_
      refine WC_region ?_
      refine WO_step rfl (S_pure rfl ?_)
      first | refine WO_step rfl (S_subN (b := 1) rfl rfl (by omega) ?_) | refine WO_step rfl (S_pure rfl ?_)
      refine WO_step rfl (S_pure rfl ?_)
      refine WO_nil ?_
      refine KLoop_n ?_
      have := ih n (by omega) A (w :: B) _ (k - 1) (by omega) (by omega) e3 (by simpa using hL)
      simp only [List.append_assoc, List.singleton_append, List.cons_append, List.nil_append] at this ⊢
      exact WC_weak this (by repeat (first | exact SubE.nil | apply SubE.cons rfl)) (by repeat (first | exact HSub.refl | refine HSub.pick (by repeat (first | exact Pick.head | apply Pick.tail)) ?_ | apply HSub.drop))
    ·
      try simp only [decide_eq_true_eq, decide_eq_false_iff_not, Bool.not_eq_true', Bool.not_eq_false', beq_iff_eq, bne_iff_ne, beq_eq_false_iff_ne, Int.ofNat_lt, Int.ofNat_le, Int.ofNat_inj, ne_eq, gt_iff_lt, ge_iff_le] at hb1
      refine WC_exit ?_
      refine KSeq_x ?_
      refine KLoop_x ?_
      obtain rfl := nil_of (l := A) (by omega)
      rw [hxs]; exact KPost_i (by repeat (first | exact SubE.nil | apply SubE.cons rfl)) (by simp only [List.append_assoc, List.append_nil, List.cons_append, List.nil_append]; exact (by repeat (first | exact HSub.refl | refine HSub.pick (by repeat (first | exact Pick.head | apply Pick.tail)) ?_ | apply HSub.drop))) ⟨rfl, rfl, rfl⟩
theorem lp_sym4 {α : Type} {T : Ty α} (h5 : T.es = 5) (hg : T.agg = true) {lt : α → α → Bool} {g : FuncId} (hc : Cmp g T lt) {H : SH} {s : Value} {xs : List α} {p lo hi b : Nat} {v1 v2 v3 v18 v19 : Value} (hb : b ≤ xs.length) (hL : xs.length ≤ 1000000) (hhi : hi ≤ p + 1) (hhi2 : hi ≤ xs.length) (hlo : p < b + lo) (hp : p ≤ 2000000) : ∀ (k i j : Nat), j - i ≤ k → lo ≤ i → i ≤ j → j ≤ hi → (i = lo ∨ ∃ x y, xs[p - (i - 1)]? = some x ∧ xs[i - 1]? = some y ∧ lt x y = false) → (j = hi ∨ ∃ x y, xs[p - j]? = some x ∧ xs[j]? = some y ∧ lt x y = true) →
    WC F X (.loop L_slices_symMergeCmpFunc_api_Rec_4) [(20, .int .i64 i), (21, .int .i64 j), (22, .int .i64 p), (0, s), (4, fv g), (1, v1), (2, v2), (3, v3), (18, v18), (19, v19)] (SL s T xs :: H)
      (KPost fun x l' H' => ∃ i : Nat, x = .exit 8 ∧ l' = [(20, .int .i64 i), (0, s), (4, fv g), (1, v1), (2, v2), (3, v3), (18, v18), (19, v19)] ∧ H' = SL s T xs :: H ∧ lo ≤ i ∧ i ≤ hi ∧ (i = lo ∨ ∃ x y, xs[p - (i - 1)]? = some x ∧ xs[i - 1]? = some y ∧ lt x y = false) ∧ (i = hi ∨ ∃ x y, xs[p - i]? = some x ∧ xs[i]? = some y ∧ lt x y = true)) := by
  intro k
  induction k using Nat.strongRecOn with
  | _ k ih =>
    intro i j hk hmi hij hjb h1 h2
    refine WC_loop ?_
    refine WC_seq ?_
    refine WC_seq ?_
    refine WC_region ?_
    refine WO_step rfl (S_pure rfl ?_)
    refine WO_step rfl (S_pure rfl ?_)
    refine WO_step rfl (S_pure rfl ?_)
    refine WO_nil ?_
    refine KSeq_n ?_
    refine WC_cond rfl (fun hb1 => ?_) (fun hb1 => ?_)
    ·
      try simp only [decide_eq_true_eq, decide_eq_false_iff_not, Bool.not_eq_true', Bool.not_eq_false', beq_iff_eq, bne_iff_ne, beq_eq_false_iff_ne, Int.ofNat_lt, Int.ofNat_le, Int.ofNat_inj, ne_eq, gt_iff_lt, ge_iff_le] at hb1
      obtain ⟨y, hy⟩ := get_of_lt (l := xs) (a := (i + j) / 2) (by omega)
      obtain ⟨x, hx⟩ := get_of_lt (l := xs) (a := p - (i + j) / 2) (by omega)
      refine WC_skip ?_
      refine KSeq_n ?_
      refine WC_block ?_
      refine WC_seq ?_
      refine WC_region ?_
      refine WO_step rfl (S_pure rfl ?_)
      refine WO_step rfl (S_pure rfl ?_)
      first | refine WO_step rfl (S_addN rfl rfl (by omega) ?_) | refine WO_step rfl (S_pure rfl ?_)
      first | refine WO_step rfl (S_toU rfl (by omega) ?_) | refine WO_step rfl (S_pure rfl ?_)
      first | refine WO_step rfl (S_half rfl (by omega) ?_) | refine WO_step rfl (S_pure rfl ?_)
      first | refine WO_step rfl (S_toI rfl (by omega) ?_) | refine WO_step rfl (S_pure rfl ?_)
      refine WO_step rfl (S_pure rfl ?_)
      refine WO_nil ?_
      refine KSeq_n ?_
      refine WC_seq ?_
      refine WC_region ?_
      refine WO_step rfl (S_pure rfl ?_)
      refine WO_step rfl (S_pure rfl ?_)
      refine WO_step rfl (S_pure rfl ?_)
      refine WO_step rfl (S_pure rfl ?_)
      first | refine WO_step rfl (S_subN rfl rfl (by omega) ?_) | refine WO_step rfl (S_pure rfl ?_)
      refine WO_step rfl (S_idx rfl rfl (by repeat (first | assumption | exact RD.head | exact RD.nil | apply RD.tail)) (by first | rfl | assumption | (symm; assumption)) (by rfl) (by first | assumption | omega | exact lt_of_get (by assumption) | (simp only [List.length_set]; first | assumption | omega | exact lt_of_get (by assumption))) fun hp163 => ?_)
      refine WO_step rfl (S_loadE rfl (by repeat (first | assumption | exact RD.head | exact RD.nil | apply RD.tail)) (by first | rfl | assumption | (symm; assumption)) (by first | rfl | assumption | (symm; assumption)) (by first | rfl | assumption | (symm; assumption)) (by assumption) ?_)
      refine WO_step rfl (S_pure rfl ?_)
      refine WO_step rfl (S_pure rfl ?_)
      refine WO_step rfl (S_idx rfl rfl (by repeat (first | assumption | exact RD.head | exact RD.nil | apply RD.tail)) (by first | rfl | assumption | (symm; assumption)) (by rfl) (by first | assumption | omega | exact lt_of_get (by assumption) | (simp only [List.length_set]; first | assumption | omega | exact lt_of_get (by assumption))) fun hp167 => ?_)
      refine WO_step rfl (S_loadE rfl (by repeat (first | assumption | exact RD.head | exact RD.nil | apply RD.tail)) (by first | rfl | assumption | (symm; assumption)) (by first | rfl | assumption | (symm; assumption)) (by first | rfl | assumption | (symm; assumption)) (by assumption) ?_)
      refine WO_call rfl rfl rfl ?_
      refine (hc _ _ _).mono ?_
      rintro _ _ ⟨rfl, n, rfl, hn⟩
      refine WO_step rfl (S_pure rfl ?_)
      refine WO_step rfl (S_pure rfl ?_)
      refine WO_nil ?_
      refine KSeq_n ?_
      refine WC_cond rfl (fun hb2 => ?_) (fun hb2 => ?_)
      ·
        try simp only [decide_eq_true_eq, decide_eq_false_iff_not, Bool.not_eq_true', Bool.not_eq_false', beq_iff_eq, bne_iff_ne, beq_eq_false_iff_ne, Int.ofNat_lt, Int.ofNat_le, Int.ofNat_inj, ne_eq, gt_iff_lt, ge_iff_le] at hb2
        refine WC_region ?_
        refine WO_step rfl (S_pure rfl ?_)
        first | refine WO_step rfl (S_addN (b := 1) rfl rfl (by omega) ?_) | refine WO_step rfl (S_pure rfl ?_)
        refine WO_step rfl (S_pure rfl ?_)
        refine WO_nil ?_
        refine KBlock_n ?_
        refine KLoop_n ?_
        rw [hn] at hb2
        exact WC_weak (ih (j - ((i + j) / 2 + 1)) (by omega) ((i + j) / 2 + 1) j (by omega) (by omega) (by omega) hjb (.inr ⟨x, y, hx, hy, by simpa using hb2⟩) h2) (by repeat (first | exact SubE.nil | apply SubE.cons rfl)) (by repeat (first | exact HSub.refl | refine HSub.pick (by repeat (first | exact Pick.head | apply Pick.tail)) ?_ | apply HSub.drop))
      ·
        try simp only [decide_eq_true_eq, decide_eq_false_iff_not, Bool.not_eq_true', Bool.not_eq_false', beq_iff_eq, bne_iff_ne, beq_eq_false_iff_ne, Int.ofNat_lt, Int.ofNat_le, Int.ofNat_inj, ne_eq, gt_iff_lt, ge_iff_le] at hb2
        refine WC_region ?_
        refine WO_step rfl (S_pure rfl ?_)
        refine WO_step rfl (S_pure rfl ?_)
        refine WO_nil ?_
        refine KBlock_n ?_
        refine KLoop_n ?_
        rw [hn] at hb2
        exact WC_weak (ih ((i + j) / 2 - i) (by omega) i ((i + j) / 2) (by omega) (by omega) (by omega) (by omega) h1 (.inr ⟨x, y, hx, hy, by simpa using hb2⟩)) (by repeat (first | exact SubE.nil | apply SubE.cons rfl)) (by repeat (first | exact HSub.refl | refine HSub.pick (by repeat (first | exact Pick.head | apply Pick.tail)) ?_ | apply HSub.drop))
    ·
      try simp only [decide_eq_true_eq, decide_eq_false_iff_not, Bool.not_eq_true', Bool.not_eq_false', beq_iff_eq, bne_iff_ne, beq_eq_false_iff_ne, Int.ofNat_lt, Int.ofNat_le, Int.ofNat_inj, ne_eq, gt_iff_lt, ge_iff_le] at hb1
      refine WC_exit ?_
      refine KSeq_x ?_
      refine KLoop_x ?_
      obtain rfl : i = j := by omega
      exact KPost_i (l' := [(20, .int .i64 i), (0, s), (4, fv g), (1, v1), (2, v2), (3, v3), (18, v18), (19, v19)]) (H' := SL s T xs :: H) (by repeat (first | exact SubE.nil | apply SubE.cons rfl)) (by repeat (first | exact HSub.refl | refine HSub.pick (by repeat (first | exact Pick.head | apply Pick.tail)) ?_ | apply HSub.drop)) ⟨i, rfl, rfl, rfl, hmi, hjb, h1, h2⟩
theorem get_seg {α : Type} {A B C : List α} {i k : Nat} (hi : i = A.length + k) (hk : k < B.length) : (A ++ B ++ C)[i]? = B[k]? := by
  subst hi
  rw [List.append_assoc, List.getElem?_append_right (by omega), Nat.add_sub_cancel_left, List.getElem?_append_left hk]
theorem Ord0.refl {α : Type} {le : α → α → Bool} (O : Ord0 le) (a : α) : le a a = true := (O.tot a a).elim id id
theorem Sor.le {α : Type} {le : α → α → Bool} (O : Ord0 le) {l : List α} (h : Sor le l) {i j : Nat} (hij : i ≤ j) {x y : α} (hx : l[i]? = some x) (hy : l[j]? = some y) : le x y = true := by
  rcases Nat.lt_or_eq_of_le hij with h1 | h1
  · exact h.get _ h1 hx hy
  · subst h1; rw [hx] at hy; cases hy; exact O.refl x
theorem mem_take {α : Type} {l : List α} {p : Nat} {x : α} (h : x ∈ l.take p) : ∃ k, k < p ∧ l[k]? = some x := by
  obtain ⟨k, hk⟩ := List.getElem?_of_mem h
  have := (List.getElem?_eq_some_iff.1 hk).1
  rw [List.length_take] at this
  rw [List.getElem?_take, if_pos (by omega)] at hk
  exact ⟨k, by omega, hk⟩
theorem mem_drop {α : Type} {l : List α} {p : Nat} {x : α} (h : x ∈ l.drop p) : ∃ k, p ≤ k ∧ l[k]? = some x := by
  obtain ⟨k, hk⟩ := List.getElem?_of_mem h
  rw [List.getElem?_drop] at hk
  exact ⟨p + k, by omega, hk⟩
theorem split_both {α : Type} {le : α → α → Bool} (O : Ord0 le) {U V : List α} (hU : Sor le U) (hV : Sor le V) {p q : Nat} (h1 : p = 0 ∨ q = V.length ∨ ∃ x y, V[q]? = some x ∧ U[p - 1]? = some y ∧ le y x = true) (h2 : p = U.length ∨ q = 0 ∨ ∃ x y, V[q - 1]? = some x ∧ U[p]? = some y ∧ le y x = false) :
    mrg le U V = mrg le (U.take p) (V.take q) ++ mrg le (U.drop p) (V.drop q) := by
  rw [← mrg_split le (U.take p) (V.take q) (U.drop p) (V.drop q), List.take_append_drop, List.take_append_drop]
  · intro u hu v hv
    obtain ⟨i, hi, hu⟩ := mem_drop hu
    obtain ⟨j, hj, hv⟩ := mem_take hv
    rcases h2 with h2 | h2 | ⟨x, y, hx, hy, h⟩
    · have := (List.getElem?_eq_some_iff.1 hu).1; omega
    · omega
    · have e1 := hU.le O hi hy hu
      have e2 := hV.le O (by omega : j ≤ q - 1) hv hx
      cases hc : le u v with
      | false => rfl
      | true => rw [O.trans _ _ _ (O.trans _ _ _ e1 hc) e2] at h; cases h
  · intro u hu v hv
    obtain ⟨i, hi, hu⟩ := mem_take hu
    obtain ⟨j, hj, hv⟩ := mem_drop hv
    rcases h1 with h1 | h1 | ⟨x, y, hx, hy, h⟩
    · omega
    · have := (List.getElem?_eq_some_iff.1 hv).1; omega
    · exact O.trans _ _ _ (hU.le O (by omega : i ≤ p - 1) hu hy) (O.trans _ _ _ h (hV.le O hj hx hv))
theorem split_right {α : Type} {le : α → α → Bool} (O : Ord0 le) {V : List α} {u : α} (hV : Sor le V) {p : Nat} (h1 : p = 0 ∨ ∃ y, V[p - 1]? = some y ∧ le u y = false) (h2 : p = V.length ∨ ∃ y, V[p]? = some y ∧ le u y = true) : mrg le [u] V = V.take p ++ u :: V.drop p := by
  have := split_both O (U := [u]) (V := V) (by simp [Sor]) hV (p := 0) (q := p) (.inl rfl) (by
    rcases h1 with h | ⟨y, h, h'⟩
    · exact .inr (.inl h)
    · exact .inr (.inr ⟨y, u, h, rfl, h'⟩))
  rw [this]
  have e : mrg le [u] (V.drop p) = u :: V.drop p := by
    have := mrg_right le [] (V.drop p) u (fun v hv => by simp at hv) (fun v hv => by
      obtain ⟨j, hj, hv⟩ := mem_drop hv
      rcases h2 with h | ⟨y, h, h'⟩
      · have := (List.getElem?_eq_some_iff.1 hv).1; omega
      · exact O.trans _ _ _ h' (hV.le O hj h hv))
    simpa using this
  simp only [List.take_zero, List.drop_zero]
  rw [e]; rfl
theorem split_left {α : Type} {le : α → α → Bool} (O : Ord0 le) {U : List α} {v : α} (hU : Sor le U) {p : Nat} (h1 : p = 0 ∨ ∃ y, U[p - 1]? = some y ∧ le y v = true) (h2 : p = U.length ∨ ∃ y, U[p]? = some y ∧ le y v = false) : mrg le U [v] = U.take p ++ v :: U.drop p := by
  rw [← mrg_left le O (U.take p) (U.drop p) v, List.take_append_drop]
  · intro u hu
    obtain ⟨i, hi, hu⟩ := mem_take hu
    rcases h1 with h | ⟨y, h, h'⟩
    · omega
    · exact O.trans _ _ _ (hU.le O (by omega : i ≤ p - 1) hu h) h'
  · intro u hu
    obtain ⟨i, hi, hu⟩ := mem_drop hu
    rcases h2 with h | ⟨y, h, h'⟩
    · have := (List.getElem?_eq_some_iff.1 hu).1; omega
    · cases hc : le u v with
      | false => rfl
      | true => rw [O.trans _ _ _ (hU.le O hi h hu) hc] at h'; cases h'
set_option maxHeartbeats 4000000 in
theorem sp_sym {α : Type} {T : Ty α} (h5 : T.es = 5) (hg : T.agg = true) {lt : α → α → Bool} (O : Ord0 (leOf lt)) {g : FuncId} (hc : Cmp g T lt) {s : Value} : ∀ (k : Nat) {H : SH} {P U V Q xs : List α} {a m b : Nat}, U.length + V.length ≤ k → xs = P ++ U ++ V ++ Q → xs.length ≤ 1000000 → a = P.length → m = a + U.length → b = m + V.length → 0 < U.length → 0 < V.length → Sor (leOf lt) U → Sor (leOf lt) V →
    WF F X f_slices_symMergeCmpFunc_api_Rec [s, .int .i64 a, .int .i64 m, .int .i64 b, fv g] (SL s T xs :: H) (fun r H' => H' = SL s T (P ++ mrg (leOf lt) U V ++ Q) :: H) := by
  intro k
  induction k using Nat.strongRecOn with
  | _ k ih =>
    intro H P U V Q xs a m b hk hxs hL ha hm hb hu0 hv0 hU hV
    have hlen : P.length + U.length + V.length ≤ xs.length := by rw [hxs]; simp only [List.length_append]; omega
    have gU : ∀ i, a ≤ i → i < m → xs[i]? = U[i - a]? := fun i h1 h2 => by rw [hxs, List.append_assoc (P ++ U)]; exact get_seg (by omega) (by omega)
    have gV : ∀ i, m ≤ i → i < b → xs[i]? = V[i - m]? := fun i h1 h2 => by rw [hxs]; exact get_seg (A := P ++ U) (by simp; omega) (by omega)
    refine WF_fn F_slices_symMergeCmpFunc_api_Rec ?_
    refine WC_seq ?_
    refine WC_seq ?_
    refine WC_region ?_
    refine WO_step rfl (S_pure rfl ?_)
    refine WO_step rfl (S_pure rfl ?_)
    first | refine WO_step rfl (S_subN rfl rfl (by omega) ?_) | refine WO_step rfl (S_pure rfl ?_)
    first | refine WO_step rfl (S_eqS rfl rfl ?_) | refine WO_step rfl (S_pure rfl ?_)
    refine WO_nil ?_
    refine KSeq_n ?_
    refine WC_cond rfl (fun hb1 => ?_) (fun hb1 => ?_)
    ·
      try simp only [decide_eq_true_eq, decide_eq_false_iff_not, Bool.not_eq_true', Bool.not_eq_false', beq_iff_eq, bne_iff_ne, beq_eq_false_iff_ne, Int.ofNat_lt, Int.ofNat_le, Int.ofNat_inj, ne_eq, gt_iff_lt, ge_iff_le] at hb1
      obtain ⟨u, hu⟩ : ∃ u, U = [u] := by
        obtain ⟨u, U, rfl⟩ := cons_of hu0
        obtain rfl := nil_of (l := U) (by simp at hm; omega)
        exact ⟨u, rfl⟩
      subst hu
      have hua : xs[a]? = some u := by rw [gU a (by omega) (by omega), Nat.sub_self]; rfl
      refine WC_seq ?_
      refine WC_region ?_
      refine WO_step rfl (S_pure rfl ?_)
      refine WO_step rfl (S_pure rfl ?_)
      refine WO_nil ?_
      refine KSeq_n ?_
      refine WC_seq ?_
      refine WC_region ?_
      refine WO_step rfl (S_pure rfl ?_)
      refine WO_step rfl (S_pure rfl ?_)
      refine WO_nil ?_
      refine KSeq_n ?_
      refine WC_seq ?_
      refine WC_block ?_
      refine WC_post (WC_weak (lp_sym0 h5 hg hc (b := b) (v2 := .int .i64 m) (v3 := .int .i64 b) (by omega) hL hua (b - m) m b (by omega) (by omega) (by omega) (by omega) (.inl rfl) (.inl rfl)) (by repeat (first | exact SubE.nil | apply SubE.cons rfl)) (by repeat (first | exact HSub.refl | refine HSub.pick (by repeat (first | exact Pick.head | apply Pick.tail)) ?_ | apply HSub.drop))) ?_
      rintro x l' H' ⟨i, rfl, rfl, rfl, h1, h2, h3, h4⟩
      have hsp := List.take_append_drop (i - m) V
      have hml : m = a + 1 := by simpa using hm
      refine KBlock_h ?_
      refine KSeq_n ?_
      refine WC_seq ?_
      refine WC_seq ?_
      refine WC_region ?_
      refine WO_step rfl (S_pure rfl ?_)
      refine WO_step rfl (S_pure rfl ?_)
      refine WO_nil ?_
      refine KSeq_n ?_
      refine WC_block ?_
      have e0 : V ++ Q = V.take (i - m) ++ (V.drop (i - m) ++ Q) := by rw [← List.append_assoc, hsp]
      have e1 : xs = P ++ [] ++ u :: V.take (i - m) ++ (V.drop (i - m) ++ Q) := by
        rw [hxs]; simp only [List.append_assoc, e0, List.nil_append, List.cons_append]
      refine WC_post (WC_weak (lp_sym1 h5 hg (P := P) (R := V.drop (i - m) ++ Q) (u := u) (i := i) (i - m) [] (V.take (i - m)) xs a (by rw [List.length_take]; omega) (by simp; omega) (by omega) e1 hL) (by repeat (first | exact SubE.nil | apply SubE.cons rfl)) (by repeat (first | exact HSub.refl | refine HSub.pick (by repeat (first | exact Pick.head | apply Pick.tail)) ?_ | apply HSub.drop))) ?_
      rintro x l' H' ⟨rfl, rfl, rfl⟩
      refine KBlock_h ?_
      refine KSeq_n ?_
      refine WC_ret ?_
      refine KSeq_r ?_
      refine KFn_r ResL.nil ?_
      refine ⟨_, (by repeat (first | exact HSub.refl | refine HSub.pick (by repeat (first | exact Pick.head | apply Pick.tail)) ?_ | apply HSub.drop)), ?_⟩
      rw [split_right O hV (p := i - m)]
      · simp
      · rcases h3 with h | ⟨y, h, h'⟩
        · left; omega
        · by_cases hi0 : i = m
          · left; omega
          · right; refine ⟨y, ?_, by simp [leOf, h']⟩
            rw [gV (i - 1) (by omega) (by omega)] at h
            rw [← h]; congr 1; omega
      · rcases h4 with h | ⟨y, h, h'⟩
        · left; omega
        · by_cases hi0 : i = b
          · left; omega
          · right; exact ⟨y, by rw [gV i (by omega) (by omega)] at h; exact h, by simp [leOf, h']⟩
    ·
      try simp only [decide_eq_true_eq, decide_eq_false_iff_not, Bool.not_eq_true', Bool.not_eq_false', beq_iff_eq, bne_iff_ne, beq_eq_false_iff_ne, Int.ofNat_lt, Int.ofNat_le, Int.ofNat_inj, ne_eq, gt_iff_lt, ge_iff_le] at hb1
      refine WC_skip ?_
      refine KSeq_n ?_
      refine WC_seq ?_
      refine WC_seq ?_
      refine WC_region ?_
      refine WO_step rfl (S_pure rfl ?_)
      refine WO_step rfl (S_pure rfl ?_)
      first | refine WO_step rfl (S_subN rfl rfl (by omega) ?_) | refine WO_step rfl (S_pure rfl ?_)
      first | refine WO_step rfl (S_eqS rfl rfl ?_) | refine WO_step rfl (S_pure rfl ?_)
      refine WO_nil ?_
      refine KSeq_n ?_
      refine WC_cond rfl (fun hb2 => ?_) (fun hb2 => ?_)
      ·
        try simp only [decide_eq_true_eq, decide_eq_false_iff_not, Bool.not_eq_true', Bool.not_eq_false', beq_iff_eq, bne_iff_ne, beq_eq_false_iff_ne, Int.ofNat_lt, Int.ofNat_le, Int.ofNat_inj, ne_eq, gt_iff_lt, ge_iff_le] at hb2
        obtain ⟨v, hv⟩ : ∃ v, V = [v] := by
          obtain ⟨v, V, rfl⟩ := cons_of hv0
          obtain rfl := nil_of (l := V) (by simp at hb; omega)
          exact ⟨v, rfl⟩
        subst hv
        have hbl : b = m + 1 := by simpa using hb
        have hvm : xs[m]? = some v := by rw [gV m (by omega) (by omega), Nat.sub_self]; rfl
        refine WC_seq ?_
        refine WC_region ?_
        refine WO_step rfl (S_pure rfl ?_)
        refine WO_step rfl (S_pure rfl ?_)
        refine WO_nil ?_
        refine KSeq_n ?_
        refine WC_seq ?_
        refine WC_region ?_
        refine WO_step rfl (S_pure rfl ?_)
        refine WO_step rfl (S_pure rfl ?_)
        refine WO_nil ?_
        refine KSeq_n ?_
        refine WC_seq ?_
        refine WC_block ?_
        refine WC_post (WC_weak (lp_sym2 h5 hg hc (a := a) (v1 := .int .i64 a) (v3 := .int .i64 b) (by omega) hL hvm (m - a) a m (by omega) (by omega) (by omega) (by omega) (.inl rfl) (.inl rfl)) (by repeat (first | exact SubE.nil | apply SubE.cons rfl)) (by repeat (first | exact HSub.refl | refine HSub.pick (by repeat (first | exact Pick.head | apply Pick.tail)) ?_ | apply HSub.drop))) ?_
        rintro x l' H' ⟨i, rfl, rfl, rfl, h1, h2, h3, h4⟩
        have hsp := List.take_append_drop (i - a) U
        have htl : (U.take (i - a)).length = i - a := by rw [List.length_take]; omega
        refine KBlock_h ?_
        refine KSeq_n ?_
        refine WC_seq ?_
        refine WC_seq ?_
        refine WC_region ?_
        refine WO_step rfl (S_pure rfl ?_)
        refine WO_step rfl (S_pure rfl ?_)
        refine WO_nil ?_
        refine KSeq_n ?_
        refine WC_block ?_
        have e1 : xs = (P ++ U.take (i - a)) ++ U.drop (i - a) ++ v :: [] ++ Q := by
          rw [hxs]; conv => lhs; rw [← hsp]
          simp
        refine WC_post (WC_weak (lp_sym3 h5 hg (P := P ++ U.take (i - a)) (R := Q) (v := v) (i := i) (by simp [htl]; omega) (m - i) (U.drop (i - a)) [] xs m (by rw [List.length_drop]; omega) (by omega) e1 hL) (by repeat (first | exact SubE.nil | apply SubE.cons rfl)) (by repeat (first | exact HSub.refl | refine HSub.pick (by repeat (first | exact Pick.head | apply Pick.tail)) ?_ | apply HSub.drop))) ?_
        rintro x l' H' ⟨rfl, rfl, rfl⟩
        refine KBlock_h ?_
        refine KSeq_n ?_
        refine WC_ret ?_
        refine KSeq_r ?_
        refine KFn_r ResL.nil ?_
        refine ⟨_, (by repeat (first | exact HSub.refl | refine HSub.pick (by repeat (first | exact Pick.head | apply Pick.tail)) ?_ | apply HSub.drop)), ?_⟩
        rw [split_left O hU (p := i - a)]
        · simp
        · rcases h3 with h | ⟨y, h, h'⟩
          · left; omega
          · by_cases hi0 : i = a
            · left; omega
            · right; refine ⟨y, ?_, by simp [leOf, h']⟩
              rw [gU (i - 1) (by omega) (by omega)] at h
              rw [← h]; congr 1; omega
        · rcases h4 with h | ⟨y, h, h'⟩
          · left; omega
          · by_cases hi0 : i = m
            · left; omega
            · right; exact ⟨y, by rw [gU i (by omega) (by omega)] at h; exact h, by simp [leOf, h']⟩
      ·
        try simp only [decide_eq_true_eq, decide_eq_false_iff_not, Bool.not_eq_true', Bool.not_eq_false', beq_iff_eq, bne_iff_ne, beq_eq_false_iff_ne, Int.ofNat_lt, Int.ofNat_le, Int.ofNat_inj, ne_eq, gt_iff_lt, ge_iff_le] at hb2
        refine WC_skip ?_
        refine KSeq_n ?_
        refine WC_seq ?_
        refine WC_region ?_
        refine WO_step rfl (S_pure rfl ?_)
        refine WO_step rfl (S_pure rfl ?_)
        first | refine WO_step rfl (S_addN rfl rfl (by omega) ?_) | refine WO_step rfl (S_pure rfl ?_)
        first | refine WO_step rfl (S_toU rfl (by omega) ?_) | refine WO_step rfl (S_pure rfl ?_)
        first | refine WO_step rfl (S_half rfl (by omega) ?_) | refine WO_step rfl (S_pure rfl ?_)
        first | refine WO_step rfl (S_toI rfl (by omega) ?_) | refine WO_step rfl (S_pure rfl ?_)
        refine WO_step rfl (S_pure rfl ?_)
        refine WO_nil ?_
        refine KSeq_n ?_
        refine WC_seq ?_
        refine WC_region ?_
        refine WO_step rfl (S_pure rfl ?_)
        refine WO_step rfl (S_pure rfl ?_)
        first | refine WO_step rfl (S_addN rfl rfl (by omega) ?_) | refine WO_step rfl (S_pure rfl ?_)
        refine WO_step rfl (S_pure rfl ?_)
        refine WO_nil ?_
        refine KSeq_n ?_
        refine WC_seq ?_
        refine WC_region ?_
        refine WO_step rfl (S_pure rfl ?_)
        refine WO_step rfl (S_pure rfl ?_)
        refine WO_nil ?_
        refine KSeq_n ?_
        refine WC_seq ?_
        refine WC_post (P := fun x l' H' => ∃ lo hi : Nat, x = .normal ∧ l' = [(20, .int .i64 lo), (21, .int .i64 hi), (0, s), (1, .int .i64 a), (2, .int .i64 m), (3, .int .i64 b), (4, fv g), (18, .int .i64 (((a + b) / 2 : Nat) : Int)), (19, .int .i64 (((a + b) / 2 + m : Nat) : Int))] ∧ H' = SL s T xs :: H ∧ ((a + b) / 2 < m ∧ lo = (a + b) / 2 + m - b ∧ hi = (a + b) / 2 ∨ m ≤ (a + b) / 2 ∧ lo = a ∧ hi = m)) ?_ ?_
        ·
          refine WC_seq ?_
          refine WC_region ?_
          refine WO_step rfl (S_pure rfl ?_)
          refine WO_step rfl (S_pure rfl ?_)
          refine WO_step rfl (S_pure rfl ?_)
          refine WO_nil ?_
          refine KSeq_n ?_
          refine WC_cond rfl (fun hb3 => ?_) (fun hb3 => ?_)
          ·
            try simp only [decide_eq_true_eq, decide_eq_false_iff_not, Bool.not_eq_true', Bool.not_eq_false', beq_iff_eq, bne_iff_ne, beq_eq_false_iff_ne, Int.ofNat_lt, Int.ofNat_le, Int.ofNat_inj, ne_eq, gt_iff_lt, ge_iff_le] at hb3
            refine WC_seq ?_
            refine WC_region ?_
            refine WO_step rfl (S_pure rfl ?_)
            refine WO_step rfl (S_pure rfl ?_)
            first | refine WO_step rfl (S_subN rfl rfl (by omega) ?_) | refine WO_step rfl (S_pure rfl ?_)
            refine WO_step rfl (S_pure rfl ?_)
            refine WO_nil ?_
            refine KSeq_n ?_
            refine WC_region ?_
            refine WO_step rfl (S_pure rfl ?_)
            refine WO_step rfl (S_pure rfl ?_)
            refine WO_nil ?_
            exact KPost_i (l' := [(20, .int .i64 (((a + b) / 2 + m - b : Nat) : Int)), (21, .int .i64 (((a + b) / 2 : Nat) : Int)), (0, s), (1, .int .i64 a), (2, .int .i64 m), (3, .int .i64 b), (4, fv g), (18, .int .i64 (((a + b) / 2 : Nat) : Int)), (19, .int .i64 (((a + b) / 2 + m : Nat) : Int))]) (by repeat (first | exact SubE.nil | apply SubE.cons rfl)) (by repeat (first | exact HSub.refl | refine HSub.pick (by repeat (first | exact Pick.head | apply Pick.tail)) ?_ | apply HSub.drop)) ⟨_, _, rfl, rfl, rfl, .inl ⟨by omega, rfl, rfl⟩⟩
          ·
            try simp only [decide_eq_true_eq, decide_eq_false_iff_not, Bool.not_eq_true', Bool.not_eq_false', beq_iff_eq, bne_iff_ne, beq_eq_false_iff_ne, Int.ofNat_lt, Int.ofNat_le, Int.ofNat_inj, ne_eq, gt_iff_lt, ge_iff_le] at hb3
            refine WC_seq ?_
            refine WC_region ?_
            refine WO_step rfl (S_pure rfl ?_)
            refine WO_step rfl (S_pure rfl ?_)
            refine WO_nil ?_
            refine KSeq_n ?_
            refine WC_region ?_
            refine WO_step rfl (S_pure rfl ?_)
            refine WO_step rfl (S_pure rfl ?_)
            refine WO_nil ?_
            exact KPost_i (l' := [(20, .int .i64 a), (21, .int .i64 m), (0, s), (1, .int .i64 a), (2, .int .i64 m), (3, .int .i64 b), (4, fv g), (18, .int .i64 (((a + b) / 2 : Nat) : Int)), (19, .int .i64 (((a + b) / 2 + m : Nat) : Int))]) (by repeat (first | exact SubE.nil | apply SubE.cons rfl)) (by repeat (first | exact HSub.refl | refine HSub.pick (by repeat (first | exact Pick.head | apply Pick.tail)) ?_ | apply HSub.drop)) ⟨_, _, rfl, rfl, rfl, .inr ⟨by omega, rfl, rfl⟩⟩
        ·
          rintro x l' H' ⟨lo, hi, rfl, rfl, rfl, hlh⟩
          have hmid : a ≤ (a + b) / 2 ∧ (a + b) / 2 < b := by omega
          refine KSeq_n ?_
          refine WC_seq ?_
          refine WC_region ?_
          refine WO_step rfl (S_pure rfl ?_)
          first | refine WO_step rfl (S_subN (b := 1) rfl rfl (by omega) ?_) | refine WO_step rfl (S_pure rfl ?_)
          refine WO_step rfl (S_pure rfl ?_)
          refine WO_nil ?_
          refine KSeq_n ?_
          refine WC_seq ?_
          refine WC_block ?_
          refine WC_post (WC_weak (lp_sym4 h5 hg hc (p := (a + b) / 2 + m - 1) (lo := lo) (hi := hi) (b := b) (v1 := .int .i64 a) (v2 := .int .i64 m) (v3 := .int .i64 b) (v18 := .int .i64 (((a + b) / 2 : Nat) : Int)) (v19 := .int .i64 (((a + b) / 2 + m : Nat) : Int)) (by omega) hL (by omega) (by omega) (by omega) (by omega) (hi - lo) lo hi (by omega) (by omega) (by omega) (by omega) (.inl rfl) (.inl rfl)) (by repeat (first | exact SubE.nil | apply SubE.cons rfl)) (by repeat (first | exact HSub.refl | refine HSub.pick (by repeat (first | exact Pick.head | apply Pick.tail)) ?_ | apply HSub.drop))) ?_
          rintro x l' H' ⟨st, rfl, rfl, rfl, h1, h2, h3, h4⟩
          obtain ⟨en, hen⟩ : ∃ en, en = (a + b) / 2 + m - st := ⟨_, rfl⟩
          obtain ⟨p, hp⟩ : ∃ p, p = st - a := ⟨_, rfl⟩
          obtain ⟨q, hq⟩ : ∃ q, q = en - m := ⟨_, rfl⟩
          generalize hmd : (a + b) / 2 = mid at *
          have hst : a ≤ st ∧ st ≤ m := by omega
          have hen2 : m ≤ en ∧ en ≤ b := by omega
          have hspU := List.take_append_drop p U
          have hspV := List.take_append_drop q V
          have lU1 : (U.take p).length = p := by rw [List.length_take]; omega
          have lV1 : (V.take q).length = q := by rw [List.length_take]; omega
          have lU2 : (U.drop p).length = U.length - p := by rw [List.length_drop]
          have lV2 : (V.drop q).length = V.length - q := by rw [List.length_drop]
          have hsplit : mrg (leOf lt) U V = mrg (leOf lt) (U.take p) (V.take q) ++ mrg (leOf lt) (U.drop p) (V.drop q) := by
            refine split_both O hU hV ?_ ?_
            · rcases h3 with h | ⟨x, y, hx, hy, h⟩
              · rcases hlh with hh | hh
                · right; left; omega
                · left; omega
              · by_cases c1 : p = 0
                · exact .inl c1
                · by_cases c2 : q = V.length
                  · exact .inr (.inl c2)
                  · right; right
                    rw [show mid + m - 1 - (st - 1) = en by omega, gV en (by omega) (by omega)] at hx
                    rw [gU (st - 1) (by omega) (by omega)] at hy
                    exact ⟨x, y, by rw [hq]; exact hx, by rw [← hy]; congr 1; omega, by simp [leOf, h]⟩
            · rcases h4 with h | ⟨x, y, hx, hy, h⟩
              · rcases hlh with hh | hh
                · right; left; omega
                · left; omega
              · by_cases c1 : p = U.length
                · exact .inl c1
                · by_cases c2 : q = 0
                  · exact .inr (.inl c2)
                  · right; right
                    rw [show mid + m - 1 - st = en - 1 by omega, gV (en - 1) (by omega) (by omega)] at hx
                    rw [gU st (by omega) (by omega)] at hy
                    exact ⟨x, y, by rw [← hx]; congr 1; omega, by rw [hp]; exact hy, by simp [leOf, h]⟩
          have hU1 := ((Sor.app _).1 (by rw [hspU]; exact hU : Sor (leOf lt) (U.take p ++ U.drop p)))
          have hV1 := ((Sor.app _).1 (by rw [hspV]; exact hV : Sor (leOf lt) (V.take q ++ V.drop q)))
          refine KBlock_h ?_
          refine KSeq_n ?_
          refine WC_seq ?_
          refine WC_region ?_
          refine WO_step rfl (S_pure rfl ?_)
          refine WO_step rfl (S_pure rfl ?_)
          refine WO_step rfl (S_subN rfl rfl (by omega) ?_)
          rw [← hen]
          refine WO_step rfl (S_pure rfl ?_)
          refine WO_nil ?_
          refine KSeq_n ?_
          refine WC_seq ?_
          refine WC_post (P := fun x l' H' => x = .normal ∧ l' = [(0, s), (1, .int .i64 a), (3, .int .i64 b), (4, fv g), (18, .int .i64 mid), (20, .int .i64 st), (24, .int .i64 en)] ∧ H' = SL s T (P ++ U.take p ++ V.take q ++ U.drop p ++ V.drop q ++ Q) :: H) ?_ ?_
          ·
            refine WC_seq ?_
            refine WC_region ?_
            refine WO_step rfl (S_pure rfl ?_)
            refine WO_step rfl (S_pure rfl ?_)
            refine WO_step rfl (S_pure rfl ?_)
            refine WO_step rfl (S_pure rfl ?_)
            refine WO_cases (t := 181) rfl (fun hg1 => ?_) (fun hg1 => ?_)
            ·
              try simp only [decide_eq_true_eq, decide_eq_false_iff_not, Bool.not_eq_true', Bool.not_eq_false', beq_iff_eq, bne_iff_ne, beq_eq_false_iff_ne, Int.ofNat_lt, Int.ofNat_le, Int.ofNat_inj, ne_eq, gt_iff_lt, ge_iff_le] at hg1
              refine WO_step rfl (S_pure rfl ?_)
              refine WO_step rfl (S_pure rfl ?_)
              refine WO_step rfl (S_pure rfl ?_)
              refine WO_step rfl (S_pure rfl ?_)
              refine WO_nil ?_
              refine KSeq_n ?_
              refine WC_cond rfl (fun hb4 => ?_) (fun hb4 => ?_)
              ·
                try simp only [decide_eq_true_eq, decide_eq_false_iff_not, Bool.not_eq_true', Bool.not_eq_false', beq_iff_eq, bne_iff_ne, beq_eq_false_iff_ne, Int.ofNat_lt, Int.ofNat_le, Int.ofNat_inj, ne_eq, gt_iff_lt, ge_iff_le] at hb4
                refine WC_region ?_
                refine WO_step rfl (S_pure rfl ?_)
                refine WO_step rfl (S_pure rfl ?_)
                refine WO_step rfl (S_pure rfl ?_)
                refine WO_step rfl (S_pure rfl ?_)
                refine WO_step rfl (S_pure rfl ?_)
                refine WO_call rfl rfl rfl ?_
                have e0V : V ++ Q = V.take q ++ (V.drop q ++ Q) := by rw [← List.append_assoc, hspV]
                have e0U : ∀ Z, U ++ Z = U.take p ++ (U.drop p ++ Z) := fun Z => by rw [← List.append_assoc, hspU]
                have e1 : xs = (P ++ U.take p) ++ U.drop p ++ V.take q ++ (V.drop q ++ Q) := by
                  rw [hxs]; simp only [List.append_assoc, e0V, e0U]
                refine (sp_rot h5 hg e1 hL (by simp only [List.length_append]; omega) (by omega) (by omega) (by omega) (by omega)).mono ?_
                rintro _ _ rfl
                refine WO_nil ?_
                exact KPost_i (l' := [(0, s), (1, .int .i64 a), (3, .int .i64 b), (4, fv g), (18, .int .i64 mid), (20, .int .i64 st), (24, .int .i64 en)]) (H' := SL s T (P ++ U.take p ++ V.take q ++ U.drop p ++ V.drop q ++ Q) :: H) (by repeat (first | exact SubE.nil | apply SubE.cons rfl)) (by simp only [List.append_assoc]; exact (by repeat (first | exact HSub.refl | refine HSub.pick (by repeat (first | exact Pick.head | apply Pick.tail)) ?_ | apply HSub.drop))) ⟨rfl, rfl, rfl⟩
              ·
                try simp only [decide_eq_true_eq, decide_eq_false_iff_not, Bool.not_eq_true', Bool.not_eq_false', beq_iff_eq, bne_iff_ne, beq_eq_false_iff_ne, Int.ofNat_lt, Int.ofNat_le, Int.ofNat_inj, ne_eq, gt_iff_lt, ge_iff_le] at hb4
                refine WC_skip ?_
                have e1 : xs = P ++ U.take p ++ V.take q ++ U.drop p ++ V.drop q ++ Q := by
                  have : q = 0 := by omega
                  subst this
                  rw [hxs]; conv => lhs; rw [← hspU]
                  simp
                exact KPost_i (l' := [(0, s), (1, .int .i64 a), (3, .int .i64 b), (4, fv g), (18, .int .i64 mid), (20, .int .i64 st), (24, .int .i64 en)]) (H' := SL s T (P ++ U.take p ++ V.take q ++ U.drop p ++ V.drop q ++ Q) :: H) (by repeat (first | exact SubE.nil | apply SubE.cons rfl)) (by rw [← e1]; exact (by repeat (first | exact HSub.refl | refine HSub.pick (by repeat (first | exact Pick.head | apply Pick.tail)) ?_ | apply HSub.drop))) ⟨rfl, rfl, rfl⟩
            ·
              try simp only [decide_eq_true_eq, decide_eq_false_iff_not, Bool.not_eq_true', Bool.not_eq_false', beq_iff_eq, bne_iff_ne, beq_eq_false_iff_ne, Int.ofNat_lt, Int.ofNat_le, Int.ofNat_inj, ne_eq, gt_iff_lt, ge_iff_le] at hg1
              refine WO_off rfl ?_
              refine WO_off rfl ?_
              refine WO_off rfl ?_
              refine WO_step rfl (S_pure rfl ?_)
              refine WO_nil ?_
              refine KSeq_n ?_
              refine WC_cond rfl (fun h => ?_) (fun _ => ?_)
              · exact absurd h (by decide)
              refine WC_skip ?_
              have e1 : xs = P ++ U.take p ++ V.take q ++ U.drop p ++ V.drop q ++ Q := by
                have h0 : U.drop p = [] := nil_of (by omega)
                have h1 : U.take p = U := by rw [h0, List.append_nil] at hspU; exact hspU
                have h2 : V ++ Q = V.take q ++ (V.drop q ++ Q) := by rw [← List.append_assoc, hspV]
                rw [h0, h1, hxs]; simp only [List.append_assoc, h2, List.nil_append]
              exact KPost_i (l' := [(0, s), (1, .int .i64 a), (3, .int .i64 b), (4, fv g), (18, .int .i64 mid), (20, .int .i64 st), (24, .int .i64 en)]) (H' := SL s T (P ++ U.take p ++ V.take q ++ U.drop p ++ V.drop q ++ Q) :: H) (by repeat (first | exact SubE.nil | apply SubE.cons rfl)) (by rw [← e1]; exact (by repeat (first | exact HSub.refl | refine HSub.pick (by repeat (first | exact Pick.head | apply Pick.tail)) ?_ | apply HSub.drop))) ⟨rfl, rfl, rfl⟩
          ·
            rintro x l' H' ⟨rfl, rfl, rfl⟩
            have hL2 : (P ++ U.take p ++ V.take q ++ U.drop p ++ V.drop q ++ Q).length ≤ 1000000 := by
              rw [hxs] at hL; simp only [List.length_append] at hL ⊢; omega
            refine KSeq_n ?_
            refine WC_seq ?_
            refine WC_post (P := fun x l' H' => x = .normal ∧ l' = [(0, s), (1, .int .i64 a), (3, .int .i64 b), (4, fv g), (18, .int .i64 mid), (24, .int .i64 en)] ∧ H' = SL s T (P ++ mrg (leOf lt) (U.take p) (V.take q) ++ U.drop p ++ V.drop q ++ Q) :: H) ?_ ?_
            ·
              refine WC_seq ?_
              refine WC_region ?_
              refine WO_step rfl (S_pure rfl ?_)
              refine WO_step rfl (S_pure rfl ?_)
              refine WO_step rfl (S_pure rfl ?_)
              refine WO_step rfl (S_pure rfl ?_)
              refine WO_cases (t := 195) rfl (fun hg2 => ?_) (fun hg2 => ?_)
              ·
                try simp only [decide_eq_true_eq, decide_eq_false_iff_not, Bool.not_eq_true', Bool.not_eq_false', beq_iff_eq, bne_iff_ne, beq_eq_false_iff_ne, Int.ofNat_lt, Int.ofNat_le, Int.ofNat_inj, ne_eq, gt_iff_lt, ge_iff_le] at hg2
                refine WO_step rfl (S_pure rfl ?_)
                refine WO_step rfl (S_pure rfl ?_)
                refine WO_step rfl (S_pure rfl ?_)
                refine WO_step rfl (S_pure rfl ?_)
                refine WO_nil ?_
                refine KSeq_n ?_
                refine WC_cond rfl (fun hb5 => ?_) (fun hb5 => ?_)
                ·
                  try simp only [decide_eq_true_eq, decide_eq_false_iff_not, Bool.not_eq_true', Bool.not_eq_false', beq_iff_eq, bne_iff_ne, beq_eq_false_iff_ne, Int.ofNat_lt, Int.ofNat_le, Int.ofNat_inj, ne_eq, gt_iff_lt, ge_iff_le] at hb5
                  refine WC_region ?_
                  refine WO_step rfl (S_pure rfl ?_)
                  refine WO_step rfl (S_pure rfl ?_)
                  refine WO_step rfl (S_pure rfl ?_)
                  refine WO_step rfl (S_pure rfl ?_)
                  refine WO_step rfl (S_pure rfl ?_)
                  refine WO_call rfl rfl rfl ?_
                  refine (ih (p + q) (by omega) (P := P) (U := U.take p) (V := V.take q) (Q := U.drop p ++ V.drop q ++ Q) (by omega) (by simp) hL2 ha (by omega) (by omega) (by omega) (by omega) hU1.1 hV1.1).mono ?_
                  rintro _ _ rfl
                  refine WO_nil ?_
                  exact KPost_i (l' := [(0, s), (1, .int .i64 a), (3, .int .i64 b), (4, fv g), (18, .int .i64 mid), (24, .int .i64 en)]) (H' := SL s T (P ++ mrg (leOf lt) (U.take p) (V.take q) ++ U.drop p ++ V.drop q ++ Q) :: H) (by repeat (first | exact SubE.nil | apply SubE.cons rfl)) (by simp only [List.append_assoc]; exact (by repeat (first | exact HSub.refl | refine HSub.pick (by repeat (first | exact Pick.head | apply Pick.tail)) ?_ | apply HSub.drop))) ⟨rfl, rfl, rfl⟩
                ·
                  try simp only [decide_eq_true_eq, decide_eq_false_iff_not, Bool.not_eq_true', Bool.not_eq_false', beq_iff_eq, bne_iff_ne, beq_eq_false_iff_ne, Int.ofNat_lt, Int.ofNat_le, Int.ofNat_inj, ne_eq, gt_iff_lt, ge_iff_le] at hb5
                  refine WC_skip ?_
                  have e1 : mrg (leOf lt) (U.take p) (V.take q) = U.take p ++ V.take q := by
                    have : V.take q = [] := nil_of (by omega)
                    rw [this, mrg_nil, List.append_nil]
                  exact KPost_i (l' := [(0, s), (1, .int .i64 a), (3, .int .i64 b), (4, fv g), (18, .int .i64 mid), (24, .int .i64 en)]) (H' := SL s T (P ++ mrg (leOf lt) (U.take p) (V.take q) ++ U.drop p ++ V.drop q ++ Q) :: H) (by repeat (first | exact SubE.nil | apply SubE.cons rfl)) (by rw [e1]; simp only [List.append_assoc]; exact (by repeat (first | exact HSub.refl | refine HSub.pick (by repeat (first | exact Pick.head | apply Pick.tail)) ?_ | apply HSub.drop))) ⟨rfl, rfl, rfl⟩
              ·
                try simp only [decide_eq_true_eq, decide_eq_false_iff_not, Bool.not_eq_true', Bool.not_eq_false', beq_iff_eq, bne_iff_ne, beq_eq_false_iff_ne, Int.ofNat_lt, Int.ofNat_le, Int.ofNat_inj, ne_eq, gt_iff_lt, ge_iff_le] at hg2
                refine WO_off rfl ?_
                refine WO_off rfl ?_
                refine WO_off rfl ?_
                refine WO_step rfl (S_pure rfl ?_)
                refine WO_nil ?_
                refine KSeq_n ?_
                refine WC_cond rfl (fun h => ?_) (fun _ => ?_)
                · exact absurd h (by decide)
                refine WC_skip ?_
                have e1 : mrg (leOf lt) (U.take p) (V.take q) = U.take p ++ V.take q := by
                  have : U.take p = [] := nil_of (by omega)
                  rw [this]; rfl
                exact KPost_i (l' := [(0, s), (1, .int .i64 a), (3, .int .i64 b), (4, fv g), (18, .int .i64 mid), (24, .int .i64 en)]) (H' := SL s T (P ++ mrg (leOf lt) (U.take p) (V.take q) ++ U.drop p ++ V.drop q ++ Q) :: H) (by repeat (first | exact SubE.nil | apply SubE.cons rfl)) (by rw [e1]; simp only [List.append_assoc]; exact (by repeat (first | exact HSub.refl | refine HSub.pick (by repeat (first | exact Pick.head | apply Pick.tail)) ?_ | apply HSub.drop))) ⟨rfl, rfl, rfl⟩
            ·
              rintro x l' H' ⟨rfl, rfl, rfl⟩
              have hml := mrg_len (leOf lt) (U.take p) (V.take q)
              have hL3 : (P ++ mrg (leOf lt) (U.take p) (V.take q) ++ U.drop p ++ V.drop q ++ Q).length ≤ 1000000 := by
                simp only [List.length_append] at hL2 ⊢; omega
              refine KSeq_n ?_
              refine WC_seq ?_
              refine WC_region ?_
              refine WO_step rfl (S_pure rfl ?_)
              refine WO_step rfl (S_pure rfl ?_)
              refine WO_step rfl (S_pure rfl ?_)
              refine WO_step rfl (S_pure rfl ?_)
              refine WO_cases (t := 209) rfl (fun hg3 => ?_) (fun hg3 => ?_)
              ·
                try simp only [decide_eq_true_eq, decide_eq_false_iff_not, Bool.not_eq_true', Bool.not_eq_false', beq_iff_eq, bne_iff_ne, beq_eq_false_iff_ne, Int.ofNat_lt, Int.ofNat_le, Int.ofNat_inj, ne_eq, gt_iff_lt, ge_iff_le] at hg3
                refine WO_step rfl (S_pure rfl ?_)
                refine WO_step rfl (S_pure rfl ?_)
                refine WO_step rfl (S_pure rfl ?_)
                refine WO_step rfl (S_pure rfl ?_)
                refine WO_nil ?_
                refine KSeq_n ?_
                refine WC_cond rfl (fun hb6 => ?_) (fun hb6 => ?_)
                ·
                  try simp only [decide_eq_true_eq, decide_eq_false_iff_not, Bool.not_eq_true', Bool.not_eq_false', beq_iff_eq, bne_iff_ne, beq_eq_false_iff_ne, Int.ofNat_lt, Int.ofNat_le, Int.ofNat_inj, ne_eq, gt_iff_lt, ge_iff_le] at hb6
                  refine WC_region ?_
                  refine WO_step rfl (S_pure rfl ?_)
                  refine WO_step rfl (S_pure rfl ?_)
                  refine WO_step rfl (S_pure rfl ?_)
                  refine WO_step rfl (S_pure rfl ?_)
                  refine WO_step rfl (S_pure rfl ?_)
                  refine WO_call rfl rfl rfl ?_
                  refine (ih (U.length - p + (V.length - q)) (by omega) (P := P ++ mrg (leOf lt) (U.take p) (V.take q)) (U := U.drop p) (V := V.drop q) (Q := Q) (by omega) rfl hL3 (by simp only [List.length_append]; omega) (by omega) (by omega) (by omega) (by omega) hU1.2.1 hV1.2.1).mono ?_
                  rintro _ _ rfl
                  refine WO_nil ?_
                  refine KFn_n ResL.nil ?_
                  refine ⟨_, (by repeat (first | exact HSub.refl | refine HSub.pick (by repeat (first | exact Pick.head | apply Pick.tail)) ?_ | apply HSub.drop)), ?_⟩
                  rw [hsplit]; simp
                ·
                  try simp only [decide_eq_true_eq, decide_eq_false_iff_not, Bool.not_eq_true', Bool.not_eq_false', beq_iff_eq, bne_iff_ne, beq_eq_false_iff_ne, Int.ofNat_lt, Int.ofNat_le, Int.ofNat_inj, ne_eq, gt_iff_lt, ge_iff_le] at hb6
                  refine WC_skip ?_
                  refine KFn_n ResL.nil ?_
                  refine ⟨_, (by repeat (first | exact HSub.refl | refine HSub.pick (by repeat (first | exact Pick.head | apply Pick.tail)) ?_ | apply HSub.drop)), ?_⟩
                  have e1 : mrg (leOf lt) (U.drop p) (V.drop q) = U.drop p ++ V.drop q := by
                    have : V.drop q = [] := nil_of (by omega)
                    rw [this, mrg_nil, List.append_nil]
                  rw [hsplit, e1]; simp
              ·
                try simp only [decide_eq_true_eq, decide_eq_false_iff_not, Bool.not_eq_true', Bool.not_eq_false', beq_iff_eq, bne_iff_ne, beq_eq_false_iff_ne, Int.ofNat_lt, Int.ofNat_le, Int.ofNat_inj, ne_eq, gt_iff_lt, ge_iff_le] at hg3
                refine WO_off rfl ?_
                refine WO_off rfl ?_
                refine WO_off rfl ?_
                refine WO_step rfl (S_pure rfl ?_)
                refine WO_nil ?_
                refine KSeq_n ?_
                refine WC_cond rfl (fun h => ?_) (fun _ => ?_)
                · exact absurd h (by decide)
                refine WC_skip ?_
                refine KFn_n ResL.nil ?_
                refine ⟨_, (by repeat (first | exact HSub.refl | refine HSub.pick (by repeat (first | exact Pick.head | apply Pick.tail)) ?_ | apply HSub.drop)), ?_⟩
                have e1 : mrg (leOf lt) (U.drop p) (V.drop q) = U.drop p ++ V.drop q := by
                  have : U.drop p = [] := nil_of (by omega)
                  rw [this]; rfl
                rw [hsplit, e1]; simp
end Go.Proofs.Ytdpiggphcohmmaa.AM
