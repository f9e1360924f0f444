/- Walks: what the functions compute. -/
import Derived.Test.YtdpiggphcohmmaaM11
import Derived.Test.YtdpiggphcohmmaaFlat
import Derived.KernelRfl
namespace Go.Proofs.Ytdpiggphcohmmaa.AM
open Go
set_option linter.unusedSimpArgs false
set_option linter.unusedVariables false
set_option maxRecDepth 4000

/-! ### The law MergeSort -/
set_option maxRecDepth 100000 in
theorem run_begun : (runF F0 noX 400 f_loesslaw23_begun [] AH.empty).map (·.1) = some (.bool true) := by kernel_rfl
theorem sp_begun {H : SH} : WF F X f_loesslaw23_begun [] H (fun r H' => H' = H ∧ r = .bool true) :=
  WF_ext fun a hH => ⟨_, a, H, groundX_intro (by decide) rfl run_begun rfl, hH, rfl, rfl⟩
theorem lp_MS1 {H : SH} {v : Value} {w : SV} {l : List Rec} {i : Nat} {x : Rec} (hv : RD H v TRec l) (hx : l[i]? = some x) (hsx : x.key.size ≤ 1000000) : ∀ (n : Nat) (W1 W2 cur : List Rec) (z : Rec), W1.length = n → cur = W1 ++ z :: W2 → Sor (leOf ltR) (W1 ++ W2) → (∀ u ∈ W2, leOf ltR u x = false) → (∀ u ∈ W1 ++ W2, u.key.size ≤ 1000000) → cur.length ≤ 1000000 →
    WC F X (.loop L_loesslaw23_MergeSort_1) [(6, .int .i64 n), (0, v), (5, .int .i64 i), (4, w.toV)] (SL w.toV TRec cur :: H)
      (KPost fun y l' H' => ∃ (A B : List Rec) (z : Rec), y = .exit 2 ∧ l' = [(6, .int .i64 A.length), (0, v), (5, .int .i64 i), (4, w.toV)] ∧ H' = SL w.toV TRec (A ++ z :: B) :: H ∧ A ++ x :: B = mrg (leOf ltR) (W1 ++ W2) [x] ∧ A.length + B.length = W1.length + W2.length) := by
  intro n
  induction n using Nat.strongRecOn with
  | _ n ih =>
    intro W1 W2 cur z hn hc hs hW hk hL
    refine WC_loop ?_
    refine WC_seq ?_
    refine WC_seq ?_
    refine WC_region ?_
    refine WO_step rfl (S_pure rfl ?_)
    refine WO_step rfl (S_pure rfl ?_)
    refine WO_step rfl (S_pure rfl ?_)
    refine WO_cases (t := 27) rfl (fun hg1 => ?_) (fun hg1 => ?_)
    ·
      try simp only [decide_eq_true_eq, decide_eq_false_iff_not, Bool.not_eq_true', Bool.not_eq_false', beq_iff_eq, bne_iff_ne, beq_eq_false_iff_ne, Int.ofNat_lt, Int.ofNat_le, Int.ofNat_inj, ne_eq, gt_iff_lt, ge_iff_le] at hg1
      obtain ⟨n, rfl⟩ : ∃ m, n = m + 1 := ⟨n - 1, by omega⟩
      obtain ⟨W1, u, rfl⟩ := snoc_of (l := W1) (by omega)
      simp only [List.length_append, List.length_singleton] at hn
      have e1 : cur = W1 ++ u :: (z :: W2) := by rw [hc]; simp
      have hu : cur[n + 1 - 1]? = some u := by rw [e1]; exact get_mid (by omega)
      have hl1 := lt_of_get hu
      have hl2 : n + 1 < cur.length := by rw [e1]; simp; omega
      have hks : u.key.size ≤ 1000000 := hk u (by simp)
      refine WO_step rfl (S_pure rfl ?_)
      refine WO_step rfl (S_pure rfl ?_)
      refine WO_step rfl (S_idx rfl rfl (by repeat (first | assumption | exact RD.head | exact RD.nil | apply RD.tail)) (by first | rfl | assumption | (symm; assumption)) (by rfl) (by first | assumption | omega | exact lt_of_get (by assumption) | (simp only [List.length_set]; first | assumption | omega | exact lt_of_get (by assumption))) fun hp30 => ?_)
      refine WO_step rfl (S_fldE rfl (by assumption) ?_)
      refine WO_step rfl (S_loadF rfl (by repeat (first | assumption | exact RD.head | exact RD.nil | apply RD.tail)) (by rfl) (by assumption) (by rfl) (by rfl) ?_)
      refine WO_step rfl (S_pure rfl ?_)
      refine WO_step rfl (S_pure rfl ?_)
      first | refine WO_step rfl (S_subN (b := 1) rfl rfl (by omega) ?_) | refine WO_step rfl (S_pure rfl ?_)
      refine WO_step rfl (S_idx rfl rfl (by repeat (first | assumption | exact RD.head | exact RD.nil | apply RD.tail)) (by first | rfl | assumption | (symm; assumption)) (by rfl) (by first | assumption | omega | exact lt_of_get (by assumption) | (simp only [List.length_set]; first | assumption | omega | exact lt_of_get (by assumption))) fun hp36 => ?_)
      refine WO_step rfl (S_fldE rfl (by assumption) ?_)
      refine WO_step rfl (S_loadF rfl (by repeat (first | assumption | exact RD.head | exact RD.nil | apply RD.tail)) (by rfl) (by assumption) (by rfl) (by rfl) ?_)
      refine WO_call rfl rfl rfl ?_
      refine (sp_RLess (by omega) (by omega)).mono ?_
      rintro _ _ ⟨rfl, rfl⟩
      refine WO_step rfl (S_pure rfl ?_)
      refine WO_nil ?_
      refine KSeq_n ?_
      refine WC_cond rfl (fun hb1 => ?_) (fun hb1 => ?_)
      ·
        try simp only [decide_eq_true_eq, decide_eq_false_iff_not, Bool.not_eq_true', Bool.not_eq_false', beq_iff_eq, bne_iff_ne, beq_eq_false_iff_ne, Int.ofNat_lt, Int.ofNat_le, Int.ofNat_inj, ne_eq, gt_iff_lt, ge_iff_le] at hb1
        refine WC_skip ?_
        refine KSeq_n ?_
        refine WC_block ?_
        refine WC_seq ?_
        refine WC_region ?_
        refine WO_step rfl (S_pure rfl ?_)
        refine WO_step rfl (S_pure rfl ?_)
        refine WO_step rfl (S_pure rfl ?_)
        refine WO_step rfl (S_pure rfl ?_)
        first | refine WO_step rfl (S_subN (b := 1) rfl rfl (by omega) ?_) | refine WO_step rfl (S_pure rfl ?_)
        refine WO_step rfl (S_idx rfl rfl (by repeat (first | assumption | exact RD.head | exact RD.nil | apply RD.tail)) (by first | rfl | assumption | (symm; assumption)) (by rfl) (by first | assumption | omega | exact lt_of_get (by assumption) | (simp only [List.length_set]; first | assumption | omega | exact lt_of_get (by assumption))) fun hp46 => ?_)
        refine WO_step rfl (S_loadE rfl (by repeat (first | assumption | exact RD.head | exact RD.nil | apply RD.tail)) (by first | rfl | assumption | (symm; assumption)) (by first | rfl | assumption | (symm; assumption)) (by first | rfl | assumption | (symm; assumption)) (by assumption) ?_)
        refine WO_step rfl (S_idx rfl rfl (by repeat (first | assumption | exact RD.head | exact RD.nil | apply RD.tail)) (by first | rfl | assumption | (symm; assumption)) (by rfl) (by first | assumption | omega | exact lt_of_get (by assumption) | (simp only [List.length_set]; first | assumption | omega | exact lt_of_get (by assumption))) fun hp48 => ?_)
        refine WO_step rfl (S_storeW rfl rfl (by repeat (first | exact Pick.head | apply Pick.tail)) (by first | rfl | assumption | (symm; assumption)) (by rfl) (by first | rfl | assumption | (symm; assumption)) (by first | assumption | omega | exact lt_of_get (by assumption) | (simp only [List.length_set]; first | assumption | omega | exact lt_of_get (by assumption))) ?_)
        refine WO_nil ?_
        refine KSeq_n ?_
        refine WC_region ?_
        refine WO_step rfl (S_pure rfl ?_)
        first | refine WO_step rfl (S_subN (b := 1) rfl rfl (by omega) ?_) | refine WO_step rfl (S_pure rfl ?_)
        refine WO_step rfl (S_pure rfl ?_)
        refine WO_nil ?_
        refine KBlock_n ?_
        refine KLoop_n ?_
        have hlt : leOf ltR u x = false := by simp [leOf, ltR, hb1]
        have e3 : cur.set (n + 1) u = W1 ++ u :: (u :: W2) := by
          rw [show cur = (W1 ++ [u]) ++ z :: W2 by rw [hc], set_at (by simp; omega)]; simp
        have := ih n (by omega) W1 (u :: W2) _ u (by omega) e3 (by simpa using hs) (by intro q hq; rcases List.mem_cons.1 hq with rfl | hq; exact hlt; exact hW q hq) (by intro q hq; exact hk q (by simpa using hq)) (by simpa using hL)
        simp only [List.append_assoc, List.singleton_append, List.length_append, List.length_cons, List.length_nil] at this ⊢
        rw [show W1.length + (W2.length + 1) = W1.length + (0 + 1) + W2.length by omega] at this
        exact WC_weak this (by repeat (first | exact SubE.nil | apply SubE.cons rfl)) (by repeat (first | exact HSub.refl | refine HSub.pick (by repeat (first | exact Pick.head | apply Pick.tail)) ?_ | apply HSub.drop))
      ·
        try simp only [decide_eq_true_eq, decide_eq_false_iff_not, Bool.not_eq_true', Bool.not_eq_false', beq_iff_eq, bne_iff_ne, beq_eq_false_iff_ne, Int.ofNat_lt, Int.ofNat_le, Int.ofNat_inj, ne_eq, gt_iff_lt, ge_iff_le] at hb1
        refine WC_exit ?_
        refine KSeq_x ?_
        refine KLoop_x ?_
        have hle : leOf ltR u x = true := by simp [leOf, ltR, hb1]
        have h1 : ∀ q ∈ W1 ++ [u], leOf ltR q x = true := by
          intro q hq
          rcases List.mem_append.1 hq with hq | hq
          · exact O_R.trans _ _ _ (((Sor.app _).1 ((Sor.app _).1 hs).1).2.2 q hq u (by simp)) hle
          · simp at hq; subst hq; exact hle
        exact KPost_i (l' := [(6, .int .i64 ((W1 ++ [u]).length : Nat)), (0, v), (5, .int .i64 i), (4, w.toV)]) (H' := SL w.toV TRec ((W1 ++ [u]) ++ z :: W2) :: H) (by repeat (first | exact SubE.nil | apply SubE.cons rfl | (apply SubE.consEq rfl; congr 2; simp; omega))) (by rw [← hc]; exact (by repeat (first | exact HSub.refl | refine HSub.pick (by repeat (first | exact Pick.head | apply Pick.tail)) ?_ | apply HSub.drop))) ⟨W1 ++ [u], W2, z, rfl, rfl, rfl, (mrg_left _ O_R _ _ _ h1 hW).symm, rfl⟩
    ·
      try simp only [decide_eq_true_eq, decide_eq_false_iff_not, Bool.not_eq_true', Bool.not_eq_false', beq_iff_eq, bne_iff_ne, beq_eq_false_iff_ne, Int.ofNat_lt, Int.ofNat_le, Int.ofNat_inj, ne_eq, gt_iff_lt, ge_iff_le] at hg1
      refine WO_off rfl ?_
      refine WO_off rfl ?_
      refine WO_off rfl ?_
      refine WO_off rfl ?_
      refine WO_off rfl ?_
      refine WO_off rfl ?_
      refine WO_off rfl ?_
      refine WO_off rfl ?_
      refine WO_off rfl ?_
      refine WO_off rfl ?_
      refine WO_off rfl ?_
      refine WO_off rfl ?_
      refine WO_step rfl (S_pure rfl ?_)
      refine WO_nil ?_
      refine KSeq_n ?_
      refine WC_cond rfl (fun h => ?_) (fun _ => ?_)
      · exact absurd h (by decide)
      refine WC_exit ?_
      refine KSeq_x ?_
      refine KLoop_x ?_
      obtain rfl := nil_of (l := W1) (by omega)
      exact KPost_i (l' := [(6, .int .i64 (([] : List Rec).length : Nat)), (0, v), (5, .int .i64 i), (4, w.toV)]) (H' := SL w.toV TRec ([] ++ z :: W2) :: H) (by repeat (first | exact SubE.nil | apply SubE.cons rfl | (apply SubE.consEq rfl; congr 2; simp; omega))) (by rw [← hc]; exact (by repeat (first | exact HSub.refl | refine HSub.pick (by repeat (first | exact Pick.head | apply Pick.tail)) ?_ | apply HSub.drop))) ⟨[], W2, z, rfl, rfl, rfl, (mrg_left _ O_R [] _ _ (fun u hu => by simp at hu) hW).symm, rfl⟩
theorem lp_MS0 {H : SH} {v : Value} {l : List Rec} (hv : RD H v TRec l) (hl : l.length ≤ 1000) (hk : ∀ u ∈ l, u.key.size ≤ 1000000) : ∀ (n i : Nat) (w : SV), l.length - i = n → i ≤ l.length →
    WC F X (.loop L_loesslaw23_MergeSort_0) [(5, .int .i64 i), (0, v), (4, w.toV)] (SL w.toV TRec (isort (leOf ltR) (l.take i)) :: H)
      (KPost fun y l' H' => ∃ w : SV, y = .exit 0 ∧ l' = [(0, v), (4, w.toV)] ∧ H' = SL w.toV TRec (isort (leOf ltR) l) :: H) := by
  intro n
  induction n using Nat.strongRecOn with
  | _ n ih =>
    intro i w hn hi
    have hil := isort_len (leOf ltR) (l.take i)
    rw [List.length_take] at hil
    refine WC_loop ?_
    refine WC_seq ?_
    refine WC_seq ?_
    refine WC_region ?_
    refine WO_step rfl (S_pure rfl ?_)
    refine WO_step rfl (S_pure rfl ?_)
    first | refine WO_step rfl (S_pure rfl ?_) | refine WO_step rfl (S_lenS rfl (by repeat (first | assumption | exact RD.head | exact RD.nil | apply RD.tail)) ?_)
    refine WO_step rfl (S_pure rfl ?_)
    refine WO_nil ?_
    refine KSeq_n ?_
    refine WC_cond rfl (fun hb1 => ?_) (fun hb1 => ?_)
    ·
      try simp only [decide_eq_true_eq, decide_eq_false_iff_not, Bool.not_eq_true', Bool.not_eq_false', beq_iff_eq, bne_iff_ne, beq_eq_false_iff_ne, Int.ofNat_lt, Int.ofNat_le, Int.ofNat_inj, ne_eq, gt_iff_lt, ge_iff_le] at hb1
      obtain ⟨x, hx⟩ := get_of_lt hb1
      have hkx := hk x (List.mem_of_getElem? hx)
      refine WC_skip ?_
      refine KSeq_n ?_
      refine WC_seq ?_
      refine WC_block ?_
      refine WC_seq ?_
      refine WC_region ?_
      refine WO_step rfl (S_pure rfl ?_)
      first | refine WO_step rfl (S_pure rfl ?_) | refine WO_step rfl (S_lenS rfl (by repeat (first | assumption | exact RD.head | exact RD.nil | apply RD.tail)) ?_)
      refine WO_step rfl (S_pure rfl ?_)
      refine WO_nil ?_
      refine KSeq_n ?_
      refine WC_seq ?_
      refine WC_region ?_
      refine WO_step rfl (S_pure rfl ?_)
      refine WO_step rfl (S_pure rfl ?_)
      refine WO_step rfl (S_lit1 (T := TRec) (y := rec0) rfl rfl rfl rfl fun w23 => ?_)
      refine WO_step rfl (S_app rfl rfl (by repeat (first | exact Pick.head | apply Pick.tail)) (by first | exact SRC.str rfl rfl | (apply RD.src; repeat (first | assumption | exact RD.head | exact RD.nil | apply RD.tail))) (by rfl) (by rfl) (by (try simp only [List.length_append, List.length_cons, List.length_nil]); omega) fun w24 => ?_)
      refine WO_step rfl (S_pure rfl ?_)
      refine WO_nil ?_
      refine KSeq_n ?_
      refine WC_seq ?_
      refine WC_block ?_
      have hmem : ∀ u ∈ isort (leOf ltR) (l.take i) ++ [], u.key.size ≤ 1000000 := fun u hu => by
        rw [List.append_nil] at hu
        exact hk u (List.mem_of_mem_take ((isort_perm _ _).mem_iff.1 hu))
      refine WC_post (WC_weak (lp_MS1 (w := w24) hv hx hkx (isort (leOf ltR) (l.take i)).length (isort (leOf ltR) (l.take i)) [] _ rec0 rfl rfl (by rw [List.append_nil]; exact isort_sor _ O_R _) (by simp) hmem (by simp; omega)) (by repeat (first | exact SubE.nil | apply SubE.cons rfl)) (by repeat (first | exact HSub.refl | refine HSub.pick (by repeat (first | exact Pick.head | apply Pick.tail)) ?_ | apply HSub.drop))) ?_
      rintro y l' H' ⟨A, B, z, rfl, rfl, rfl, h1, h2⟩
      rw [List.append_nil] at h1
      have htk : isort (leOf ltR) (l.take (i + 1)) = A ++ x :: B := by
        rw [List.take_add_one, hx, h1]; exact isort_app _ O_R _ _
      have hset : (A ++ z :: B).set A.length x = A ++ x :: B := set_at rfl
      have hlA : A.length < (A ++ z :: B).length := by simp
      refine KBlock_h ?_
      refine KSeq_n ?_
      refine WC_region ?_
      refine WO_step rfl (S_pure rfl ?_)
      refine WO_step rfl (S_pure rfl ?_)
      refine WO_step rfl (S_pure rfl ?_)
      refine WO_step rfl (S_pure rfl ?_)
      refine WO_step rfl (S_idx rfl rfl (by repeat (first | assumption | exact RD.head | exact RD.nil | apply RD.tail)) (by first | rfl | assumption | (symm; assumption)) (by rfl) (by first | assumption | omega | exact lt_of_get (by assumption) | (simp only [List.length_set]; first | assumption | omega | exact lt_of_get (by assumption))) fun hp55 => ?_)
      refine WO_step rfl (S_loadE rfl (by repeat (first | assumption | exact RD.head | exact RD.nil | apply RD.tail)) (by first | rfl | assumption | (symm; assumption)) (by first | rfl | assumption | (symm; assumption)) (by first | rfl | assumption | (symm; assumption)) (by assumption) ?_)
      refine WO_step rfl (S_idx rfl rfl (by repeat (first | assumption | exact RD.head | exact RD.nil | apply RD.tail)) (by first | rfl | assumption | (symm; assumption)) (by rfl) (by first | assumption | omega | exact lt_of_get (by assumption) | (simp only [List.length_set]; first | assumption | omega | exact lt_of_get (by assumption))) fun hp57 => ?_)
      refine WO_step rfl (S_storeW rfl rfl (by repeat (first | exact Pick.head | apply Pick.tail)) (by first | rfl | assumption | (symm; assumption)) (by rfl) (by first | rfl | assumption | (symm; assumption)) (by first | assumption | omega | exact lt_of_get (by assumption) | (simp only [List.length_set]; first | assumption | omega | exact lt_of_get (by assumption))) ?_)
      refine WO_nil ?_
      refine KBlock_n ?_
      refine KSeq_n ?_
      refine WC_region ?_
      refine WO_step rfl (S_pure rfl ?_)
      first | refine WO_step rfl (S_addN (b := 1) rfl rfl (by omega) ?_) | refine WO_step rfl (S_pure rfl ?_)
      refine WO_step rfl (S_pure rfl ?_)
      refine WO_nil ?_
      refine KLoop_n ?_
      have := ih (l.length - (i + 1)) (by omega) (i + 1) w24 rfl (by omega)
      rw [htk] at this
      rw [hset]
      exact WC_weak this (by repeat (first | exact SubE.nil | apply SubE.cons rfl)) (by repeat (first | exact HSub.refl | refine HSub.pick (by repeat (first | exact Pick.head | apply Pick.tail)) ?_ | apply HSub.drop))
    ·
      try simp only [decide_eq_true_eq, decide_eq_false_iff_not, Bool.not_eq_true', Bool.not_eq_false', beq_iff_eq, bne_iff_ne, beq_eq_false_iff_ne, Int.ofNat_lt, Int.ofNat_le, Int.ofNat_inj, ne_eq, gt_iff_lt, ge_iff_le] at hb1
      refine WC_exit ?_
      refine KSeq_x ?_
      refine KLoop_x ?_
      have e : i = l.length := by omega
      refine KPost_i (l' := [(0, v), (4, w.toV)]) (H' := SL w.toV TRec (isort (leOf ltR) l) :: H) (by repeat (first | exact SubE.nil | apply SubE.cons rfl)) ?_ ⟨w, rfl, rfl, rfl⟩
      rw [e, List.take_length]; exact (by repeat (first | exact HSub.refl | refine HSub.pick (by repeat (first | exact Pick.head | apply Pick.tail)) ?_ | apply HSub.drop))
theorem walk_MergeSort {H : SH} {v : Value} {l : List Rec} (hv : RD H v TRec l) (hok : ∀ x ∈ l, okRec x) : WF F X f_loesslaw23_MergeSort [v] H (fun r _ => r = .bool true) := by
  have hl : ((l.take 30).map cutRec).length ≤ 30 := by simp; omega
  have hsh : short ((l.take 30).map cutRec) := by
    intro x hx
    obtain ⟨y, _, rfl⟩ := List.mem_map.1 hx
    exact cut_size _ _
  generalize hL : (l.take 30).map cutRec = L at *
  refine WF_fn F_loesslaw23_MergeSort ?_
  refine WC_seq ?_
  refine WC_region ?_
  refine WO_step rfl (S_pure rfl ?_)
  refine WO_nil ?_
  refine KSeq_n ?_
  refine WC_seq ?_
  refine WC_region ?_
  refine WO_call rfl rfl rfl ?_
  refine sp_begun.mono ?_
  rintro _ _ ⟨rfl, rfl⟩
  refine WO_step rfl (S_pure rfl ?_)
  refine WO_nil ?_
  refine KSeq_n ?_
  refine WC_seq ?_
  refine WC_seq ?_
  refine WC_region ?_
  refine WO_step rfl (S_pure rfl ?_)
  refine WO_step rfl (S_pure rfl ?_)
  refine WO_nil ?_
  refine KSeq_n ?_
  refine WC_cond rfl (fun hb1 => ?_) (fun hb1 => ?_)
  ·
    try simp only [decide_eq_true_eq, decide_eq_false_iff_not, Bool.not_eq_true', Bool.not_eq_false', beq_iff_eq, bne_iff_ne, beq_eq_false_iff_ne, Int.ofNat_lt, Int.ofNat_le, Int.ofNat_inj, ne_eq, gt_iff_lt, ge_iff_le] at hb1
    exact absurd hb1 (by decide)
    --stop
  ·
    try simp only [decide_eq_true_eq, decide_eq_false_iff_not, Bool.not_eq_true', Bool.not_eq_false', beq_iff_eq, bne_iff_ne, beq_eq_false_iff_ne, Int.ofNat_lt, Int.ofNat_le, Int.ofNat_inj, ne_eq, gt_iff_lt, ge_iff_le] at hb1
    refine WC_skip ?_
    refine KSeq_n ?_
    refine WC_seq ?_
    refine WC_region ?_
    refine WO_step rfl (S_pure rfl ?_)
    refine WO_call rfl rfl rfl ?_
    refine (sp_Recs (m := 30) hv (by omega)).mono ?_
    rw [hL]
    rintro _ _ ⟨wL, rfl, rfl⟩
    refine WO_step rfl (S_pure rfl ?_)
    refine WO_nil ?_
    refine KSeq_n ?_
    refine WC_seq ?_
    refine WC_region ?_
    refine WO_step rfl (S_pure rfl ?_)
    refine WO_nil ?_
    refine KSeq_n ?_
    refine WC_seq ?_
    refine WC_seq ?_
    refine WC_region ?_
    refine WO_step rfl (S_pure rfl ?_)
    refine WO_nil ?_
    refine KSeq_n ?_
    refine WC_block ?_
    refine WC_view (H' := SL (SV.toV .nil) TRec [] :: SL wL.toV TRec L :: _) (fun h hh => (HAg.addNil hh)) ?_
    refine WC_post (WC_weak (lp_MS0 (H := SL wL.toV TRec L :: _) (l := L) RD.head (by omega) (fun u hu => by have := hsh u hu; omega) L.length 0 .nil (by omega) (by omega)) (by repeat (first | exact SubE.nil | apply SubE.cons rfl)) (by repeat (first | exact HSub.refl | refine HSub.pick (by repeat (first | exact Pick.head | apply Pick.tail)) ?_ | apply HSub.drop))) ?_
    rintro y l' H' ⟨w, rfl, rfl, rfl⟩
    have hil := isort_len (leOf ltR) L
    refine KBlock_h ?_
    refine KSeq_n ?_
    refine WC_seq ?_
    refine WC_region ?_
    refine WO_step rfl (S_pure rfl ?_)
    refine WO_step rfl (S_appN rfl rfl (by first | exact SRC.str rfl rfl | (apply RD.src; repeat (first | assumption | exact RD.head | exact RD.nil | apply RD.tail))) (by rfl) (by rfl) (by (try simp only [List.length_append, List.length_cons, List.length_nil]); omega) fun w59 => ?_)
    refine WO_step rfl (S_pure rfl ?_)
    refine WO_nil ?_
    refine KSeq_n ?_
    refine WC_seq ?_
    refine WC_region ?_
    refine WO_step rfl (S_pure rfl ?_)
    refine WO_call rfl rfl rfl ?_
    refine (sp_Sort (by repeat (first | assumption | exact RD.head | exact RD.nil | apply RD.tail)) (by omega) (by assumption)).mono ?_
    rintro _ _ ⟨wS, rfl, rfl⟩
    refine WO_step rfl (S_pure rfl ?_)
    refine WO_call rfl rfl rfl ?_
    refine (sp_EqRecs (by repeat (first | assumption | exact RD.head | exact RD.nil | apply RD.tail)) (by repeat (first | assumption | exact RD.head | exact RD.nil | apply RD.tail)) (by omega)).mono ?_
    rintro _ _ ⟨rfl, rfl⟩
    refine WO_step rfl (S_pure rfl ?_)
    refine WO_cases (t := 64) rfl (fun hg1 => ?_) (fun hg1 => ?_)
    ·
      try simp only [decide_eq_true_eq, decide_eq_false_iff_not, Bool.not_eq_true', Bool.not_eq_false', beq_iff_eq, bne_iff_ne, beq_eq_false_iff_ne, Int.ofNat_lt, Int.ofNat_le, Int.ofNat_inj, ne_eq, gt_iff_lt, ge_iff_le] at hg1
      refine WO_step rfl (S_pure rfl ?_)
      refine WO_step rfl (S_pure rfl ?_)
      refine WO_call rfl rfl rfl ?_
      refine (sp_EqRecs (by repeat (first | assumption | exact RD.head | exact RD.nil | apply RD.tail)) (by repeat (first | assumption | exact RD.head | exact RD.nil | apply RD.tail)) (by omega)).mono ?_
      rintro _ _ ⟨rfl, rfl⟩
      refine WO_step rfl (S_pure rfl ?_)
      refine WO_step rfl (S_pure rfl ?_)
      refine WO_nil ?_
      refine KSeq_n ?_
      refine WC_ret ?_
      refine KFn_r (ResL.tmp rfl ResL.nil) ?_
      refine ⟨_, HSub.refl, ?_⟩
      simp [resV]
    ·
      try simp only [decide_eq_true_eq, decide_eq_false_iff_not, Bool.not_eq_true', Bool.not_eq_false', beq_iff_eq, bne_iff_ne, beq_eq_false_iff_ne, Int.ofNat_lt, Int.ofNat_le, Int.ofNat_inj, ne_eq, gt_iff_lt, ge_iff_le] at hg1
      refine WO_off rfl ?_
      refine WO_off rfl ?_
      refine WO_off rfl ?_
      refine WO_step rfl (S_pure rfl ?_)
      refine WO_step rfl (S_pure rfl ?_)
      refine WO_nil ?_
      refine KSeq_n ?_
      refine WC_ret ?_
      refine KFn_r (ResL.tmp rfl ResL.nil) ?_
      refine ⟨_, HSub.refl, ?_⟩
      simp at hg1
end Go.Proofs.Ytdpiggphcohmmaa.AM
