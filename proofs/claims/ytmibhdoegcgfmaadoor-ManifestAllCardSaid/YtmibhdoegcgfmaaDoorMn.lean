/- Walks: what the functions compute. -/
import Derived.Test.YtmibhdoegcgfmaaDoorMd
namespace Go.Proofs.YtmibhdoegcgfmaaDoor.AM
open Go
set_option linter.unusedSimpArgs false
set_option linter.unusedVariables false
set_option maxRecDepth 4000

/-! ### Names as the document has them -/
def names0 (f s : Int) : List ByteArray := names1 f ++ (if s = 0 then [] else [nmS 115 s.toNat])
def namesR (f s : Int) (xs : List Int) : List ByteArray := names0 f s ++ xs.map fun x => nmS 104 x.toNat
theorem namesR_perm (f s : Int) (xs : List Int) : (namesR f s xs).Perm (names3 f s xs) := by
  unfold namesR names0 names3 names2
  rw [List.append_assoc, List.append_assoc]
  exact List.Perm.append_left _ List.perm_append_comm
theorem lp_nms0 {H : SH} {xs : List Int} {i1 : Nat} {A : List ByteArray} {n f s : Int} {hh : SV} (hv : RD H hh.toV TI64 xs) (hok : ∀ x ∈ xs, okN x) (hL : A.length + xs.length ≤ 20) : ∀ (m i : Nat) (w : SV), xs.length - i = m → i ≤ xs.length →
    WC F X (.loop L_loesslaw24_names_0) [(4, .int .i64 (i : Int)), (1, .pointer (some ⟨i1, 0, none⟩)), (3, w.toV)] (SL w.toV TS (A ++ (xs.take i).map fun x => nmS 104 x.toNat) :: MO i1 24 n f s hh :: H)
      (KPost fun x l' H' => ∃ w : SV, x = .exit 0 ∧ l' = [(3, w.toV)] ∧ H' = SL w.toV TS (A ++ xs.map fun x => nmS 104 x.toNat) :: H) := by
  intro m
  induction m using Nat.strongRecOn with
  | _ m ih =>
    intro i w hm hi
    refine WC_loop ?_
    refine WC_seq ?_
    refine WC_seq ?_
    refine WC_region ?_
    refine WO_step rfl (S_pure rfl ?_)
    refine WO_step rfl (S_pure rfl ?_)
    refine WO_step rfl (S_loadO rfl (by repeat (first | exact Pick.head | apply Pick.tail)) (by rfl) (by rfl) ?_)
    first | refine WO_step rfl (S_pure rfl ?_) | refine WO_step rfl (S_lenS rfl (by repeat (first | assumption | exact RD.head | exact RD.nil | apply RD.tail)) ?_)
    refine WO_step rfl (S_pure rfl ?_)
    refine WO_nil ?_
    refine KSeq_n ?_
    refine WC_cond rfl (fun hb1 => ?_) (fun hb1 => ?_)
    ·
      try simp only [decide_eq_true_eq, decide_eq_false_iff_not, Bool.not_eq_true', Bool.not_eq_false', beq_iff_eq, bne_iff_ne, beq_eq_false_iff_ne, Int.ofNat_lt, Int.ofNat_le, Int.ofNat_inj, ne_eq, gt_iff_lt, ge_iff_le] at hb1
      obtain ⟨x, hx⟩ := get_of_lt hb1
      obtain ⟨e1, e2⟩ := (hok x (List.mem_of_getElem? hx)).nat
      have htl : (xs.take i).length ≤ xs.length := by simp; omega
      refine WC_skip ?_
      refine KSeq_n ?_
      refine WC_seq ?_
      refine WC_block ?_
      refine WC_region ?_
      refine WO_step rfl (S_pure rfl ?_)
      refine WO_step rfl (S_pure rfl ?_)
      refine WO_step rfl (S_loadO rfl (by repeat (first | exact Pick.head | apply Pick.tail)) (by rfl) (by rfl) ?_)
      refine WO_step rfl (S_pure rfl ?_)
      refine WO_step rfl (S_idx rfl rfl (by repeat (first | assumption | exact RD.head | exact RD.nil | apply RD.tail)) (by first | rfl | assumption | (symm; assumption)) (by rfl) (by first | assumption | omega | exact lt_of_get (by assumption) | (simp only [List.length_set]; first | assumption | omega | exact lt_of_get (by assumption))) fun hp37 => ?_)
      refine WO_step rfl (S_loadE rfl (by repeat (first | assumption | exact RD.head | exact RD.nil | apply RD.tail)) (by first | rfl | assumption | (symm; assumption)) (by first | rfl | assumption | (symm; assumption)) (by first | rfl | assumption | (symm; assumption)) (by assumption) ?_)
      refine WO_call rfl rfl rfl ?_
      rw [show TI64.val x = Value.int .i64 ((x.toNat : Nat) : Int) by rw [e1]; rfl]
      refine (sp_name (k := 104) (n := x.toNat) (by omega) e2).mono ?_
      rintro _ _ ⟨rfl, rfl⟩
      refine WO_step rfl (S_lit1 (T := TS) (y := nmS 104 x.toNat) rfl rfl rfl rfl fun w40 => ?_)
      refine WO_step rfl (S_app rfl rfl (by repeat (first | exact Pick.head | apply Pick.tail)) (by first | exact SRC.str rfl rfl | (apply RD.src; repeat (first | assumption | exact RD.head | exact RD.nil | apply RD.tail))) (by rfl) (by rfl) (by simp only [List.length_append, List.length_map, List.length_cons, List.length_nil]; omega) fun w41 => ?_)
      refine WO_step rfl (S_pure rfl ?_)
      refine WO_nil ?_
      refine KBlock_n ?_
      refine KSeq_n ?_
      refine WC_region ?_
      refine WO_step rfl (S_pure rfl ?_)
      first | refine WO_step rfl (S_addN (b := 1) rfl rfl (by omega) ?_) | refine WO_step rfl (S_pure rfl ?_)
      refine WO_step rfl (S_pure rfl ?_)
      refine WO_nil ?_
      refine KLoop_n ?_
      have e : A ++ (xs.take i).map (fun x => nmS 104 x.toNat) ++ [nmS 104 x.toNat] = A ++ (xs.take (i + 1)).map fun x => nmS 104 x.toNat := by
        rw [List.take_add_one, hx]; simp
      rw [e]
      exact WC_weak (ih (xs.length - (i + 1)) (by omega) (i + 1) w41 rfl (by omega)) (by repeat (first | exact SubE.nil | apply SubE.cons rfl)) (by repeat (first | exact HSub.refl | refine HSub.pick (by repeat (first | exact Pick.head | apply Pick.tail)) ?_ | apply HSub.drop))
    ·
      try simp only [decide_eq_true_eq, decide_eq_false_iff_not, Bool.not_eq_true', Bool.not_eq_false', beq_iff_eq, bne_iff_ne, beq_eq_false_iff_ne, Int.ofNat_lt, Int.ofNat_le, Int.ofNat_inj, ne_eq, gt_iff_lt, ge_iff_le] at hb1
      refine WC_exit ?_
      refine KSeq_x ?_
      refine KLoop_x ?_
      have ei : i = xs.length := by omega
      subst ei
      rw [List.take_length]
      exact KPost_i (by repeat (first | exact SubE.nil | apply SubE.cons rfl)) (by repeat (first | exact HSub.refl | refine HSub.pick (by repeat (first | exact Pick.head | apply Pick.tail)) ?_ | apply HSub.drop)) ⟨w, rfl, rfl, rfl⟩
theorem lp_nms2 {H : SH} {w : SV} {x : ByteArray} {Q : List ByteArray} (v5 : Value) : ∀ (n : Nat) (A B : List ByteArray), A.length = n → A.length + B.length + Q.length + 1 ≤ 1000 → SSor (A ++ B) → (∀ y ∈ B, sle x y) →
    WC F X (.loop L_loesslaw24_names_2) [(6, .int .i64 (A.length : Int)), (3, w.toV), (5, v5)] (SL w.toV TS (A ++ x :: B ++ Q) :: H)
      (KPost fun y l' H' => ∃ A' B', y = .exit 4 ∧ l' = [(3, w.toV), (5, v5)] ∧ H' = SL w.toV TS (A' ++ x :: B' ++ Q) :: H ∧ A' ++ B' = A ++ B ∧ SSor (A' ++ x :: B')) := by
  intro n
  induction n using Nat.strongRecOn with
  | _ n ih =>
    intro A B hn hl hs hB
    refine WC_loop ?_
    refine WC_seq ?_
    refine WC_seq ?_
    refine WC_region ?_
    refine WO_step rfl (S_pure rfl ?_)
    refine WO_step rfl (S_pure rfl ?_)
    refine WO_step rfl (S_pure rfl ?_)
    refine WO_cases (t := 51) rfl (fun hg1 => ?_) (fun hg1 => ?_)
    ·
      try simp only [decide_eq_true_eq, decide_eq_false_iff_not, Bool.not_eq_true', Bool.not_eq_false', beq_iff_eq, bne_iff_ne, beq_eq_false_iff_ne, Int.ofNat_lt, Int.ofNat_le, Int.ofNat_inj, ne_eq, gt_iff_lt, ge_iff_le] at hg1
      obtain ⟨A, y, rfl⟩ := snoc_of_pos (A := A) (by omega)
      simp only [List.length_append, List.length_cons, List.length_nil] at *
      have hx : (A ++ [y] ++ x :: B ++ Q)[A.length + (0 + 1)]? = some x := by simp
      have hy : (A ++ [y] ++ x :: B ++ Q)[A.length + (0 + 1) - 1]? = some y := by simp
      refine WO_step rfl (S_pure rfl ?_)
      refine WO_step rfl (S_pure rfl ?_)
      refine WO_step rfl (S_idx rfl rfl (by repeat (first | assumption | exact RD.head | exact RD.nil | apply RD.tail)) (by first | rfl | assumption | (symm; assumption)) (by rfl) (by first | assumption | omega | exact lt_of_get (by assumption) | (simp only [List.length_set]; first | assumption | omega | exact lt_of_get (by assumption))) fun hp54 => ?_)
      refine WO_step rfl (S_loadE rfl (by repeat (first | assumption | exact RD.head | exact RD.nil | apply RD.tail)) (by first | rfl | assumption | (symm; assumption)) (by first | rfl | assumption | (symm; assumption)) (by first | rfl | assumption | (symm; assumption)) (by assumption) ?_)
      refine WO_step rfl (S_pure rfl ?_)
      refine WO_step rfl (S_pure rfl ?_)
      first | refine WO_step rfl (S_subN (b := 1) rfl rfl (by omega) ?_) | refine WO_step rfl (S_pure rfl ?_)
      refine WO_step rfl (S_idx rfl rfl (by repeat (first | assumption | exact RD.head | exact RD.nil | apply RD.tail)) (by first | rfl | assumption | (symm; assumption)) (by rfl) (by first | assumption | omega | exact lt_of_get (by assumption) | (simp only [List.length_set]; first | assumption | omega | exact lt_of_get (by assumption))) fun hp59 => ?_)
      refine WO_step rfl (S_loadE rfl (by repeat (first | assumption | exact RD.head | exact RD.nil | apply RD.tail)) (by first | rfl | assumption | (symm; assumption)) (by first | rfl | assumption | (symm; assumption)) (by first | rfl | assumption | (symm; assumption)) (by assumption) ?_)
      refine WO_step rfl (S_pure rfl ?_)
      refine WO_step rfl (S_pure rfl ?_)
      refine WO_nil ?_
      refine KSeq_n ?_
      refine WC_cond rfl (fun hb1 => ?_) (fun hb1 => ?_)
      ·
        try simp only [decide_eq_true_eq, decide_eq_false_iff_not, Bool.not_eq_true', Bool.not_eq_false', beq_iff_eq, bne_iff_ne, beq_eq_false_iff_ne, Int.ofNat_lt, Int.ofNat_le, Int.ofNat_inj, ne_eq, gt_iff_lt, ge_iff_le] at hb1
        refine WC_skip ?_
        refine KSeq_n ?_
        refine WC_seq ?_
        refine WC_block ?_
        refine WC_region ?_
        refine WO_step rfl (S_pure rfl ?_)
        refine WO_step rfl (S_pure rfl ?_)
        refine WO_step rfl (S_pure rfl ?_)
        refine WO_step rfl (S_pure rfl ?_)
        first | refine WO_step rfl (S_subN (b := 1) rfl rfl (by omega) ?_) | refine WO_step rfl (S_pure rfl ?_)
        refine WO_step rfl (S_pure rfl ?_)
        refine WO_step rfl (S_pure rfl ?_)
        first | refine WO_step rfl (S_subN (b := 1) rfl rfl (by omega) ?_) | refine WO_step rfl (S_pure rfl ?_)
        refine WO_step rfl (S_idx rfl rfl (by repeat (first | assumption | exact RD.head | exact RD.nil | apply RD.tail)) (by first | rfl | assumption | (symm; assumption)) (by rfl) (by first | assumption | omega | exact lt_of_get (by assumption) | (simp only [List.length_set]; first | assumption | omega | exact lt_of_get (by assumption))) fun hp73 => ?_)
        refine WO_step rfl (S_loadE rfl (by repeat (first | assumption | exact RD.head | exact RD.nil | apply RD.tail)) (by first | rfl | assumption | (symm; assumption)) (by first | rfl | assumption | (symm; assumption)) (by first | rfl | assumption | (symm; assumption)) (by assumption) ?_)
        refine WO_step rfl (S_pure rfl ?_)
        refine WO_step rfl (S_pure rfl ?_)
        refine WO_step rfl (S_idx rfl rfl (by repeat (first | assumption | exact RD.head | exact RD.nil | apply RD.tail)) (by first | rfl | assumption | (symm; assumption)) (by rfl) (by first | assumption | omega | exact lt_of_get (by assumption) | (simp only [List.length_set]; first | assumption | omega | exact lt_of_get (by assumption))) fun hp77 => ?_)
        refine WO_step rfl (S_loadE rfl (by repeat (first | assumption | exact RD.head | exact RD.nil | apply RD.tail)) (by first | rfl | assumption | (symm; assumption)) (by first | rfl | assumption | (symm; assumption)) (by first | rfl | assumption | (symm; assumption)) (by assumption) ?_)
        refine WO_step rfl (S_idx rfl rfl (by repeat (first | assumption | exact RD.head | exact RD.nil | apply RD.tail)) (by first | rfl | assumption | (symm; assumption)) (by rfl) (by first | assumption | omega | exact lt_of_get (by assumption) | (simp only [List.length_set]; first | assumption | omega | exact lt_of_get (by assumption))) fun hp79 => ?_)
        refine WO_step rfl (S_storeW rfl rfl (by repeat (first | exact Pick.head | apply Pick.tail)) (by first | rfl | assumption | (symm; assumption)) (by rfl) (by first | rfl | assumption | (symm; assumption)) (by first | assumption | omega | exact lt_of_get (by assumption) | (simp only [List.length_set]; first | assumption | omega | exact lt_of_get (by assumption))) ?_)
        refine WO_step rfl (S_idx rfl rfl (by repeat (first | assumption | exact RD.head | exact RD.nil | apply RD.tail)) (by first | rfl | assumption | (symm; assumption)) (by rfl) (by first | assumption | omega | exact lt_of_get (by assumption) | (simp only [List.length_set]; first | assumption | omega | exact lt_of_get (by assumption))) fun hp80 => ?_)
        refine WO_step rfl (S_storeW rfl rfl (by repeat (first | exact Pick.head | apply Pick.tail)) (by first | rfl | assumption | (symm; assumption)) (by rfl) (by first | rfl | assumption | (symm; assumption)) (by first | assumption | omega | exact lt_of_get (by assumption) | (simp only [List.length_set]; first | assumption | omega | exact lt_of_get (by assumption))) ?_)
        refine WO_nil ?_
        refine KBlock_n ?_
        refine KSeq_n ?_
        refine WC_region ?_
        refine WO_step rfl (S_pure rfl ?_)
        first | refine WO_step rfl (S_subN (b := 1) rfl rfl (by omega) ?_) | refine WO_step rfl (S_pure rfl ?_)
        refine WO_step rfl (S_pure rfl ?_)
        refine WO_nil ?_
        refine KLoop_n ?_
        have e : ((A ++ [y] ++ x :: B ++ Q).set (A.length + (0 + 1)) y).set (A.length + (0 + 1) - 1) x = A ++ x :: (y :: B) ++ Q := by simp
        rw [e]
        refine WC_post (WC_weak (ih A.length (by omega) A (y :: B) rfl (by simp only [List.length_cons]; omega) (by simpa using hs) (fun z hz => ?_)) (by repeat (first | exact SubE.nil | apply SubE.cons rfl)) (by repeat (first | exact HSub.refl | refine HSub.pick (by repeat (first | exact Pick.head | apply Pick.tail)) ?_ | apply HSub.drop))) ?_
        · rcases List.mem_cons.1 hz with rfl | hz
          · exact sle_of_lt (by simpa [sltB] using hb1)
          · exact hB z hz
        · rintro u l' H' ⟨A', B', rfl, rfl, rfl, h1, h2⟩
          exact KPost_i (by repeat (first | exact SubE.nil | apply SubE.cons rfl)) (by repeat (first | exact HSub.refl | refine HSub.pick (by repeat (first | exact Pick.head | apply Pick.tail)) ?_ | apply HSub.drop)) ⟨A', B', rfl, rfl, rfl, by rw [h1]; simp, h2⟩
      ·
        try simp only [decide_eq_true_eq, decide_eq_false_iff_not, Bool.not_eq_true', Bool.not_eq_false', beq_iff_eq, bne_iff_ne, beq_eq_false_iff_ne, Int.ofNat_lt, Int.ofNat_le, Int.ofNat_inj, ne_eq, gt_iff_lt, ge_iff_le] at hb1
        refine WC_exit ?_
        refine KSeq_x ?_
        refine KLoop_x ?_
        refine KPost_i (l' := [(3, w.toV), (5, v5)]) (by repeat (first | exact SubE.nil | apply SubE.cons rfl)) (by repeat (first | exact HSub.refl | refine HSub.pick (by repeat (first | exact Pick.head | apply Pick.tail)) ?_ | apply HSub.drop)) ⟨A ++ [y], B, rfl, rfl, rfl, rfl, ssor_ins hs (ssor_last (List.pairwise_append.1 hs).1 (by simpa [sle, sltB] using hb1)) hB⟩
    ·
      try simp only [decide_eq_true_eq, decide_eq_false_iff_not, Bool.not_eq_true', Bool.not_eq_false', beq_iff_eq, bne_iff_ne, beq_eq_false_iff_ne, Int.ofNat_lt, Int.ofNat_le, Int.ofNat_inj, ne_eq, gt_iff_lt, ge_iff_le] at hg1
      refine WO_off rfl ?_
      refine WO_off rfl ?_
      refine WO_off rfl ?_
      refine WO_off rfl ?_
      refine WO_off rfl ?_
      refine WO_off rfl ?_
      refine WO_off rfl ?_
      refine WO_off rfl ?_
      refine WO_off rfl ?_
      refine WO_off rfl ?_
      refine WO_step rfl (S_pure rfl ?_)
      refine WO_nil ?_
      refine KSeq_n ?_
      refine WC_cond rfl (fun h => ?_) (fun _ => ?_)
      · exact absurd h (by decide)
      refine WC_exit ?_
      refine KSeq_x ?_
      refine KLoop_x ?_
      have hA : A = [] := List.length_eq_zero_iff.1 (by omega)
      subst hA
      exact KPost_i (by repeat (first | exact SubE.nil | apply SubE.cons rfl)) (by repeat (first | exact HSub.refl | refine HSub.pick (by repeat (first | exact Pick.head | apply Pick.tail)) ?_ | apply HSub.drop)) ⟨[], B, rfl, rfl, rfl, rfl, ssor_ins hs (by simp) hB⟩
theorem lp_nms1 {H : SH} {w : SV} {L : List ByteArray} (hL : L.length ≤ 1000) : ∀ (n i : Nat) (P Q : List ByteArray), L.length - i = n → P.length = i → 0 < i → SSor P → (P ++ Q).Perm L →
    WC F X (.loop L_loesslaw24_names_1) [(5, .int .i64 (i : Int)), (3, w.toV)] (SL w.toV TS (P ++ Q) :: H)
      (KPost fun y l' H' => ∃ L', y = .exit 2 ∧ l' = [(3, w.toV)] ∧ H' = SL w.toV TS L' :: H ∧ SSor L' ∧ L'.Perm L) := by
  intro n
  induction n using Nat.strongRecOn with
  | _ n ih =>
    intro i P Q hn hi h0 hs hp
    have hpl := hp.length_eq
    have hpl' := hpl
    rw [List.length_append] at hpl
    refine WC_loop ?_
    refine WC_seq ?_
    refine WC_seq ?_
    refine WC_region ?_
    refine WO_step rfl (S_pure rfl ?_)
    refine WO_step rfl (S_pure rfl ?_)
    first | refine WO_step rfl (S_pure rfl ?_) | refine WO_step rfl (S_lenS rfl (by repeat (first | assumption | exact RD.head | exact RD.nil | apply RD.tail)) ?_)
    refine WO_step rfl (S_pure rfl ?_)
    refine WO_nil ?_
    refine KSeq_n ?_
    refine WC_cond rfl (fun hb1 => ?_) (fun hb1 => ?_)
    ·
      try simp only [decide_eq_true_eq, decide_eq_false_iff_not, Bool.not_eq_true', Bool.not_eq_false', beq_iff_eq, bne_iff_ne, beq_eq_false_iff_ne, Int.ofNat_lt, Int.ofNat_le, Int.ofNat_inj, ne_eq, gt_iff_lt, ge_iff_le] at hb1
      obtain ⟨x, Q, rfl⟩ : ∃ x Q', Q = x :: Q' := by
        cases Q with
        | nil => rw [List.length_nil] at hpl; omega
        | cons x Q => exact ⟨x, Q, rfl⟩
      rw [List.length_cons] at hpl
      refine WC_skip ?_
      refine KSeq_n ?_
      refine WC_seq ?_
      refine WC_block ?_
      refine WC_seq ?_
      refine WC_region ?_
      refine WO_step rfl (S_pure rfl ?_)
      refine WO_step rfl (S_pure rfl ?_)
      refine WO_nil ?_
      refine KSeq_n ?_
      refine WC_block ?_
      --out x4
      have e0 : P ++ x :: Q = P ++ x :: [] ++ Q := by simp
      rw [e0]
      refine WC_post (WC_weak (lp_nms2 (x := x) (Q := Q) (w := w) (H := H) (.int .i64 (i : Int)) P.length P [] rfl (by simp only [List.length_nil]; omega) (by simpa using hs) (by simp)) (by rw [hi]; exact (by repeat (first | exact SubE.nil | apply SubE.cons rfl))) (by repeat (first | exact HSub.refl | refine HSub.pick (by repeat (first | exact Pick.head | apply Pick.tail)) ?_ | apply HSub.drop))) ?_
      rintro y l' H' ⟨A', B', rfl, rfl, rfl, h1, h2⟩
      refine KBlock_h ?_
      refine KBlock_n ?_
      refine KSeq_n ?_
      refine WC_region ?_
      refine WO_step rfl (S_pure rfl ?_)
      first | refine WO_step rfl (S_addN (b := 1) rfl rfl (by omega) ?_) | refine WO_step rfl (S_pure rfl ?_)
      refine WO_step rfl (S_pure rfl ?_)
      refine WO_nil ?_
      refine KLoop_n ?_
      refine WC_weak (ih (L.length - (i + 1)) (by omega) (i + 1) (A' ++ x :: B') Q rfl ?_ (by omega) h2 ?_) (by repeat (first | exact SubE.nil | apply SubE.cons rfl)) (by repeat (first | exact HSub.refl | refine HSub.pick (by repeat (first | exact Pick.head | apply Pick.tail)) ?_ | apply HSub.drop))
      · have := congrArg List.length h1
        simp only [List.length_append, List.length_cons, List.length_nil] at this ⊢
        omega
      · refine List.Perm.trans ?_ hp
        rw [e0]
        refine List.Perm.append_right Q ?_
        refine (List.perm_middle.trans ?_).trans List.perm_middle.symm
        rw [h1]
    ·
      try simp only [decide_eq_true_eq, decide_eq_false_iff_not, Bool.not_eq_true', Bool.not_eq_false', beq_iff_eq, bne_iff_ne, beq_eq_false_iff_ne, Int.ofNat_lt, Int.ofNat_le, Int.ofNat_inj, ne_eq, gt_iff_lt, ge_iff_le] at hb1
      refine WC_exit ?_
      refine KSeq_x ?_
      refine KLoop_x ?_
      refine KPost_i (by repeat (first | exact SubE.nil | apply SubE.cons rfl)) (by repeat (first | exact HSub.refl | refine HSub.pick (by repeat (first | exact Pick.head | apply Pick.tail)) ?_ | apply HSub.drop)) ⟨P ++ Q, rfl, rfl, rfl, ?_, hp⟩
      have hQ : Q = [] := List.length_eq_zero_iff.1 (by omega)
      rw [hQ, List.append_nil]; exact hs
theorem sp_names {H : SH} {n f s : Int} {h : SV} {xs : List Int} (hv : RD H h.toV TI64 xs) (hf : okN f) (hs : okN s) (hok : ∀ x ∈ xs, okN x) (hL : xs.length ≤ 7) : WF F X f_loesslaw24_names [mfV n f s h] H (fun r H' => ∃ (w : SV) (L' : List ByteArray), r = w.toV ∧ H' = SL w.toV TS L' :: H ∧ SSor L' ∧ L'.Perm (names3 f s xs)) := by
  obtain ⟨f1, f2⟩ := hf.nat
  obtain ⟨s1, s2⟩ := hs.nat
  have l1 := names1_len f
  refine WF_fn F_loesslaw24_names ?_
  refine WC_seq ?_
  refine WC_region ?_
  refine WO_step rfl (S_box rfl (by cases h <;> rfl) fun i1 => ?_)
  refine WO_step rfl (S_pure rfl ?_)
  refine WO_nil ?_
  refine KSeq_n ?_
  refine WC_seq ?_
  refine WC_region ?_
  refine WO_step rfl (S_lit2S (a := logS) (b := manS) rfl rfl fun w7 => ?_)
  refine WO_step rfl (S_pure rfl ?_)
  refine WO_nil ?_
  refine KSeq_n ?_
  refine WC_seq ?_
  refine WC_post (P := fun x l' H' => ∃ w : SV, x = .normal ∧ l' = [(1, .pointer (some ⟨i1, 0, none⟩)), (3, w.toV)] ∧ H' = SL w.toV TS (names1 f) :: MO i1 24 n f s h :: H) ?_ ?_
  ·
    refine WC_seq ?_
    refine WC_region ?_
    refine WO_step rfl (S_pure rfl ?_)
    refine WO_step rfl (S_loadO rfl (by repeat (first | exact Pick.head | apply Pick.tail)) (by rfl) (by rfl) ?_)
    first | refine WO_step rfl (S_neS rfl rfl ?_) | refine WO_step rfl (S_pure rfl ?_)
    refine WO_nil ?_
    refine KSeq_n ?_
    refine WC_cond rfl (fun hb1 => ?_) (fun hb1 => ?_)
    ·
      try simp only [decide_eq_true_eq, decide_eq_false_iff_not, Bool.not_eq_true', Bool.not_eq_false', beq_iff_eq, bne_iff_ne, beq_eq_false_iff_ne, Int.ofNat_lt, Int.ofNat_le, Int.ofNat_inj, ne_eq, gt_iff_lt, ge_iff_le] at hb1
      refine WC_region ?_
      refine WO_step rfl (S_pure rfl ?_)
      refine WO_step rfl (S_pure rfl ?_)
      refine WO_step rfl (S_loadO rfl (by repeat (first | exact Pick.head | apply Pick.tail)) (by rfl) (by rfl) ?_)
      refine WO_call rfl rfl rfl ?_
      rw [← f1]
      refine (sp_name (k := 102) (n := f.toNat) (by omega) f2).mono ?_
      rintro _ _ ⟨rfl, rfl⟩
      rw [f1]
      refine WO_step rfl (S_lit1 (T := TS) (y := nmS 102 f.toNat) rfl rfl rfl rfl fun w15 => ?_)
      refine WO_step rfl (S_app rfl rfl (by repeat (first | exact Pick.head | apply Pick.tail)) (by first | exact SRC.str rfl rfl | (apply RD.src; repeat (first | assumption | exact RD.head | exact RD.nil | apply RD.tail))) (by rfl) (by rfl) (by (try simp only [List.length_append, List.length_cons, List.length_nil]); omega) fun w16 => ?_)
      refine WO_step rfl (S_pure rfl ?_)
      refine WO_nil ?_
      rw [show names1 f = [logS, manS] ++ [nmS 102 f.toNat] by unfold names1; rw [if_neg hb1]]
      exact KPost_i (by repeat (first | exact SubE.nil | apply SubE.cons rfl)) (by repeat (first | exact HSub.refl | refine HSub.pick (by repeat (first | exact Pick.head | apply Pick.tail)) ?_ | apply HSub.drop)) ⟨w16, rfl, rfl, rfl⟩
    ·
      try simp only [decide_eq_true_eq, decide_eq_false_iff_not, Bool.not_eq_true', Bool.not_eq_false', beq_iff_eq, bne_iff_ne, beq_eq_false_iff_ne, Int.ofNat_lt, Int.ofNat_le, Int.ofNat_inj, ne_eq, gt_iff_lt, ge_iff_le] at hb1
      refine WC_skip ?_
      rw [show names1 f = [logS, manS] by unfold names1; rw [if_pos (by simpa using hb1)]; rfl]
      exact KPost_i (by repeat (first | exact SubE.nil | apply SubE.cons rfl)) (by repeat (first | exact HSub.refl | refine HSub.pick (by repeat (first | exact Pick.head | apply Pick.tail)) ?_ | apply HSub.drop)) ⟨w7, rfl, rfl, rfl⟩
  ·
    rintro x l' H' ⟨w, rfl, rfl, rfl⟩
    refine KSeq_n ?_
    refine WC_seq ?_
    refine WC_post (P := fun x l' H' => ∃ w : SV, x = .normal ∧ l' = [(1, .pointer (some ⟨i1, 0, none⟩)), (3, w.toV)] ∧ H' = SL w.toV TS (names0 f s) :: MO i1 24 n f s h :: H) ?_ ?_
    ·
      refine WC_seq ?_
      refine WC_region ?_
      refine WO_step rfl (S_pure rfl ?_)
      refine WO_step rfl (S_loadO rfl (by repeat (first | exact Pick.head | apply Pick.tail)) (by rfl) (by rfl) ?_)
      first | refine WO_step rfl (S_neS rfl rfl ?_) | refine WO_step rfl (S_pure rfl ?_)
      refine WO_nil ?_
      refine KSeq_n ?_
      refine WC_cond rfl (fun hb2 => ?_) (fun hb2 => ?_)
      ·
        try simp only [decide_eq_true_eq, decide_eq_false_iff_not, Bool.not_eq_true', Bool.not_eq_false', beq_iff_eq, bne_iff_ne, beq_eq_false_iff_ne, Int.ofNat_lt, Int.ofNat_le, Int.ofNat_inj, ne_eq, gt_iff_lt, ge_iff_le] at hb2
        refine WC_region ?_
        refine WO_step rfl (S_pure rfl ?_)
        refine WO_step rfl (S_pure rfl ?_)
        refine WO_step rfl (S_loadO rfl (by repeat (first | exact Pick.head | apply Pick.tail)) (by rfl) (by rfl) ?_)
        refine WO_call rfl rfl rfl ?_
        rw [← s1]
        refine (sp_name (k := 115) (n := s.toNat) (by omega) s2).mono ?_
        rintro _ _ ⟨rfl, rfl⟩
        rw [s1]
        refine WO_step rfl (S_lit1 (T := TS) (y := nmS 115 s.toNat) rfl rfl rfl rfl fun w24 => ?_)
        refine WO_step rfl (S_app rfl rfl (by repeat (first | exact Pick.head | apply Pick.tail)) (by first | exact SRC.str rfl rfl | (apply RD.src; repeat (first | assumption | exact RD.head | exact RD.nil | apply RD.tail))) (by rfl) (by rfl) (by simp only [List.length_cons, List.length_nil]; omega) fun w25 => ?_)
        refine WO_step rfl (S_pure rfl ?_)
        refine WO_nil ?_
        rw [show names0 f s = names1 f ++ [nmS 115 s.toNat] by unfold names0; rw [if_neg hb2]]
        exact KPost_i (by repeat (first | exact SubE.nil | apply SubE.cons rfl)) (by repeat (first | exact HSub.refl | refine HSub.pick (by repeat (first | exact Pick.head | apply Pick.tail)) ?_ | apply HSub.drop)) ⟨w25, rfl, rfl, rfl⟩
      ·
        try simp only [decide_eq_true_eq, decide_eq_false_iff_not, Bool.not_eq_true', Bool.not_eq_false', beq_iff_eq, bne_iff_ne, beq_eq_false_iff_ne, Int.ofNat_lt, Int.ofNat_le, Int.ofNat_inj, ne_eq, gt_iff_lt, ge_iff_le] at hb2
        refine WC_skip ?_
        rw [show names0 f s = names1 f by unfold names0; rw [if_pos (by simpa using hb2)]; simp]
        exact KPost_i (by repeat (first | exact SubE.nil | apply SubE.cons rfl)) (by repeat (first | exact HSub.refl | refine HSub.pick (by repeat (first | exact Pick.head | apply Pick.tail)) ?_ | apply HSub.drop)) ⟨w, rfl, rfl, rfl⟩
    ·
      rintro x l' H' ⟨w2, rfl, rfl, rfl⟩
      have l0 : (names0 f s).length ≤ 4 := by unfold names0; split <;> simp <;> omega
      refine KSeq_n ?_
      refine WC_seq ?_
      refine WC_seq ?_
      refine WC_region ?_
      refine WO_step rfl (S_pure rfl ?_)
      refine WO_nil ?_
      refine KSeq_n ?_
      refine WC_block ?_
      --out x0
      have e0 : names0 f s = names0 f s ++ (xs.take 0).map (fun x => nmS 104 x.toNat) := by simp
      rw [e0]
      refine WC_post (WC_weak (lp_nms0 (H := H) (i1 := i1) (A := names0 f s) (xs := xs) (n := n) (f := f) (s := s) (hh := h) hv hok (by omega) xs.length 0 w2 (by omega) (by omega)) (by repeat (first | exact SubE.nil | apply SubE.cons rfl)) (by repeat (first | exact HSub.refl | refine HSub.pick (by repeat (first | exact Pick.head | apply Pick.tail)) ?_ | apply HSub.drop))) ?_
      rintro x l' H' ⟨w', rfl, rfl, rfl⟩
      refine KBlock_h ?_
      refine KSeq_n ?_
      refine WC_seq ?_
      refine WC_seq ?_
      refine WC_region ?_
      refine WO_step rfl (S_pure rfl ?_)
      refine WO_nil ?_
      refine KSeq_n ?_
      refine WC_block ?_
      --out x2
      have hlr : 2 ≤ (namesR f s xs).length ∧ (namesR f s xs).length ≤ 20 := by
        unfold namesR
        rw [List.length_append, List.length_map]
        have : 2 ≤ (names0 f s).length := by unfold names0 names1; split <;> split <;> simp
        omega
      obtain ⟨p, Q, hPQ⟩ : ∃ p Q, namesR f s xs = [p] ++ Q := by
        cases hc : namesR f s xs with
        | nil => rw [hc] at hlr; simp at hlr
        | cons p Q => exact ⟨p, Q, rfl⟩
      rw [show names0 f s ++ xs.map (fun x => nmS 104 x.toNat) = [p] ++ Q from hPQ]
      refine WC_post (WC_weak (lp_nms1 (H := H) (w := w') (L := namesR f s xs) (by omega) ((namesR f s xs).length - 1) 1 [p] Q rfl rfl (by omega) (List.pairwise_singleton _ _) (by rw [← hPQ])) (by repeat (first | exact SubE.nil | apply SubE.cons rfl)) (by repeat (first | exact HSub.refl | refine HSub.pick (by repeat (first | exact Pick.head | apply Pick.tail)) ?_ | apply HSub.drop))) ?_
      rintro y l' H' ⟨L', rfl, rfl, rfl, h1, h2⟩
      refine KBlock_h ?_
      refine KSeq_n ?_
      refine WC_seq ?_
      refine WC_region ?_
      refine WO_step rfl (S_pure rfl ?_)
      refine WO_step rfl (S_pure rfl ?_)
      refine WO_nil ?_
      refine KSeq_n ?_
      refine WC_ret ?_
      refine KFn_r (ResL.tmp rfl ResL.nil) ?_
      exact ⟨_, (by repeat (first | exact HSub.refl | refine HSub.pick (by repeat (first | exact Pick.head | apply Pick.tail)) ?_ | apply HSub.drop)), w', L', rfl, rfl, h1, h2.trans (namesR_perm f s xs)⟩
end Go.Proofs.YtmibhdoegcgfmaaDoor.AM
