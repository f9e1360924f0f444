/- Walks: what the functions compute. -/
import Derived.Test.YtdpiggphcohmmaaM13
import Derived.Test.YtdpiggphcohmmaaM12
namespace Go.Proofs.Ytdpiggphcohmmaa.AM
open Go
set_option linter.unusedSimpArgs false
set_option linter.unusedVariables false
set_option maxRecDepth 4000

/-! ### The law MergeAll -/
theorem srcs_facts (ls : List (List Rec)) : (srcsOf ls).length ≤ 5 ∧ (srcsOf ls).flatten.length ≤ 100 ∧ short (srcsOf ls).flatten ∧ ∀ l ∈ srcsOf ls, l.length ≤ 20 := by
  have h20 : ∀ l ∈ srcsOf ls, l.length ≤ 20 := fun l hl => by
    obtain ⟨x, _, rfl⟩ := List.mem_map.1 hl
    refine Nat.le_trans (List.length_filter_le _ _) ?_
    rw [List.length_map, List.length_take]; omega
  have h5 : (srcsOf ls).length ≤ 5 := by rw [srcsOf, List.length_map, List.length_take]; omega
  refine ⟨h5, ?_, ?_, h20⟩
  · have key : ∀ L : List (List Rec), (∀ l ∈ L, l.length ≤ 20) → L.flatten.length ≤ 20 * L.length := by
      intro L
      induction L with
      | nil => simp
      | cons l L ih => intro h; have h1 := ih (fun x hx => h x (List.mem_cons_of_mem _ hx)); have h2 := h l (List.mem_cons_self ..); simp at h1 ⊢; omega
    have := key _ h20; omega
  · intro x hx
    obtain ⟨l, hl, hxl⟩ := List.mem_flatten.1 hx
    obtain ⟨y, _, rfl⟩ := List.mem_map.1 hl
    obtain ⟨z, _, rfl⟩ := List.mem_map.1 (List.mem_filter.1 hxl).1
    exact cut_size _ _
theorem lp_MA0 {H : SH} {v : Value} {svs : List SV} {ls : List (List Rec)} (hv : Rds H v svs TRecs TRec ls) (hll : ls.length ≤ 1000) (h20 : ∀ l ∈ ls, l.length ≤ 20) : ∀ (n i : Nat) (w : SV) (us : List SV) (B : SH), ls.length - i = n → i ≤ ls.length → HSub B H → us.length = i → (∀ (j : Nat) (sv : SV) (l : List Rec), us[j]? = some sv → (ls.take i)[j]? = some l → RD B sv.toV TRec l) →
    WC F X (.loop L_loesslaw23_MergeAll_0) [(6, .int .i64 i), (4, v), (5, w.toV)] (SL w.toV TRecs us :: B)
      (KPost fun x l' H' => ∃ (w : SV) (us : List SV) (B : SH), x = .exit 0 ∧ l' = [(4, v), (5, w.toV)] ∧ H' = SL w.toV TRecs us :: B ∧ HSub B H ∧ Rds (SL w.toV TRecs us :: B) w.toV us TRecs TRec ls) := by
  intro n
  induction n using Nat.strongRecOn with
  | _ n ih =>
    intro i w us B hn hi hB hus hins
    have hvB := hv.sub hB
    have hout := hvB.out
    have hlen := hvB.len
    refine WC_loop ?_
    refine WC_seq ?_
    refine WC_seq ?_
    refine WC_region ?_
    refine WO_step rfl (S_pure rfl ?_)
    refine WO_step rfl (S_pure rfl ?_)
    refine WO_step rfl (S_lenS rfl hout.tail ?_)
    rw [hlen]
    refine WO_step rfl (S_pure rfl ?_)
    refine WO_nil ?_
    refine KSeq_n ?_
    refine WC_cond rfl (fun hb1 => ?_) (fun hb1 => ?_)
    ·
      try simp only [decide_eq_true_eq, decide_eq_false_iff_not, Bool.not_eq_true', Bool.not_eq_false', beq_iff_eq, bne_iff_ne, beq_eq_false_iff_ne, Int.ofNat_lt, Int.ofNat_le, Int.ofNat_inj, ne_eq, gt_iff_lt, ge_iff_le] at hb1
      obtain ⟨l, hl1⟩ := get_of_lt hb1
      obtain ⟨sv, hsv⟩ := get_of_lt (l := svs) (a := i) (by rw [hlen]; exact hb1)
      have hin := hvB.ins i sv l hsv hl1
      have hl20 := h20 l (List.mem_of_getElem? hl1)
      refine WC_skip ?_
      refine KSeq_n ?_
      refine WC_seq ?_
      refine WC_block ?_
      refine WC_region ?_
      refine WO_step rfl (S_pure rfl ?_)
      refine WO_step rfl (S_pure rfl ?_)
      refine WO_step rfl (S_pure rfl ?_)
      refine WO_step rfl (S_idx rfl rfl (by repeat (first | assumption | exact RD.head | exact RD.nil | apply RD.tail)) (by first | rfl | assumption | (symm; assumption)) (by rfl) (by first | assumption | omega | exact lt_of_get (by assumption) | (simp only [List.length_set]; first | assumption | omega | exact lt_of_get (by assumption))) fun hp31 => ?_)
      refine WO_step rfl (S_loadE rfl (by repeat (first | assumption | exact RD.head | exact RD.nil | apply RD.tail)) (by first | rfl | assumption | (symm; assumption)) (by first | rfl | assumption | (symm; assumption)) (by first | rfl | assumption | (symm; assumption)) (by assumption) ?_)
      refine WO_step rfl (S_appN rfl rfl (by first | exact SRC.str rfl rfl | (apply RD.src; repeat (first | assumption | exact RD.head | exact RD.nil | apply RD.tail))) (by rfl) (by rfl) (by (try simp only [List.length_append, List.length_cons, List.length_nil]); omega) fun w33 => ?_)
      refine WO_step rfl (S_litSV (T := TRecs) (w := w33) rfl rfl rfl rfl fun w34 => ?_)
      refine WO_step rfl (S_app rfl rfl (by repeat (first | exact Pick.head | apply Pick.tail)) (by first | exact SRC.str rfl rfl | (apply RD.src; repeat (first | assumption | exact RD.head | exact RD.nil | apply RD.tail))) (by rfl) (by rfl) (by (try simp only [List.length_append, List.length_cons, List.length_nil]); omega) fun w35 => ?_)
      refine WO_step rfl (S_pure rfl ?_)
      refine WO_nil ?_
      refine KBlock_n ?_
      refine KSeq_n ?_
      refine WC_region ?_
      refine WO_step rfl (S_pure rfl ?_)
      first | refine WO_step rfl (S_addN (b := 1) rfl rfl (by omega) ?_) | refine WO_step rfl (S_pure rfl ?_)
      refine WO_step rfl (S_pure rfl ?_)
      refine WO_nil ?_
      refine KLoop_n ?_
      have htk : ls.take (i + 1) = ls.take i ++ [l] := by rw [List.take_add_one, hl1]; rfl
      refine WC_weak (ih (ls.length - (i + 1)) (by omega) (i + 1) w35 (us ++ [w33]) (SL w33.toV TRec l :: B) rfl (by omega) hB.drop (by simp [hus]) ?_) (by repeat (first | exact SubE.nil | apply SubE.cons rfl)) (by repeat (first | exact HSub.refl | refine HSub.pick (by repeat (first | exact Pick.head | apply Pick.tail)) ?_ | apply HSub.drop))
      intro j sv' l2 h1 h2
      rw [htk] at h2
      have hml : (ls.take i).length = i := by simp; omega
      by_cases hii : j < i
      · rw [List.getElem?_append_left (by omega)] at h1 h2
        exact (hins j sv' l2 h1 h2).tail
      · have hlt := (List.getElem?_eq_some_iff.1 h1).1
        simp at hlt
        have : j = i := by omega
        subst this
        rw [List.getElem?_append_right (by omega), show j - us.length = 0 by omega] at h1
        rw [List.getElem?_append_right (by omega), show j - (ls.take j).length = 0 by omega] at h2
        simp at h1 h2; subst h1 h2
        exact RD.head
    ·
      try simp only [decide_eq_true_eq, decide_eq_false_iff_not, Bool.not_eq_true', Bool.not_eq_false', beq_iff_eq, bne_iff_ne, beq_eq_false_iff_ne, Int.ofNat_lt, Int.ofNat_le, Int.ofNat_inj, ne_eq, gt_iff_lt, ge_iff_le] at hb1
      refine WC_exit ?_
      refine KSeq_x ?_
      refine KLoop_x ?_
      have e : i = ls.length := by omega
      rw [e, List.take_length] at hins
      exact KPost_i (l' := [(4, v), (5, w.toV)]) (H' := SL w.toV TRecs us :: B) (by repeat (first | exact SubE.nil | apply SubE.cons rfl)) (by repeat (first | exact HSub.refl | refine HSub.pick (by repeat (first | exact Pick.head | apply Pick.tail)) ?_ | apply HSub.drop)) ⟨w, us, B, rfl, rfl, rfl, hB, ⟨RD.head, by omega, fun j sv l a b => (hins j sv l a b).tail⟩⟩
theorem lp_MA1 {H : SH} {m : Nat} {wv v v5 : Value} {L : List Rec} (hw : RD H wv TRec L) (hL : L.length ≤ 1000) : ∀ (n i : Nat) (u : SV), L.length - i = n → i ≤ L.length →
    WC F X (.loop L_loesslaw23_MergeAll_1) [(9, .int .i64 i), (7, wv), (8, .pointer (some ⟨m, 0, none⟩)), (4, v), (5, v5)] (MOB m u :: SL u.toV TRec (L.drop i) :: H)
      (KPost fun x l' H' => ∃ u : SV, x = .exit 2 ∧ l' = [(7, wv), (8, .pointer (some ⟨m, 0, none⟩)), (4, v), (5, v5)] ∧ H' = MOB m u :: SL u.toV TRec [] :: H) := by
  intro n
  induction n using Nat.strongRecOn with
  | _ n ih =>
    intro i u hn hi
    have hw2 : RD (MOB m u :: SL u.toV TRec (L.drop i) :: H) wv TRec L := hw.tail.tail
    refine WC_loop ?_
    refine WC_seq ?_
    refine WC_seq ?_
    refine WC_region ?_
    refine WO_step rfl (S_pure rfl ?_)
    refine WO_step rfl (S_pure rfl ?_)
    refine WO_step rfl (S_lenS rfl hw2 ?_)
    refine WO_step rfl (S_pure rfl ?_)
    refine WO_nil ?_
    refine KSeq_n ?_
    refine WC_cond rfl (fun hb1 => ?_) (fun hb1 => ?_)
    ·
      try simp only [decide_eq_true_eq, decide_eq_false_iff_not, Bool.not_eq_true', Bool.not_eq_false', beq_iff_eq, bne_iff_ne, beq_eq_false_iff_ne, Int.ofNat_lt, Int.ofNat_le, Int.ofNat_inj, ne_eq, gt_iff_lt, ge_iff_le] at hb1
      obtain ⟨x, hx⟩ := get_of_lt hb1
      rw [drop_get hx]
      refine WC_skip ?_
      refine KSeq_n ?_
      refine WC_seq ?_
      refine WC_block ?_
      refine WC_seq ?_
      refine WC_region ?_
      refine WO_step rfl (S_pure rfl ?_)
      refine WO_call rfl rfl rfl ?_
      refine (sp_Next (w := u)).mono ?_
      rintro _ _ ⟨u', rfl, rfl⟩
      refine WO_step rfl (S_pure rfl ?_)
      refine WO_step rfl (S_pure rfl ?_)
      refine WO_step rfl (S_pure rfl ?_)
      refine WO_step rfl (S_new fun i10 => ?_)
      first | refine WO_step rfl (S_storeT rfl rfl (by repeat (first | exact Pick.head | apply Pick.tail)) (by rfl) (by rfl) ?_) | refine WO_step rfl (S_storeO rfl rfl (by repeat (first | exact Pick.head | apply Pick.tail)) (by first | rfl | exact SV.cells1 _) (by rfl) (by first | rfl | exact SV.ones _) ?_)
      refine WO_step rfl (S_pure rfl ?_)
      refine WO_nil ?_
      refine KSeq_n ?_
      refine WC_seq ?_
      refine WC_region ?_
      refine WO_step rfl (S_pure rfl ?_)
      refine WO_step rfl (S_pure rfl ?_)
      refine WO_step rfl (S_pure rfl ?_)
      refine WO_cases (t := 53) rfl (fun hg1 => ?_) (fun hg1 => ?_)
      ·
        try simp only [decide_eq_true_eq, decide_eq_false_iff_not, Bool.not_eq_true', Bool.not_eq_false', beq_iff_eq, bne_iff_ne, beq_eq_false_iff_ne, Int.ofNat_lt, Int.ofNat_le, Int.ofNat_inj, ne_eq, gt_iff_lt, ge_iff_le] at hg1
        exact absurd hg1 (by simp)
        --stop
      ·
        try simp only [decide_eq_true_eq, decide_eq_false_iff_not, Bool.not_eq_true', Bool.not_eq_false', beq_iff_eq, bne_iff_ne, beq_eq_false_iff_ne, Int.ofNat_lt, Int.ofNat_le, Int.ofNat_inj, ne_eq, gt_iff_lt, ge_iff_le] at hg1
        first | refine WO_step rfl (S_loadT rfl (by repeat (first | exact Pick.head | apply Pick.tail)) (by rfl) (by rfl) ?_) | refine WO_step rfl (S_loadO rfl (by repeat (first | exact Pick.head | apply Pick.tail)) (by rfl) (by rfl) ?_)
        refine WO_step rfl (S_pure rfl ?_)
        refine WO_step rfl (S_pure rfl ?_)
        refine WO_step rfl (S_idx rfl rfl (by repeat (first | assumption | exact RD.head | exact RD.nil | apply RD.tail)) (by first | rfl | assumption | (symm; assumption)) (by rfl) (by first | assumption | omega | exact lt_of_get (by assumption) | (simp only [List.length_set]; first | assumption | omega | exact lt_of_get (by assumption))) fun hp57 => ?_)
        refine WO_step rfl (S_loadE rfl (by repeat (first | assumption | exact RD.head | exact RD.nil | apply RD.tail)) (by first | rfl | assumption | (symm; assumption)) (by first | rfl | assumption | (symm; assumption)) (by first | rfl | assumption | (symm; assumption)) (by assumption) ?_)
        refine WO_call rfl rfl rfl ?_
        refine (sp_Eq (a := x) (b := x)).mono ?_
        rintro _ _ ⟨rfl, rfl⟩
        refine WO_step rfl (S_pure rfl ?_)
        refine WO_step rfl (S_pure rfl ?_)
        refine WO_nil ?_
        refine KSeq_n ?_
        refine WC_cond rfl (fun hb2 => ?_) (fun hb2 => ?_)
        ·
          try simp only [decide_eq_true_eq, decide_eq_false_iff_not, Bool.not_eq_true', Bool.not_eq_false', beq_iff_eq, bne_iff_ne, beq_eq_false_iff_ne, Int.ofNat_lt, Int.ofNat_le, Int.ofNat_inj, ne_eq, gt_iff_lt, ge_iff_le] at hb2
          exact absurd hb2 (by simp)
          --stop
        ·
          try simp only [decide_eq_true_eq, decide_eq_false_iff_not, Bool.not_eq_true', Bool.not_eq_false', beq_iff_eq, bne_iff_ne, beq_eq_false_iff_ne, Int.ofNat_lt, Int.ofNat_le, Int.ofNat_inj, ne_eq, gt_iff_lt, ge_iff_le] at hb2
          refine WC_skip ?_
          refine KBlock_n ?_
          refine KSeq_n ?_
          refine WC_region ?_
          refine WO_step rfl (S_pure rfl ?_)
          first | refine WO_step rfl (S_addN (b := 1) rfl rfl (by omega) ?_) | refine WO_step rfl (S_pure rfl ?_)
          refine WO_step rfl (S_pure rfl ?_)
          refine WO_nil ?_
          refine KLoop_n ?_
          exact WC_weak (ih (L.length - (i + 1)) (by omega) (i + 1) u' rfl (by omega)) (by repeat (first | exact SubE.nil | apply SubE.cons rfl)) (by repeat (first | exact HSub.refl | refine HSub.pick (by repeat (first | exact Pick.head | apply Pick.tail)) ?_ | apply HSub.drop))
    ·
      try simp only [decide_eq_true_eq, decide_eq_false_iff_not, Bool.not_eq_true', Bool.not_eq_false', beq_iff_eq, bne_iff_ne, beq_eq_false_iff_ne, Int.ofNat_lt, Int.ofNat_le, Int.ofNat_inj, ne_eq, gt_iff_lt, ge_iff_le] at hb1
      refine WC_exit ?_
      refine KSeq_x ?_
      refine KLoop_x ?_
      exact KPost_i (l' := [(7, wv), (8, .pointer (some ⟨m, 0, none⟩)), (4, v), (5, v5)]) (H' := MOB m u :: SL u.toV TRec [] :: H) (by repeat (first | exact SubE.nil | apply SubE.cons rfl)) (by rw [show L.drop i = [] from List.drop_of_length_le (by omega)]; exact (by repeat (first | exact HSub.refl | refine HSub.pick (by repeat (first | exact Pick.head | apply Pick.tail)) ?_ | apply HSub.drop))) ⟨u, rfl, rfl, rfl⟩
theorem lp_MA2 {H : SH} {v v5 v7 v13 v15 : Value} {svs us : List SV} {ls : List (List Rec)} (hv : Rds H v svs TRecs TRec ls) (h5 : Rds H v5 us TRecs TRec ls) (hll : ls.length ≤ 1000) (h20 : ∀ l ∈ ls, l.length ≤ 20) : ∀ (n i : Nat), ls.length - i = n → i ≤ ls.length →
    WC F X (.loop L_loesslaw23_MergeAll_2) [(16, .int .i64 i), (4, v), (5, v5), (7, v7), (13, v13), (15, v15)] H
      (KPost fun x l' H' => x = .exit 4 ∧ l' = [(4, v), (7, v7), (13, v13), (15, v15)] ∧ H' = H) := by
  have hout := hv.out
  have hlen := hv.len
  have hout5 := h5.out
  have hlen5 := h5.len
  intro n
  induction n using Nat.strongRecOn with
  | _ n ih =>
    intro i hn hi
    refine WC_loop ?_
    refine WC_seq ?_
    refine WC_seq ?_
    refine WC_region ?_
    refine WO_step rfl (S_pure rfl ?_)
    refine WO_step rfl (S_pure rfl ?_)
    refine WO_step rfl (S_lenS rfl hout ?_)
    rw [hlen]
    refine WO_step rfl (S_pure rfl ?_)
    refine WO_nil ?_
    refine KSeq_n ?_
    refine WC_cond rfl (fun hb1 => ?_) (fun hb1 => ?_)
    ·
      try simp only [decide_eq_true_eq, decide_eq_false_iff_not, Bool.not_eq_true', Bool.not_eq_false', beq_iff_eq, bne_iff_ne, beq_eq_false_iff_ne, Int.ofNat_lt, Int.ofNat_le, Int.ofNat_inj, ne_eq, gt_iff_lt, ge_iff_le] at hb1
      obtain ⟨l, hl1⟩ := get_of_lt hb1
      obtain ⟨sv, hsv⟩ := get_of_lt (l := svs) (a := i) (by rw [hlen]; exact hb1)
      obtain ⟨sw, hsw⟩ := get_of_lt (l := us) (a := i) (by rw [hlen5]; exact hb1)
      have hin := hv.ins i sv l hsv hl1
      have hin5 := h5.ins i sw l hsw hl1
      have hl20 := h20 l (List.mem_of_getElem? hl1)
      refine WC_skip ?_
      refine KSeq_n ?_
      refine WC_seq ?_
      refine WC_block ?_
      refine WC_seq ?_
      refine WC_region ?_
      refine WO_step rfl (S_pure rfl ?_)
      refine WO_step rfl (S_pure rfl ?_)
      refine WO_step rfl (S_idx rfl rfl hout (by rfl) (by rfl) (lt_of_get hsv) fun hp80 => ?_)
      refine WO_step rfl (S_loadE rfl hout (by rfl) (by rfl) (by rfl) hsv ?_)
      refine WO_step rfl (S_pure rfl ?_)
      refine WO_step rfl (S_pure rfl ?_)
      refine WO_step rfl (S_idx rfl rfl hout5 (by rfl) (by rfl) (lt_of_get hsw) fun hp84 => ?_)
      refine WO_step rfl (S_loadE rfl hout5 (by rfl) (by rfl) (by rfl) hsw ?_)
      refine WO_call rfl rfl rfl ?_
      refine (sp_EqRecs (l := l) (m := l) hin hin5 (by omega)).mono ?_
      rintro _ _ ⟨rfl, rfl⟩
      refine WO_step rfl (S_pure rfl ?_)
      refine WO_nil ?_
      refine KSeq_n ?_
      refine WC_cond rfl (fun hb2 => ?_) (fun hb2 => ?_)
      ·
        try simp only [decide_eq_true_eq, decide_eq_false_iff_not, Bool.not_eq_true', Bool.not_eq_false', beq_iff_eq, bne_iff_ne, beq_eq_false_iff_ne, Int.ofNat_lt, Int.ofNat_le, Int.ofNat_inj, ne_eq, gt_iff_lt, ge_iff_le] at hb2
        exact absurd hb2 (by simp)
        --stop
      ·
        try simp only [decide_eq_true_eq, decide_eq_false_iff_not, Bool.not_eq_true', Bool.not_eq_false', beq_iff_eq, bne_iff_ne, beq_eq_false_iff_ne, Int.ofNat_lt, Int.ofNat_le, Int.ofNat_inj, ne_eq, gt_iff_lt, ge_iff_le] at hb2
        refine WC_skip ?_
        refine KBlock_n ?_
        refine KSeq_n ?_
        refine WC_region ?_
        refine WO_step rfl (S_pure rfl ?_)
        first | refine WO_step rfl (S_addN (b := 1) rfl rfl (by omega) ?_) | refine WO_step rfl (S_pure rfl ?_)
        refine WO_step rfl (S_pure rfl ?_)
        refine WO_nil ?_
        refine KLoop_n ?_
        exact WC_weak (ih (ls.length - (i + 1)) (by omega) (i + 1) rfl (by omega)) (by repeat (first | exact SubE.nil | apply SubE.cons rfl)) (by repeat (first | exact HSub.refl | refine HSub.pick (by repeat (first | exact Pick.head | apply Pick.tail)) ?_ | apply HSub.drop))
    ·
      try simp only [decide_eq_true_eq, decide_eq_false_iff_not, Bool.not_eq_true', Bool.not_eq_false', beq_iff_eq, bne_iff_ne, beq_eq_false_iff_ne, Int.ofNat_lt, Int.ofNat_le, Int.ofNat_inj, ne_eq, gt_iff_lt, ge_iff_le] at hb1
      refine WC_exit ?_
      refine KSeq_x ?_
      refine KLoop_x ?_
      exact KPost_i (by repeat (first | exact SubE.nil | apply SubE.cons rfl)) (by repeat (first | exact HSub.refl | refine HSub.pick (by repeat (first | exact Pick.head | apply Pick.tail)) ?_ | apply HSub.drop)) ⟨rfl, rfl, rfl⟩
theorem walk_MergeAll {H : SH} {v : Value} {svs : List SV} {ls : List (List Rec)} (hv : Rds H v svs TRecs TRec ls) (hok : ∀ l ∈ ls, ∀ x ∈ l, okRec x) : WF F X f_loesslaw23_MergeAll [v] H (fun r _ => r = .bool true) := by
  refine WF_fn F_loesslaw23_MergeAll ?_
  refine WC_seq ?_
  refine WC_region ?_
  refine WO_step rfl (S_pure rfl ?_)
  refine WO_nil ?_
  refine KSeq_n ?_
  refine WC_seq ?_
  refine WC_region ?_
  refine WO_call rfl rfl rfl ?_
  refine sp_begun.mono ?_
  rintro _ _ ⟨rfl, rfl⟩
  refine WO_step rfl (S_pure rfl ?_)
  refine WO_nil ?_
  refine KSeq_n ?_
  refine WC_seq ?_
  refine WC_seq ?_
  refine WC_region ?_
  refine WO_step rfl (S_pure rfl ?_)
  refine WO_step rfl (S_pure rfl ?_)
  refine WO_nil ?_
  refine KSeq_n ?_
  refine WC_cond rfl (fun hb1 => ?_) (fun hb1 => ?_)
  ·
    try simp only [decide_eq_true_eq, decide_eq_false_iff_not, Bool.not_eq_true', Bool.not_eq_false', beq_iff_eq, bne_iff_ne, beq_eq_false_iff_ne, Int.ofNat_lt, Int.ofNat_le, Int.ofNat_inj, ne_eq, gt_iff_lt, ge_iff_le] at hb1
    exact absurd hb1 (by decide)
    --stop
  ·
    try simp only [decide_eq_true_eq, decide_eq_false_iff_not, Bool.not_eq_true', Bool.not_eq_false', beq_iff_eq, bne_iff_ne, beq_eq_false_iff_ne, Int.ofNat_lt, Int.ofNat_le, Int.ofNat_inj, ne_eq, gt_iff_lt, ge_iff_le] at hb1
    refine WC_skip ?_
    refine KSeq_n ?_
    refine WC_seq ?_
    refine WC_region ?_
    refine WO_step rfl (S_pure rfl ?_)
    refine WO_call rfl rfl rfl ?_
    refine (sp_sources hv).mono ?_
    rintro _ _ ⟨w4, us, B, rfl, hB, hR, rfl⟩
    obtain ⟨hf1, hf2, hf3, hf4⟩ := srcs_facts ls
    generalize srcsOf ls = L at *
    have hml := mrgd_len L.flatten
    have hio := inOrder_eq L.flatten
    refine WO_step rfl (S_pure rfl ?_)
    refine WO_nil ?_
    refine KSeq_n ?_
    refine WC_seq ?_
    refine WC_region ?_
    refine WO_step rfl (S_pure rfl ?_)
    refine WO_nil ?_
    refine KSeq_n ?_
    refine WC_seq ?_
    refine WC_seq ?_
    refine WC_region ?_
    refine WO_step rfl (S_pure rfl ?_)
    refine WO_nil ?_
    refine KSeq_n ?_
    refine WC_block ?_
    refine WC_view (H' := SL (SV.toV .nil) TRecs [] :: SL w4.toV TRecs us :: B) (fun h hh => (HAg.addNil hh)) ?_
    refine WC_post (WC_weak (lp_MA0 hR (by omega) hf4 L.length 0 .nil [] (SL w4.toV TRecs us :: B) (by omega) (by omega) HSub.refl rfl (by simp)) (by repeat (first | exact SubE.nil | apply SubE.cons rfl)) (by repeat (first | exact HSub.refl | refine HSub.pick (by repeat (first | exact Pick.head | apply Pick.tail)) ?_ | apply HSub.drop))) ?_
    rintro y l' H' ⟨w5, us5, B5, rfl, rfl, rfl, hB5, hR5⟩
    refine KBlock_h ?_
    refine KSeq_n ?_
    refine WC_seq ?_
    refine WC_region ?_
    refine WO_step rfl (S_pure rfl ?_)
    refine WO_call rfl rfl rfl ?_
    refine (sp_InOrder hR5 (by omega) (by omega) hf3).mono ?_
    rintro _ _ ⟨wI, rfl, rfl⟩
    rw [hio]
    refine WO_step rfl (S_pure rfl ?_)
    refine WO_nil ?_
    refine KSeq_n ?_
    refine WC_seq ?_
    refine WC_region ?_
    refine WO_step rfl (S_pure rfl ?_)
    refine WO_call rfl rfl rfl ?_
    refine (sp_New (hR.sub hB5.drop.drop) (by omega) (by omega) hf3).mono ?_
    rintro _ _ ⟨mN, wN, rfl, rfl⟩
    refine WO_step rfl (S_pure rfl ?_)
    refine WO_nil ?_
    refine KSeq_n ?_
    refine WC_seq ?_
    refine WC_seq ?_
    refine WC_region ?_
    refine WO_step rfl (S_pure rfl ?_)
    refine WO_nil ?_
    refine KSeq_n ?_
    refine WC_block ?_
    refine WC_post (WC_weak (lp_MA1 (H := SL wI.toV TRec (mrgd L.flatten) :: SL w5.toV TRecs us5 :: B5) (m := mN) (v := w4.toV) (v5 := w5.toV) RD.head (by omega) (mrgd L.flatten).length 0 wN (by omega) (by omega)) (by repeat (first | exact SubE.nil | apply SubE.cons rfl)) (by repeat (first | exact HSub.refl | refine HSub.pick (by repeat (first | exact Pick.head | apply Pick.tail)) ?_ | apply HSub.drop))) ?_
    rintro y l' H' ⟨u, rfl, rfl, rfl⟩
    refine KBlock_h ?_
    refine KSeq_n ?_
    refine WC_seq ?_
    refine WC_region ?_
    refine WO_step rfl (S_pure rfl ?_)
    refine WO_call rfl rfl rfl ?_
    refine (sp_NextEnd (w := u)).mono ?_
    rintro _ _ ⟨rfl, rfl⟩
    refine WO_step rfl (S_pure rfl ?_)
    refine WO_step rfl (S_pure rfl ?_)
    refine WO_step rfl (S_pure rfl ?_)
    refine WO_step rfl (S_new fun i12 => ?_)
    first | refine WO_step rfl (S_storeT rfl rfl (by repeat (first | exact Pick.head | apply Pick.tail)) (by rfl) (by rfl) ?_) | refine WO_step rfl (S_storeO rfl rfl (by repeat (first | exact Pick.head | apply Pick.tail)) (by first | rfl | exact SV.cells1 _) (by rfl) (by first | rfl | exact SV.ones _) ?_)
    refine WO_step rfl (S_pure rfl ?_)
    refine WO_nil ?_
    refine KSeq_n ?_
    refine WC_seq ?_
    refine WC_region ?_
    refine WO_step rfl (S_pure rfl ?_)
    refine WO_call rfl rfl rfl ?_
    refine WF.weak (H1 := MOB mN u :: SL u.toV TRec [] :: SL wI.toV TRec (mrgd L.flatten) :: SL w5.toV TRecs us5 :: B5) ?_ (by repeat (first | exact HSub.refl | refine HSub.pick (by repeat (first | exact Pick.head | apply Pick.tail)) ?_ | apply HSub.drop))
    refine (sp_NextEnd (w := u)).mono ?_
    rintro _ _ ⟨rfl, rfl⟩
    refine WO_step rfl (S_pure rfl ?_)
    refine WO_step rfl (S_pure rfl ?_)
    refine WO_step rfl (S_pure rfl ?_)
    refine WO_step rfl (S_new fun i14 => ?_)
    first | refine WO_step rfl (S_storeT rfl rfl (by repeat (first | exact Pick.head | apply Pick.tail)) (by rfl) (by rfl) ?_) | refine WO_step rfl (S_storeO rfl rfl (by repeat (first | exact Pick.head | apply Pick.tail)) (by first | rfl | exact SV.cells1 _) (by rfl) (by first | rfl | exact SV.ones _) ?_)
    refine WO_step rfl (S_pure rfl ?_)
    refine WO_nil ?_
    refine KSeq_n ?_
    refine WC_seq ?_
    refine WC_seq ?_
    refine WC_region ?_
    refine WO_step rfl (S_pure rfl ?_)
    refine WO_nil ?_
    refine KSeq_n ?_
    refine WC_block ?_
    refine WC_post (WC_weak (lp_MA2 (H := SL wI.toV TRec (mrgd L.flatten) :: SL w5.toV TRecs us5 :: B5) (v := w4.toV) (v5 := w5.toV) (v7 := wI.toV) (v13 := .bool false) (v15 := .bool false) (hR.sub hB5.drop.drop) (hR5.sub HSub.refl.drop) (by omega) hf4 L.length 0 (by omega) (by omega)) (by repeat (first | exact SubE.nil | apply SubE.cons rfl)) (by repeat (first | exact HSub.refl | refine HSub.pick (by repeat (first | exact Pick.head | apply Pick.tail)) ?_ | apply HSub.drop))) ?_
    rintro y l' H' ⟨rfl, rfl, rfl⟩
    refine KBlock_h ?_
    refine KSeq_n ?_
    refine WC_seq ?_
    refine WC_region ?_
    refine WO_step rfl (S_pure rfl ?_)
    refine WO_step rfl (S_pure rfl ?_)
    refine WO_step rfl (S_pure rfl ?_)
    refine WO_cases (t := 90) rfl (fun hg1 => ?_) (fun hg1 => ?_)
    ·
      try simp only [decide_eq_true_eq, decide_eq_false_iff_not, Bool.not_eq_true', Bool.not_eq_false', beq_iff_eq, bne_iff_ne, beq_eq_false_iff_ne, Int.ofNat_lt, Int.ofNat_le, Int.ofNat_inj, ne_eq, gt_iff_lt, ge_iff_le] at hg1
      refine WO_step rfl (S_pure rfl ?_)
      refine WO_step rfl (S_pure rfl ?_)
      refine WO_step rfl (S_pure rfl ?_)
      refine WO_step rfl (S_pure rfl ?_)
      refine WO_cases (t := 94) rfl (fun hg2 => ?_) (fun hg2 => ?_)
      ·
        try simp only [decide_eq_true_eq, decide_eq_false_iff_not, Bool.not_eq_true', Bool.not_eq_false', beq_iff_eq, bne_iff_ne, beq_eq_false_iff_ne, Int.ofNat_lt, Int.ofNat_le, Int.ofNat_inj, ne_eq, gt_iff_lt, ge_iff_le] at hg2
        refine WO_step rfl (S_pure rfl ?_)
        refine WO_call rfl rfl rfl ?_
        refine (sp_All (hR.sub hB5.drop.drop) (by omega) (by omega) hf3).mono ?_
        rintro _ _ ⟨wA, rfl, rfl⟩
        refine WO_step rfl (S_pure rfl ?_)
        refine WO_call rfl rfl rfl ?_
        refine (sp_Pairs (l := mrgd L.flatten) (by repeat (first | assumption | exact RD.head | exact RD.nil | apply RD.tail)) (by omega)).mono ?_
        rintro _ _ ⟨wP, rfl, rfl⟩
        have hpl := pairsOf_len (mrgd L.flatten)
        refine WO_call rfl rfl rfl ?_
        refine (sp_EqPairs (by repeat (first | assumption | exact RD.head | exact RD.nil | apply RD.tail)) (by repeat (first | assumption | exact RD.head | exact RD.nil | apply RD.tail)) (by omega)).mono ?_
        rintro _ _ ⟨rfl, rfl⟩
        refine WO_step rfl (S_pure rfl ?_)
        refine WO_step rfl (S_pure rfl ?_)
        refine WO_nil ?_
        refine KSeq_n ?_
        refine WC_ret ?_
        refine KFn_r (ResL.tmp rfl ResL.nil) ?_
        refine ⟨_, HSub.refl, ?_⟩
        simp [resV]
      ·
        try simp only [decide_eq_true_eq, decide_eq_false_iff_not, Bool.not_eq_true', Bool.not_eq_false', beq_iff_eq, bne_iff_ne, beq_eq_false_iff_ne, Int.ofNat_lt, Int.ofNat_le, Int.ofNat_inj, ne_eq, gt_iff_lt, ge_iff_le] at hg2
        exact absurd hg2 (by decide)
        --stop
    ·
      try simp only [decide_eq_true_eq, decide_eq_false_iff_not, Bool.not_eq_true', Bool.not_eq_false', beq_iff_eq, bne_iff_ne, beq_eq_false_iff_ne, Int.ofNat_lt, Int.ofNat_le, Int.ofNat_inj, ne_eq, gt_iff_lt, ge_iff_le] at hg1
      exact absurd hg1 (by decide)
      --stop
end Go.Proofs.Ytdpiggphcohmmaa.AM
