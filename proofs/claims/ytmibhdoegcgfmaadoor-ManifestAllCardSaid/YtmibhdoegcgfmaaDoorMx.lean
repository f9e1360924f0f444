/- Walks: what the functions compute. -/
import Derived.Test.YtmibhdoegcgfmaaDoorMn
import Derived.Test.YtmibhdoegcgfmaaDoorAmS
namespace Go.Proofs.YtmibhdoegcgfmaaDoor.AM
open Go
set_option linter.unusedSimpArgs false
set_option linter.unusedVariables false
set_option maxRecDepth 4000

/-! ### The law ManifestTwins -/
theorem encM_pos (n f s : Int) (xs : List Int) : 0 < (encM n f s xs).length := by
  unfold encM numsM
  simp only [List.cons_append, List.flatMap_cons, List.length_append]
  have := put_pos n
  omega
theorem encM_bytes {n f s n2 f2 s2 : Int} {xs ys : List Int} (h : MayP n f s xs) (h2 : MayP n2 f2 s2 ys) : decide ((⟨(encM n f s xs).toArray⟩ : ByteArray) = ⟨(encM n2 f2 s2 ys).toArray⟩) = decide (n = n2 ∧ f = f2 ∧ s = s2 ∧ xs = ys) := by
  rw [Bool.eq_iff_iff, decide_eq_true_eq, decide_eq_true_eq, ← encM_inj h h2]
  exact ⟨fun e => bA_inj e, fun e => by rw [e]⟩
theorem law_ManifestTwins {H : SH} {n f s : Int} {h : SV} {xs : List Int} {wh x : Int} (hv : RD H h.toV TI64 xs) (_ : (Lit.int .i64 wh).wf = true) (_ : (Lit.int .i64 x).wf = true) : WFQ F X f_loesslaw24_ManifestTwins [mfV n f s h, .int .i64 wh, .int .i64 x] H (fun v _ => v = .bool true) := by
  refine WFQ_fn F_loesslaw24_ManifestTwins ?_
  refine WQ_seq ?_
  refine WQ_region ?_
  refine WO_step rfl (S_box rfl (by cases h <;> rfl) fun i3 => ?_)
  refine WO_step rfl (S_pure rfl ?_)
  refine WO_nil ?_
  refine QSeq_n ?_
  refine WQ_seq ?_
  refine WQ_region ?_
  refine WO_call rfl rfl rfl ?_
  refine sp_begun.mono ?_
  rintro _ _ ⟨rfl, rfl⟩
  refine WO_step rfl (S_pure rfl ?_)
  refine WO_nil ?_
  refine QSeq_n ?_
  refine WQ_seq ?_
  refine WQ_seq ?_
  refine WQ_region ?_
  refine WO_step rfl (S_pure rfl ?_)
  refine WO_step rfl (S_pure rfl ?_)
  refine WO_nil ?_
  refine QSeq_n ?_
  refine WQ_cond rfl (fun hb1 => ?_) (fun hb1 => ?_)
  ·
    try simp only [decide_eq_true_eq, decide_eq_false_iff_not, Bool.not_eq_true', Bool.not_eq_false', beq_iff_eq, bne_iff_ne, beq_eq_false_iff_ne, Int.ofNat_lt, Int.ofNat_le, Int.ofNat_inj, ne_eq, gt_iff_lt, ge_iff_le] at hb1
    exact absurd hb1 (by simp)
    --stop
  ·
    try simp only [decide_eq_true_eq, decide_eq_false_iff_not, Bool.not_eq_true', Bool.not_eq_false', beq_iff_eq, bne_iff_ne, beq_eq_false_iff_ne, Int.ofNat_lt, Int.ofNat_le, Int.ofNat_inj, ne_eq, gt_iff_lt, ge_iff_le] at hb1
    refine WQ_skip ?_
    refine QSeq_n ?_
    refine WQ_seq ?_
    refine WQ_seq ?_
    refine WQ_region ?_
    refine WO_step rfl (S_pure rfl ?_)
    refine WO_step rfl (S_loadO rfl (by repeat (first | exact Pick.head | apply Pick.tail)) (by rfl) (by rfl) ?_)
    first | refine WO_step rfl (S_pure rfl ?_) | refine WO_step rfl (S_lenS rfl (by repeat (first | assumption | exact RD.head | exact RD.nil | apply RD.tail)) ?_)
    refine WO_step rfl (S_pure rfl ?_)
    refine WO_step rfl (S_pure rfl ?_)
    refine WO_cases (t := 18) rfl (fun hg1 => ?_) (fun hg1 => ?_)
    ·
      try simp only [decide_eq_true_eq, decide_eq_false_iff_not, Bool.not_eq_true', Bool.not_eq_false', beq_iff_eq, bne_iff_ne, beq_eq_false_iff_ne, Int.ofNat_lt, Int.ofNat_le, Int.ofNat_inj, ne_eq, gt_iff_lt, ge_iff_le] at hg1
      refine WO_off rfl ?_
      refine WO_off rfl ?_
      refine WO_off rfl ?_
      refine WO_step rfl (S_pure rfl ?_)
      refine WO_nil ?_
      refine QSeq_n ?_
      refine WQ_cond rfl (fun _ => ?_) (fun h => ?_)
      rotate_left
      · exact absurd h (by decide)
      refine WQ_seq ?_
      refine WQ_region ?_
      refine WO_step rfl (S_pure rfl ?_)
      refine WO_nil ?_
      refine QSeq_n ?_
      refine WQ_ret ?_
      refine QSeq_r ?_
      refine KFn_r (ResL.tmp rfl ResL.nil) ?_
      exact ⟨_, HSub.refl, rfl⟩
    ·
      try simp only [decide_eq_true_eq, decide_eq_false_iff_not, Bool.not_eq_true', Bool.not_eq_false', beq_iff_eq, bne_iff_ne, beq_eq_false_iff_ne, Int.ofNat_lt, Int.ofNat_le, Int.ofNat_inj, ne_eq, gt_iff_lt, ge_iff_le] at hg1
      refine WO_step rfl (S_loadO rfl (by repeat (first | exact Pick.head | apply Pick.tail)) (by rfl) (by rfl) ?_)
      refine WO_call rfl rfl rfl ?_
      refine (sp_MayM (by repeat (first | assumption | exact RD.head | exact RD.nil | apply RD.tail)) (by omega)).mono ?_
      rintro _ _ ⟨rfl, b20, rfl, hb20⟩
      refine WO_step rfl (S_pure rfl ?_)
      refine WO_step rfl (S_pure rfl ?_)
      refine WO_nil ?_
      refine QSeq_n ?_
      refine WQ_cond rfl (fun hb2 => ?_) (fun hb2 => ?_)
      ·
        try simp only [decide_eq_true_eq, decide_eq_false_iff_not, Bool.not_eq_true', Bool.not_eq_false', beq_iff_eq, bne_iff_ne, beq_eq_false_iff_ne, Int.ofNat_lt, Int.ofNat_le, Int.ofNat_inj, ne_eq, gt_iff_lt, ge_iff_le] at hb2
        refine WQ_seq ?_
        refine WQ_region ?_
        refine WO_step rfl (S_pure rfl ?_)
        refine WO_nil ?_
        refine QSeq_n ?_
        refine WQ_ret ?_
        refine QSeq_r ?_
        refine KFn_r (ResL.tmp rfl ResL.nil) ?_
        exact ⟨_, HSub.refl, rfl⟩
      ·
        try simp only [decide_eq_true_eq, decide_eq_false_iff_not, Bool.not_eq_true', Bool.not_eq_false', beq_iff_eq, bne_iff_ne, beq_eq_false_iff_ne, Int.ofNat_lt, Int.ofNat_le, Int.ofNat_inj, ne_eq, gt_iff_lt, ge_iff_le] at hb2
        have hx3 : xs.length ≤ 3 := by omega
        have hM : MayP n f s xs := hb20.1 (by simpa using hb2)
        refine WQ_skip ?_
        refine QSeq_n ?_
        refine WQ_seq ?_
        refine WQ_post (P := fun x' l' H' => ∃ i8 w, x' = .normal ∧ l' = [(1, .int .i64 wh), (2, .int .i64 x), (3, .pointer (some ⟨i3, 0, none⟩)), (8, .pointer (some ⟨i8, 0, none⟩))] ∧ H' = MO i8 24 n f s w :: SL w.toV TI64 xs :: MO i3 24 n f s h :: H) ?_ ?_
        ·
          refine WQ_many ?_
          refine WTq_step ⟨rfl, rfl⟩ (S_pure rfl ?_)
          refine WTr_step ⟨rfl, rfl⟩ (S_loadO rfl (by repeat (first | exact Pick.head | apply Pick.tail)) (by rfl) (by rfl) ?_)
          refine WTq_step ⟨rfl, rfl⟩ (S_pure rfl ?_)
          refine WTr_step ⟨rfl, rfl⟩ (S_loadO rfl (by repeat (first | exact Pick.head | apply Pick.tail)) (by rfl) (by rfl) ?_)
          refine WTq_step ⟨rfl, rfl⟩ (S_pure rfl ?_)
          refine WTr_step ⟨rfl, rfl⟩ (S_loadO rfl (by repeat (first | exact Pick.head | apply Pick.tail)) (by rfl) (by rfl) ?_)
          refine WTq_step ⟨rfl, rfl⟩ (S_pure rfl ?_)
          refine WTr_step ⟨rfl, rfl⟩ (S_loadO rfl (by repeat (first | exact Pick.head | apply Pick.tail)) (by rfl) (by rfl) ?_)
          refine WT_alt ?_ ?_
          ·
            refine WTm_step ⟨rfl, rfl⟩ (S_appN rfl rfl (by first | exact SRC.str rfl rfl | (apply RD.src; repeat (first | assumption | exact RD.head | exact RD.nil | apply RD.tail))) (by rfl) (by rfl) (by (try simp only [List.length_append, List.length_cons, List.length_nil]); omega) fun w31 => ?_)
            refine And.intro ?_ ?_
            ·
              exact (by repeat (first | exact obT_nil | refine obT_skip rfl ?_ | refine obT_ob (ObR.of_step rfl (S_loadO rfl (by repeat (first | exact Pick.head | apply Pick.tail)) (by rfl) (by rfl) (by first | rfl | (cases h <;> simp [eqV, eqVs, eqV0, SV.toV])))) ?_))
            ·
              refine WTq_step ⟨rfl, rfl⟩ (S_pureE (v := mfV n f s w31) (by cases w31 <;> rfl) rfl ?_)
              refine WTm_step ⟨rfl, rfl⟩ (S_new fun i8 => ?_)
              refine And.intro ?_ ?_
              ·
                exact (by repeat (first | exact obT_nil | refine obT_skip rfl ?_ | refine obT_ob (ObR.of_step rfl (S_loadO rfl (by repeat (first | exact Pick.head | apply Pick.tail)) (by rfl) (by rfl) (by first | rfl | (cases h <;> simp [eqV, eqVs, eqV0, SV.toV])))) ?_))
              ·
                refine WTm_step ⟨rfl, rfl⟩ (S_storeM rfl rfl (by repeat (first | exact Pick.head | apply Pick.tail)) (by rfl) ?_)
                refine And.intro ?_ ?_
                ·
                  exact (by repeat (first | exact obT_nil | refine obT_skip rfl ?_ | refine obT_ob (ObR.of_step rfl (S_loadO rfl (by repeat (first | exact Pick.head | apply Pick.tail)) (by rfl) (by rfl) (by first | rfl | (cases h <;> simp [eqV, eqVs, eqV0, SV.toV])))) ?_))
                ·
                  refine WT_leaf ?_
                  exact KPost_i (by repeat (first | exact SubE.nil | apply SubE.cons rfl)) (by repeat (first | exact HSub.refl | refine HSub.pick (by repeat (first | exact Pick.head | apply Pick.tail)) ?_ | apply HSub.drop)) ⟨i8, w31, rfl, rfl, rfl⟩
          ·
            refine WTm_step ⟨rfl, rfl⟩ (S_new fun i8 => ?_)
            refine And.intro ?_ ?_
            ·
              exact (by repeat (first | exact obT_nil | refine obT_skip rfl ?_ | refine obT_ob (ObR.of_step rfl (S_loadO rfl (by repeat (first | exact Pick.head | apply Pick.tail)) (by rfl) (by rfl) (by first | rfl | (cases h <;> simp [eqV, eqVs, eqV0, SV.toV])))) ?_))
            ·
              refine WTm_step ⟨rfl, rfl⟩ (S_appN rfl rfl (by first | exact SRC.str rfl rfl | (apply RD.src; repeat (first | assumption | exact RD.head | exact RD.nil | apply RD.tail))) (by rfl) (by rfl) (by (try simp only [List.length_append, List.length_cons, List.length_nil]); omega) fun w31 => ?_)
              refine And.intro ?_ ?_
              ·
                exact (by repeat (first | exact obT_nil | refine obT_skip rfl ?_ | refine obT_ob (ObR.of_step rfl (S_loadO rfl (by repeat (first | exact Pick.head | apply Pick.tail)) (by rfl) (by rfl) (by first | rfl | (cases h <;> simp [eqV, eqVs, eqV0, SV.toV])))) ?_))
              ·
                refine WTq_step ⟨rfl, rfl⟩ (S_pureE (v := mfV n f s w31) (by cases w31 <;> rfl) rfl ?_)
                refine WTm_step ⟨rfl, rfl⟩ (S_storeM rfl rfl (by repeat (first | exact Pick.head | apply Pick.tail)) (by rfl) ?_)
                refine And.intro ?_ ?_
                ·
                  exact (by repeat (first | exact obT_nil | refine obT_skip rfl ?_ | refine obT_ob (ObR.of_step rfl (S_loadO rfl (by repeat (first | exact Pick.head | apply Pick.tail)) (by rfl) (by rfl) (by first | rfl | (cases h <;> simp [eqV, eqVs, eqV0, SV.toV])))) ?_))
                ·
                  refine WT_leaf ?_
                  exact KPost_i (by repeat (first | exact SubE.nil | apply SubE.cons rfl)) (by repeat (first | exact HSub.refl | refine HSub.pick (by repeat (first | exact Pick.head | apply Pick.tail)) ?_ | apply HSub.drop)) ⟨i8, w31, rfl, rfl, rfl⟩
        ·
          rintro x' l' H' ⟨i8, w, rfl, rfl, rfl⟩
          refine QSeq_n ?_
          refine WQ_seq ?_
          refine WQ_post (P := fun x' l' H' => ∃ (n' f' s' : Int) (ys : List Int), x' = .normal ∧ l' = [(3, .pointer (some ⟨i3, 0, none⟩)), (8, .pointer (some ⟨i8, 0, none⟩))] ∧ ys.length ≤ 3 ∧ H' = MO i8 24 n' f' s' w :: SL w.toV TI64 ys :: MO i3 24 n f s h :: H) ?_ ?_
          ·
            refine WQ_seq ?_
            refine WQ_region ?_
            refine WO_step rfl (S_pure rfl ?_)
            refine WO_step rfl (S_pure rfl ?_)
            refine WO_nil ?_
            refine QSeq_n ?_
            refine WQ_block ?_
            refine WQ_seq ?_
            refine WQ_region ?_
            first | refine WO_step rfl (S_eqS rfl rfl ?_) | refine WO_step rfl (S_pure rfl ?_)
            refine WO_step rfl (S_pure rfl ?_)
            refine WO_nil ?_
            refine QSeq_n ?_
            refine WQ_cond rfl (fun hb3 => ?_) (fun hb3 => ?_)
            ·
              try simp only [decide_eq_true_eq, decide_eq_false_iff_not, Bool.not_eq_true', Bool.not_eq_false', beq_iff_eq, bne_iff_ne, beq_eq_false_iff_ne, Int.ofNat_lt, Int.ofNat_le, Int.ofNat_inj, ne_eq, gt_iff_lt, ge_iff_le] at hb3
              refine WQ_region ?_
              refine WO_step rfl (S_pure rfl ?_)
              refine WO_step rfl (S_loadO rfl (by repeat (first | exact Pick.head | apply Pick.tail)) (by rfl) (by rfl) ?_)
              refine WO_step rfl (S_pure rfl ?_)
              refine WO_step rfl (S_pure rfl ?_)
              first | refine WO_step rfl (S_addN rfl rfl (by omega) ?_) | refine WO_step rfl (S_pure rfl ?_)
              refine WO_step rfl (S_pure rfl ?_)
              refine WO_step rfl (S_storeO rfl rfl (by repeat (first | exact Pick.head | apply Pick.tail)) (by first | rfl | exact SV.cells1 _) (by rfl) (by first | rfl | exact SV.ones _) ?_)
              refine WO_nil ?_
              refine KBlock_n ?_
              exact KPost_i (by repeat (first | exact SubE.nil | apply SubE.cons rfl)) (by repeat (first | exact HSub.refl | refine HSub.pick (by repeat (first | exact Pick.head | apply Pick.tail)) ?_ | apply HSub.drop)) ⟨_, f, s, xs, rfl, rfl, hx3, rfl⟩
            ·
              try simp only [decide_eq_true_eq, decide_eq_false_iff_not, Bool.not_eq_true', Bool.not_eq_false', beq_iff_eq, bne_iff_ne, beq_eq_false_iff_ne, Int.ofNat_lt, Int.ofNat_le, Int.ofNat_inj, ne_eq, gt_iff_lt, ge_iff_le] at hb3
              refine WQ_seq ?_
              refine WQ_region ?_
              first | refine WO_step rfl (S_eqS rfl rfl ?_) | refine WO_step rfl (S_pure rfl ?_)
              refine WO_step rfl (S_pure rfl ?_)
              refine WO_nil ?_
              refine QSeq_n ?_
              refine WQ_cond rfl (fun hb4 => ?_) (fun hb4 => ?_)
              ·
                try simp only [decide_eq_true_eq, decide_eq_false_iff_not, Bool.not_eq_true', Bool.not_eq_false', beq_iff_eq, bne_iff_ne, beq_eq_false_iff_ne, Int.ofNat_lt, Int.ofNat_le, Int.ofNat_inj, ne_eq, gt_iff_lt, ge_iff_le] at hb4
                refine WQ_region ?_
                refine WO_step rfl (S_pure rfl ?_)
                refine WO_step rfl (S_pure rfl ?_)
                refine WO_step rfl (S_pure rfl ?_)
                refine WO_step rfl (S_storeO rfl rfl (by repeat (first | exact Pick.head | apply Pick.tail)) (by first | rfl | exact SV.cells1 _) (by rfl) (by first | rfl | exact SV.ones _) ?_)
                refine WO_nil ?_
                refine KBlock_n ?_
                exact KPost_i (by repeat (first | exact SubE.nil | apply SubE.cons rfl)) (by repeat (first | exact HSub.refl | refine HSub.pick (by repeat (first | exact Pick.head | apply Pick.tail)) ?_ | apply HSub.drop)) ⟨n, _, s, xs, rfl, rfl, hx3, rfl⟩
              ·
                try simp only [decide_eq_true_eq, decide_eq_false_iff_not, Bool.not_eq_true', Bool.not_eq_false', beq_iff_eq, bne_iff_ne, beq_eq_false_iff_ne, Int.ofNat_lt, Int.ofNat_le, Int.ofNat_inj, ne_eq, gt_iff_lt, ge_iff_le] at hb4
                refine WQ_seq ?_
                refine WQ_region ?_
                first | refine WO_step rfl (S_eqS rfl rfl ?_) | refine WO_step rfl (S_pure rfl ?_)
                refine WO_step rfl (S_pure rfl ?_)
                refine WO_nil ?_
                refine QSeq_n ?_
                refine WQ_cond rfl (fun hb5 => ?_) (fun hb5 => ?_)
                ·
                  try simp only [decide_eq_true_eq, decide_eq_false_iff_not, Bool.not_eq_true', Bool.not_eq_false', beq_iff_eq, bne_iff_ne, beq_eq_false_iff_ne, Int.ofNat_lt, Int.ofNat_le, Int.ofNat_inj, ne_eq, gt_iff_lt, ge_iff_le] at hb5
                  refine WQ_region ?_
                  refine WO_step rfl (S_pure rfl ?_)
                  refine WO_step rfl (S_pure rfl ?_)
                  refine WO_step rfl (S_pure rfl ?_)
                  refine WO_step rfl (S_storeO rfl rfl (by repeat (first | exact Pick.head | apply Pick.tail)) (by first | rfl | exact SV.cells1 _) (by rfl) (by first | rfl | exact SV.ones _) ?_)
                  refine WO_nil ?_
                  refine KBlock_n ?_
                  exact KPost_i (by repeat (first | exact SubE.nil | apply SubE.cons rfl)) (by repeat (first | exact HSub.refl | refine HSub.pick (by repeat (first | exact Pick.head | apply Pick.tail)) ?_ | apply HSub.drop)) ⟨n, f, _, xs, rfl, rfl, hx3, rfl⟩
                ·
                  try simp only [decide_eq_true_eq, decide_eq_false_iff_not, Bool.not_eq_true', Bool.not_eq_false', beq_iff_eq, bne_iff_ne, beq_eq_false_iff_ne, Int.ofNat_lt, Int.ofNat_le, Int.ofNat_inj, ne_eq, gt_iff_lt, ge_iff_le] at hb5
                  refine WQ_seq ?_
                  refine WQ_region ?_
                  refine WO_step rfl (S_pure rfl ?_)
                  refine WO_step rfl (S_loadO rfl (by repeat (first | exact Pick.head | apply Pick.tail)) (by rfl) (by rfl) ?_)
                  first | refine WO_step rfl (S_pure rfl ?_) | refine WO_step rfl (S_lenS rfl (by repeat (first | assumption | exact RD.head | exact RD.nil | apply RD.tail)) ?_)
                  refine WO_step rfl (S_pure rfl ?_)
                  refine WO_nil ?_
                  refine QSeq_n ?_
                  refine WQ_cond rfl (fun hb6 => ?_) (fun hb6 => ?_)
                  ·
                    try simp only [decide_eq_true_eq, decide_eq_false_iff_not, Bool.not_eq_true', Bool.not_eq_false', beq_iff_eq, bne_iff_ne, beq_eq_false_iff_ne, Int.ofNat_lt, Int.ofNat_le, Int.ofNat_inj, ne_eq, gt_iff_lt, ge_iff_le] at hb6
                    refine WQ_region ?_
                    refine WO_step rfl (S_pure rfl ?_)
                    refine WO_step rfl (S_loadO rfl (by repeat (first | exact Pick.head | apply Pick.tail)) (by rfl) (by rfl) ?_)
                    refine WO_step rfl (S_pure rfl ?_)
                    refine WO_step rfl (S_pure rfl ?_)
                    refine WO_step rfl (S_idx (j := 0) rfl rfl (by repeat (first | assumption | exact RD.head | exact RD.nil | apply RD.tail)) (by first | rfl | assumption | (symm; assumption)) (by rfl) (by first | assumption | omega | exact lt_of_get (by assumption) | (simp only [List.length_set]; first | assumption | omega | exact lt_of_get (by assumption))) fun hp43 => ?_)
                    refine WO_step rfl (S_storeW rfl rfl (by repeat (first | exact Pick.head | apply Pick.tail)) (by first | rfl | assumption | (symm; assumption)) (by rfl) (by first | rfl | assumption | (symm; assumption)) (by first | assumption | omega | exact lt_of_get (by assumption) | (simp only [List.length_set]; first | assumption | omega | exact lt_of_get (by assumption))) ?_)
                    refine WO_nil ?_
                    refine KBlock_n ?_
                    exact KPost_i (by repeat (first | exact SubE.nil | apply SubE.cons rfl)) (by repeat (first | exact HSub.refl | refine HSub.pick (by repeat (first | exact Pick.head | apply Pick.tail)) ?_ | apply HSub.drop)) ⟨n, f, s, _, rfl, rfl, by rw [List.length_set]; exact hx3, rfl⟩
                  ·
                    try simp only [decide_eq_true_eq, decide_eq_false_iff_not, Bool.not_eq_true', Bool.not_eq_false', beq_iff_eq, bne_iff_ne, beq_eq_false_iff_ne, Int.ofNat_lt, Int.ofNat_le, Int.ofNat_inj, ne_eq, gt_iff_lt, ge_iff_le] at hb6
                    refine WQ_skip ?_
                    refine KBlock_n ?_
                    exact KPost_i (by repeat (first | exact SubE.nil | apply SubE.cons rfl)) (by repeat (first | exact HSub.refl | refine HSub.pick (by repeat (first | exact Pick.head | apply Pick.tail)) ?_ | apply HSub.drop)) ⟨n, f, s, xs, rfl, rfl, hx3, rfl⟩
          ·
            rintro x' l' H' ⟨n', f', s', ys, rfl, rfl, hyl, rfl⟩
            refine QSeq_n ?_
            refine WQ_seq ?_
            refine WQ_drawn ?_
            refine WD_step rfl (S_loadM rfl (by repeat (first | exact Pick.head | apply Pick.tail)) ?_)
            refine WD_call rfl rfl rfl ?_
            refine sp_Of.mono ?_
            rintro _ _ ⟨rfl, rfl⟩
            refine WD_call rfl rfl rfl ?_
            refine (sp_Enc (by repeat (first | assumption | exact RD.head | exact RD.nil | apply RD.tail)) (by omega)).mono ?_
            rintro _ _ ⟨b64, w64, hb64, hw64, rfl, rfl⟩
            refine WD_step rfl (S_loadM rfl (by repeat (first | exact Pick.head | apply Pick.tail)) ?_)
            refine WD_call rfl rfl rfl ?_
            refine sp_Of.mono ?_
            rintro _ _ ⟨rfl, rfl⟩
            refine WD_call rfl rfl rfl ?_
            refine (sp_Enc (by repeat (first | assumption | exact RD.head | exact RD.nil | apply RD.tail)) (by omega)).mono ?_
            rintro _ _ ⟨b67, w67, hb67, hw67, rfl, rfl⟩
            refine WD_step rfl (S_pure rfl ?_)
            refine WD_step rfl (S_pure rfl ?_)
            refine WD_nil ?_
            refine ⟨?_, ?_⟩
            ·
              exact ⟨ObR.of_step rfl (S_loadM rfl (by repeat (first | exact Pick.head | apply Pick.tail)) (by cases w <;> simp [eqV, eqVs, eqV0, SV.toV])), ObR.of_step rfl (S_loadM rfl (by repeat (first | exact Pick.head | apply Pick.tail)) (by cases w <;> simp [eqV, eqVs, eqV0, SV.toV])), trivial⟩
            ·
              refine QSeq_n ?_
              refine WQ_seq ?_
              refine WQ_seq ?_
              refine WQ_region ?_
              refine WO_step rfl (S_loadM rfl (by repeat (first | exact Pick.head | apply Pick.tail)) ?_)
              refine WO_call rfl rfl rfl ?_
              refine (sp_MayM (by repeat (first | assumption | exact RD.head | exact RD.nil | apply RD.tail)) (by omega)).mono ?_
              rintro _ _ ⟨rfl, b69, rfl, hb69⟩
              refine WO_step rfl (S_pure rfl ?_)
              refine WO_nil ?_
              refine QSeq_n ?_
              refine WQ_cond rfl (fun hb7 => ?_) (fun hb7 => ?_)
              ·
                try simp only [decide_eq_true_eq, decide_eq_false_iff_not, Bool.not_eq_true', Bool.not_eq_false', beq_iff_eq, bne_iff_ne, beq_eq_false_iff_ne, Int.ofNat_lt, Int.ofNat_le, Int.ofNat_inj, ne_eq, gt_iff_lt, ge_iff_le] at hb7
                refine WQ_seq ?_
                refine WQ_region ?_
                refine WO_step rfl (S_pure rfl ?_)
                first | refine WO_step rfl (S_pure rfl ?_) | refine WO_step rfl (S_lenS rfl (by repeat (first | assumption | exact RD.head | exact RD.nil | apply RD.tail)) ?_)
                first | refine WO_step rfl (S_eqS rfl rfl ?_) | refine WO_step rfl (S_pure rfl ?_)
                refine WO_step rfl (S_pure rfl ?_)
                refine WO_cases (t := 74) rfl (fun hg2 => ?_) (fun hg2 => ?_)
                ·
                  try simp only [decide_eq_true_eq, decide_eq_false_iff_not, Bool.not_eq_true', Bool.not_eq_false', beq_iff_eq, bne_iff_ne, beq_eq_false_iff_ne, Int.ofNat_lt, Int.ofNat_le, Int.ofNat_inj, ne_eq, gt_iff_lt, ge_iff_le] at hg2
                  refine WO_step rfl (S_pure rfl ?_)
                  first | refine WO_step rfl (S_pure rfl ?_) | refine WO_step rfl (S_lenS rfl (by repeat (first | assumption | exact RD.head | exact RD.nil | apply RD.tail)) ?_)
                  refine WO_step rfl (S_pure rfl ?_)
                  refine WO_step rfl (S_pure rfl ?_)
                  refine WO_step rfl (S_pure rfl ?_)
                  refine WO_nil ?_
                  refine QSeq_n ?_
                  refine WQ_ret ?_
                  refine QSeq_r ?_
                  refine KFn_r (ResL.tmp rfl ResL.nil) ?_
                  have hbf : b69 = false := by simpa using hb7
                  refine ⟨_, HSub.refl, ?_⟩
                  have h64 : b64 = true := hb64.2 hM
                  have := encM_pos n f s xs
                  simp [resV, h64]
                  omega
                ·
                  try simp only [decide_eq_true_eq, decide_eq_false_iff_not, Bool.not_eq_true', Bool.not_eq_false', beq_iff_eq, bne_iff_ne, beq_eq_false_iff_ne, Int.ofNat_lt, Int.ofNat_le, Int.ofNat_inj, ne_eq, gt_iff_lt, ge_iff_le] at hg2
                  refine WO_off rfl ?_
                  refine WO_off rfl ?_
                  refine WO_off rfl ?_
                  refine WO_step rfl (S_pure rfl ?_)
                  refine WO_step rfl (S_pure rfl ?_)
                  refine WO_nil ?_
                  refine QSeq_n ?_
                  refine WQ_ret ?_
                  refine QSeq_r ?_
                  refine KFn_r (ResL.tmp rfl ResL.nil) ?_
                  exfalso
                  have hbf : b69 = false := by simpa using hb7
                  have h67 : b67 = false := by
                    cases hq : b67 with
                    | false => rfl
                    | true => rw [hb69.2 (hb67.1 hq)] at hbf; cases hbf
                  rw [h67] at hg2
                  simp at hg2
              ·
                try simp only [decide_eq_true_eq, decide_eq_false_iff_not, Bool.not_eq_true', Bool.not_eq_false', beq_iff_eq, bne_iff_ne, beq_eq_false_iff_ne, Int.ofNat_lt, Int.ofNat_le, Int.ofNat_inj, ne_eq, gt_iff_lt, ge_iff_le] at hb7
                have hbt : b69 = true := by simpa using hb7
                have hM2 : MayP n' f' s' ys := hb69.1 hbt
                obtain ⟨kf, ks, kx, knd, kl⟩ := may_ok hM2
                have h64 : b64 = true := hb64.2 hM
                have h67 : b67 = true := hb67.2 hM2
                refine WQ_skip ?_
                refine QSeq_n ?_
                refine WQ_seq ?_
                refine WQ_drawn ?_
                refine WD_step rfl (S_pure rfl ?_)
                refine WD_step rfl (S_strOf rfl (by repeat (first | assumption | exact RD.head | exact RD.nil | apply RD.tail)) (by rfl) (by rfl) ?_)
                refine WD_step rfl (S_pure rfl ?_)
                refine WD_step rfl (S_strOf rfl (by repeat (first | assumption | exact RD.head | exact RD.nil | apply RD.tail)) (by rfl) (by rfl) ?_)
                first | refine WD_step rfl (S_eqS rfl rfl ?_) | refine WD_step rfl (S_pure rfl ?_)
                refine WD_step rfl (S_loadM rfl (by repeat (first | exact Pick.head | apply Pick.tail)) ?_)
                refine WD_step rfl (S_loadM rfl (by repeat (first | exact Pick.head | apply Pick.tail)) ?_)
                refine WD_call rfl rfl rfl ?_
                refine (sp_eqM (by repeat (first | assumption | exact RD.head | exact RD.nil | apply RD.tail)) (by repeat (first | assumption | exact RD.head | exact RD.nil | apply RD.tail)) (by omega)).mono ?_
                rintro _ _ ⟨rfl, b86, rfl, hb86⟩
                refine WD_step rfl (S_pure rfl ?_)
                refine WD_step rfl (S_pure rfl ?_)
                refine WD_cases (t := 88) rfl (fun hg3 => ?_) (fun hg3 => ?_)
                ·
                  try simp only [decide_eq_true_eq, decide_eq_false_iff_not, Bool.not_eq_true', Bool.not_eq_false', beq_iff_eq, bne_iff_ne, beq_eq_false_iff_ne, Int.ofNat_lt, Int.ofNat_le, Int.ofNat_inj, ne_eq, gt_iff_lt, ge_iff_le] at hg3
                  refine WD_step rfl (S_loadM rfl (by repeat (first | exact Pick.head | apply Pick.tail)) ?_)
                  refine WD_call rfl rfl rfl ?_
                  refine sp_Of.mono ?_
                  rintro _ _ ⟨rfl, rfl⟩
                  refine WD_call rfl rfl rfl ?_
                  refine (sp_Names (xs := ys) (by repeat (first | assumption | exact RD.head | exact RD.nil | apply RD.tail)) kf ks kx (by omega)).mono ?_
                  rintro _ _ ⟨w91, L1, rfl, rfl, ho1, hp1⟩
                  first | refine WD_step rfl (S_pure rfl ?_) | refine WD_step rfl (S_lenS rfl (by repeat (first | assumption | exact RD.head | exact RD.nil | apply RD.tail)) ?_)
                  refine WD_step rfl (S_loadM rfl (by repeat (first | exact Pick.head | apply Pick.tail)) ?_)
                  refine WD_call rfl rfl rfl ?_
                  refine (sp_names (xs := ys) (by repeat (first | assumption | exact RD.head | exact RD.nil | apply RD.tail)) kf ks kx (by omega)).mono ?_
                  rintro _ _ ⟨w94, L2, rfl, rfl, ho2, hp2⟩
                  first | refine WD_step rfl (S_pure rfl ?_) | refine WD_step rfl (S_lenS rfl (by repeat (first | assumption | exact RD.head | exact RD.nil | apply RD.tail)) ?_)
                  first | refine WD_step rfl (S_eqS rfl rfl ?_) | refine WD_step rfl (S_pure rfl ?_)
                  refine WD_step rfl (S_pure rfl ?_)
                  refine WD_step rfl (S_pure rfl ?_)
                  refine WD_nil ?_
                  refine ⟨?_, ?_⟩
                  ·
                    refine ⟨?_, ?_, ?_, ?_, trivial⟩ <;> first | exact ObR.off rfl | exact ObR.of_step rfl (S_strOf rfl (by repeat (first | assumption | exact RD.head | exact RD.nil | apply RD.tail)) (by rfl) (by rfl) (by simp [eqV, eqV0])) | exact ObR.of_step rfl (S_loadM rfl (by repeat (first | exact Pick.head | apply Pick.tail)) (by cases w <;> simp [eqV, eqVs, eqV0, SV.toV]))
                  ·
                    refine QSeq_n ?_
                    refine WQ_ret ?_
                    refine KFn_r (ResL.tmp rfl ResL.nil) ?_
                    refine ⟨_, HSub.refl, ?_⟩
                    have e : L1.length = L2.length := by rw [hp1.length_eq, hp2.length_eq]
                    simp [resV, e]
                ·
                  try simp only [decide_eq_true_eq, decide_eq_false_iff_not, Bool.not_eq_true', Bool.not_eq_false', beq_iff_eq, bne_iff_ne, beq_eq_false_iff_ne, Int.ofNat_lt, Int.ofNat_le, Int.ofNat_inj, ne_eq, gt_iff_lt, ge_iff_le] at hg3
                  refine WD_off rfl ?_
                  refine WD_off rfl ?_
                  refine WD_off rfl ?_
                  refine WD_off rfl ?_
                  refine WD_off rfl ?_
                  refine WD_off rfl ?_
                  refine WD_off rfl ?_
                  refine WD_off rfl ?_
                  refine WD_step rfl (S_pure rfl ?_)
                  refine WD_step rfl (S_pure rfl ?_)
                  refine WD_nil ?_
                  refine ⟨?_, ?_⟩
                  ·
                    refine ⟨?_, ?_, ?_, ?_, trivial⟩ <;> first | exact ObR.off rfl | exact ObR.of_step rfl (S_strOf rfl (by repeat (first | assumption | exact RD.head | exact RD.nil | apply RD.tail)) (by rfl) (by rfl) (by simp [eqV, eqV0])) | exact ObR.of_step rfl (S_loadM rfl (by repeat (first | exact Pick.head | apply Pick.tail)) (by cases w <;> simp [eqV, eqVs, eqV0, SV.toV]))
                  ·
                    refine QSeq_n ?_
                    refine WQ_ret ?_
                    refine KFn_r (ResL.tmp rfl ResL.nil) ?_
                    exfalso
                    revert hg3
                    rw [h64, h67]
                    simp only [if_true]
                    rw [encM_bytes hM hM2]
                    have e : b86 = decide (n = n' ∧ f = f' ∧ s = s' ∧ xs = ys) := by
                      rw [Bool.eq_iff_iff, hb86, decide_eq_true_eq]
                    rw [e]
                    simp
end Go.Proofs.YtmibhdoegcgfmaaDoor.AM
