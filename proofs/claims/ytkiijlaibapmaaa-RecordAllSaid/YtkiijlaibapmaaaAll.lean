/- Walks: what the functions compute. -/
import Derived.Test.YtkiijlaibapmaaaMany
namespace Go.Proofs.Ytkiijlaibapmaaa.AM
open Go
set_option linter.unusedSimpArgs false
set_option linter.unusedVariables false
set_option maxRecDepth 4000

/-! ### RecordAll -/
theorem ba_app (X Y : List UInt8) : (ByteArray.mk X.toArray) ++ (ByteArray.mk Y.toArray) = ⟨(X ++ Y).toArray⟩ := by
  apply ba_ext; simp
theorem S_addS {l : SE} {H : SH} {K : Value → SH → Prop} {x y : Opd} {X Y : List UInt8} (hx : x.lv l = some (.string ⟨X.toArray⟩)) (hy : y.lv l = some (.string ⟨Y.toArray⟩)) (hb : X.length + Y.length ≤ 1000000) (k : K (.string ⟨(X ++ Y).toArray⟩) H) : Step (.bin .add x y) l H K :=
  S_pureE (v := .string ((ByteArray.mk X.toArray) ++ (ByteArray.mk Y.toArray))) (by
    simp only [pev, hx, hy, binV, strBin]
    rw [if_pos]
    show X.toArray.size + Y.toArray.size ≤ _
    simp; omega) (by rw [ba_app]) k
theorem ba_eq (X Y : List UInt8) : (ByteArray.mk X.toArray = ⟨Y.toArray⟩) ↔ X = Y := by simp
theorem walk_RecordAll {H : SH} {v3 v4 : Value} {al cl : List UInt8} {a b : Rec} (hok : okRec a) (hok2 : okRec b) (hv3 : RD H v3 TByte al) (_ : ∀ x ∈ al, True) (hv4 : RD H v4 TByte cl) (_ : ∀ x ∈ cl, True) : WF F X f_loesslaw10_RecordAll [TRec.val a, TRec.val b, v3, v4] H (fun v _ => v = .bool true) := by
  have hwR := wf_cut hok
  have hwQ := wf_cut hok2
  generalize hR : cutRec a = R at *
  generalize hQ : cutRec b = Q at *
  have hRl := putRec_len hwR
  have hQl := putRec_len hwQ
  have hAl : (al.take 10).length ≤ 10 := by simp; omega
  have hCl : (cl.take 10).length ≤ 10 := by simp; omega
  refine WF_fn F_loesslaw10_RecordAll ?_
  refine WC_seq ?_
  refine WC_region ?_
  refine WO_step rfl (S_box rfl rfl fun i4 => ?_)
  refine WO_step rfl (S_box rfl rfl fun i5 => ?_)
  refine WO_step rfl (S_pure rfl ?_)
  refine WO_nil ?_
  refine KSeq_n ?_
  refine WC_seq ?_
  refine WC_region ?_
  refine WO_call rfl rfl rfl ?_
  refine sp_begun.mono ?_
  rintro _ _ ⟨rfl, rfl⟩
  refine WO_step rfl (S_pure rfl ?_)
  refine WO_nil ?_
  refine KSeq_n ?_
  refine WC_seq ?_
  refine WC_seq ?_
  refine WC_region ?_
  refine WO_step rfl (S_pure rfl ?_)
  refine WO_step rfl (S_pure rfl ?_)
  refine WO_nil ?_
  refine KSeq_n ?_
  refine WC_cond rfl (fun hb1 => ?_) (fun hb1 => ?_)
  ·
    try simp only [decide_eq_true_eq, decide_eq_false_iff_not, Bool.not_eq_true', Bool.not_eq_false', beq_iff_eq, bne_iff_ne, beq_eq_false_iff_ne, Int.ofNat_lt, Int.ofNat_le, Int.ofNat_inj, ne_eq, gt_iff_lt, ge_iff_le] at hb1
    exact absurd hb1 (by decide)
    --stop
  ·
    try simp only [decide_eq_true_eq, decide_eq_false_iff_not, Bool.not_eq_true', Bool.not_eq_false', beq_iff_eq, bne_iff_ne, beq_eq_false_iff_ne, Int.ofNat_lt, Int.ofNat_le, Int.ofNat_inj, ne_eq, gt_iff_lt, ge_iff_le] at hb1
    refine WC_skip ?_
    refine KSeq_n ?_
    refine WC_seq ?_
    refine WC_drawn ?_
    first | refine WD_step rfl (S_loadT rfl (by repeat (first | exact Pick.head | apply Pick.tail)) (by rfl) (by rfl) ?_) | refine WD_step rfl (S_loadO rfl (by repeat (first | exact Pick.head | apply Pick.tail)) (by rfl) (by rfl) ?_)
    refine WD_call rfl rfl rfl ?_
    refine sp_Cut10.mono ?_
    rw [hR]
    rintro _ _ ⟨rfl, rfl⟩
    first | refine WD_step rfl (S_loadT rfl (by repeat (first | exact Pick.head | apply Pick.tail)) (by rfl) (by rfl) ?_) | refine WD_step rfl (S_loadO rfl (by repeat (first | exact Pick.head | apply Pick.tail)) (by rfl) (by rfl) ?_)
    refine WD_call rfl rfl rfl ?_
    refine sp_Cut10.mono ?_
    rw [hQ]
    rintro _ _ ⟨rfl, rfl⟩
    refine WD_step rfl (S_pure rfl ?_)
    refine WD_call rfl rfl rfl ?_
    refine (sp_Short (n := 10) (bs := al) (by repeat (first | assumption | exact RD.head | exact RD.nil | apply RD.tail))).mono ?_
    rintro v23 _ ⟨rfl, hv23'⟩
    have hA := hv23' _ hv3
    generalize al.take 10 = A at *
    refine WD_step rfl (S_pure rfl ?_)
    refine WD_call rfl rfl rfl ?_
    refine (sp_Short (n := 10) (bs := cl) (by repeat (first | assumption | exact RD.head | exact RD.nil | apply RD.tail))).mono ?_
    rintro v25 _ ⟨rfl, hv25'⟩
    have hC := hv25' _ hv4
    generalize cl.take 10 = C at *
    first | refine WD_step rfl (S_storeT rfl rfl (by repeat (first | exact Pick.head | apply Pick.tail)) (by rfl) (by rfl) ?_) | refine WD_step rfl (S_storeO rfl rfl (by repeat (first | exact Pick.head | apply Pick.tail)) (by first | rfl | exact SV.cells1 _) (by rfl) (by first | rfl | exact SV.ones _) ?_)
    first | refine WD_step rfl (S_storeT rfl rfl (by repeat (first | exact Pick.head | apply Pick.tail)) (by rfl) (by rfl) ?_) | refine WD_step rfl (S_storeO rfl rfl (by repeat (first | exact Pick.head | apply Pick.tail)) (by first | rfl | exact SV.cells1 _) (by rfl) (by first | rfl | exact SV.ones _) ?_)
    refine WD_step rfl (S_pure rfl ?_)
    refine WD_step rfl (S_pure rfl ?_)
    refine WD_nil ?_
    refine ⟨?_, ?_⟩
    ·
      repeat' (first | exact trivial | apply And.intro)
      all_goals (first
        | exact ObR.off rfl
        | (refine ObR.of_step rfl (S_loadO rfl (by repeat (first | exact Pick.head | apply Pick.tail)) (by rfl) (by rfl) ?_)
           simp [eqV, eqVs, eqV0, TRec, TRaw, Ty.ofAgg, AM.cells, Value.cells, splice]
           done)
        | (refine ObR.of_step rfl (S_strOf rfl (by repeat (first | assumption | exact RD.head | exact RD.nil | apply RD.tail)) (by rfl) (by rfl) ?_)
           simp [eqV, eqVs, eqV0]
           done)
        | (refine ObR.of_step rfl (S_strOf rfl (RD.tailSl (T := TByte) (xs := A ++ putRec R) (a := A.length) (by repeat (first | assumption | exact RD.head | exact RD.nil | apply RD.tail)) rfl (by rw [List.length_append]; omega)) (by rfl) (by rfl) ?_)
           simp [eqV, eqVs, eqV0]
           done))
    ·
      refine KSeq_n ?_
      refine WC_seq ?_
      refine WC_region ?_
      first | refine WO_step rfl (S_loadT rfl (by repeat (first | exact Pick.head | apply Pick.tail)) (by rfl) (by rfl) ?_) | refine WO_step rfl (S_loadO rfl (by repeat (first | exact Pick.head | apply Pick.tail)) (by rfl) (by rfl) ?_)
      refine WO_call rfl rfl rfl ?_
      refine sp_May.mono ?_
      rintro _ _ ⟨rfl, rfl⟩
      refine WO_step rfl (S_pure rfl ?_)
      refine WO_nil ?_
      refine KSeq_n ?_
      refine WC_seq ?_
      refine WC_seq ?_
      refine WC_drawn ?_
      first | refine WD_step rfl (S_loadT rfl (by repeat (first | exact Pick.head | apply Pick.tail)) (by rfl) (by rfl) ?_) | refine WD_step rfl (S_loadO rfl (by repeat (first | exact Pick.head | apply Pick.tail)) (by rfl) (by rfl) ?_)
      refine WD_call rfl rfl rfl ?_
      refine sp_rMay.mono ?_
      rintro _ _ ⟨rfl, rfl⟩
      refine WD_step rfl (S_pure rfl ?_)
      refine WD_step rfl (S_pure rfl ?_)
      refine WD_step rfl (S_pure rfl ?_)
      refine WD_cases (t := 32) rfl (fun hg1 => ?_) (fun hg1 => ?_)
      ·
        try simp only [decide_eq_true_eq, decide_eq_false_iff_not, Bool.not_eq_true', Bool.not_eq_false', beq_iff_eq, bne_iff_ne, beq_eq_false_iff_ne, Int.ofNat_lt, Int.ofNat_le, Int.ofNat_inj, ne_eq, gt_iff_lt, ge_iff_le] at hg1
        simp at hg1
        --stop
      ·
        try simp only [decide_eq_true_eq, decide_eq_false_iff_not, Bool.not_eq_true', Bool.not_eq_false', beq_iff_eq, bne_iff_ne, beq_eq_false_iff_ne, Int.ofNat_lt, Int.ofNat_le, Int.ofNat_inj, ne_eq, gt_iff_lt, ge_iff_le] at hg1
        first | refine WD_step rfl (S_loadT rfl (by repeat (first | exact Pick.head | apply Pick.tail)) (by rfl) (by rfl) ?_) | refine WD_step rfl (S_loadO rfl (by repeat (first | exact Pick.head | apply Pick.tail)) (by rfl) (by rfl) ?_)
        refine WD_call rfl rfl rfl ?_
        refine sp_rMay.mono ?_
        rintro _ _ ⟨rfl, rfl⟩
        first | refine WD_step rfl (S_loadT rfl (by repeat (first | exact Pick.head | apply Pick.tail)) (by rfl) (by rfl) ?_) | refine WD_step rfl (S_loadO rfl (by repeat (first | exact Pick.head | apply Pick.tail)) (by rfl) (by rfl) ?_)
        refine WD_call rfl rfl rfl ?_
        refine sp_May.mono ?_
        rintro _ _ ⟨rfl, rfl⟩
        refine WD_step rfl (S_pure rfl ?_)
        refine WD_step rfl (S_pure rfl ?_)
        refine WD_step rfl (S_pure rfl ?_)
        refine WD_cases (t := 39) rfl (fun hg2 => ?_) (fun hg2 => ?_)
        ·
          try simp only [decide_eq_true_eq, decide_eq_false_iff_not, Bool.not_eq_true', Bool.not_eq_false', beq_iff_eq, bne_iff_ne, beq_eq_false_iff_ne, Int.ofNat_lt, Int.ofNat_le, Int.ofNat_inj, ne_eq, gt_iff_lt, ge_iff_le] at hg2
          simp at hg2
          --stop
        ·
          try simp only [decide_eq_true_eq, decide_eq_false_iff_not, Bool.not_eq_true', Bool.not_eq_false', beq_iff_eq, bne_iff_ne, beq_eq_false_iff_ne, Int.ofNat_lt, Int.ofNat_le, Int.ofNat_inj, ne_eq, gt_iff_lt, ge_iff_le] at hg2
          first | refine WD_step rfl (S_loadT rfl (by repeat (first | exact Pick.head | apply Pick.tail)) (by rfl) (by rfl) ?_) | refine WD_step rfl (S_loadO rfl (by repeat (first | exact Pick.head | apply Pick.tail)) (by rfl) (by rfl) ?_)
          first | refine WD_step rfl (S_loadT rfl (by repeat (first | exact Pick.head | apply Pick.tail)) (by rfl) (by rfl) ?_) | refine WD_step rfl (S_loadO rfl (by repeat (first | exact Pick.head | apply Pick.tail)) (by rfl) (by rfl) ?_)
          refine WD_call rfl rfl rfl ?_
          refine sp_rEq.mono ?_
          rintro _ _ ⟨rfl, rfl⟩
          first | refine WD_step rfl (S_loadT rfl (by repeat (first | exact Pick.head | apply Pick.tail)) (by rfl) (by rfl) ?_) | refine WD_step rfl (S_loadO rfl (by repeat (first | exact Pick.head | apply Pick.tail)) (by rfl) (by rfl) ?_)
          first | refine WD_step rfl (S_loadT rfl (by repeat (first | exact Pick.head | apply Pick.tail)) (by rfl) (by rfl) ?_) | refine WD_step rfl (S_loadO rfl (by repeat (first | exact Pick.head | apply Pick.tail)) (by rfl) (by rfl) ?_)
          refine WD_call rfl rfl rfl ?_
          refine sp_Eq.mono ?_
          rintro _ _ ⟨rfl, rfl⟩
          refine WD_step rfl (S_pure rfl ?_)
          refine WD_step rfl (S_pure rfl ?_)
          refine WD_nil ?_
          refine ⟨?_, ?_⟩
          ·
            repeat' (first | exact trivial | apply And.intro)
            all_goals (first
              | exact ObR.off rfl
              | (refine ObR.of_step rfl (S_loadO rfl (by repeat (first | exact Pick.head | apply Pick.tail)) (by rfl) (by rfl) ?_)
                 simp [eqV, eqVs, eqV0, TRec, TRaw, Ty.ofAgg, AM.cells, Value.cells, splice]
                 done)
              | (refine ObR.of_step rfl (S_strOf rfl (by repeat (first | assumption | exact RD.head | exact RD.nil | apply RD.tail)) (by rfl) (by rfl) ?_)
                 simp [eqV, eqVs, eqV0]
                 done)
              | (refine ObR.of_step rfl (S_strOf rfl (RD.tailSl (T := TByte) (xs := A ++ putRec R) (a := A.length) (by repeat (first | assumption | exact RD.head | exact RD.nil | apply RD.tail)) rfl (by rw [List.length_append]; omega)) (by rfl) (by rfl) ?_)
                 simp [eqV, eqVs, eqV0]
                 done))
          ·
            refine KSeq_n ?_
            refine WC_cond rfl (fun hb2 => ?_) (fun hb2 => ?_)
            ·
              try simp only [decide_eq_true_eq, decide_eq_false_iff_not, Bool.not_eq_true', Bool.not_eq_false', beq_iff_eq, bne_iff_ne, beq_eq_false_iff_ne, Int.ofNat_lt, Int.ofNat_le, Int.ofNat_inj, ne_eq, gt_iff_lt, ge_iff_le] at hb2
              simp at hb2
              --stop
            ·
              try simp only [decide_eq_true_eq, decide_eq_false_iff_not, Bool.not_eq_true', Bool.not_eq_false', beq_iff_eq, bne_iff_ne, beq_eq_false_iff_ne, Int.ofNat_lt, Int.ofNat_le, Int.ofNat_inj, ne_eq, gt_iff_lt, ge_iff_le] at hb2
              refine WC_skip ?_
              refine KSeq_n ?_
              refine WC_seq ?_
              refine WC_seq ?_
              refine WC_region ?_
              refine WO_step rfl (S_pure rfl ?_)
              refine WO_step rfl (S_pure rfl ?_)
              refine WO_nil ?_
              refine KSeq_n ?_
              refine WC_cond rfl (fun hb3 => ?_) (fun hb3 => ?_)
              ·
                try simp only [decide_eq_true_eq, decide_eq_false_iff_not, Bool.not_eq_true', Bool.not_eq_false', beq_iff_eq, bne_iff_ne, beq_eq_false_iff_ne, Int.ofNat_lt, Int.ofNat_le, Int.ofNat_inj, ne_eq, gt_iff_lt, ge_iff_le] at hb3
                refine WC_seq ?_
                refine WC_region ?_
                refine WO_step rfl (S_pure rfl ?_)
                refine WO_nil ?_
                refine KSeq_n ?_
                refine WC_ret ?_
                refine KSeq_r ?_
                refine KFn_r (ResL.tmp rfl ResL.nil) ?_
                refine ⟨_, HSub.refl, ?_⟩
                first
                  | rfl
                  | (have hmQ : mayRec Q = true := by simpa using hg5
                     simp only [resV, List.drop_left, List.nil_append, ba_eq, putRec_inj hmQ hmR hwQ.2.1 hwR.2.1, eq_comm (a := Q)]
                     cases decide (R = Q) <;> rfl)
              ·
                try simp only [decide_eq_true_eq, decide_eq_false_iff_not, Bool.not_eq_true', Bool.not_eq_false', beq_iff_eq, bne_iff_ne, beq_eq_false_iff_ne, Int.ofNat_lt, Int.ofNat_le, Int.ofNat_inj, ne_eq, gt_iff_lt, ge_iff_le] at hb3
                refine WC_skip ?_
                refine KSeq_n ?_
                refine WC_seq ?_
                refine WC_drawn ?_
                refine WD_step rfl (S_pure rfl ?_)
                refine WD_step rfl (S_appN rfl rfl (by first | exact SRC.str rfl rfl | (apply RD.src; repeat (first | assumption | exact RD.head | exact RD.nil | apply RD.tail))) (by rfl) (by rfl) (by (try simp only [List.length_append, List.length_cons, List.length_nil]); omega) fun w51 => ?_)
                first | refine WD_step rfl (S_loadT rfl (by repeat (first | exact Pick.head | apply Pick.tail)) (by rfl) (by rfl) ?_) | refine WD_step rfl (S_loadO rfl (by repeat (first | exact Pick.head | apply Pick.tail)) (by rfl) (by rfl) ?_)
                refine WD_call rfl rfl rfl ?_
                refine (sp_rPut (w := w51) (bs := A) (r := R) (by repeat (first | exact Pick.head | apply Pick.tail)) hwR (by omega)).mono ?_
                rintro _ _ ⟨w53, rfl, rfl⟩
                refine WD_step rfl (S_pure rfl ?_)
                refine WD_nil ?_
                refine ⟨?_, ?_⟩
                ·
                  repeat' (first | exact trivial | apply And.intro)
                  all_goals (first
                    | exact ObR.off rfl
                    | (refine ObR.of_step rfl (S_loadO rfl (by repeat (first | exact Pick.head | apply Pick.tail)) (by rfl) (by rfl) ?_)
                       simp [eqV, eqVs, eqV0, TRec, TRaw, Ty.ofAgg, AM.cells, Value.cells, splice]
                       done)
                    | (refine ObR.of_step rfl (S_strOf rfl (by repeat (first | assumption | exact RD.head | exact RD.nil | apply RD.tail)) (by rfl) (by rfl) ?_)
                       simp [eqV, eqVs, eqV0]
                       done)
                    | (refine ObR.of_step rfl (S_strOf rfl (RD.tailSl (T := TByte) (xs := A ++ putRec R) (a := A.length) (by repeat (first | assumption | exact RD.head | exact RD.nil | apply RD.tail)) rfl (by rw [List.length_append]; omega)) (by rfl) (by rfl) ?_)
                       simp [eqV, eqVs, eqV0]
                       done))
                ·
                  refine KSeq_n ?_
                  refine WC_seq ?_
                  refine WC_seq ?_
                  refine WC_drawn ?_
                  refine WD_step rfl (S_pure rfl ?_)
                  refine WD_step rfl (S_strOf rfl (by repeat (first | assumption | exact RD.head | exact RD.nil | apply RD.tail)) (by rfl) (by rfl) ?_)
                  refine WD_step rfl (S_pure rfl ?_)
                  refine WD_step rfl (S_strOf rfl (by repeat (first | assumption | exact RD.head | exact RD.nil | apply RD.tail)) (by rfl) (by rfl) ?_)
                  first | refine WD_step rfl (S_loadT rfl (by repeat (first | exact Pick.head | apply Pick.tail)) (by rfl) (by rfl) ?_) | refine WD_step rfl (S_loadO rfl (by repeat (first | exact Pick.head | apply Pick.tail)) (by rfl) (by rfl) ?_)
                  refine WD_call rfl rfl rfl ?_
                  refine (sp_Bytes (r := R) hwR).mono ?_
                  rintro _ _ ⟨w59, rfl, rfl⟩
                  refine WD_step rfl (S_strOf rfl (by repeat (first | assumption | exact RD.head | exact RD.nil | apply RD.tail)) (by rfl) (by rfl) ?_)
                  refine WD_step rfl (S_addS (X := A) (Y := putRec R) rfl rfl (by omega) ?_)
                  first | refine WD_step rfl (S_neS rfl rfl ?_) | refine WD_step rfl (S_pure rfl ?_)
                  refine WD_nil ?_
                  refine ⟨?_, ?_⟩
                  ·
                    repeat' (first | exact trivial | apply And.intro)
                    all_goals (first
                      | exact ObR.off rfl
                      | (refine ObR.of_step rfl (S_loadO rfl (by repeat (first | exact Pick.head | apply Pick.tail)) (by rfl) (by rfl) ?_)
                         simp [eqV, eqVs, eqV0, TRec, TRaw, Ty.ofAgg, AM.cells, Value.cells, splice]
                         done)
                      | (refine ObR.of_step rfl (S_strOf rfl (by repeat (first | assumption | exact RD.head | exact RD.nil | apply RD.tail)) (by rfl) (by rfl) ?_)
                         simp [eqV, eqVs, eqV0]
                         done)
                      | (refine ObR.of_step rfl (S_strOf rfl (RD.tailSl (T := TByte) (xs := A ++ putRec R) (a := A.length) (by repeat (first | assumption | exact RD.head | exact RD.nil | apply RD.tail)) rfl (by rw [List.length_append]; omega)) (by rfl) (by rfl) ?_)
                         simp [eqV, eqVs, eqV0]
                         done))
                  ·
                    refine KSeq_n ?_
                    refine WC_cond rfl (fun hb4 => ?_) (fun hb4 => ?_)
                    ·
                      try simp only [decide_eq_true_eq, decide_eq_false_iff_not, Bool.not_eq_true', Bool.not_eq_false', beq_iff_eq, bne_iff_ne, beq_eq_false_iff_ne, Int.ofNat_lt, Int.ofNat_le, Int.ofNat_inj, ne_eq, gt_iff_lt, ge_iff_le] at hb4
                      simp at hb4
                      --stop
                    ·
                      try simp only [decide_eq_true_eq, decide_eq_false_iff_not, Bool.not_eq_true', Bool.not_eq_false', beq_iff_eq, bne_iff_ne, beq_eq_false_iff_ne, Int.ofNat_lt, Int.ofNat_le, Int.ofNat_inj, ne_eq, gt_iff_lt, ge_iff_le] at hb4
                      refine WC_skip ?_
                      refine KSeq_n ?_
                      refine WC_seq ?_
                      refine WC_region ?_
                      refine WO_step rfl (S_pure rfl ?_)
                      refine WO_step rfl (S_pure rfl ?_)
                      first | refine WO_step rfl (S_pure rfl ?_) | refine WO_step rfl (S_lenS rfl (by repeat (first | assumption | exact RD.head | exact RD.nil | apply RD.tail)) ?_)
                      refine WO_step rfl (S_cutV (T := TByte) (xs := A ++ putRec R) (a := A.length) (b := (A ++ putRec R).length) rfl (by repeat (first | assumption | exact RD.head | exact RD.nil | apply RD.tail)) (by rfl) (LB.mk rfl rfl) LB.dflt LB.dflt (by rw [List.length_append]; omega) (by omega) (by omega) ?_)
                      refine WO_step rfl (S_appN rfl rfl (RD.src (RD.tailSl (T := TByte) (xs := A ++ putRec R) (a := A.length) (by repeat (first | assumption | exact RD.head | exact RD.nil | apply RD.tail)) rfl (by rw [List.length_append]; omega))) (by rfl) (by rfl) (by rw [List.drop_left]; omega) fun w68 => ?_)
                      refine WO_step rfl (S_pure rfl ?_)
                      refine WO_step rfl (S_app rfl rfl (by repeat (first | exact Pick.head | apply Pick.tail)) (by first | exact SRC.str rfl rfl | (apply RD.src; repeat (first | assumption | exact RD.head | exact RD.nil | apply RD.tail))) (by rfl) (by rfl) (by rw [List.drop_left]; omega) fun w70 => ?_)
                      refine WO_call rfl rfl rfl ?_
                      refine (sp_rGet (bs := (A ++ putRec R).drop A.length ++ C) (by repeat (first | assumption | exact RD.head | exact RD.nil | apply RD.tail)) (by rw [List.drop_left, List.length_append]; omega)).mono ?_
                      have hmR : mayRec R = true := by simpa using hb3
                      rw [List.drop_left, getRec_put hmR hwR.2.1, getRecV_mk]
                      rintro _ _ ⟨rfl, rfl⟩
                      refine WO_step rfl (S_pure rfl ?_)
                      refine WO_step rfl (S_pure rfl ?_)
                      refine WO_step rfl (S_pure rfl ?_)
                      refine WO_step rfl (S_pure rfl ?_)
                      refine WO_step rfl (S_new fun i12 => ?_)
                      first | refine WO_step rfl (S_storeT rfl rfl (by repeat (first | exact Pick.head | apply Pick.tail)) (by rfl) (by rfl) ?_) | refine WO_step rfl (S_storeO rfl rfl (by repeat (first | exact Pick.head | apply Pick.tail)) (by first | rfl | exact SV.cells1 _) (by rfl) (by first | rfl | exact SV.ones _) ?_)
                      refine WO_step rfl (S_pure rfl ?_)
                      refine WO_step rfl (S_pure rfl ?_)
                      refine WO_nil ?_
                      refine KSeq_n ?_
                      refine WC_seq ?_
                      refine WC_seq ?_
                      refine WC_region ?_
                      refine WO_step rfl (S_pure rfl ?_)
                      first | refine WO_step rfl (S_neS rfl rfl ?_) | refine WO_step rfl (S_pure rfl ?_)
                      refine WO_step rfl (S_pure rfl ?_)
                      refine WO_cases (t := 77) rfl (fun hg3 => ?_) (fun hg3 => ?_)
                      ·
                        try simp only [decide_eq_true_eq, decide_eq_false_iff_not, Bool.not_eq_true', Bool.not_eq_false', beq_iff_eq, bne_iff_ne, beq_eq_false_iff_ne, Int.ofNat_lt, Int.ofNat_le, Int.ofNat_inj, ne_eq, gt_iff_lt, ge_iff_le] at hg3
                        simp at hg3
                        --stop
                      ·
                        try simp only [decide_eq_true_eq, decide_eq_false_iff_not, Bool.not_eq_true', Bool.not_eq_false', beq_iff_eq, bne_iff_ne, beq_eq_false_iff_ne, Int.ofNat_lt, Int.ofNat_le, Int.ofNat_inj, ne_eq, gt_iff_lt, ge_iff_le] at hg3
                        refine WO_step rfl (S_pure rfl ?_)
                        refine WO_step rfl (S_pure rfl ?_)
                        first | refine WO_step rfl (S_pure rfl ?_) | refine WO_step rfl (S_lenS rfl (by repeat (first | assumption | exact RD.head | exact RD.nil | apply RD.tail)) ?_)
                        refine WO_step rfl (S_pure rfl ?_)
                        first | refine WO_step rfl (S_pure rfl ?_) | refine WO_step rfl (S_lenS rfl (by repeat (first | assumption | exact RD.head | exact RD.nil | apply RD.tail)) ?_)
                        refine WO_step rfl (S_subN (a := (A ++ putRec R).length) (b := A.length) rfl rfl (by rw [List.length_append]; omega) ?_)
                        first | refine WO_step rfl (S_neS rfl rfl ?_) | refine WO_step rfl (S_pure rfl ?_)
                        refine WO_step rfl (S_pure rfl ?_)
                        refine WO_step rfl (S_pure rfl ?_)
                        refine WO_cases (t := 86) rfl (fun hg4 => ?_) (fun hg4 => ?_)
                        ·
                          try simp only [decide_eq_true_eq, decide_eq_false_iff_not, Bool.not_eq_true', Bool.not_eq_false', beq_iff_eq, bne_iff_ne, beq_eq_false_iff_ne, Int.ofNat_lt, Int.ofNat_le, Int.ofNat_inj, ne_eq, gt_iff_lt, ge_iff_le] at hg4
                          rw [List.length_append] at hg4
                          exact absurd (show (putRec R).length = A.length + (putRec R).length - A.length by omega) hg4
                          --stop
                        ·
                          try simp only [decide_eq_true_eq, decide_eq_false_iff_not, Bool.not_eq_true', Bool.not_eq_false', beq_iff_eq, bne_iff_ne, beq_eq_false_iff_ne, Int.ofNat_lt, Int.ofNat_le, Int.ofNat_inj, ne_eq, gt_iff_lt, ge_iff_le] at hg4
                          first | refine WO_step rfl (S_loadT rfl (by repeat (first | exact Pick.head | apply Pick.tail)) (by rfl) (by rfl) ?_) | refine WO_step rfl (S_loadO rfl (by repeat (first | exact Pick.head | apply Pick.tail)) (by rfl) (by rfl) ?_)
                          first | refine WO_step rfl (S_loadT rfl (by repeat (first | exact Pick.head | apply Pick.tail)) (by rfl) (by rfl) ?_) | refine WO_step rfl (S_loadO rfl (by repeat (first | exact Pick.head | apply Pick.tail)) (by rfl) (by rfl) ?_)
                          refine WO_call rfl rfl rfl ?_
                          refine sp_Eq.mono ?_
                          rintro _ _ ⟨rfl, rfl⟩
                          refine WO_step rfl (S_pure rfl ?_)
                          refine WO_step rfl (S_pure rfl ?_)
                          refine WO_nil ?_
                          refine KSeq_n ?_
                          refine WC_cond rfl (fun hb5 => ?_) (fun hb5 => ?_)
                          ·
                            try simp only [decide_eq_true_eq, decide_eq_false_iff_not, Bool.not_eq_true', Bool.not_eq_false', beq_iff_eq, bne_iff_ne, beq_eq_false_iff_ne, Int.ofNat_lt, Int.ofNat_le, Int.ofNat_inj, ne_eq, gt_iff_lt, ge_iff_le] at hb5
                            simp at hb5
                            --stop
                          ·
                            try simp only [decide_eq_true_eq, decide_eq_false_iff_not, Bool.not_eq_true', Bool.not_eq_false', beq_iff_eq, bne_iff_ne, beq_eq_false_iff_ne, Int.ofNat_lt, Int.ofNat_le, Int.ofNat_inj, ne_eq, gt_iff_lt, ge_iff_le] at hb5
                            refine WC_skip ?_
                            refine KSeq_n ?_
                            refine WC_seq ?_
                            refine WC_drawn ?_
                            first | refine WD_step rfl (S_loadT rfl (by repeat (first | exact Pick.head | apply Pick.tail)) (by rfl) (by rfl) ?_) | refine WD_step rfl (S_loadO rfl (by repeat (first | exact Pick.head | apply Pick.tail)) (by rfl) (by rfl) ?_)
                            refine WD_call rfl rfl rfl ?_
                            refine sp_May.mono ?_
                            rintro _ _ ⟨rfl, rfl⟩
                            refine WD_step rfl (S_pure rfl ?_)
                            refine WD_step rfl (S_pure rfl ?_)
                            refine WD_cases (t := 95) rfl (fun hg5 => ?_) (fun hg5 => ?_)
                            ·
                              try simp only [decide_eq_true_eq, decide_eq_false_iff_not, Bool.not_eq_true', Bool.not_eq_false', beq_iff_eq, bne_iff_ne, beq_eq_false_iff_ne, Int.ofNat_lt, Int.ofNat_le, Int.ofNat_inj, ne_eq, gt_iff_lt, ge_iff_le] at hg5
                              refine WD_off rfl ?_
                              refine WD_off rfl ?_
                              refine WD_off rfl ?_
                              refine WD_off rfl ?_
                              refine WD_off rfl ?_
                              refine WD_off rfl ?_
                              refine WD_off rfl ?_
                              refine WD_off rfl ?_
                              refine WD_off rfl ?_
                              refine WD_off rfl ?_
                              refine WD_off rfl ?_
                              refine WD_off rfl ?_
                              refine WD_off rfl ?_
                              refine WD_step rfl (S_pure rfl ?_)
                              refine WD_step rfl (S_pure rfl ?_)
                              refine WD_nil ?_
                              refine ⟨?_, ?_⟩
                              ·
                                repeat' (first | exact trivial | apply And.intro)
                                all_goals (first
                                  | exact ObR.off rfl
                                  | (refine ObR.of_step rfl (S_loadO rfl (by repeat (first | exact Pick.head | apply Pick.tail)) (by rfl) (by rfl) ?_)
                                     simp [eqV, eqVs, eqV0, TRec, TRaw, Ty.ofAgg, AM.cells, Value.cells, splice]
                                     done)
                                  | (refine ObR.of_step rfl (S_strOf rfl (by repeat (first | assumption | exact RD.head | exact RD.nil | apply RD.tail)) (by rfl) (by rfl) ?_)
                                     simp [eqV, eqVs, eqV0]
                                     done)
                                  | (refine ObR.of_step rfl (S_strOf rfl (RD.tailSl (T := TByte) (xs := A ++ putRec R) (a := A.length) (by repeat (first | assumption | exact RD.head | exact RD.nil | apply RD.tail)) rfl (by rw [List.length_append]; omega)) (by rfl) (by rfl) ?_)
                                     simp [eqV, eqVs, eqV0]
                                     done))
                              ·
                                refine KSeq_n ?_
                                refine WC_ret ?_
                                refine KFn_r (ResL.tmp rfl ResL.nil) ?_
                                refine ⟨_, HSub.refl, ?_⟩
                                first
                                  | rfl
                                  | (have hmQ : mayRec Q = true := by simpa using hg5
                                     simp only [resV, List.drop_left, List.nil_append, ba_eq, putRec_inj hmQ hmR hwQ.2.1 hwR.2.1, eq_comm (a := Q)]
                                     cases decide (R = Q) <;> rfl)
                            ·
                              try simp only [decide_eq_true_eq, decide_eq_false_iff_not, Bool.not_eq_true', Bool.not_eq_false', beq_iff_eq, bne_iff_ne, beq_eq_false_iff_ne, Int.ofNat_lt, Int.ofNat_le, Int.ofNat_inj, ne_eq, gt_iff_lt, ge_iff_le] at hg5
                              first | refine WD_step rfl (S_loadT rfl (by repeat (first | exact Pick.head | apply Pick.tail)) (by rfl) (by rfl) ?_) | refine WD_step rfl (S_loadO rfl (by repeat (first | exact Pick.head | apply Pick.tail)) (by rfl) (by rfl) ?_)
                              refine WD_call rfl rfl rfl ?_
                              refine WF_addNil (T := TByte) ?_
                              refine (sp_rPut (w := .nil) (bs := []) (r := Q) Pick.head hwQ (by simp)).mono ?_
                              rintro _ _ ⟨w97, rfl, rfl⟩
                              refine WD_step rfl (S_strOf rfl (by repeat (first | assumption | exact RD.head | exact RD.nil | apply RD.tail)) (by rfl) (by rfl) ?_)
                              refine WD_step rfl (S_pure rfl ?_)
                              refine WD_step rfl (S_pure rfl ?_)
                              first | refine WD_step rfl (S_pure rfl ?_) | refine WD_step rfl (S_lenS rfl (by repeat (first | assumption | exact RD.head | exact RD.nil | apply RD.tail)) ?_)
                              refine WD_step rfl (S_cutV (T := TByte) (xs := A ++ putRec R) (a := A.length) (b := (A ++ putRec R).length) rfl (by repeat (first | assumption | exact RD.head | exact RD.nil | apply RD.tail)) (by rfl) (LB.mk rfl rfl) LB.dflt LB.dflt (by rw [List.length_append]; omega) (by omega) (by omega) ?_)
                              refine WD_step rfl (S_strOf rfl (RD.tailSl (T := TByte) (xs := A ++ putRec R) (a := A.length) (by repeat (first | assumption | exact RD.head | exact RD.nil | apply RD.tail)) rfl (by rw [List.length_append]; omega)) (by rfl) (by rfl) ?_)
                              first | refine WD_step rfl (S_eqS rfl rfl ?_) | refine WD_step rfl (S_pure rfl ?_)
                              first | refine WD_step rfl (S_loadT rfl (by repeat (first | exact Pick.head | apply Pick.tail)) (by rfl) (by rfl) ?_) | refine WD_step rfl (S_loadO rfl (by repeat (first | exact Pick.head | apply Pick.tail)) (by rfl) (by rfl) ?_)
                              first | refine WD_step rfl (S_loadT rfl (by repeat (first | exact Pick.head | apply Pick.tail)) (by rfl) (by rfl) ?_) | refine WD_step rfl (S_loadO rfl (by repeat (first | exact Pick.head | apply Pick.tail)) (by rfl) (by rfl) ?_)
                              refine WD_call rfl rfl rfl ?_
                              refine sp_Eq.mono ?_
                              rintro _ _ ⟨rfl, rfl⟩
                              refine WD_step rfl (S_pure rfl ?_)
                              refine WD_step rfl (S_pure rfl ?_)
                              refine WD_step rfl (S_pure rfl ?_)
                              refine WD_nil ?_
                              refine ⟨?_, ?_⟩
                              ·
                                repeat' (first | exact trivial | apply And.intro)
                                all_goals (first
                                  | exact ObR.off rfl
                                  | (refine ObR.of_step rfl (S_loadO rfl (by repeat (first | exact Pick.head | apply Pick.tail)) (by rfl) (by rfl) ?_)
                                     simp [eqV, eqVs, eqV0, TRec, TRaw, Ty.ofAgg, AM.cells, Value.cells, splice]
                                     done)
                                  | (refine ObR.of_step rfl (S_strOf rfl (by repeat (first | assumption | exact RD.head | exact RD.nil | apply RD.tail)) (by rfl) (by rfl) ?_)
                                     simp [eqV, eqVs, eqV0]
                                     done)
                                  | (refine ObR.of_step rfl (S_strOf rfl (RD.tailSl (T := TByte) (xs := A ++ putRec R) (a := A.length) (by repeat (first | assumption | exact RD.head | exact RD.nil | apply RD.tail)) rfl (by rw [List.length_append]; omega)) (by rfl) (by rfl) ?_)
                                     simp [eqV, eqVs, eqV0]
                                     done))
                              ·
                                refine KSeq_n ?_
                                refine WC_ret ?_
                                refine KFn_r (ResL.tmp rfl ResL.nil) ?_
                                refine ⟨_, HSub.refl, ?_⟩
                                first
                                  | rfl
                                  | (have hmQ : mayRec Q = true := by simpa using hg5
                                     simp only [resV, List.drop_left, List.nil_append, ba_eq, putRec_inj hmQ hmR hwQ.2.1 hwR.2.1, eq_comm (a := Q)]
                                     cases decide (R = Q) <;> rfl)
end Go.Proofs.Ytkiijlaibapmaaa.AM
