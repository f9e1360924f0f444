/- Walks: what the functions compute. -/
import Derived.Test.YtkiijlaibapmaaaVal
import Derived.Test.YtkiijlaibapmaaaFlat
import Derived.KernelRfl
namespace Go.Proofs.Ytkiijlaibapmaaa.AM
open Go
set_option linter.unusedSimpArgs false
set_option linter.unusedVariables false
set_option maxRecDepth 4000

/-! ### RecordGone -/
theorem bothX_l {X1 X2 : Exts} {g : FuncId} {vs : List Value} {h : AH} {r : Value × AH} (h1 : X1 g vs h = some r) : bothX X1 X2 g vs h = some r := by unfold bothX; rw [h1]
set_option maxRecDepth 100000 in
theorem run_begun : (runF F0 (keysX 41 50 40 9) 600 f_loesslaw10_begun [] AH.empty).map (·.1) = some (.bool true) := by kernel_rfl
theorem sp_begun {H : SH} : WF F X f_loesslaw10_begun [] H (fun r H' => H' = H ∧ r = .bool true) :=
  WF_ext fun a hH => ⟨_, a, H, bothX_l (groundK_intro (by decide) rfl run_begun rfl), hH, rfl, rfl⟩
theorem bs_ne {a b : List UInt8} (h : b.length < a.length) : (ByteArray.mk a.toArray) ≠ ⟨b.toArray⟩ := by
  intro e
  have := congrArg (fun x : ByteArray => x.data.toList.length) e
  simp at this; omega
theorem wf_cut {r : Rec} (hok : okRec r) : wfRec (cutRec r) := by
  obtain ⟨h0, h1, h2, h3⟩ := hok
  have a1 := cut_size r.key 20
  have a2 := cut_size r.val.s 30
  simp [Lit.wf, IntKind.min, IntKind.max, IntKind.bits, IntKind.signed] at h1 h2
  refine ⟨?_, ?_, ?_, ?_⟩ <;> simp only [cutRec, cutRaw] <;> omega
def goneOf (R : Rec) : Rec := ⟨R.key, true, raw0⟩
theorem put_0 : put 0 = [0] := by unfold put; rw [encU_lt (by decide)]; rfl
theorem gone_len {R : Rec} (hg : R.gone = false) : (putRec (goneOf R)).length < (putRec R).length := by
  unfold putRec goneOf putVal
  rw [hg, put_0]
  simp only [if_true, Bool.false_eq_true, if_false, List.length_append, List.length_cons, List.length_nil]
  have h1 := put_pos R.val.kind
  have h2 : 1 ≤ (if R.val.kind = 1 then put R.val.n else putText R.val.s).length := by
    split
    · exact put_pos _
    · unfold putText; rw [List.length_append]; have := put_pos (R.val.s.size : Int); omega
  omega
theorem walk_RecordGone {H : SH} {r : Rec} (hok : okRec r) : WF F X f_loesslaw10_RecordGone [TRec.val r] H (fun v _ => v = .bool true) := by
  have hwf := wf_cut hok
  have hcg : (cutRec r).gone = r.gone := rfl
  generalize hR : cutRec r = R at *
  have hwg : wfRec (goneOf R) := by
    refine ⟨⟨?_, ?_⟩, ⟨?_, ?_⟩, ?_, hwf.2.2.2⟩ <;> simp [goneOf, raw0, es0, ByteArray.size]
  refine WF_fn F_loesslaw10_RecordGone ?_
  refine WC_seq ?_
  refine WC_region ?_
  refine WO_step rfl (S_box rfl rfl fun i1 => ?_)
  refine WO_step rfl (S_pure rfl ?_)
  refine WO_nil ?_
  refine KSeq_n ?_
  refine WC_seq ?_
  refine WC_region ?_
  refine WO_call rfl rfl rfl ?_
  refine sp_begun.mono ?_
  rintro _ _ ⟨rfl, rfl⟩
  refine WO_step rfl (S_pure rfl ?_)
  refine WO_nil ?_
  refine KSeq_n ?_
  refine WC_seq ?_
  refine WC_seq ?_
  refine WC_region ?_
  refine WO_step rfl (S_pure rfl ?_)
  refine WO_step rfl (S_pure rfl ?_)
  refine WO_nil ?_
  refine KSeq_n ?_
  refine WC_cond rfl (fun hb1 => ?_) (fun hb1 => ?_)
  ·
    try simp only [decide_eq_true_eq, decide_eq_false_iff_not, Bool.not_eq_true', Bool.not_eq_false', beq_iff_eq, bne_iff_ne, beq_eq_false_iff_ne, Int.ofNat_lt, Int.ofNat_le, Int.ofNat_inj, ne_eq, gt_iff_lt, ge_iff_le] at hb1
    exact absurd hb1 (by decide)
    --stop
  ·
    try simp only [decide_eq_true_eq, decide_eq_false_iff_not, Bool.not_eq_true', Bool.not_eq_false', beq_iff_eq, bne_iff_ne, beq_eq_false_iff_ne, Int.ofNat_lt, Int.ofNat_le, Int.ofNat_inj, ne_eq, gt_iff_lt, ge_iff_le] at hb1
    refine WC_skip ?_
    refine KSeq_n ?_
    refine WC_seq ?_
    refine WC_region ?_
    first | refine WO_step rfl (S_loadT rfl (by repeat (first | exact Pick.head | apply Pick.tail)) (by rfl) (by rfl) ?_) | refine WO_step rfl (S_loadO rfl (by repeat (first | exact Pick.head | apply Pick.tail)) (by rfl) (by rfl) ?_)
    refine WO_call rfl rfl rfl ?_
    refine sp_Cut10.mono ?_
    rw [hR]
    rintro _ _ ⟨rfl, rfl⟩
    first | refine WO_step rfl (S_storeT rfl rfl (by repeat (first | exact Pick.head | apply Pick.tail)) (by rfl) (by rfl) ?_) | refine WO_step rfl (S_storeO rfl rfl (by repeat (first | exact Pick.head | apply Pick.tail)) (by first | rfl | exact SV.cells1 _) (by rfl) (by first | rfl | exact SV.ones _) ?_)
    refine WO_nil ?_
    refine KSeq_n ?_
    refine WC_seq ?_
    refine WC_seq ?_
    refine WC_region ?_
    first | refine WO_step rfl (S_loadT rfl (by repeat (first | exact Pick.head | apply Pick.tail)) (by rfl) (by rfl) ?_) | refine WO_step rfl (S_loadO rfl (by repeat (first | exact Pick.head | apply Pick.tail)) (by rfl) (by rfl) ?_)
    refine WO_call rfl rfl rfl ?_
    refine sp_May.mono ?_
    rintro _ _ ⟨rfl, rfl⟩
    refine WO_step rfl (S_pure rfl ?_)
    refine WO_nil ?_
    refine KSeq_n ?_
    refine WC_cond rfl (fun hb2 => ?_) (fun hb2 => ?_)
    ·
      try simp only [decide_eq_true_eq, decide_eq_false_iff_not, Bool.not_eq_true', Bool.not_eq_false', beq_iff_eq, bne_iff_ne, beq_eq_false_iff_ne, Int.ofNat_lt, Int.ofNat_le, Int.ofNat_inj, ne_eq, gt_iff_lt, ge_iff_le] at hb2
      refine WC_seq ?_
      refine WC_region ?_
      refine WO_step rfl (S_pure rfl ?_)
      refine WO_nil ?_
      refine KSeq_n ?_
      refine WC_ret ?_
      refine KSeq_r ?_
      refine KFn_r (ResL.tmp rfl ResL.nil) ?_
      exact ⟨_, HSub.refl, rfl⟩
    ·
      try simp only [decide_eq_true_eq, decide_eq_false_iff_not, Bool.not_eq_true', Bool.not_eq_false', beq_iff_eq, bne_iff_ne, beq_eq_false_iff_ne, Int.ofNat_lt, Int.ofNat_le, Int.ofNat_inj, ne_eq, gt_iff_lt, ge_iff_le] at hb2
      refine WC_skip ?_
      refine KSeq_n ?_
      refine WC_seq ?_
      refine WC_region ?_
      refine WO_step rfl (S_pure rfl ?_)
      refine WO_step rfl (S_loadO rfl (by repeat (first | exact Pick.head | apply Pick.tail)) (by rfl) (by rfl) ?_)
      refine WO_step rfl (S_pure rfl ?_)
      refine WO_step rfl (S_new fun i4 => ?_)
      first | refine WO_step rfl (S_storeT rfl rfl (by repeat (first | exact Pick.head | apply Pick.tail)) (by rfl) (by rfl) ?_) | refine WO_step rfl (S_storeO rfl rfl (by repeat (first | exact Pick.head | apply Pick.tail)) (by first | rfl | exact SV.cells1 _) (by rfl) (by first | rfl | exact SV.ones _) ?_)
      refine WO_nil ?_
      refine KSeq_n ?_
      refine WC_seq ?_
      refine WC_drawn ?_
      first | refine WD_step rfl (S_loadT rfl (by repeat (first | exact Pick.head | apply Pick.tail)) (by rfl) (by rfl) ?_) | refine WD_step rfl (S_loadO rfl (by repeat (first | exact Pick.head | apply Pick.tail)) (by rfl) (by rfl) ?_)
      refine WD_call rfl rfl rfl ?_
      refine WF_addNil (T := TByte) ?_
      refine (sp_rPut (w := .nil) (bs := []) (r := R) Pick.head hwf (by simp)).mono ?_
      rintro _ _ ⟨w19, rfl, rfl⟩
      first | refine WD_step rfl (S_loadT rfl (by repeat (first | exact Pick.head | apply Pick.tail)) (by rfl) (by rfl) ?_) | refine WD_step rfl (S_loadO rfl (by repeat (first | exact Pick.head | apply Pick.tail)) (by rfl) (by rfl) ?_)
      refine WD_call rfl rfl rfl ?_
      refine WF_addNil (T := TByte) ?_
      refine (sp_rPut (w := .nil) (bs := []) (r := goneOf R) Pick.head hwg (by simp)).mono ?_
      rintro _ _ ⟨w21, rfl, rfl⟩
      refine WD_step rfl (S_pure rfl ?_)
      refine WD_step rfl (S_pure rfl ?_)
      refine WD_nil ?_
      refine ⟨?_, ?_⟩
      ·
        first
          | exact ⟨ObR.off rfl, trivial⟩
          | (refine ⟨ObR.of_step rfl (S_loadO rfl (by repeat (first | exact Pick.head | apply Pick.tail)) (by rfl) (by rfl) ?_), trivial⟩
             simp [eqV, eqVs, eqV0, TRec, TRaw, Ty.ofAgg, AM.cells, Value.cells, splice])
      ·
        refine KSeq_n ?_
        refine WC_seq ?_
        refine WC_drawn ?_
        first | refine WD_step rfl (S_loadT rfl (by repeat (first | exact Pick.head | apply Pick.tail)) (by rfl) (by rfl) ?_) | refine WD_step rfl (S_loadO rfl (by repeat (first | exact Pick.head | apply Pick.tail)) (by rfl) (by rfl) ?_)
        refine WD_call rfl rfl rfl ?_
        refine (sp_rMay (r := goneOf R)).mono ?_
        rintro _ _ ⟨rfl, rfl⟩
        refine WD_step rfl (S_pure rfl ?_)
        refine WD_cases (t := 24) rfl (fun hg1 => ?_) (fun hg1 => ?_)
        ·
          try simp only [decide_eq_true_eq, decide_eq_false_iff_not, Bool.not_eq_true', Bool.not_eq_false', beq_iff_eq, bne_iff_ne, beq_eq_false_iff_ne, Int.ofNat_lt, Int.ofNat_le, Int.ofNat_inj, ne_eq, gt_iff_lt, ge_iff_le] at hg1
          first | refine WD_step rfl (S_loadT rfl (by repeat (first | exact Pick.head | apply Pick.tail)) (by rfl) (by rfl) ?_) | refine WD_step rfl (S_loadO rfl (by repeat (first | exact Pick.head | apply Pick.tail)) (by rfl) (by rfl) ?_)
          first | refine WD_step rfl (S_loadT rfl (by repeat (first | exact Pick.head | apply Pick.tail)) (by rfl) (by rfl) ?_) | refine WD_step rfl (S_loadO rfl (by repeat (first | exact Pick.head | apply Pick.tail)) (by rfl) (by rfl) ?_)
          refine WD_call rfl rfl rfl ?_
          refine (sp_rEq (a := R) (b := goneOf R)).mono ?_
          rintro _ _ ⟨rfl, rfl⟩
          refine WD_step rfl (S_pure rfl ?_)
          refine WD_step rfl (S_loadO rfl (by repeat (first | exact Pick.head | apply Pick.tail)) (by rfl) (by rfl) ?_)
          refine WD_step rfl (S_pure rfl ?_)
          refine WD_step rfl (S_pure rfl ?_)
          refine WD_step rfl (S_pure rfl ?_)
          refine WD_cases (t := 32) rfl (fun hg2 => ?_) (fun hg2 => ?_)
          ·
            try simp only [decide_eq_true_eq, decide_eq_false_iff_not, Bool.not_eq_true', Bool.not_eq_false', beq_iff_eq, bne_iff_ne, beq_eq_false_iff_ne, Int.ofNat_lt, Int.ofNat_le, Int.ofNat_inj, ne_eq, gt_iff_lt, ge_iff_le] at hg2
            refine WD_step rfl (S_pure rfl ?_)
            refine WD_step rfl (S_loadO rfl (by repeat (first | exact Pick.head | apply Pick.tail)) (by rfl) (by rfl) ?_)
            refine WD_step rfl (S_pure rfl ?_)
            refine WD_cases (t := 35) rfl (fun hg3 => ?_) (fun hg3 => ?_)
            ·
              try simp only [decide_eq_true_eq, decide_eq_false_iff_not, Bool.not_eq_true', Bool.not_eq_false', beq_iff_eq, bne_iff_ne, beq_eq_false_iff_ne, Int.ofNat_lt, Int.ofNat_le, Int.ofNat_inj, ne_eq, gt_iff_lt, ge_iff_le] at hg3
              refine WD_off rfl ?_
              refine WD_off rfl ?_
              refine WD_off rfl ?_
              refine WD_off rfl ?_
              refine WD_off rfl ?_
              refine WD_off rfl ?_
              refine WD_off rfl ?_
              refine WD_off rfl ?_
              refine WD_off rfl ?_
              refine WD_off rfl ?_
              refine WD_off rfl ?_
              refine WD_off rfl ?_
              refine WD_step rfl (S_pure rfl ?_)
              refine WD_step rfl (S_pure rfl ?_)
              refine WD_step rfl (S_pure rfl ?_)
              refine WD_nil ?_
              refine ⟨?_, ?_⟩
              ·
                first
                  | exact ⟨ObR.off rfl, trivial⟩
                  | (refine ⟨ObR.of_step rfl (S_loadO rfl (by repeat (first | exact Pick.head | apply Pick.tail)) (by rfl) (by rfl) ?_), trivial⟩
                     simp [eqV, eqVs, eqV0, TRec, TRaw, Ty.ofAgg, AM.cells, Value.cells, splice])
              ·
                refine KSeq_n ?_
                refine WC_ret ?_
                refine KFn_r (ResL.tmp rfl ResL.nil) ?_
                refine ⟨_, HSub.refl, ?_⟩
                have hk : mayKey R.key = true := by
                  unfold mayRec at hb2; simp only [Bool.and_eq_true] at hb2; exact hb2.1
                have hgm : mayRec (goneOf R) = true := by simp [mayRec, goneOf, hk]
                have hge : R = goneOf R ↔ R.gone = true := by
                  constructor
                  · intro h; rw [h]; rfl
                  · intro h
                    unfold mayRec at hb2; rw [h, hk] at hb2
                    simp at hb2
                    cases R; simp_all [goneOf]
                have hlen := gone_len (R := R)
                have hde : decide (R = goneOf R) = R.gone := by rw [Bool.eq_iff_iff, decide_eq_true_eq, hge]
                simp only [Bool.false_eq_true, if_false, hde, beq_self_eq_true, hgm, List.nil_append] at *
                first
                  | rfl
                  | exact absurd hg1 (by decide)
                  | exact absurd hg2 (by decide)
                  | exact absurd (hlen hg3) hg4
                  | (have hn := bs_ne (hlen hg3)
                     simp [resV, hn])
            ·
              try simp only [decide_eq_true_eq, decide_eq_false_iff_not, Bool.not_eq_true', Bool.not_eq_false', beq_iff_eq, bne_iff_ne, beq_eq_false_iff_ne, Int.ofNat_lt, Int.ofNat_le, Int.ofNat_inj, ne_eq, gt_iff_lt, ge_iff_le] at hg3
              refine WD_step rfl (S_pure rfl ?_)
              first | refine WD_step rfl (S_pure rfl ?_) | refine WD_step rfl (S_lenS rfl (by repeat (first | assumption | exact RD.head | exact RD.nil | apply RD.tail)) ?_)
              refine WD_step rfl (S_pure rfl ?_)
              first | refine WD_step rfl (S_pure rfl ?_) | refine WD_step rfl (S_lenS rfl (by repeat (first | assumption | exact RD.head | exact RD.nil | apply RD.tail)) ?_)
              refine WD_step rfl (S_pure rfl ?_)
              refine WD_step rfl (S_pure rfl ?_)
              refine WD_cases (t := 41) rfl (fun hg4 => ?_) (fun hg4 => ?_)
              ·
                try simp only [decide_eq_true_eq, decide_eq_false_iff_not, Bool.not_eq_true', Bool.not_eq_false', beq_iff_eq, bne_iff_ne, beq_eq_false_iff_ne, Int.ofNat_lt, Int.ofNat_le, Int.ofNat_inj, ne_eq, gt_iff_lt, ge_iff_le] at hg4
                refine WD_step rfl (S_pure rfl ?_)
                refine WD_step rfl (S_strOf rfl (by repeat (first | assumption | exact RD.head | exact RD.nil | apply RD.tail)) (by rfl) (by rfl) ?_)
                refine WD_step rfl (S_pure rfl ?_)
                refine WD_step rfl (S_strOf rfl (by repeat (first | assumption | exact RD.head | exact RD.nil | apply RD.tail)) (by rfl) (by rfl) ?_)
                first | refine WD_step rfl (S_neS rfl rfl ?_) | refine WD_step rfl (S_pure rfl ?_)
                refine WD_step rfl (S_pure rfl ?_)
                refine WD_step rfl (S_pure rfl ?_)
                refine WD_step rfl (S_pure rfl ?_)
                refine WD_step rfl (S_pure rfl ?_)
                refine WD_nil ?_
                refine ⟨?_, ?_⟩
                ·
                  first
                    | exact ⟨ObR.off rfl, trivial⟩
                    | (refine ⟨ObR.of_step rfl (S_loadO rfl (by repeat (first | exact Pick.head | apply Pick.tail)) (by rfl) (by rfl) ?_), trivial⟩
                       simp [eqV, eqVs, eqV0, TRec, TRaw, Ty.ofAgg, AM.cells, Value.cells, splice])
                ·
                  refine KSeq_n ?_
                  refine WC_ret ?_
                  refine KFn_r (ResL.tmp rfl ResL.nil) ?_
                  refine ⟨_, HSub.refl, ?_⟩
                  have hk : mayKey R.key = true := by
                    unfold mayRec at hb2; simp only [Bool.and_eq_true] at hb2; exact hb2.1
                  have hgm : mayRec (goneOf R) = true := by simp [mayRec, goneOf, hk]
                  have hge : R = goneOf R ↔ R.gone = true := by
                    constructor
                    · intro h; rw [h]; rfl
                    · intro h
                      unfold mayRec at hb2; rw [h, hk] at hb2
                      simp at hb2
                      cases R; simp_all [goneOf]
                  have hlen := gone_len (R := R)
                  have hde : decide (R = goneOf R) = R.gone := by rw [Bool.eq_iff_iff, decide_eq_true_eq, hge]
                  simp only [Bool.false_eq_true, if_false, hde, beq_self_eq_true, hgm, List.nil_append] at *
                  first
                    | rfl
                    | exact absurd hg1 (by decide)
                    | exact absurd hg2 (by decide)
                    | exact absurd (hlen hg3) hg4
                    | (have hn := bs_ne (hlen hg3)
                       simp [resV, hn])
              ·
                try simp only [decide_eq_true_eq, decide_eq_false_iff_not, Bool.not_eq_true', Bool.not_eq_false', beq_iff_eq, bne_iff_ne, beq_eq_false_iff_ne, Int.ofNat_lt, Int.ofNat_le, Int.ofNat_inj, ne_eq, gt_iff_lt, ge_iff_le] at hg4
                refine WD_off rfl ?_
                refine WD_off rfl ?_
                refine WD_off rfl ?_
                refine WD_off rfl ?_
                refine WD_off rfl ?_
                refine WD_step rfl (S_pure rfl ?_)
                refine WD_step rfl (S_pure rfl ?_)
                refine WD_step rfl (S_pure rfl ?_)
                refine WD_step rfl (S_pure rfl ?_)
                refine WD_nil ?_
                refine ⟨?_, ?_⟩
                ·
                  first
                    | exact ⟨ObR.off rfl, trivial⟩
                    | (refine ⟨ObR.of_step rfl (S_loadO rfl (by repeat (first | exact Pick.head | apply Pick.tail)) (by rfl) (by rfl) ?_), trivial⟩
                       simp [eqV, eqVs, eqV0, TRec, TRaw, Ty.ofAgg, AM.cells, Value.cells, splice])
                ·
                  refine KSeq_n ?_
                  refine WC_ret ?_
                  refine KFn_r (ResL.tmp rfl ResL.nil) ?_
                  refine ⟨_, HSub.refl, ?_⟩
                  have hk : mayKey R.key = true := by
                    unfold mayRec at hb2; simp only [Bool.and_eq_true] at hb2; exact hb2.1
                  have hgm : mayRec (goneOf R) = true := by simp [mayRec, goneOf, hk]
                  have hge : R = goneOf R ↔ R.gone = true := by
                    constructor
                    · intro h; rw [h]; rfl
                    · intro h
                      unfold mayRec at hb2; rw [h, hk] at hb2
                      simp at hb2
                      cases R; simp_all [goneOf]
                  have hlen := gone_len (R := R)
                  have hde : decide (R = goneOf R) = R.gone := by rw [Bool.eq_iff_iff, decide_eq_true_eq, hge]
                  simp only [Bool.false_eq_true, if_false, hde, beq_self_eq_true, hgm, List.nil_append] at *
                  first
                    | rfl
                    | exact absurd hg1 (by decide)
                    | exact absurd hg2 (by decide)
                    | exact absurd (hlen hg3) hg4
                    | (have hn := bs_ne (hlen hg3)
                       simp [resV, hn])
          ·
            try simp only [decide_eq_true_eq, decide_eq_false_iff_not, Bool.not_eq_true', Bool.not_eq_false', beq_iff_eq, bne_iff_ne, beq_eq_false_iff_ne, Int.ofNat_lt, Int.ofNat_le, Int.ofNat_inj, ne_eq, gt_iff_lt, ge_iff_le] at hg2
            refine WD_off rfl ?_
            refine WD_off rfl ?_
            refine WD_off rfl ?_
            refine WD_off rfl ?_
            refine WD_off rfl ?_
            refine WD_off rfl ?_
            refine WD_off rfl ?_
            refine WD_off rfl ?_
            refine WD_off rfl ?_
            refine WD_off rfl ?_
            refine WD_off rfl ?_
            refine WD_off rfl ?_
            refine WD_off rfl ?_
            refine WD_off rfl ?_
            refine WD_off rfl ?_
            refine WD_off rfl ?_
            refine WD_step rfl (S_pure rfl ?_)
            refine WD_step rfl (S_pure rfl ?_)
            refine WD_nil ?_
            refine ⟨?_, ?_⟩
            ·
              first
                | exact ⟨ObR.off rfl, trivial⟩
                | (refine ⟨ObR.of_step rfl (S_loadO rfl (by repeat (first | exact Pick.head | apply Pick.tail)) (by rfl) (by rfl) ?_), trivial⟩
                   simp [eqV, eqVs, eqV0, TRec, TRaw, Ty.ofAgg, AM.cells, Value.cells, splice])
            ·
              refine KSeq_n ?_
              refine WC_ret ?_
              refine KFn_r (ResL.tmp rfl ResL.nil) ?_
              refine ⟨_, HSub.refl, ?_⟩
              have hk : mayKey R.key = true := by
                unfold mayRec at hb2; simp only [Bool.and_eq_true] at hb2; exact hb2.1
              have hgm : mayRec (goneOf R) = true := by simp [mayRec, goneOf, hk]
              have hge : R = goneOf R ↔ R.gone = true := by
                constructor
                · intro h; rw [h]; rfl
                · intro h
                  unfold mayRec at hb2; rw [h, hk] at hb2
                  simp at hb2
                  cases R; simp_all [goneOf]
              have hlen := gone_len (R := R)
              have hde : decide (R = goneOf R) = R.gone := by rw [Bool.eq_iff_iff, decide_eq_true_eq, hge]
              simp only [Bool.false_eq_true, if_false, hde, beq_self_eq_true, hgm, List.nil_append] at *
              first
                | rfl
                | exact absurd hg1 (by decide)
                | exact absurd hg2 (by decide)
                | exact absurd (hlen hg3) hg4
                | (have hn := bs_ne (hlen hg3)
                   simp [resV, hn])
        ·
          try simp only [decide_eq_true_eq, decide_eq_false_iff_not, Bool.not_eq_true', Bool.not_eq_false', beq_iff_eq, bne_iff_ne, beq_eq_false_iff_ne, Int.ofNat_lt, Int.ofNat_le, Int.ofNat_inj, ne_eq, gt_iff_lt, ge_iff_le] at hg1
          refine WD_off rfl ?_
          refine WD_off rfl ?_
          refine WD_off rfl ?_
          refine WD_off rfl ?_
          refine WD_off rfl ?_
          refine WD_off rfl ?_
          refine WD_step rfl (S_pure rfl ?_)
          refine WD_step rfl (S_pure rfl ?_)
          refine WD_off rfl ?_
          refine WD_off rfl ?_
          refine WD_off rfl ?_
          refine WD_off rfl ?_
          refine WD_off rfl ?_
          refine WD_off rfl ?_
          refine WD_off rfl ?_
          refine WD_off rfl ?_
          refine WD_off rfl ?_
          refine WD_off rfl ?_
          refine WD_off rfl ?_
          refine WD_off rfl ?_
          refine WD_off rfl ?_
          refine WD_off rfl ?_
          refine WD_off rfl ?_
          refine WD_off rfl ?_
          refine WD_step rfl (S_pure rfl ?_)
          refine WD_step rfl (S_pure rfl ?_)
          refine WD_nil ?_
          refine ⟨?_, ?_⟩
          ·
            first
              | exact ⟨ObR.off rfl, trivial⟩
              | (refine ⟨ObR.of_step rfl (S_loadO rfl (by repeat (first | exact Pick.head | apply Pick.tail)) (by rfl) (by rfl) ?_), trivial⟩
                 simp [eqV, eqVs, eqV0, TRec, TRaw, Ty.ofAgg, AM.cells, Value.cells, splice])
          ·
            refine KSeq_n ?_
            refine WC_ret ?_
            refine KFn_r (ResL.tmp rfl ResL.nil) ?_
            refine ⟨_, HSub.refl, ?_⟩
            have hk : mayKey R.key = true := by
              unfold mayRec at hb2; simp only [Bool.and_eq_true] at hb2; exact hb2.1
            have hgm : mayRec (goneOf R) = true := by simp [mayRec, goneOf, hk]
            have hge : R = goneOf R ↔ R.gone = true := by
              constructor
              · intro h; rw [h]; rfl
              · intro h
                unfold mayRec at hb2; rw [h, hk] at hb2
                simp at hb2
                cases R; simp_all [goneOf]
            have hlen := gone_len (R := R)
            have hde : decide (R = goneOf R) = R.gone := by rw [Bool.eq_iff_iff, decide_eq_true_eq, hge]
            simp only [Bool.false_eq_true, if_false, hde, beq_self_eq_true, hgm, List.nil_append] at *
            first
              | rfl
              | exact absurd hg1 (by decide)
              | exact absurd hg2 (by decide)
              | exact absurd (hlen hg3) hg4
              | (have hn := bs_ne (hlen hg3)
                 simp [resV, hn])
end Go.Proofs.Ytkiijlaibapmaaa.AM
