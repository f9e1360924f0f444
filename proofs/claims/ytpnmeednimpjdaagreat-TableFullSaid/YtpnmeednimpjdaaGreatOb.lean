/- Walks: what the functions compute. -/
import Derived.Test.YtpnmeednimpjdaaGreatOg
namespace Go.Proofs.YtpnmeednimpjdaaGreat.AM
open Go
set_option linter.unusedSimpArgs false
set_option linter.unusedVariables false
set_option maxRecDepth 4000

/-! ### One record -/
def kA : ByteArray := ⟨#[97]⟩
def tsA : List SlT := zeroT.set (4 * frst (kH kA)) ⟨true, goneR kA⟩
theorem tsA_lay : lay [goneR kA] [] = tsA := lay1_end (by decide) (by decide)
theorem tsA_good : GoodT tsA := by
  rw [← tsA_lay]
  refine lay_good (fun x hx => ?_) []
  simp at hx; subst hx
  rw [cut_goneR (by decide)]
  exact goneR_wf (by decide)
theorem tsA_filter : tsA.filter (·.has) = [⟨true, goneR kA⟩] := filter_set rfl zeroT_has (by rw [zeroT_len]; have := frst_lt (kH kA); omega)
theorem tsA_recs : newest (tRecs tsA 32) = [goneR kA] := by
  rw [tRecs_all tsA_good.1, tsA_filter]; rfl
theorem tsA_enc : (encT tsA).length = 9 := by
  unfold encT
  rw [List.length_append, byts_len, recsB_filter, tsA_filter]
  have h1 : zz 1 = 2 := by decide
  have h0 : zz 0 = 0 := by decide
  have hp : (putRec (goneR kA)).length = 3 := by
    unfold putRec putText
    rw [if_pos (show (goneR kA).gone = true from rfl)]
    have e1 : ((goneR kA).key.size : Int) = 1 := rfl
    have e2 : (goneR kA).key.data.toList.length = 1 := rfl
    rw [e1, List.length_append, List.length_append, e2]
    unfold put
    rw [h1, h0, encU_lt (by decide), encU_lt (by decide)]; rfl
  rw [List.flatMap_cons, List.flatMap_nil, List.append_nil]
  unfold slB
  rw [if_pos rfl, List.length_append, hp]; rfl
theorem zeroT_enc : (encT zeroT).length = 4 := by
  unfold encT
  have : zeroT.filter (·.has) = [] := by
    rw [List.filter_eq_nil_iff]
    intro y hy
    rw [zeroT_has y hy]; decide
  rw [List.length_append, byts_len, recsB_filter, this]; rfl
def badT : List SlT := zeroT.set 0 ⟨true, rec0⟩
theorem badT_len : badT.length = 32 := by unfold badT; rw [List.length_set]; exact zeroT_len
theorem badT_wf : wfT badT := fun x hx => by
  rcases List.mem_or_eq_of_mem_set hx with hx | rfl
  · exact zeroT_wf x hx
  · show wfRec rec0
    unfold wfRec; decide
theorem badT_no : mayTab badT = false := by
  refine OkTo.bad (k := 0) (x := ⟨true, rec0⟩) badT_len (by unfold badT; rw [List.getElem?_set_self (by rw [zeroT_len]; omega)]) ?_
  unfold slOk
  rw [if_pos rfl]
  have : mayRec rec0 = false := by decide
  rw [this]; rfl
theorem no3 : ∀ ts', ¬ IsT [0, 0, 0] ts' := fun ts' h => by
  have := h.l4
  simp at this
theorem S_lit3Z {l : SE} {H : SH} {K : Value → SH → Prop} (kk : ∀ w : SV, K w.toV (SL w.toV TByte [0, 0, 0] :: H)) : Step (.lit 5 1 3 [.int .u8 0, .int .u8 0, .int .u8 0] [(0, (1, .const (.int .u8 0))), (1, (1, .const (.int .u8 0))), (2, (1, .const (.int .u8 0)))]) l H K := S_lit (vs := [.int .u8 0, .int .u8 0, .int .u8 0]) rfl rfl rfl (fun w => kk w)
theorem sp_begunT {H : SH} : WF F X f_loesslaw19_begun [] H (fun r H' => H' = H ∧ r = .bool true) := by
  refine WF_addNil (T := TBool) ?_
  refine WF_fn F_loesslaw19_begun ?_
  refine WC_seq (WC_region ?_)
  refine WO_step rfl (S_pure rfl ?_)
  refine WO_nil (KSeq_n (WC_seq (WC_region ?_)))
  refine WO_step rfl (S_pure rfl ?_)
  refine WO_step rfl (S_lit1 (T := TRec) (y := goneR kA) rfl rfl rfl rfl fun w10 => ?_)
  refine WO_call rfl rfl rfl ?_
  refine (sp_Lay (l := [goneR kA]) (turn := []) rdA rdA).mono ?_
  rintro _ _ ⟨rfl, rfl⟩
  rw [tsA_lay]
  refine WO_call rfl rfl rfl ?_
  refine (sp_OfT tsA_good.1).mono ?_
  rintro _ _ ⟨rfl, rfl⟩
  refine WO_step rfl (S_new fun i1 => ?_)
  refine WO_step rfl (S_storeAll (T := TSlT) (xs := tsA) rfl rfl pkA (by rfl) (by rw [tsA_good.1]; rfl) ?_)
  refine WO_nil (KSeq_n (WC_seq (WC_region ?_)))
  refine WO_step rfl (S_loadAll (T := TSlT) (xs := tsA) rfl pkA (by rw [tsA_good.1]; rfl) ?_)
  refine WO_call rfl rfl rfl ?_
  refine (sp_oEnc tsA_good.1 tsA_good.2.1).mono ?_
  rintro _ _ ⟨w14, rfl, _, rfl⟩
  rw [if_pos tsA_good.2.2]
  have hel := tsA_enc
  refine WO_step rfl (S_pure rfl ?_)
  refine WO_nil (KSeq_n (WC_seq (WC_region ?_)))
  refine WO_step rfl (S_pure rfl ?_)
  refine WO_call rfl rfl rfl ?_
  refine (sp_oDec (bs := encT tsA) rdA (by omega)).mono ?_
  rintro _ _ ⟨ts2, e2, rfl, rfl, hl2, hw2, hD2⟩
  rcases hD2 with ⟨rfl, hm2, hb2', hu2⟩ | ⟨_, _, hno⟩
  rotate_left
  · exact absurd tsA_good.isT (hno tsA)
  have e2 := hu2 tsA tsA_good.isT
  subst e2
  have hgA : [goneR kA][0]? = some (goneR kA) := rfl
  iterate 3 refine WO_step rfl (S_pure rfl ?_)
  refine WO_step rfl (S_new fun i3 => ?_)
  refine WO_step rfl (S_storeAll (T := TSlT) (xs := tsA) rfl rfl pkA (by rfl) (by rw [tsA_good.1]; rfl) ?_)
  refine WO_step rfl (S_pure rfl ?_)
  refine WO_nil (KSeq_n (WC_seq (WC_region ?_)))
  refine WO_step rfl (S_lit3Z fun w21 => ?_)
  refine WO_call rfl rfl rfl ?_
  refine (sp_oDec (bs := [0, 0, 0]) rdA (by simp)).mono ?_
  rintro _ _ ⟨ts3, e3, rfl, rfl, hl3, hw3, hD3⟩
  rcases hD3 with ⟨rfl, hm3, hb3', _⟩ | ⟨rfl, rfl, _⟩
  · exact absurd ⟨hl3, hw3, hm3, hb3'⟩ (no3 ts3)
  iterate 3 refine WO_step rfl (S_pure rfl ?_)
  refine WO_step rfl (S_new fun i5 => ?_)
  refine WO_step rfl (S_storeAll (T := TSlT) (xs := zeroT) rfl rfl pkA (by rfl) (by rw [zeroT_len]; rfl) ?_)
  refine WO_step rfl (S_pure rfl ?_)
  refine WO_nil (KSeq_n (WC_seq (WC_region ?_)))
  refine WO_step rfl (S_new fun i7 => ?_)
  refine WO_nil (KSeq_n (WC_seq (WC_region ?_)))
  refine WO_step rfl (S_idxA (j := 0) rfl rfl rfl (by omega) ?_)
  refine WO_step rfl (S_idxA (j := 0) rfl rfl rfl (by omega) ?_)
  refine WO_step rfl (S_pure rfl ?_)
  refine WO_step rfl (S_storeO rfl rfl pkA (by first | rfl | exact SV.cells1 _) (by rfl) (by first | rfl | exact SV.ones _) ?_)
  refine WO_nil (KSeq_n (WC_seq (WC_region ?_)))
  refine WO_step rfl (S_loadAll (T := TSlT) (xs := tsA) rfl pkA (by rw [tsA_good.1]; rfl) ?_)
  refine WO_call rfl rfl rfl ?_
  refine (sp_oList tsA_good.1 tsA_good.2.1.small).mono ?_
  rintro _ _ ⟨u29, rfl, rfl⟩
  rw [tsA_recs]
  refine WO_step rfl (S_pure rfl ?_)
  refine WO_nil (KSeq_n (WC_seq (WC_drawn ?_)))
  refine WD_step rfl (S_loadAll (T := TSlT) (xs := tsA) rfl pkA (by rw [tsA_good.1]; rfl) ?_)
  refine WD_call rfl rfl rfl ?_
  refine (sp_oMay tsA_good.1 tsA_good.2.1.small).mono ?_
  rintro _ _ ⟨rfl, rfl⟩
  rw [tsA_good.2.2]
  refine WD_step rfl (S_pure rfl ?_)
  refine WD_cases (t := 32) rfl (fun hg1 => ?_) (fun hg1 => ?_)
  ·
   try simp only [bsT] at hg1
   refine WD_step rfl (S_loadO (v := tabV badT) rfl pkA (by rfl) (by rfl) ?_)
   refine WD_call rfl rfl rfl ?_
   refine (sp_oMay badT_len badT_wf.small).mono ?_
   rintro _ _ ⟨rfl, rfl⟩
   rw [badT_no]
   refine WD_step rfl (S_pure rfl ?_)
   refine WD_step rfl (S_pure rfl ?_)
   refine WD_step rfl (S_pure rfl ?_)
   refine WD_cases (t := 37) rfl (fun hg2 => ?_) (fun hg2 => ?_)
   ·
    try simp only [bsT] at hg2
    refine WD_step rfl (S_pure rfl ?_)
    first | refine WD_step rfl (S_pure rfl ?_) | refine WD_step rfl (S_lenS rfl rdA ?_)
    first | refine WD_step rfl (S_eqS rfl rfl ?_) | refine WD_step rfl (S_pure rfl ?_)
    refine WD_step rfl (S_pure rfl ?_)
    refine WD_step rfl (S_pure rfl ?_)
    refine WD_cases (t := 42) rfl (fun hg3 => ?_) (fun hg3 => ?_)
    ·
     try simp only [bsT] at hg3
     refine WD_step rfl (S_pure rfl ?_)
     first | refine WD_step rfl (S_eqS rfl rfl ?_) | refine WD_step rfl (S_pure rfl ?_)
     refine WD_step rfl (S_pure rfl ?_)
     refine WD_step rfl (S_pure rfl ?_)
     refine WD_cases (t := 46) rfl (fun hg4 => ?_) (fun hg4 => ?_)
     ·
      try simp only [bsT] at hg4
      refine WD_step rfl (S_loadAll (T := TSlT) (xs := tsA) rfl pkA (by rw [tsA_good.1]; rfl) ?_)
      refine WD_call rfl rfl rfl ?_
      refine (sp_BkT tsA_good.1).mono ?_
      rintro _ _ ⟨rfl, rfl⟩
      refine WD_step rfl (S_loadAll (T := TSlT) (xs := tsA) rfl pkA (by rw [tsA_good.1]; rfl) ?_)
      refine WD_call rfl rfl rfl ?_
      refine (sp_BkT tsA_good.1).mono ?_
      rintro _ _ ⟨rfl, rfl⟩
      refine WD_call rfl rfl rfl ?_
      refine (sp_eqT tsA_good.1 tsA_good.1).mono ?_
      rintro _ _ ⟨rfl, rfl⟩
      refine WD_step rfl (S_pure rfl ?_)
      refine WD_step rfl (S_pure rfl ?_)
      refine WD_cases (t := 53) rfl (fun hg5 => ?_) (fun hg5 => ?_)
      ·
       try simp only [bsT] at hg5
       refine WD_step rfl (S_pure rfl ?_)
       first | refine WD_step rfl (S_eqS rfl rfl ?_) | refine WD_step rfl (S_pure rfl ?_)
       refine WD_step rfl (S_pure rfl ?_)
       refine WD_step rfl (S_pure rfl ?_)
       refine WD_cases (t := 57) rfl (fun hg6 => ?_) (fun hg6 => ?_)
       ·
        try simp only [bsT] at hg6
        refine WD_step rfl (S_pure rfl ?_)
        first | refine WD_step rfl (S_pure rfl ?_) | refine WD_step rfl (S_lenS rfl rdA ?_)
        first | refine WD_step rfl (S_eqS rfl rfl ?_) | refine WD_step rfl (S_pure rfl ?_)
        refine WD_step rfl (S_pure rfl ?_)
        refine WD_step rfl (S_pure rfl ?_)
        refine WD_cases (t := 62) rfl (fun hg7 => ?_) (fun hg7 => ?_)
        ·
         try simp only [bsT] at hg7
         refine WD_step rfl (S_pure rfl ?_)
         refine WD_step rfl (S_idx (j := 0) rfl rfl rdA (by first | rfl | assumption | (symm; assumption)) (by rfl) (by first | assumption | omega | exact lt_of_get (by assumption) | (simp only [List.length_set]; first | assumption | omega | exact lt_of_get (by assumption))) fun hp64 => ?_)
         refine WD_step rfl (S_fldE rfl (by repeat (first | assumption | apply IsP.padd)) ?_)
         refine WD_step rfl (S_loadF rfl rdA (by rfl) (by assumption) (by rfl) (by rfl) ?_)
         first | refine WD_step rfl (S_eqS rfl rfl ?_) | refine WD_step rfl (S_pure rfl ?_)
         refine WD_step rfl (S_pure rfl ?_)
         refine WD_step rfl (S_pure rfl ?_)
         refine WD_cases (t := 69) rfl (fun hg8 => ?_) (fun hg8 => ?_)
         ·
          try simp only [bsT] at hg8
          refine WD_step rfl (S_pureE (v := tabV zeroT) rfl rfl ?_)
          refine WD_call rfl rfl rfl ?_
          refine (sp_oEnc zeroT_len zeroT_wf).mono ?_
          rintro _ _ ⟨w71, rfl, _, rfl⟩
          rw [if_pos zeroT_may]
          first | refine WD_step rfl (S_pure rfl ?_) | refine WD_step rfl (S_lenS rfl rdA ?_)
          first | refine WD_step rfl (S_eqS rfl rfl ?_) | refine WD_step rfl (S_pure rfl ?_)
          refine WD_step rfl (S_pure rfl ?_)
          refine WD_step rfl (S_pure rfl ?_)
          refine WD_nil ?_
          refine ⟨?_, ?_⟩
          ·
           first
             | exact ⟨ObR.off rfl, trivial⟩
             | exact ⟨ObR.of_step rfl (S_loadAll (T := TSlT) (xs := tsA) rfl pkA (by rw [tsA_good.1]; rfl) (eqV_tab _)), trivial⟩
          ·
           refine KSeq_n (WC_ret ?_)
           refine KFn_r (ResL.tmp rfl ResL.nil) ?_
           refine ⟨H, hsA, rfl, ?_⟩
           simp [resV, zeroT_enc]
         ·
          try simp only [bsT] at hg8
          refine WD_off rfl ?_
          refine WD_off rfl ?_
          refine WD_off rfl ?_
          refine WD_off rfl ?_
          refine WD_step rfl (S_pure rfl ?_)
          refine WD_step rfl (S_pure rfl ?_)
          refine WD_nil ?_
          refine ⟨?_, ?_⟩
          ·
           first
             | exact ⟨ObR.off rfl, trivial⟩
             | exact ⟨ObR.of_step rfl (S_loadAll (T := TSlT) (xs := tsA) rfl pkA (by rw [tsA_good.1]; rfl) (eqV_tab _)), trivial⟩
          ·
           refine KSeq_n (WC_ret ?_)
           refine KFn_r (ResL.tmp rfl ResL.nil) ?_
           exfalso
           first
             | exact hg8 rfl
             | exact hg7 rfl
             | exact hg6 trivial
             | exact hg5 trivial
             | exact hg4 trivial
             | (exact hg3 (by rw [hel]; rfl))
             | exact hg2 trivial
             | exact hg1 trivial
             | exact absurd hg1 (by decide)
             | exact absurd hg2 (by decide)
             | exact absurd hg4 (by decide)
             | exact absurd hg5 (by decide)
             | exact absurd hg6 (by decide)
        ·
         try simp only [bsT] at hg7
         refine WD_off rfl ?_
         refine WD_off rfl ?_
         refine WD_off rfl ?_
         refine WD_off rfl ?_
         refine WD_off rfl ?_
         refine WD_step rfl (S_pure rfl ?_)
         refine WD_step rfl (S_pure rfl ?_)
         refine WD_off rfl ?_
         refine WD_off rfl ?_
         refine WD_off rfl ?_
         refine WD_off rfl ?_
         refine WD_step rfl (S_pure rfl ?_)
         refine WD_step rfl (S_pure rfl ?_)
         refine WD_nil ?_
         refine ⟨?_, ?_⟩
         ·
          first
            | exact ⟨ObR.off rfl, trivial⟩
            | exact ⟨ObR.of_step rfl (S_loadAll (T := TSlT) (xs := tsA) rfl pkA (by rw [tsA_good.1]; rfl) (eqV_tab _)), trivial⟩
         ·
          refine KSeq_n (WC_ret ?_)
          refine KFn_r (ResL.tmp rfl ResL.nil) ?_
          exfalso
          first
            | exact hg8 rfl
            | exact hg7 rfl
            | exact hg6 trivial
            | exact hg5 trivial
            | exact hg4 trivial
            | (exact hg3 (by rw [hel]; rfl))
            | exact hg2 trivial
            | exact hg1 trivial
            | exact absurd hg1 (by decide)
            | exact absurd hg2 (by decide)
            | exact absurd hg4 (by decide)
            | exact absurd hg5 (by decide)
            | exact absurd hg6 (by decide)
       ·
        try simp only [bsT] at hg6
        refine WD_off rfl ?_
        refine WD_off rfl ?_
        refine WD_off rfl ?_
        refine WD_step rfl (S_pure rfl ?_)
        refine WD_step rfl (S_pure rfl ?_)
        refine WD_off rfl ?_
        refine WD_off rfl ?_
        refine WD_off rfl ?_
        refine WD_off rfl ?_
        refine WD_off rfl ?_
        refine WD_step rfl (S_pure rfl ?_)
        refine WD_step rfl (S_pure rfl ?_)
        refine WD_off rfl ?_
        refine WD_off rfl ?_
        refine WD_off rfl ?_
        refine WD_off rfl ?_
        refine WD_step rfl (S_pure rfl ?_)
        refine WD_step rfl (S_pure rfl ?_)
        refine WD_nil ?_
        refine ⟨?_, ?_⟩
        ·
         first
           | exact ⟨ObR.off rfl, trivial⟩
           | exact ⟨ObR.of_step rfl (S_loadAll (T := TSlT) (xs := tsA) rfl pkA (by rw [tsA_good.1]; rfl) (eqV_tab _)), trivial⟩
        ·
         refine KSeq_n (WC_ret ?_)
         refine KFn_r (ResL.tmp rfl ResL.nil) ?_
         exfalso
         first
           | exact hg8 rfl
           | exact hg7 rfl
           | exact hg6 trivial
           | exact hg5 trivial
           | exact hg4 trivial
           | (exact hg3 (by rw [hel]; rfl))
           | exact hg2 trivial
           | exact hg1 trivial
           | exact absurd hg1 (by decide)
           | exact absurd hg2 (by decide)
           | exact absurd hg4 (by decide)
           | exact absurd hg5 (by decide)
           | exact absurd hg6 (by decide)
      ·
       try simp only [bsT] at hg5
       refine WD_off rfl ?_
       refine WD_off rfl ?_
       refine WD_step rfl (S_pure rfl ?_)
       refine WD_step rfl (S_pure rfl ?_)
       refine WD_off rfl ?_
       refine WD_off rfl ?_
       refine WD_off rfl ?_
       refine WD_step rfl (S_pure rfl ?_)
       refine WD_step rfl (S_pure rfl ?_)
       refine WD_off rfl ?_
       refine WD_off rfl ?_
       refine WD_off rfl ?_
       refine WD_off rfl ?_
       refine WD_off rfl ?_
       refine WD_step rfl (S_pure rfl ?_)
       refine WD_step rfl (S_pure rfl ?_)
       refine WD_off rfl ?_
       refine WD_off rfl ?_
       refine WD_off rfl ?_
       refine WD_off rfl ?_
       refine WD_step rfl (S_pure rfl ?_)
       refine WD_step rfl (S_pure rfl ?_)
       refine WD_nil ?_
       refine ⟨?_, ?_⟩
       ·
        first
          | exact ⟨ObR.off rfl, trivial⟩
          | exact ⟨ObR.of_step rfl (S_loadAll (T := TSlT) (xs := tsA) rfl pkA (by rw [tsA_good.1]; rfl) (eqV_tab _)), trivial⟩
       ·
        refine KSeq_n (WC_ret ?_)
        refine KFn_r (ResL.tmp rfl ResL.nil) ?_
        exfalso
        first
          | exact hg8 rfl
          | exact hg7 rfl
          | exact hg6 trivial
          | exact hg5 trivial
          | exact hg4 trivial
          | (exact hg3 (by rw [hel]; rfl))
          | exact hg2 trivial
          | exact hg1 trivial
          | exact absurd hg1 (by decide)
          | exact absurd hg2 (by decide)
          | exact absurd hg4 (by decide)
          | exact absurd hg5 (by decide)
          | exact absurd hg6 (by decide)
     ·
      try simp only [bsT] at hg4
      refine WD_off rfl ?_
      refine WD_off rfl ?_
      refine WD_off rfl ?_
      refine WD_off rfl ?_
      refine WD_off rfl ?_
      refine WD_step rfl (S_pure rfl ?_)
      refine WD_step rfl (S_pure rfl ?_)
      refine WD_off rfl ?_
      refine WD_off rfl ?_
      refine WD_step rfl (S_pure rfl ?_)
      refine WD_step rfl (S_pure rfl ?_)
      refine WD_off rfl ?_
      refine WD_off rfl ?_
      refine WD_off rfl ?_
      refine WD_step rfl (S_pure rfl ?_)
      refine WD_step rfl (S_pure rfl ?_)
      refine WD_off rfl ?_
      refine WD_off rfl ?_
      refine WD_off rfl ?_
      refine WD_off rfl ?_
      refine WD_off rfl ?_
      refine WD_step rfl (S_pure rfl ?_)
      refine WD_step rfl (S_pure rfl ?_)
      refine WD_off rfl ?_
      refine WD_off rfl ?_
      refine WD_off rfl ?_
      refine WD_off rfl ?_
      refine WD_step rfl (S_pure rfl ?_)
      refine WD_step rfl (S_pure rfl ?_)
      refine WD_nil ?_
      refine ⟨?_, ?_⟩
      ·
       first
         | exact ⟨ObR.off rfl, trivial⟩
         | exact ⟨ObR.of_step rfl (S_loadAll (T := TSlT) (xs := tsA) rfl pkA (by rw [tsA_good.1]; rfl) (eqV_tab _)), trivial⟩
      ·
       refine KSeq_n (WC_ret ?_)
       refine KFn_r (ResL.tmp rfl ResL.nil) ?_
       exfalso
       first
         | exact hg8 rfl
         | exact hg7 rfl
         | exact hg6 trivial
         | exact hg5 trivial
         | exact hg4 trivial
         | (exact hg3 (by rw [hel]; rfl))
         | exact hg2 trivial
         | exact hg1 trivial
         | exact absurd hg1 (by decide)
         | exact absurd hg2 (by decide)
         | exact absurd hg4 (by decide)
         | exact absurd hg5 (by decide)
         | exact absurd hg6 (by decide)
    ·
     try simp only [bsT] at hg3
     refine WD_off rfl ?_
     refine WD_off rfl ?_
     refine WD_step rfl (S_pure rfl ?_)
     refine WD_step rfl (S_pure rfl ?_)
     refine WD_off rfl ?_
     refine WD_off rfl ?_
     refine WD_off rfl ?_
     refine WD_off rfl ?_
     refine WD_off rfl ?_
     refine WD_step rfl (S_pure rfl ?_)
     refine WD_step rfl (S_pure rfl ?_)
     refine WD_off rfl ?_
     refine WD_off rfl ?_
     refine WD_step rfl (S_pure rfl ?_)
     refine WD_step rfl (S_pure rfl ?_)
     refine WD_off rfl ?_
     refine WD_off rfl ?_
     refine WD_off rfl ?_
     refine WD_step rfl (S_pure rfl ?_)
     refine WD_step rfl (S_pure rfl ?_)
     refine WD_off rfl ?_
     refine WD_off rfl ?_
     refine WD_off rfl ?_
     refine WD_off rfl ?_
     refine WD_off rfl ?_
     refine WD_step rfl (S_pure rfl ?_)
     refine WD_step rfl (S_pure rfl ?_)
     refine WD_off rfl ?_
     refine WD_off rfl ?_
     refine WD_off rfl ?_
     refine WD_off rfl ?_
     refine WD_step rfl (S_pure rfl ?_)
     refine WD_step rfl (S_pure rfl ?_)
     refine WD_nil ?_
     refine ⟨?_, ?_⟩
     ·
      first
        | exact ⟨ObR.off rfl, trivial⟩
        | exact ⟨ObR.of_step rfl (S_loadAll (T := TSlT) (xs := tsA) rfl pkA (by rw [tsA_good.1]; rfl) (eqV_tab _)), trivial⟩
     ·
      refine KSeq_n (WC_ret ?_)
      refine KFn_r (ResL.tmp rfl ResL.nil) ?_
      exfalso
      first
        | exact hg8 rfl
        | exact hg7 rfl
        | exact hg6 trivial
        | exact hg5 trivial
        | exact hg4 trivial
        | (exact hg3 (by rw [hel]; rfl))
        | exact hg2 trivial
        | exact hg1 trivial
        | exact absurd hg1 (by decide)
        | exact absurd hg2 (by decide)
        | exact absurd hg4 (by decide)
        | exact absurd hg5 (by decide)
        | exact absurd hg6 (by decide)
   ·
    try simp only [bsT] at hg2
    refine WD_off rfl ?_
    refine WD_off rfl ?_
    refine WD_off rfl ?_
    refine WD_step rfl (S_pure rfl ?_)
    refine WD_step rfl (S_pure rfl ?_)
    refine WD_off rfl ?_
    refine WD_off rfl ?_
    refine WD_step rfl (S_pure rfl ?_)
    refine WD_step rfl (S_pure rfl ?_)
    refine WD_off rfl ?_
    refine WD_off rfl ?_
    refine WD_off rfl ?_
    refine WD_off rfl ?_
    refine WD_off rfl ?_
    refine WD_step rfl (S_pure rfl ?_)
    refine WD_step rfl (S_pure rfl ?_)
    refine WD_off rfl ?_
    refine WD_off rfl ?_
    refine WD_step rfl (S_pure rfl ?_)
    refine WD_step rfl (S_pure rfl ?_)
    refine WD_off rfl ?_
    refine WD_off rfl ?_
    refine WD_off rfl ?_
    refine WD_step rfl (S_pure rfl ?_)
    refine WD_step rfl (S_pure rfl ?_)
    refine WD_off rfl ?_
    refine WD_off rfl ?_
    refine WD_off rfl ?_
    refine WD_off rfl ?_
    refine WD_off rfl ?_
    refine WD_step rfl (S_pure rfl ?_)
    refine WD_step rfl (S_pure rfl ?_)
    refine WD_off rfl ?_
    refine WD_off rfl ?_
    refine WD_off rfl ?_
    refine WD_off rfl ?_
    refine WD_step rfl (S_pure rfl ?_)
    refine WD_step rfl (S_pure rfl ?_)
    refine WD_nil ?_
    refine ⟨?_, ?_⟩
    ·
     first
       | exact ⟨ObR.off rfl, trivial⟩
       | exact ⟨ObR.of_step rfl (S_loadAll (T := TSlT) (xs := tsA) rfl pkA (by rw [tsA_good.1]; rfl) (eqV_tab _)), trivial⟩
    ·
     refine KSeq_n (WC_ret ?_)
     refine KFn_r (ResL.tmp rfl ResL.nil) ?_
     exfalso
     first
       | exact hg8 rfl
       | exact hg7 rfl
       | exact hg6 trivial
       | exact hg5 trivial
       | exact hg4 trivial
       | (exact hg3 (by rw [hel]; rfl))
       | exact hg2 trivial
       | exact hg1 trivial
       | exact absurd hg1 (by decide)
       | exact absurd hg2 (by decide)
       | exact absurd hg4 (by decide)
       | exact absurd hg5 (by decide)
       | exact absurd hg6 (by decide)
  ·
   try simp only [bsT] at hg1
   refine WD_off rfl ?_
   refine WD_off rfl ?_
   refine WD_off rfl ?_
   refine WD_step rfl (S_pure rfl ?_)
   refine WD_step rfl (S_pure rfl ?_)
   refine WD_off rfl ?_
   refine WD_off rfl ?_
   refine WD_off rfl ?_
   refine WD_step rfl (S_pure rfl ?_)
   refine WD_step rfl (S_pure rfl ?_)
   refine WD_off rfl ?_
   refine WD_off rfl ?_
   refine WD_step rfl (S_pure rfl ?_)
   refine WD_step rfl (S_pure rfl ?_)
   refine WD_off rfl ?_
   refine WD_off rfl ?_
   refine WD_off rfl ?_
   refine WD_off rfl ?_
   refine WD_off rfl ?_
   refine WD_step rfl (S_pure rfl ?_)
   refine WD_step rfl (S_pure rfl ?_)
   refine WD_off rfl ?_
   refine WD_off rfl ?_
   refine WD_step rfl (S_pure rfl ?_)
   refine WD_step rfl (S_pure rfl ?_)
   refine WD_off rfl ?_
   refine WD_off rfl ?_
   refine WD_off rfl ?_
   refine WD_step rfl (S_pure rfl ?_)
   refine WD_step rfl (S_pure rfl ?_)
   refine WD_off rfl ?_
   refine WD_off rfl ?_
   refine WD_off rfl ?_
   refine WD_off rfl ?_
   refine WD_off rfl ?_
   refine WD_step rfl (S_pure rfl ?_)
   refine WD_step rfl (S_pure rfl ?_)
   refine WD_off rfl ?_
   refine WD_off rfl ?_
   refine WD_off rfl ?_
   refine WD_off rfl ?_
   refine WD_step rfl (S_pure rfl ?_)
   refine WD_step rfl (S_pure rfl ?_)
   refine WD_nil ?_
   refine ⟨?_, ?_⟩
   ·
    first
      | exact ⟨ObR.off rfl, trivial⟩
      | exact ⟨ObR.of_step rfl (S_loadAll (T := TSlT) (xs := tsA) rfl pkA (by rw [tsA_good.1]; rfl) (eqV_tab _)), trivial⟩
   ·
    refine KSeq_n (WC_ret ?_)
    refine KFn_r (ResL.tmp rfl ResL.nil) ?_
    exfalso
    first
      | exact hg8 rfl
      | exact hg7 rfl
      | exact hg6 trivial
      | exact hg5 trivial
      | exact hg4 trivial
      | (exact hg3 (by rw [hel]; rfl))
      | exact hg2 trivial
      | exact hg1 trivial
      | exact absurd hg1 (by decide)
      | exact absurd hg2 (by decide)
      | exact absurd hg4 (by decide)
      | exact absurd hg5 (by decide)
      | exact absurd hg6 (by decide)

end Go.Proofs.YtpnmeednimpjdaaGreat.AM
