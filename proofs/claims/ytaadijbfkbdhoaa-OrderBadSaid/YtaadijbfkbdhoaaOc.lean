/- Walks: what the functions compute. -/
import Derived.Test.YtaadijbfkbdhoaaOb
import Derived.Test.YtaadijbfkbdhoaaFlat
import Derived.KernelRfl
namespace Go.Proofs.Ytaadijbfkbdhoaa.AM
open Go
set_option linter.unusedSimpArgs false
set_option linter.unusedVariables false
set_option maxRecDepth 4000

/-! ### Laws of tables -/
theorem wf_cut {r : Rec} (hok : okRec r) : wfRec (cutRec r) := by
  obtain ⟨h0, h1, h2, h3⟩ := hok
  have a1 := cut_size r.key 20
  have a2 := cut_size r.val.s 30
  simp [Lit.wf, IntKind.min, IntKind.max, IntKind.bits, IntKind.signed] at h1 h2
  refine ⟨?_, ?_, ?_, ?_⟩ <;> simp only [cutRec, cutRaw] <;> omega
theorem FBoolT : Flat Try.prog 4 TBool (fun _ => True) := by
  refine ⟨by kernel_rfl, by decide, ?_, fun _ => rfl⟩
  intro H enc W base spare held fuel cs x h
  obtain ⟨n, hn⟩ := trod_bool' Try.underlying4 h
  exact ⟨n, hn, trivial⟩
/-! ### Bytes that come in -/
theorem FByte : Flat Try.prog 5 TByte (fun _ => True) := by
  refine ⟨by kernel_rfl, by decide, ?_, fun _ => rfl⟩
  intro H enc W base spare held fuel cs x h
  obtain ⟨n, hn, hw⟩ := trod_int' Try.underlying5 h
  simp [Lit.wf, IntKind.min, IntKind.max, IntKind.bits, IntKind.signed] at hw
  refine ⟨UInt8.ofNat n.toNat, ?_, trivial⟩
  rw [hn]
  show [Value.int .u8 n] = [encByte (UInt8.ofNat n.toNat)]
  rw [← enc_B (by omega)]; congr 2; omega
theorem xorBB (a b : UInt8) : (BitVec.ofInt 8 ((a.toNat : Nat) : Int) ^^^ BitVec.ofInt 8 ((b.toNat : Nat) : Int)).toNat = (a ^^^ b).toNat := by
  have h1 := UInt8.toNat_lt a
  have h2 := UInt8.toNat_lt b
  rw [BitVec.toNat_xor, BitVec.ofInt_natCast, BitVec.ofInt_natCast, BitVec.toNat_ofNat, BitVec.toNat_ofNat, UInt8.toNat_xor, Nat.mod_eq_of_lt (by omega), Nat.mod_eq_of_lt (by omega)]
theorem S_xorB {l : SE} {H : SH} {K : Value → SH → Prop} {x y : Opd} {a b : UInt8} (hx : x.lv l = some (.int .u8 (a.toNat : Int))) (hy : y.lv l = some (.int .u8 (b.toNat : Int))) (k : K (.int .u8 ((a ^^^ b).toNat : Int)) H) : Step (.bin .xor x y) l H K :=
  S_pureE (v := .int .u8 (IntKind.wrap .u8 ((BitVec.ofInt 8 ((a.toNat : Nat) : Int) ^^^ BitVec.ofInt 8 ((b.toNat : Nat) : Int)).toNat : Int))) (by
    simp only [pev, hx, hy, binV, intBin, if_true]; rfl) (by
    have := UInt8.toNat_lt (a ^^^ b)
    rw [xorBB, wrap_u8 (by omega) (by omega)]) k
theorem sp_oDecG {H : SH} {v : Value} {W : List SlT} (g : GoodT W) (hv : RD H v TByte (encT W)) : WF F X 11 [v] H (fun r H' => H' = H ∧ r = .tuple #[tabV W, .int .i64 0]) := by
  have hel := encT_len g.1 g.2.1 g.2.2
  refine (sp_oDec hv (by omega)).mono ?_
  rintro _ _ ⟨ts2, e2, rfl, rfl, hl2, hw2, hD2⟩
  rcases hD2 with ⟨rfl, hm2, hb2', hu2⟩ | ⟨_, _, hno⟩
  · rw [hu2 W g.isT]; exact ⟨rfl, rfl⟩
  · exact absurd g.isT (hno W)
theorem law_OrderAll {H : SH} {v0 v1 : Value} {l : List Rec} {turn : List Bool} (hv : RD H v0 TRec l) (hok : ∀ x ∈ l, okRec x) (ht : RD H v1 TBool turn) (_ : ∀ x ∈ turn, True) : WF F X f_loesslaw19_OrderAll [v0, v1] H (fun v _ => v = .bool true) := by
  have g0 : GoodT (lay l turn) := lay_good (fun x hx => wf_cut (hok x hx)) turn
  generalize hW : lay l turn = W at g0
  have hl := g0.1
  have hw := g0.2.1
  have hm := g0.2.2
  have hel := encT_len hl hw hm
  refine WF_fn F_loesslaw19_OrderAll ?_
  refine WC_seq ?_
  refine WC_region ?_
  refine WO_step rfl (S_pure rfl ?_)
  refine WO_nil ?_
  refine KSeq_n ?_
  refine WC_seq ?_
  refine WC_region ?_
  refine WO_call rfl rfl rfl ?_
  refine sp_begunT.mono ?_
  rintro _ _ ⟨rfl, rfl⟩
  refine WO_step rfl (S_pure rfl ?_)
  refine WO_nil ?_
  refine KSeq_n ?_
  refine WC_seq ?_
  refine WC_seq ?_
  refine WC_region ?_
  refine WO_step rfl (S_pure rfl ?_)
  refine WO_step rfl (S_pure rfl ?_)
  refine WO_nil ?_
  refine KSeq_n ?_
  refine WC_cond rfl (fun hb1 => ?_) (fun hb1 => ?_)
  ·
    try simp only [bsT] at hb1
    exact absurd hb1 (by simp)
    --stop
  ·
    try simp only [bsT] at hb1
    refine WC_skip ?_
    refine KSeq_n ?_
    refine WC_seq ?_
    refine WC_region ?_
    refine WO_step rfl (S_pure rfl ?_)
    refine WO_step rfl (S_pure rfl ?_)
    refine WO_call rfl rfl rfl ?_
    refine (sp_Lay hv ht).mono ?_
    rintro _ _ ⟨rfl, rfl⟩
    rw [hW]
    refine WO_step rfl (S_new fun i6 => ?_)
    refine WO_step rfl (S_storeAll (T := TSlT) (xs := W) rfl rfl pkA (by rfl) (by rw [hl]; rfl) ?_)
    refine WO_nil ?_
    refine KSeq_n ?_
    refine WC_seq ?_
    refine WC_region ?_
    refine WO_step rfl (S_loadAll (T := TSlT) (xs := W) rfl pkA (by rw [hl]; rfl) ?_)
    refine WO_call rfl rfl rfl ?_
    refine (sp_OfT hl).mono ?_
    rintro _ _ ⟨rfl, rfl⟩
    refine WO_step rfl (S_new fun i7 => ?_)
    refine WO_step rfl (S_storeAll (T := TSlT) (xs := W) rfl rfl pkA (by rfl) (by rw [hl]; rfl) ?_)
    refine WO_nil ?_
    refine KSeq_n ?_
    refine WC_seq ?_
    refine WC_region ?_
    refine WO_step rfl (S_loadAll (T := TSlT) (xs := W) rfl pkA (by rw [hl]; rfl) ?_)
    refine WO_call rfl rfl rfl ?_
    refine (sp_oEnc hl hw).mono ?_
    rintro _ _ ⟨w20, rfl, _, rfl⟩
    rw [if_pos hm]
    refine WO_step rfl (S_pure rfl ?_)
    refine WO_nil ?_
    refine KSeq_n ?_
    refine WC_seq ?_
    refine WC_region ?_
    refine WO_step rfl (S_pure rfl ?_)
    refine WO_call rfl rfl rfl ?_
    refine (sp_oDecG g0 rdA).mono ?_
    rintro _ _ ⟨rfl, rfl⟩
    refine WO_step rfl (S_pure rfl ?_)
    refine WO_step rfl (S_pure rfl ?_)
    refine WO_step rfl (S_pure rfl ?_)
    refine WO_step rfl (S_new fun i9 => ?_)
    refine WO_step rfl (S_storeAll (T := TSlT) (xs := W) rfl rfl pkA (by rfl) (by rw [hl]; rfl) ?_)
    refine WO_step rfl (S_pure rfl ?_)
    refine WO_nil ?_
    refine KSeq_n ?_
    refine WC_seq ?_
    refine WC_drawn ?_
    refine WD_step rfl (S_loadAll (T := TSlT) (xs := W) rfl pkA (by rw [hl]; rfl) ?_)
    refine WD_call rfl rfl rfl ?_
    refine (sp_oMay hl hw.small).mono ?_
    rintro _ _ ⟨rfl, rfl⟩
    rw [hm]
    refine WD_step rfl (S_pure rfl ?_)
    refine WD_cases (t := 28) rfl (fun hg1 => ?_) (fun hg1 => ?_)
    ·
      try simp only [bsT] at hg1
      refine WD_step rfl (S_pure rfl ?_)
      refine WD_step rfl (S_strOf rfl rdA (by rfl) (by rfl) ?_)
      refine WD_step rfl (S_loadAll (T := TSlT) (xs := W) rfl pkA (by rw [hl]; rfl) ?_)
      refine WD_call rfl rfl rfl ?_
      refine (sp_TB hl hw).mono ?_
      rintro _ _ ⟨w32, rfl, _, rfl⟩
      rw [if_pos hm]
      refine WD_step rfl (S_strOf rfl rdA (by rfl) (by rfl) ?_)
      first | refine WD_step rfl (S_eqS rfl rfl ?_) | refine WD_step rfl (S_pure rfl ?_)
      refine WD_step rfl (S_pure rfl ?_)
      refine WD_step rfl (S_pure rfl ?_)
      refine WD_cases (t := 36) rfl (fun hg2 => ?_) (fun hg2 => ?_)
      ·
        try simp only [bsT] at hg2
        refine WD_step rfl (S_pure rfl ?_)
        first | refine WD_step rfl (S_eqS rfl rfl ?_) | refine WD_step rfl (S_pure rfl ?_)
        refine WD_step rfl (S_pure rfl ?_)
        refine WD_step rfl (S_pure rfl ?_)
        refine WD_cases (t := 40) rfl (fun hg3 => ?_) (fun hg3 => ?_)
        ·
          try simp only [bsT] at hg3
          refine WD_step rfl (S_loadAll (T := TSlT) (xs := W) rfl pkA (by rw [hl]; rfl) ?_)
          refine WD_call rfl rfl rfl ?_
          refine (sp_BkT hl).mono ?_
          rintro _ _ ⟨rfl, rfl⟩
          refine WD_step rfl (S_loadAll (T := TSlT) (xs := W) rfl pkA (by rw [hl]; rfl) ?_)
          refine WD_call rfl rfl rfl ?_
          refine (sp_eqT hl hl).mono ?_
          rintro _ _ ⟨rfl, rfl⟩
          refine WD_step rfl (S_pure rfl ?_)
          refine WD_step rfl (S_pure rfl ?_)
          refine WD_cases (t := 46) rfl (fun hg4 => ?_) (fun hg4 => ?_)
          ·
            try simp only [bsT] at hg4
            refine WD_step rfl (S_loadAll (T := TSlT) (xs := W) rfl pkA (by rw [hl]; rfl) ?_)
            refine WD_call rfl rfl rfl ?_
            refine (sp_oList hl hw.small).mono ?_
            rintro _ _ ⟨u48, rfl, rfl⟩
            refine WD_step rfl (S_loadAll (T := TSlT) (xs := W) rfl pkA (by rw [hl]; rfl) ?_)
            refine WD_call rfl rfl rfl ?_
            refine (sp_Records hl).mono ?_
            rintro _ _ ⟨u50, rfl, rfl⟩
            have hnl : (newest (tRecs W 32)).length ≤ 32 := Nat.le_trans (newest_len _) (tRecs_len _ _)
            refine WD_call rfl rfl rfl ?_
            refine (sp_EqRecs (l := newest (tRecs W 32)) (m := newest (tRecs W 32)) rdA rdA (by omega)).mono ?_
            rintro _ _ ⟨rfl, rfl⟩
            refine WD_step rfl (S_pure rfl ?_)
            refine WD_step rfl (S_pure rfl ?_)
            refine WD_nil ?_
            refine ⟨?_, ?_⟩
            ·
              repeat' (first | exact trivial | apply And.intro)
              all_goals first
                | exact ObR.off rfl
                | exact ObR.of_step rfl (S_strOf rfl rdA (by rfl) (by rfl) (by simp [eqV, eqV0]))
                | exact ObR.of_step rfl (S_loadAll (T := TSlT) (xs := W) rfl pkA (by rw [hl]; rfl) (eqV_tab _))
            ·
              refine KSeq_n ?_
              refine WC_ret ?_
              refine KFn_r (ResL.tmp rfl ResL.nil) ?_
              first
                | (exfalso; first | exact hg4 trivial | exact hg3 trivial | exact hg2 trivial | exact hg1 trivial | exact hg4 rfl | exact hg3 rfl | exact hg2 rfl | exact hg1 rfl | exact absurd hg4 (by decide) | exact absurd hg3 (by decide) | exact absurd hg2 (by decide) | exact absurd hg1 (by decide); done)
                | exact ⟨_, HSub.refl, by simp [resV]⟩
          ·
            try simp only [bsT] at hg4
            refine WD_off rfl ?_
            refine WD_off rfl ?_
            refine WD_off rfl ?_
            refine WD_off rfl ?_
            refine WD_off rfl ?_
            refine WD_step rfl (S_pure rfl ?_)
            refine WD_step rfl (S_pure rfl ?_)
            refine WD_nil ?_
            refine ⟨?_, ?_⟩
            ·
              repeat' (first | exact trivial | apply And.intro)
              all_goals first
                | exact ObR.off rfl
                | exact ObR.of_step rfl (S_strOf rfl rdA (by rfl) (by rfl) (by simp [eqV, eqV0]))
                | exact ObR.of_step rfl (S_loadAll (T := TSlT) (xs := W) rfl pkA (by rw [hl]; rfl) (eqV_tab _))
            ·
              refine KSeq_n ?_
              refine WC_ret ?_
              refine KFn_r (ResL.tmp rfl ResL.nil) ?_
              first
                | (exfalso; first | exact hg4 trivial | exact hg3 trivial | exact hg2 trivial | exact hg1 trivial | exact hg4 rfl | exact hg3 rfl | exact hg2 rfl | exact hg1 rfl | exact absurd hg4 (by decide) | exact absurd hg3 (by decide) | exact absurd hg2 (by decide) | exact absurd hg1 (by decide); done)
                | exact ⟨_, HSub.refl, by simp [resV]⟩
        ·
          try simp only [bsT] at hg3
          refine WD_off rfl ?_
          refine WD_off rfl ?_
          refine WD_off rfl ?_
          refine WD_off rfl ?_
          refine WD_step rfl (S_pure rfl ?_)
          refine WD_step rfl (S_pure rfl ?_)
          refine WD_off rfl ?_
          refine WD_off rfl ?_
          refine WD_off rfl ?_
          refine WD_off rfl ?_
          refine WD_off rfl ?_
          refine WD_step rfl (S_pure rfl ?_)
          refine WD_step rfl (S_pure rfl ?_)
          refine WD_nil ?_
          refine ⟨?_, ?_⟩
          ·
            repeat' (first | exact trivial | apply And.intro)
            all_goals first
              | exact ObR.off rfl
              | exact ObR.of_step rfl (S_strOf rfl rdA (by rfl) (by rfl) (by simp [eqV, eqV0]))
              | exact ObR.of_step rfl (S_loadAll (T := TSlT) (xs := W) rfl pkA (by rw [hl]; rfl) (eqV_tab _))
          ·
            refine KSeq_n ?_
            refine WC_ret ?_
            refine KFn_r (ResL.tmp rfl ResL.nil) ?_
            first
              | (exfalso; first | exact hg4 trivial | exact hg3 trivial | exact hg2 trivial | exact hg1 trivial | exact hg4 rfl | exact hg3 rfl | exact hg2 rfl | exact hg1 rfl | exact absurd hg4 (by decide) | exact absurd hg3 (by decide) | exact absurd hg2 (by decide) | exact absurd hg1 (by decide); done)
              | exact ⟨_, HSub.refl, by simp [resV]⟩
      ·
        try simp only [bsT] at hg2
        refine WD_off rfl ?_
        refine WD_off rfl ?_
        refine WD_step rfl (S_pure rfl ?_)
        refine WD_step rfl (S_pure rfl ?_)
        refine WD_off rfl ?_
        refine WD_off rfl ?_
        refine WD_off rfl ?_
        refine WD_off rfl ?_
        refine WD_step rfl (S_pure rfl ?_)
        refine WD_step rfl (S_pure rfl ?_)
        refine WD_off rfl ?_
        refine WD_off rfl ?_
        refine WD_off rfl ?_
        refine WD_off rfl ?_
        refine WD_off rfl ?_
        refine WD_step rfl (S_pure rfl ?_)
        refine WD_step rfl (S_pure rfl ?_)
        refine WD_nil ?_
        refine ⟨?_, ?_⟩
        ·
          repeat' (first | exact trivial | apply And.intro)
          all_goals first
            | exact ObR.off rfl
            | exact ObR.of_step rfl (S_strOf rfl rdA (by rfl) (by rfl) (by simp [eqV, eqV0]))
            | exact ObR.of_step rfl (S_loadAll (T := TSlT) (xs := W) rfl pkA (by rw [hl]; rfl) (eqV_tab _))
        ·
          refine KSeq_n ?_
          refine WC_ret ?_
          refine KFn_r (ResL.tmp rfl ResL.nil) ?_
          first
            | (exfalso; first | exact hg4 trivial | exact hg3 trivial | exact hg2 trivial | exact hg1 trivial | exact hg4 rfl | exact hg3 rfl | exact hg2 rfl | exact hg1 rfl | exact absurd hg4 (by decide) | exact absurd hg3 (by decide) | exact absurd hg2 (by decide) | exact absurd hg1 (by decide); done)
            | exact ⟨_, HSub.refl, by simp [resV]⟩
    ·
      try simp only [bsT] at hg1
      refine WD_off rfl ?_
      refine WD_off rfl ?_
      refine WD_off rfl ?_
      refine WD_off rfl ?_
      refine WD_off rfl ?_
      refine WD_off rfl ?_
      refine WD_step rfl (S_pure rfl ?_)
      refine WD_step rfl (S_pure rfl ?_)
      refine WD_off rfl ?_
      refine WD_off rfl ?_
      refine WD_step rfl (S_pure rfl ?_)
      refine WD_step rfl (S_pure rfl ?_)
      refine WD_off rfl ?_
      refine WD_off rfl ?_
      refine WD_off rfl ?_
      refine WD_off rfl ?_
      refine WD_step rfl (S_pure rfl ?_)
      refine WD_step rfl (S_pure rfl ?_)
      refine WD_off rfl ?_
      refine WD_off rfl ?_
      refine WD_off rfl ?_
      refine WD_off rfl ?_
      refine WD_off rfl ?_
      refine WD_step rfl (S_pure rfl ?_)
      refine WD_step rfl (S_pure rfl ?_)
      refine WD_nil ?_
      refine ⟨?_, ?_⟩
      ·
        repeat' (first | exact trivial | apply And.intro)
        all_goals first
          | exact ObR.off rfl
          | exact ObR.of_step rfl (S_strOf rfl rdA (by rfl) (by rfl) (by simp [eqV, eqV0]))
          | exact ObR.of_step rfl (S_loadAll (T := TSlT) (xs := W) rfl pkA (by rw [hl]; rfl) (eqV_tab _))
      ·
        refine KSeq_n ?_
        refine WC_ret ?_
        refine KFn_r (ResL.tmp rfl ResL.nil) ?_
        first
          | (exfalso; first | exact hg4 trivial | exact hg3 trivial | exact hg2 trivial | exact hg1 trivial | exact hg4 rfl | exact hg3 rfl | exact hg2 rfl | exact hg1 rfl | exact absurd hg4 (by decide) | exact absurd hg3 (by decide) | exact absurd hg2 (by decide) | exact absurd hg1 (by decide); done)
          | exact ⟨_, HSub.refl, by simp [resV]⟩
theorem sp_ShortT {H : SH} {v : Value} {bs : List UInt8} {n : Nat} (hv : RD H v TByte bs) : WF F X f_loesslaw1_Short [v, .int .i64 n] H (fun r H' => H' = H ∧ ∀ H0 : SH, RD H0 v TByte bs → RD H0 r TByte (bs.take n)) := by
  refine WF_fn F_loesslaw1_Short ?_
  refine WC_seq ?_
  refine WC_region ?_
  refine WO_step rfl (S_pure rfl ?_)
  refine WO_nil ?_
  refine KSeq_n ?_
  refine WC_seq ?_
  refine WC_seq ?_
  refine WC_region ?_
  refine WO_step rfl (S_pure rfl ?_)
  first | refine WO_step rfl (S_pure rfl ?_) | refine WO_step rfl (S_lenS rfl rdA ?_)
  refine WO_step rfl (S_pure rfl ?_)
  refine WO_step rfl (S_pure rfl ?_)
  refine WO_nil ?_
  refine KSeq_n ?_
  refine WC_cond rfl (fun hb1 => ?_) (fun hb1 => ?_)
  ·
    try simp only [bsT] at hb1
    refine WC_seq ?_
    refine WC_region ?_
    refine WO_step rfl (S_pure rfl ?_)
    refine WO_step rfl (S_pure rfl ?_)
    refine WO_step rfl (S_cutV (a := 0) (b := n) rfl rdA (by rfl) LB.dflt (LB.mk rfl rfl) LB.dflt (by omega) (by omega) (by omega) ?_)
    refine WO_step rfl (S_pure rfl ?_)
    refine WO_nil ?_
    refine KSeq_n ?_
    refine WC_ret ?_
    refine KSeq_r ?_
    refine KFn_r (ResL.tmp rfl ResL.nil) ?_
    exact ⟨_, hsA, rfl, fun H0 hv => by have := hv.subSl (es := 1) (lo := 0) (n := n - 0) rfl (by omega); exact this⟩
  ·
    try simp only [bsT] at hb1
    refine WC_skip ?_
    refine KSeq_n ?_
    refine WC_seq ?_
    refine WC_region ?_
    refine WO_step rfl (S_pure rfl ?_)
    refine WO_step rfl (S_pure rfl ?_)
    refine WO_nil ?_
    refine KSeq_n ?_
    refine WC_ret ?_
    refine KFn_r (ResL.tmp rfl ResL.nil) ?_
    exact ⟨_, hsA, rfl, fun H0 hv => by rw [List.take_of_length_le (by omega)]; exact hv⟩
theorem sp_tellsT {H : SH} {v : Value} {bs : List UInt8} (hv : RD H v TByte bs) (hbl : bs.length ≤ 100000) : WF F X f_loesslaw19_tells [v] H (fun r H' => H' = H ∧ r = .bool true) := by
  refine WF_fn F_loesslaw19_tells ?_
  refine WC_seq ?_
  refine WC_region ?_
  refine WO_step rfl (S_pure rfl ?_)
  refine WO_nil ?_
  refine KSeq_n ?_
  refine WC_seq ?_
  refine WC_region ?_
  refine WO_step rfl (S_pure rfl ?_)
  refine WO_call rfl rfl rfl ?_
  refine (sp_oDec hv hbl).mono ?_
  rintro _ _ ⟨W, e, rfl, rfl, hl, hw, hD⟩
  refine WO_step rfl (S_pure rfl ?_)
  refine WO_step rfl (S_pure rfl ?_)
  refine WO_step rfl (S_pure rfl ?_)
  refine WO_step rfl (S_new fun i3 => ?_)
  refine WO_step rfl (S_storeAll (T := TSlT) (xs := W) rfl rfl pkA (by rfl) (by rw [hl]; rfl) ?_)
  refine WO_step rfl (S_pure rfl ?_)
  refine WO_nil ?_
  refine KSeq_n ?_
  refine WC_seq ?_
  refine WC_seq ?_
  refine WC_region ?_
  refine WO_step rfl (S_pure rfl ?_)
  first | refine WO_step rfl (S_neS rfl rfl ?_) | refine WO_step rfl (S_pure rfl ?_)
  refine WO_nil ?_
  refine KSeq_n ?_
  refine WC_cond rfl (fun hb1 => ?_) (fun hb1 => ?_)
  ·
    try simp only [bsT] at hb1
    refine WC_seq ?_
    refine WC_region ?_
    refine WO_step rfl (S_pure rfl ?_)
    first | refine WO_step rfl (S_eqS rfl rfl ?_) | refine WO_step rfl (S_pure rfl ?_)
    refine WO_step rfl (S_pure rfl ?_)
    refine WO_cases (t := 14) rfl (fun hg1 => ?_) (fun hg1 => ?_)
    ·
      try simp only [bsT] at hg1
      refine WO_step rfl (S_loadAll (T := TSlT) (xs := W) rfl pkA (by rw [hl]; rfl) ?_)
      refine WO_call rfl rfl rfl ?_
      refine (sp_oList hl hw.small).mono ?_
      rintro _ _ ⟨u16, rfl, rfl⟩
      first | refine WO_step rfl (S_pure rfl ?_) | refine WO_step rfl (S_lenS rfl rdA ?_)
      first | refine WO_step rfl (S_eqS rfl rfl ?_) | refine WO_step rfl (S_pure rfl ?_)
      refine WO_step rfl (S_pure rfl ?_)
      refine WO_step rfl (S_pure rfl ?_)
      refine WO_nil ?_
      refine KSeq_n ?_
      refine WC_ret ?_
      refine KSeq_r ?_
      refine KFn_r (ResL.tmp rfl ResL.nil) ?_
      refine ⟨_, hsA, rfl, ?_⟩
      rcases hD with ⟨h1, h2, h3, _⟩ | ⟨h1, h2, h3⟩
      · first
        | exact absurd h1 hb1
        | (simp [resV, h2, h3]; done)
      · first
        | exact absurd h1 hg1
        | (rw [h1] at hb1; cases hb1; done)
        | (have hz : zeroT.filter (·.has) = [] := by
             rw [List.filter_eq_nil_iff]
             intro y hy
             rw [zeroT_has y hy]; decide
           have : newest (tRecs W 32) = [] := by rw [h2, tRecs_all zeroT_len, hz]; rfl
           simp [resV, this])
    ·
      try simp only [bsT] at hg1
      refine WO_off rfl ?_
      refine WO_off rfl ?_
      refine WO_off rfl ?_
      refine WO_off rfl ?_
      refine WO_step rfl (S_pure rfl ?_)
      refine WO_step rfl (S_pure rfl ?_)
      refine WO_nil ?_
      refine KSeq_n ?_
      refine WC_ret ?_
      refine KSeq_r ?_
      refine KFn_r (ResL.tmp rfl ResL.nil) ?_
      refine ⟨_, hsA, rfl, ?_⟩
      rcases hD with ⟨h1, h2, h3, _⟩ | ⟨h1, h2, h3⟩
      · first
        | exact absurd h1 hb1
        | (simp [resV, h2, h3]; done)
      · first
        | exact absurd h1 hg1
        | (rw [h1] at hb1; cases hb1; done)
        | (have hz : zeroT.filter (·.has) = [] := by
             rw [List.filter_eq_nil_iff]
             intro y hy
             rw [zeroT_has y hy]; decide
           have : newest (tRecs W 32) = [] := by rw [h2, tRecs_all zeroT_len, hz]; rfl
           simp [resV, this])
  ·
    try simp only [bsT] at hb1
    refine WC_skip ?_
    refine KSeq_n ?_
    refine WC_seq ?_
    refine WC_drawn ?_
    refine WD_step rfl (S_loadAll (T := TSlT) (xs := W) rfl pkA (by rw [hl]; rfl) ?_)
    refine WD_call rfl rfl rfl ?_
    refine (sp_BkT hl).mono ?_
    rintro _ _ ⟨rfl, rfl⟩
    refine WD_call rfl rfl rfl ?_
    refine (sp_TB hl hw).mono ?_
    rintro _ _ ⟨w22, rfl, _, rfl⟩
    refine WD_step rfl (S_strOf rfl rdA (by rfl) (by rfl) ?_)
    refine WD_step rfl (S_pure rfl ?_)
    refine WD_step rfl (S_strOf rfl rdA (by rfl) (by rfl) ?_)
    first | refine WD_step rfl (S_eqS rfl rfl ?_) | refine WD_step rfl (S_pure rfl ?_)
    refine WD_step rfl (S_pure rfl ?_)
    refine WD_nil ?_
    refine ⟨?_, ?_⟩
    ·
      repeat' (first | exact trivial | apply And.intro)
      all_goals first
        | exact ObR.off rfl
        | exact ObR.of_step rfl (S_strOf rfl rdA (by rfl) (by rfl) (by simp [eqV, eqV0]))
    ·
      refine KSeq_n ?_
      refine WC_ret ?_
      refine KFn_r (ResL.tmp rfl ResL.nil) ?_
      refine ⟨_, hsA, rfl, ?_⟩
      rcases hD with ⟨h1, h2, h3, _⟩ | ⟨h1, h2, h3⟩
      · first
        | exact absurd h1 hb1
        | (simp [resV, h2, h3]; done)
      · first
        | exact absurd h1 hg1
        | (rw [h1] at hb1; cases hb1; done)
        | (have hz : zeroT.filter (·.has) = [] := by
             rw [List.filter_eq_nil_iff]
             intro y hy
             rw [zeroT_has y hy]; decide
           have : newest (tRecs W 32) = [] := by rw [h2, tRecs_all zeroT_len, hz]; rfl
           simp [resV, this])
theorem law_OrderAny {H : SH} {v v1 v2 : Value} {bs : List UInt8} {l : List Rec} {turn : List Bool} {at' xb : Int} (hv : RD H v TByte bs) (_ : ∀ x ∈ bs, True) (hv1 : RD H v1 TRec l) (hok : ∀ x ∈ l, okRec x) (ht : RD H v2 TBool turn) (_ : ∀ x ∈ turn, True) (_ : (Lit.int .i64 at').wf = true) (hxb : (Lit.int .u8 xb).wf = true) : WF F X f_loesslaw19_OrderAny [v, v1, v2, .int .i64 at', .int .u8 xb] H (fun v _ => v = .bool true) := by
  simp [Lit.wf, IntKind.min, IntKind.max, IntKind.bits, IntKind.signed] at hxb
  have hsl : (bs.take 60).length ≤ 60 := by simp; omega
  obtain ⟨xx, hxx⟩ : ∃ xx : UInt8, xb = (xx.toNat : Int) := ⟨UInt8.ofNat xb.toNat, by rw [UInt8.toNat_ofNat_of_lt' (by show xb.toNat < 256; omega)]; omega⟩
  subst hxx
  have g0 : GoodT (lay l turn) := lay_good (fun x hx => wf_cut (hok x hx)) turn
  generalize hW : lay l turn = W at g0
  have hl := g0.1
  have hw := g0.2.1
  have hm := g0.2.2
  have hel := encT_len hl hw hm
  refine WF_fn F_loesslaw19_OrderAny ?_
  refine WC_seq ?_
  refine WC_region ?_
  refine WO_step rfl (S_pure rfl ?_)
  refine WO_nil ?_
  refine KSeq_n ?_
  refine WC_seq ?_
  refine WC_region ?_
  refine WO_call rfl rfl rfl ?_
  refine sp_begunT.mono ?_
  rintro _ _ ⟨rfl, rfl⟩
  refine WO_step rfl (S_pure rfl ?_)
  refine WO_nil ?_
  refine KSeq_n ?_
  refine WC_seq ?_
  refine WC_seq ?_
  refine WC_region ?_
  refine WO_step rfl (S_pure rfl ?_)
  refine WO_step rfl (S_pure rfl ?_)
  refine WO_nil ?_
  refine KSeq_n ?_
  refine WC_cond rfl (fun hb1 => ?_) (fun hb1 => ?_)
  ·
    try simp only [bsT] at hb1
    exact absurd hb1 (by simp)
    --stop
  ·
    try simp only [bsT] at hb1
    refine WC_skip ?_
    refine KSeq_n ?_
    refine WC_seq ?_
    refine WC_region ?_
    refine WO_step rfl (S_pure rfl ?_)
    refine WO_call rfl rfl rfl ?_
    refine (sp_ShortT (n := 60) hv).mono ?_
    rintro v17 _ ⟨rfl, hv17'⟩
    have hv17 := hv17' _ hv
    refine WO_step rfl (S_pure rfl ?_)
    refine WO_nil ?_
    refine KSeq_n ?_
    refine WC_seq ?_
    refine WC_seq ?_
    refine WC_region ?_
    refine WO_step rfl (S_pure rfl ?_)
    refine WO_call rfl rfl rfl ?_
    refine (sp_tellsT (bs := bs.take 60) rdA (by omega)).mono ?_
    rintro _ _ ⟨rfl, rfl⟩
    refine WO_step rfl (S_pure rfl ?_)
    refine WO_nil ?_
    refine KSeq_n ?_
    refine WC_cond rfl (fun hb2 => ?_) (fun hb2 => ?_)
    ·
      try simp only [bsT] at hb2
      exact absurd hb2 (by simp)
      --stop
    ·
      try simp only [bsT] at hb2
      refine WC_skip ?_
      refine KSeq_n ?_
      refine WC_seq ?_
      refine WC_seq ?_
      refine WC_region ?_
      refine WO_step rfl (S_pure rfl ?_)
      refine WO_step rfl (S_pure rfl ?_)
      refine WO_nil ?_
      refine KSeq_n ?_
      refine WC_cond rfl (fun hb3 => ?_) (fun hb3 => ?_)
      ·
        try simp only [bsT] at hb3
        refine WC_seq ?_
        refine WC_region ?_
        refine WO_step rfl (S_pure rfl ?_)
        refine WO_nil ?_
        refine KSeq_n ?_
        refine WC_ret ?_
        refine KSeq_r ?_
        refine KFn_r (ResL.tmp rfl ResL.nil) ?_
        first
          | exact ⟨_, HSub.refl, rfl⟩
          | exact absurd trivial hg1
          | exact absurd trivial hg2
          | exact absurd hg1 (by decide)
          | exact absurd hg2 (by decide)
      ·
        try simp only [bsT] at hb3
        refine WC_skip ?_
        refine KSeq_n ?_
        refine WC_seq ?_
        refine WC_region ?_
        refine WO_step rfl (S_pure rfl ?_)
        refine WO_step rfl (S_pure rfl ?_)
        refine WO_call rfl rfl rfl ?_
        refine (sp_Lay hv1 ht).mono ?_
        rintro _ _ ⟨rfl, rfl⟩
        rw [hW]
        refine WO_call rfl rfl rfl ?_
        refine (sp_TB hl hw).mono ?_
        rintro _ _ ⟨w26, rfl, _, rfl⟩
        rw [if_pos hm]
        obtain ⟨C, hC⟩ : ∃ C, encT W = C := ⟨_, rfl⟩
        rw [hC] at hel ⊢
        obtain ⟨j, hj⟩ : ∃ j : Nat, at' = (j : Int) := ⟨at'.toNat, by omega⟩
        subst hj
        have hjm : j % C.length < C.length := Nat.mod_lt _ (by omega)
        obtain ⟨B, hB⟩ := get_of_lt hjm
        have hsl2 : (C.set (j % C.length) (B ^^^ xx)).length = C.length := List.length_set ..
        refine WO_step rfl (S_pure rfl ?_)
        refine WO_nil ?_
        refine KSeq_n ?_
        refine WC_seq ?_
        refine WC_region ?_
        refine WO_step rfl (S_pure rfl ?_)
        refine WO_step rfl (S_pure rfl ?_)
        refine WO_step rfl (S_pure rfl ?_)
        first | refine WO_step rfl (S_pure rfl ?_) | refine WO_step rfl (S_lenS rfl rdA ?_)
        refine WO_step rfl (S_remN rfl rfl (by omega) ?_)
        refine WO_step rfl (S_idx rfl rfl rdA (by first | rfl | assumption | (symm; assumption)) (by rfl) (by first | assumption | omega | exact lt_of_get (by assumption) | (simp only [List.length_set]; first | assumption | omega | exact lt_of_get (by assumption))) fun hp32 => ?_)
        refine WO_step rfl (S_loadE rfl rdA (by first | rfl | assumption | (symm; assumption)) (by first | rfl | assumption | (symm; assumption)) (by first | rfl | assumption | (symm; assumption)) (by assumption) ?_)
        refine WO_step rfl (S_pure rfl ?_)
        refine WO_step rfl (S_xorB (a := B) (b := xx) rfl rfl ?_)
        refine WO_step rfl (S_idx rfl rfl rdA (by first | rfl | assumption | (symm; assumption)) (by rfl) (by first | assumption | omega | exact lt_of_get (by assumption) | (simp only [List.length_set]; first | assumption | omega | exact lt_of_get (by assumption))) fun hp36 => ?_)
        refine WO_step rfl (S_storeW rfl rfl pkA (by first | rfl | assumption | (symm; assumption)) (by rfl) (by first | rfl | assumption | (symm; assumption)) (by first | assumption | omega | exact lt_of_get (by assumption) | (simp only [List.length_set]; first | assumption | omega | exact lt_of_get (by assumption))) ?_)
        refine WO_nil ?_
        refine KSeq_n ?_
        refine WC_seq ?_
        refine WC_region ?_
        refine WO_step rfl (S_pure rfl ?_)
        refine WO_call rfl rfl rfl ?_
        refine (sp_tellsT (bs := C.set (j % C.length) (B ^^^ xx)) rdA (by rw [hsl2]; omega)).mono ?_
        rintro _ _ ⟨rfl, rfl⟩
        refine WO_step rfl (S_pure rfl ?_)
        refine WO_cases (t := 39) rfl (fun hg1 => ?_) (fun hg1 => ?_)
        ·
          try simp only [bsT] at hg1
          refine WO_step rfl (S_pure rfl ?_)
          refine WO_step rfl (S_pure rfl ?_)
          refine WO_step rfl (S_pure rfl ?_)
          first | refine WO_step rfl (S_pure rfl ?_) | refine WO_step rfl (S_lenS rfl rdA ?_)
          refine WO_step rfl (S_remN rfl rfl (by rw [hsl2]; omega) ?_)
          refine WO_step rfl (S_cut (a := 0) (b := j % C.length) rfl rdA (by rfl) LB.dflt (LB.mk rfl (by rw [hsl2])) LB.dflt (by omega) (by rw [hsl2]; omega) (by omega) ?_)
          refine WO_call rfl rfl rfl ?_
          refine (sp_tellsT (RD.sub' (T := TByte) (xs := C.set (j % C.length) (B ^^^ xx)) rdA rfl (by rw [hsl2]; omega)) (by rw [List.length_take, List.length_drop]; omega)).mono ?_
          rintro _ _ ⟨rfl, rfl⟩
          refine WO_step rfl (S_pure rfl ?_)
          refine WO_step rfl (S_pure rfl ?_)
          refine WO_cases (t := 48) rfl (fun hg2 => ?_) (fun hg2 => ?_)
          ·
            try simp only [bsT] at hg2
            refine WO_step rfl (S_pure rfl ?_)
            refine WO_step rfl (S_pure rfl ?_)
            refine WO_step rfl (S_lit1B (k := xx.toNat) rfl (by omega) fun w51 => ?_)
            refine WO_step rfl (S_app rfl rfl pkA (by first | exact SRC.str rfl rfl | (apply RD.src; repeat (first | assumption | exact RD.head | exact RD.nil | apply RD.tail))) (by rfl) (by rfl) (by (try simp only [List.length_append, List.length_cons, List.length_nil]); omega) fun w52 => ?_)
            refine WO_call rfl rfl rfl ?_
            refine (sp_tellsT (bs := C.set (j % C.length) (B ^^^ xx) ++ [UInt8.ofNat xx.toNat]) rdA (by rw [List.length_append, hsl2, List.length_singleton]; omega)).mono ?_
            rintro _ _ ⟨rfl, rfl⟩
            refine WO_step rfl (S_pure rfl ?_)
            refine WO_step rfl (S_pure rfl ?_)
            refine WO_nil ?_
            refine KSeq_n ?_
            refine WC_ret ?_
            refine KFn_r (ResL.tmp rfl ResL.nil) ?_
            first
              | exact ⟨_, HSub.refl, rfl⟩
              | exact absurd trivial hg1
              | exact absurd trivial hg2
              | exact absurd hg1 (by decide)
              | exact absurd hg2 (by decide)
          ·
            try simp only [bsT] at hg2
            refine WO_off rfl ?_
            refine WO_off rfl ?_
            refine WO_off rfl ?_
            refine WO_off rfl ?_
            refine WO_off rfl ?_
            refine WO_step rfl (S_pure rfl ?_)
            refine WO_step rfl (S_pure rfl ?_)
            refine WO_nil ?_
            refine KSeq_n ?_
            refine WC_ret ?_
            refine KFn_r (ResL.tmp rfl ResL.nil) ?_
            first
              | exact ⟨_, HSub.refl, rfl⟩
              | exact absurd trivial hg1
              | exact absurd trivial hg2
              | exact absurd hg1 (by decide)
              | exact absurd hg2 (by decide)
        ·
          try simp only [bsT] at hg1
          refine WO_off rfl ?_
          refine WO_off rfl ?_
          refine WO_off rfl ?_
          refine WO_off rfl ?_
          refine WO_off rfl ?_
          refine WO_off rfl ?_
          refine WO_off rfl ?_
          refine WO_step rfl (S_pure rfl ?_)
          refine WO_step rfl (S_pure rfl ?_)
          refine WO_off rfl ?_
          refine WO_off rfl ?_
          refine WO_off rfl ?_
          refine WO_off rfl ?_
          refine WO_off rfl ?_
          refine WO_step rfl (S_pure rfl ?_)
          refine WO_step rfl (S_pure rfl ?_)
          refine WO_nil ?_
          refine KSeq_n ?_
          refine WC_ret ?_
          refine KFn_r (ResL.tmp rfl ResL.nil) ?_
          first
            | exact ⟨_, HSub.refl, rfl⟩
            | exact absurd trivial hg1
            | exact absurd trivial hg2
            | exact absurd hg1 (by decide)
            | exact absurd hg2 (by decide)

end Go.Proofs.Ytaadijbfkbdhoaa.AM
