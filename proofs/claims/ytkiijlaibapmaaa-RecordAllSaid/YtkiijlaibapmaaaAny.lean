/- Walks: what the functions compute. -/
import Derived.Test.YtkiijlaibapmaaaVGet
import Derived.Test.YtkiijlaibapmaaaGone
namespace Go.Proofs.Ytkiijlaibapmaaa.AM
open Go
set_option linter.unusedSimpArgs false
set_option linter.unusedVariables false
set_option maxRecDepth 4000

/-! ### RecordAny -/
theorem FByte : Flat Try.prog 5 TByte (fun _ => True) := by
  refine ⟨by kernel_rfl, by decide, ?_, fun _ => rfl⟩
  intro H enc W base spare held fuel cs x h
  obtain ⟨n, hn, hw⟩ := trod_int' Try.underlying5 h
  simp [Lit.wf, IntKind.min, IntKind.max, IntKind.bits, IntKind.signed] at hw
  refine ⟨UInt8.ofNat n.toNat, ?_, trivial⟩
  rw [hn]
  show [Value.int .u8 n] = [encByte (UInt8.ofNat n.toNat)]
  rw [← enc_B (by omega)]; congr 2; omega
theorem S_remN {l : SE} {H : SH} {K : Value → SH → Prop} {x y : Opd} {a b : Nat} {kd : IntKind} (hx : x.lv l = some (.int kd (a : Int))) (hy : y.lv l = some (.int kd (b : Int))) (hb : 0 < b) (k : K (.int kd ((a % b : Nat) : Int)) H) : Step (.bin .rem x y) l H K :=
  S_pureE (v := .int kd ((a : Int).tmod b)) (by
    simp only [pev, hx, hy, binV, intBin, if_true]; rw [if_neg (by omega)]) (by rw [← Int.ofNat_tmod]) k
theorem xorBB (a b : UInt8) : (BitVec.ofInt 8 ((a.toNat : Nat) : Int) ^^^ BitVec.ofInt 8 ((b.toNat : Nat) : Int)).toNat = (a ^^^ b).toNat := by
  have h1 := UInt8.toNat_lt a
  have h2 := UInt8.toNat_lt b
  rw [BitVec.toNat_xor, BitVec.ofInt_natCast, BitVec.ofInt_natCast, BitVec.toNat_ofNat, BitVec.toNat_ofNat, UInt8.toNat_xor, Nat.mod_eq_of_lt (by omega), Nat.mod_eq_of_lt (by omega)]
theorem S_xorB {l : SE} {H : SH} {K : Value → SH → Prop} {x y : Opd} {a b : UInt8} (hx : x.lv l = some (.int .u8 (a.toNat : Int))) (hy : y.lv l = some (.int .u8 (b.toNat : Int))) (k : K (.int .u8 ((a ^^^ b).toNat : Int)) H) : Step (.bin .xor x y) l H K :=
  S_pureE (v := .int .u8 (IntKind.wrap .u8 ((BitVec.ofInt 8 ((a.toNat : Nat) : Int) ^^^ BitVec.ofInt 8 ((b.toNat : Nat) : Int)).toNat : Int))) (by
    simp only [pev, hx, hy, binV, intBin, if_true]; rfl) (by
    have := UInt8.toNat_lt (a ^^^ b)
    rw [xorBB, wrap_u8 (by omega) (by omega)]) k
theorem putRec_len {r : Rec} (hr : wfRec r) : (putRec r).length ≤ 300000 := by
  obtain ⟨hk, hn, hs, hq⟩ := hr
  have hpl := put_len (n := (r.key.size : Int)) (by omega) (by omega)
  have hpl0 := put_len (n := 0) (by omega) (by omega)
  have hsl : r.key.data.toList.length = r.key.size := Array.length_toList
  have hvl := putVal_len hk hn hs
  unfold putRec putText
  rw [List.length_append, List.length_append]
  split <;> omega
theorem putRec_pos (r : Rec) : 1 ≤ (putRec r).length := by
  have := put_pos (r.key.size : Int)
  unfold putRec putText
  rw [List.length_append, List.length_append]; omega
theorem walk_RecordAny {H : SH} {v : Value} {bs : List UInt8} {r : Rec} {at' xb : Int} (hv : RD H v TByte bs) (hok : okRec r) (hxb : 0 ≤ xb ∧ xb < 256) : WF F X f_loesslaw10_RecordAny [v, TRec.val r, .int .i64 at', .int .u8 xb] H (fun v _ => v = .bool true) := by
  have hwf := wf_cut hok
  generalize hR : cutRec r = R at *
  have hRl := putRec_len hwf
  have hRp := putRec_pos R
  have hsl : (bs.take 60).length ≤ 60 := by simp; omega
  obtain ⟨xx, hxx⟩ : ∃ xx : UInt8, xb = (xx.toNat : Int) := ⟨UInt8.ofNat xb.toNat, by rw [UInt8.toNat_ofNat_of_lt' (by show xb.toNat < 256; omega)]; omega⟩
  subst hxx
  refine WF_fn F_loesslaw10_RecordAny ?_
  refine WC_seq ?_
  refine WC_region ?_
  refine WO_step rfl (S_box rfl rfl fun i5 => ?_)
  refine WO_step rfl (S_pure rfl ?_)
  refine WO_nil ?_
  refine KSeq_n ?_
  refine WC_seq ?_
  refine WC_region ?_
  refine WO_call rfl rfl rfl ?_
  refine sp_begun.mono ?_
  rintro _ _ ⟨rfl, rfl⟩
  refine WO_step rfl (S_pure rfl ?_)
  refine WO_nil ?_
  refine KSeq_n ?_
  refine WC_seq ?_
  refine WC_seq ?_
  refine WC_region ?_
  refine WO_step rfl (S_pure rfl ?_)
  refine WO_step rfl (S_pure rfl ?_)
  refine WO_nil ?_
  refine KSeq_n ?_
  refine WC_cond rfl (fun hb1 => ?_) (fun hb1 => ?_)
  ·
    try simp only [decide_eq_true_eq, decide_eq_false_iff_not, Bool.not_eq_true', Bool.not_eq_false', beq_iff_eq, bne_iff_ne, beq_eq_false_iff_ne, Int.ofNat_lt, Int.ofNat_le, Int.ofNat_inj, ne_eq, gt_iff_lt, ge_iff_le] at hb1
    exact absurd hb1 (by decide)
    --stop
  ·
    try simp only [decide_eq_true_eq, decide_eq_false_iff_not, Bool.not_eq_true', Bool.not_eq_false', beq_iff_eq, bne_iff_ne, beq_eq_false_iff_ne, Int.ofNat_lt, Int.ofNat_le, Int.ofNat_inj, ne_eq, gt_iff_lt, ge_iff_le] at hb1
    refine WC_skip ?_
    refine KSeq_n ?_
    refine WC_seq ?_
    refine WC_drawn ?_
    refine WD_step rfl (S_pure rfl ?_)
    refine WD_call rfl rfl rfl ?_
    refine (sp_Short (n := 60) hv.tail).mono ?_
    rintro v15 _ ⟨rfl, hv15'⟩
    have hv15 := hv15' _ hv
    first | refine WD_step rfl (S_loadT rfl (by repeat (first | exact Pick.head | apply Pick.tail)) (by rfl) (by rfl) ?_) | refine WD_step rfl (S_loadO rfl (by repeat (first | exact Pick.head | apply Pick.tail)) (by rfl) (by rfl) ?_)
    refine WD_call rfl rfl rfl ?_
    refine sp_Cut10.mono ?_
    rw [hR]
    rintro _ _ ⟨rfl, rfl⟩
    refine WD_step rfl (S_pure rfl ?_)
    first | refine WD_step rfl (S_storeT rfl rfl (by repeat (first | exact Pick.head | apply Pick.tail)) (by rfl) (by rfl) ?_) | refine WD_step rfl (S_storeO rfl rfl (by repeat (first | exact Pick.head | apply Pick.tail)) (by first | rfl | exact SV.cells1 _) (by rfl) (by first | rfl | exact SV.ones _) ?_)
    refine WD_nil ?_
    refine ⟨?_, ?_⟩
    ·
      first
        | exact ⟨ObR.off rfl, trivial⟩
        | (refine ⟨ObR.of_step rfl (S_loadO rfl (by repeat (first | exact Pick.head | apply Pick.tail)) (by rfl) (by rfl) ?_), trivial⟩
           simp [eqV, eqVs, eqV0, TRec, TRaw, Ty.ofAgg, AM.cells, Value.cells, splice])
    ·
      refine KSeq_n ?_
      refine WC_seq ?_
      refine WC_seq ?_
      refine WC_region ?_
      refine WO_step rfl (S_pure rfl ?_)
      refine WO_call rfl rfl rfl ?_
      refine (sp_tells (bs := bs.take 60) (by repeat (first | assumption | exact RD.head | exact RD.nil | apply RD.tail)) (by omega)).mono ?_
      rintro _ _ ⟨rfl, rfl⟩
      refine WO_step rfl (S_pure rfl ?_)
      refine WO_nil ?_
      refine KSeq_n ?_
      refine WC_cond rfl (fun hb2 => ?_) (fun hb2 => ?_)
      ·
        try simp only [decide_eq_true_eq, decide_eq_false_iff_not, Bool.not_eq_true', Bool.not_eq_false', beq_iff_eq, bne_iff_ne, beq_eq_false_iff_ne, Int.ofNat_lt, Int.ofNat_le, Int.ofNat_inj, ne_eq, gt_iff_lt, ge_iff_le] at hb2
        exact absurd hb2 (by decide)
        --stop
      ·
        try simp only [decide_eq_true_eq, decide_eq_false_iff_not, Bool.not_eq_true', Bool.not_eq_false', beq_iff_eq, bne_iff_ne, beq_eq_false_iff_ne, Int.ofNat_lt, Int.ofNat_le, Int.ofNat_inj, ne_eq, gt_iff_lt, ge_iff_le] at hb2
        refine WC_skip ?_
        refine KSeq_n ?_
        refine WC_seq ?_
        refine WC_seq ?_
        refine WC_region ?_
        first | refine WO_step rfl (S_loadT rfl (by repeat (first | exact Pick.head | apply Pick.tail)) (by rfl) (by rfl) ?_) | refine WO_step rfl (S_loadO rfl (by repeat (first | exact Pick.head | apply Pick.tail)) (by rfl) (by rfl) ?_)
        refine WO_call rfl rfl rfl ?_
        refine sp_May.mono ?_
        rintro _ _ ⟨rfl, rfl⟩
        refine WO_step rfl (S_pure rfl ?_)
        refine WO_step rfl (S_pure rfl ?_)
        refine WO_cases (t := 24) rfl (fun hg1 => ?_) (fun hg1 => ?_)
        ·
          try simp only [decide_eq_true_eq, decide_eq_false_iff_not, Bool.not_eq_true', Bool.not_eq_false', beq_iff_eq, bne_iff_ne, beq_eq_false_iff_ne, Int.ofNat_lt, Int.ofNat_le, Int.ofNat_inj, ne_eq, gt_iff_lt, ge_iff_le] at hg1
          refine WO_off rfl ?_
          refine WO_off rfl ?_
          refine WO_step rfl (S_pure rfl ?_)
          refine WO_nil ?_
          refine KSeq_n ?_
          refine WC_cond rfl (fun _ => ?_) (fun h => ?_)
          rotate_left
          · exact absurd h (by decide)
          refine WC_seq ?_
          refine WC_region ?_
          refine WO_step rfl (S_pure rfl ?_)
          refine WO_nil ?_
          refine KSeq_n ?_
          refine WC_ret ?_
          refine KSeq_r ?_
          refine KFn_r (ResL.tmp rfl ResL.nil) ?_
          first
            | exact ⟨_, HSub.refl, rfl⟩
            | exact absurd hg2 (by decide)
        ·
          try simp only [decide_eq_true_eq, decide_eq_false_iff_not, Bool.not_eq_true', Bool.not_eq_false', beq_iff_eq, bne_iff_ne, beq_eq_false_iff_ne, Int.ofNat_lt, Int.ofNat_le, Int.ofNat_inj, ne_eq, gt_iff_lt, ge_iff_le] at hg1
          refine WO_step rfl (S_pure rfl ?_)
          refine WO_step rfl (S_pure rfl ?_)
          refine WO_step rfl (S_pure rfl ?_)
          refine WO_nil ?_
          refine KSeq_n ?_
          refine WC_cond rfl (fun hb3 => ?_) (fun hb3 => ?_)
          ·
            try simp only [decide_eq_true_eq, decide_eq_false_iff_not, Bool.not_eq_true', Bool.not_eq_false', beq_iff_eq, bne_iff_ne, beq_eq_false_iff_ne, Int.ofNat_lt, Int.ofNat_le, Int.ofNat_inj, ne_eq, gt_iff_lt, ge_iff_le] at hb3
            refine WC_seq ?_
            refine WC_region ?_
            refine WO_step rfl (S_pure rfl ?_)
            refine WO_nil ?_
            refine KSeq_n ?_
            refine WC_ret ?_
            refine KSeq_r ?_
            refine KFn_r (ResL.tmp rfl ResL.nil) ?_
            first
              | exact ⟨_, HSub.refl, rfl⟩
              | exact absurd hg2 (by decide)
          ·
            try simp only [decide_eq_true_eq, decide_eq_false_iff_not, Bool.not_eq_true', Bool.not_eq_false', beq_iff_eq, bne_iff_ne, beq_eq_false_iff_ne, Int.ofNat_lt, Int.ofNat_le, Int.ofNat_inj, ne_eq, gt_iff_lt, ge_iff_le] at hb3
            refine WC_skip ?_
            refine KSeq_n ?_
            refine WC_seq ?_
            refine WC_region ?_
            first | refine WO_step rfl (S_loadT rfl (by repeat (first | exact Pick.head | apply Pick.tail)) (by rfl) (by rfl) ?_) | refine WO_step rfl (S_loadO rfl (by repeat (first | exact Pick.head | apply Pick.tail)) (by rfl) (by rfl) ?_)
            refine WO_call rfl rfl rfl ?_
            have hRl := putRec_len hwf
            refine (sp_Bytes (r := R) hwf).mono ?_
            rintro _ _ ⟨w29, rfl, rfl⟩
            obtain ⟨j, hj⟩ : ∃ j : Nat, at' = (j : Int) := ⟨at'.toNat, by omega⟩
            subst hj
            have hjm : j % (putRec R).length < (putRec R).length := Nat.mod_lt _ (by omega)
            obtain ⟨B, hB⟩ := get_of_lt hjm
            refine WO_step rfl (S_pure rfl ?_)
            refine WO_nil ?_
            refine KSeq_n ?_
            refine WC_seq ?_
            refine WC_region ?_
            refine WO_step rfl (S_pure rfl ?_)
            refine WO_step rfl (S_pure rfl ?_)
            refine WO_step rfl (S_pure rfl ?_)
            first | refine WO_step rfl (S_pure rfl ?_) | refine WO_step rfl (S_lenS rfl (by repeat (first | assumption | exact RD.head | exact RD.nil | apply RD.tail)) ?_)
            refine WO_step rfl (S_remN rfl rfl (by omega) ?_)
            refine WO_step rfl (S_idx rfl rfl (by repeat (first | assumption | exact RD.head | exact RD.nil | apply RD.tail)) (by first | rfl | assumption | (symm; assumption)) (by rfl) (by first | assumption | omega | exact lt_of_get (by assumption) | (simp only [List.length_set]; first | assumption | omega | exact lt_of_get (by assumption))) fun hp35 => ?_)
            refine WO_step rfl (S_loadE rfl (by repeat (first | assumption | exact RD.head | exact RD.nil | apply RD.tail)) (by first | rfl | assumption | (symm; assumption)) (by first | rfl | assumption | (symm; assumption)) (by first | rfl | assumption | (symm; assumption)) (by assumption) ?_)
            refine WO_step rfl (S_pure rfl ?_)
            refine WO_step rfl (S_xorB (a := B) (b := xx) rfl rfl ?_)
            refine WO_step rfl (S_idx rfl rfl (by repeat (first | assumption | exact RD.head | exact RD.nil | apply RD.tail)) (by first | rfl | assumption | (symm; assumption)) (by rfl) (by first | assumption | omega | exact lt_of_get (by assumption) | (simp only [List.length_set]; first | assumption | omega | exact lt_of_get (by assumption))) fun hp39 => ?_)
            refine WO_step rfl (S_storeW rfl rfl (by repeat (first | exact Pick.head | apply Pick.tail)) (by first | rfl | assumption | (symm; assumption)) (by rfl) (by first | rfl | assumption | (symm; assumption)) (by first | assumption | omega | exact lt_of_get (by assumption) | (simp only [List.length_set]; first | assumption | omega | exact lt_of_get (by assumption))) ?_)
            refine WO_nil ?_
            refine KSeq_n ?_
            refine WC_seq ?_
            refine WC_region ?_
            refine WO_step rfl (S_pure rfl ?_)
            refine WO_call rfl rfl rfl ?_
            refine (sp_tells (bs := (putRec R).set (j % (putRec R).length) (B ^^^ xx)) (by repeat (first | assumption | exact RD.head | exact RD.nil | apply RD.tail)) (by rw [List.length_set]; omega)).mono ?_
            rintro _ _ ⟨rfl, rfl⟩
            have hsl2 : ((putRec R).set (j % (putRec R).length) (B ^^^ xx)).length = (putRec R).length := List.length_set ..
            have hsm : j % ((putRec R).set (j % (putRec R).length) (B ^^^ xx)).length ≤ ((putRec R).set (j % (putRec R).length) (B ^^^ xx)).length := Nat.le_of_lt (Nat.mod_lt _ (by omega))
            refine WO_step rfl (S_pure rfl ?_)
            refine WO_cases (t := 42) rfl (fun hg2 => ?_) (fun hg2 => ?_)
            ·
              try simp only [decide_eq_true_eq, decide_eq_false_iff_not, Bool.not_eq_true', Bool.not_eq_false', beq_iff_eq, bne_iff_ne, beq_eq_false_iff_ne, Int.ofNat_lt, Int.ofNat_le, Int.ofNat_inj, ne_eq, gt_iff_lt, ge_iff_le] at hg2
              refine WO_step rfl (S_pure rfl ?_)
              refine WO_step rfl (S_pure rfl ?_)
              refine WO_step rfl (S_pure rfl ?_)
              first | refine WO_step rfl (S_pure rfl ?_) | refine WO_step rfl (S_lenS rfl (by repeat (first | assumption | exact RD.head | exact RD.nil | apply RD.tail)) ?_)
              refine WO_step rfl (S_remN rfl rfl (by rw [List.length_set]; omega) ?_)
              refine WO_step rfl (S_cut rfl (by repeat (first | assumption | exact RD.head | exact RD.nil | apply RD.tail)) (by rfl) LB.dflt (LB.mk rfl rfl) LB.dflt (by omega) (by omega) (by omega) ?_)
              refine WO_call rfl rfl rfl ?_
              refine (sp_tells (RD.sub' (T := TByte) (xs := (putRec R).set (j % (putRec R).length) (B ^^^ xx)) (by repeat (first | assumption | exact RD.head | exact RD.nil | apply RD.tail)) rfl (by omega)) (by rw [List.length_take, List.length_drop]; omega)).mono ?_
              rintro _ _ ⟨rfl, rfl⟩
              refine WO_step rfl (S_pure rfl ?_)
              refine WO_step rfl (S_pure rfl ?_)
              refine WO_nil ?_
              refine KSeq_n ?_
              refine WC_ret ?_
              refine KFn_r (ResL.tmp rfl ResL.nil) ?_
              first
                | exact ⟨_, HSub.refl, rfl⟩
                | exact absurd hg2 (by decide)
            ·
              try simp only [decide_eq_true_eq, decide_eq_false_iff_not, Bool.not_eq_true', Bool.not_eq_false', beq_iff_eq, bne_iff_ne, beq_eq_false_iff_ne, Int.ofNat_lt, Int.ofNat_le, Int.ofNat_inj, ne_eq, gt_iff_lt, ge_iff_le] at hg2
              refine WO_off rfl ?_
              refine WO_off rfl ?_
              refine WO_off rfl ?_
              refine WO_off rfl ?_
              refine WO_off rfl ?_
              refine WO_off rfl ?_
              refine WO_off rfl ?_
              refine WO_step rfl (S_pure rfl ?_)
              refine WO_step rfl (S_pure rfl ?_)
              refine WO_nil ?_
              refine KSeq_n ?_
              refine WC_ret ?_
              refine KFn_r (ResL.tmp rfl ResL.nil) ?_
              first
                | exact ⟨_, HSub.refl, rfl⟩
                | exact absurd hg2 (by decide)
theorem law_RecordAny {H : SH} {v : Value} {bs : List UInt8} {r : Rec} {at' xb : Int} (hv : RD H v TByte bs) (_ : ∀ x ∈ bs, True) (hok : okRec r) (_ : (Lit.int .i64 at').wf = true) (hxb : (Lit.int .u8 xb).wf = true) : WF F X f_loesslaw10_RecordAny [v, TRec.val r, .int .i64 at', .int .u8 xb] H (fun v _ => v = .bool true) := by
  refine walk_RecordAny hv hok ?_
  simp [Lit.wf, IntKind.min, IntKind.max, IntKind.bits, IntKind.signed] at hxb
  omega

end Go.Proofs.Ytkiijlaibapmaaa.AM
