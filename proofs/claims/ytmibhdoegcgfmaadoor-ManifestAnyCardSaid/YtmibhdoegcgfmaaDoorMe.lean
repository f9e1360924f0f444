/- Walks: what the functions compute. -/
import Derived.Test.YtmibhdoegcgfmaaDoorMd
namespace Go.Proofs.YtmibhdoegcgfmaaDoor.AM
open Go
set_option linter.unusedSimpArgs false
set_option linter.unusedVariables false
set_option maxRecDepth 4000

/-! ### ManifestAny -/
theorem FByte : Flat Tryd.prog 5 TByte (fun _ => True) := by
  refine ⟨by kernel_rfl, by decide, ?_, fun _ => rfl⟩
  intro H enc W base spare held fuel cs x h
  obtain ⟨n, hn, hw⟩ := trod_int' Tryd.underlying5 h
  simp [Lit.wf, IntKind.min, IntKind.max, IntKind.bits, IntKind.signed] at hw
  refine ⟨UInt8.ofNat n.toNat, ?_, trivial⟩
  rw [hn]
  show [Value.int .u8 n] = [encByte (UInt8.ofNat n.toNat)]
  rw [← enc_B (by omega)]; congr 2; omega
theorem xorBB (a b : UInt8) : (BitVec.ofInt 8 ((a.toNat : Nat) : Int) ^^^ BitVec.ofInt 8 ((b.toNat : Nat) : Int)).toNat = (a ^^^ b).toNat := by
  have h1 := UInt8.toNat_lt a
  have h2 := UInt8.toNat_lt b
  rw [BitVec.toNat_xor, BitVec.ofInt_natCast, BitVec.ofInt_natCast, BitVec.toNat_ofNat, BitVec.toNat_ofNat, UInt8.toNat_xor, Nat.mod_eq_of_lt (by omega), Nat.mod_eq_of_lt (by omega)]
theorem S_xorB {l : SE} {H : SH} {K : Value → SH → Prop} {x y : Opd} {a b : UInt8} (hx : x.lv l = some (.int .u8 (a.toNat : Int))) (hy : y.lv l = some (.int .u8 (b.toNat : Int))) (k : K (.int .u8 ((a ^^^ b).toNat : Int)) H) : Step (.bin .xor x y) l H K :=
  S_pureE (v := .int .u8 (IntKind.wrap .u8 ((BitVec.ofInt 8 ((a.toNat : Nat) : Int) ^^^ BitVec.ofInt 8 ((b.toNat : Nat) : Int)).toNat : Int))) (by
    simp only [pev, hx, hy, binV, intBin, if_true]; rfl) (by
    have := UInt8.toNat_lt (a ^^^ b)
    rw [xorBB, wrap_u8 (by omega) (by omega)]) k
theorem law_ManifestAny {H : SH} {v : Value} {bs : List UInt8} {n f s : Int} {h : SV} {xs : List Int} {at' xb : Int} (hv : RD H v TByte bs) (_ : ∀ x ∈ bs, True) (hm : RD H h.toV TI64 xs) (_ : (Lit.int .i64 at').wf = true) (hxb : (Lit.int .u8 xb).wf = true) : WF F X f_loesslaw24_ManifestAny [v, mfV n f s h, .int .i64 at', .int .u8 xb] H (fun v _ => v = .bool true) := by
  simp [Lit.wf, IntKind.min, IntKind.max, IntKind.bits, IntKind.signed] at hxb
  have hsl : (bs.take 40).length ≤ 40 := by simp; omega
  obtain ⟨xx, hxx⟩ : ∃ xx : UInt8, xb = (xx.toNat : Int) := ⟨UInt8.ofNat xb.toNat, by rw [UInt8.toNat_ofNat_of_lt' (by show xb.toNat < 256; omega)]; omega⟩
  subst hxx
  refine WF_fn F_loesslaw24_ManifestAny ?_
  refine WC_seq ?_
  refine WC_region ?_
  refine WO_step rfl (S_box rfl (by cases h <;> rfl) fun i5 => ?_)
  refine WO_step rfl (S_pure rfl ?_)
  refine WO_nil ?_
  refine KSeq_n ?_
  refine WC_seq ?_
  refine WC_region ?_
  refine WO_call rfl rfl rfl ?_
  refine sp_begun.mono ?_
  rintro _ _ ⟨rfl, rfl⟩
  refine WO_step rfl (S_pure rfl ?_)
  refine WO_nil ?_
  refine KSeq_n ?_
  refine WC_seq ?_
  refine WC_seq ?_
  refine WC_region ?_
  refine WO_step rfl (S_pure rfl ?_)
  refine WO_step rfl (S_pure rfl ?_)
  refine WO_nil ?_
  refine KSeq_n ?_
  refine WC_cond rfl (fun hb1 => ?_) (fun hb1 => ?_)
  ·
    try simp only [decide_eq_true_eq, decide_eq_false_iff_not, Bool.not_eq_true', Bool.not_eq_false', beq_iff_eq, bne_iff_ne, beq_eq_false_iff_ne, Int.ofNat_lt, Int.ofNat_le, Int.ofNat_inj, ne_eq, gt_iff_lt, ge_iff_le] at hb1
    exact absurd hb1 (by simp)
    --stop
  ·
    try simp only [decide_eq_true_eq, decide_eq_false_iff_not, Bool.not_eq_true', Bool.not_eq_false', beq_iff_eq, bne_iff_ne, beq_eq_false_iff_ne, Int.ofNat_lt, Int.ofNat_le, Int.ofNat_inj, ne_eq, gt_iff_lt, ge_iff_le] at hb1
    refine WC_skip ?_
    refine KSeq_n ?_
    refine WC_seq ?_
    refine WC_region ?_
    refine WO_step rfl (S_pure rfl ?_)
    refine WO_call rfl rfl rfl ?_
    refine (sp_Short (n := 40) hv.tail).mono ?_
    rintro v15 _ ⟨rfl, hv15'⟩
    have hv15 := hv15' _ hv
    refine WO_step rfl (S_pure rfl ?_)
    refine WO_nil ?_
    refine KSeq_n ?_
    refine WC_seq ?_
    refine WC_seq ?_
    refine WC_region ?_
    refine WO_step rfl (S_pure rfl ?_)
    refine WO_call rfl rfl rfl ?_
    refine (sp_tellsM (bs := bs.take 40) (by repeat (first | assumption | exact RD.head | exact RD.nil | apply RD.tail)) (by omega)).mono ?_
    rintro _ _ ⟨rfl, rfl⟩
    refine WO_step rfl (S_pure rfl ?_)
    refine WO_nil ?_
    refine KSeq_n ?_
    refine WC_cond rfl (fun hb2 => ?_) (fun hb2 => ?_)
    ·
      try simp only [decide_eq_true_eq, decide_eq_false_iff_not, Bool.not_eq_true', Bool.not_eq_false', beq_iff_eq, bne_iff_ne, beq_eq_false_iff_ne, Int.ofNat_lt, Int.ofNat_le, Int.ofNat_inj, ne_eq, gt_iff_lt, ge_iff_le] at hb2
      exact absurd hb2 (by simp)
      --stop
    ·
      try simp only [decide_eq_true_eq, decide_eq_false_iff_not, Bool.not_eq_true', Bool.not_eq_false', beq_iff_eq, bne_iff_ne, beq_eq_false_iff_ne, Int.ofNat_lt, Int.ofNat_le, Int.ofNat_inj, ne_eq, gt_iff_lt, ge_iff_le] at hb2
      refine WC_skip ?_
      refine KSeq_n ?_
      refine WC_seq ?_
      refine WC_seq ?_
      refine WC_region ?_
      refine WO_step rfl (S_pure rfl ?_)
      refine WO_step rfl (S_loadO rfl (by repeat (first | exact Pick.head | apply Pick.tail)) (by rfl) (by rfl) ?_)
      first | refine WO_step rfl (S_pure rfl ?_) | refine WO_step rfl (S_lenS rfl (by repeat (first | assumption | exact RD.head | exact RD.nil | apply RD.tail)) ?_)
      refine WO_step rfl (S_pure rfl ?_)
      refine WO_nil ?_
      refine KSeq_n ?_
      refine WC_cond rfl (fun hb3 => ?_) (fun hb3 => ?_)
      ·
        try simp only [decide_eq_true_eq, decide_eq_false_iff_not, Bool.not_eq_true', Bool.not_eq_false', beq_iff_eq, bne_iff_ne, beq_eq_false_iff_ne, Int.ofNat_lt, Int.ofNat_le, Int.ofNat_inj, ne_eq, gt_iff_lt, ge_iff_le] at hb3
        refine WC_seq ?_
        refine WC_region ?_
        refine WO_step rfl (S_pure rfl ?_)
        refine WO_nil ?_
        refine KSeq_n ?_
        refine WC_ret ?_
        refine KSeq_r ?_
        refine KFn_r (ResL.tmp rfl ResL.nil) ?_
        first
          | exact ⟨_, HSub.refl, rfl⟩
          | exact absurd trivial hg2
          | exact absurd hg2 (by decide)
          | exact absurd hg3 (by decide)
      ·
        try simp only [decide_eq_true_eq, decide_eq_false_iff_not, Bool.not_eq_true', Bool.not_eq_false', beq_iff_eq, bne_iff_ne, beq_eq_false_iff_ne, Int.ofNat_lt, Int.ofNat_le, Int.ofNat_inj, ne_eq, gt_iff_lt, ge_iff_le] at hb3
        have hx6 : xs.length ≤ 6 := by omega
        refine WC_skip ?_
        refine KSeq_n ?_
        refine WC_seq ?_
        refine WC_region ?_
        refine WO_step rfl (S_loadO rfl (by repeat (first | exact Pick.head | apply Pick.tail)) (by rfl) (by rfl) ?_)
        refine WO_call rfl rfl rfl ?_
        refine (sp_MBytes (xs := xs) (by repeat (first | assumption | exact RD.head | exact RD.nil | apply RD.tail)) (by omega)).mono ?_
        rintro _ _ ⟨b24, w24, hb24, rfl, rfl⟩
        obtain ⟨C, hC⟩ : ∃ C, (if b24 = true then encM n f s xs else []) = C := ⟨_, rfl⟩
        have hCl : C.length ≤ 1000 := by
          rw [← hC]
          split
          · rename_i hb
            have hM := hb24.1 hb
            have := puts_len (nums_range hM)
            have h3 := hM.2.2.1
            have e : (numsM n f s xs).length = 4 + xs.length := by unfold numsM; simp; omega
            unfold encM; omega
          · simp
        rw [hC]
        refine WO_step rfl (S_pure rfl ?_)
        refine WO_nil ?_
        refine KSeq_n ?_
        refine WC_seq ?_
        refine WC_seq ?_
        refine WC_region ?_
        refine WO_step rfl (S_pure rfl ?_)
        first | refine WO_step rfl (S_pure rfl ?_) | refine WO_step rfl (S_lenS rfl (by repeat (first | assumption | exact RD.head | exact RD.nil | apply RD.tail)) ?_)
        first | refine WO_step rfl (S_eqS rfl rfl ?_) | refine WO_step rfl (S_pure rfl ?_)
        refine WO_step rfl (S_pure rfl ?_)
        refine WO_cases (t := 28) rfl (fun hg1 => ?_) (fun hg1 => ?_)
        ·
          try simp only [decide_eq_true_eq, decide_eq_false_iff_not, Bool.not_eq_true', Bool.not_eq_false', beq_iff_eq, bne_iff_ne, beq_eq_false_iff_ne, Int.ofNat_lt, Int.ofNat_le, Int.ofNat_inj, ne_eq, gt_iff_lt, ge_iff_le] at hg1
          refine WO_off rfl ?_
          refine WO_off rfl ?_
          refine WO_step rfl (S_pure rfl ?_)
          refine WO_nil ?_
          refine KSeq_n ?_
          refine WC_cond rfl (fun _ => ?_) (fun h => ?_)
          rotate_left
          · exact absurd h (by decide)
          refine WC_seq ?_
          refine WC_region ?_
          refine WO_step rfl (S_pure rfl ?_)
          refine WO_nil ?_
          refine KSeq_n ?_
          refine WC_ret ?_
          refine KSeq_r ?_
          refine KFn_r (ResL.tmp rfl ResL.nil) ?_
          first
            | exact ⟨_, HSub.refl, rfl⟩
            | exact absurd trivial hg2
            | exact absurd hg2 (by decide)
            | exact absurd hg3 (by decide)
        ·
          try simp only [decide_eq_true_eq, decide_eq_false_iff_not, Bool.not_eq_true', Bool.not_eq_false', beq_iff_eq, bne_iff_ne, beq_eq_false_iff_ne, Int.ofNat_lt, Int.ofNat_le, Int.ofNat_inj, ne_eq, gt_iff_lt, ge_iff_le] at hg1
          refine WO_step rfl (S_pure rfl ?_)
          refine WO_step rfl (S_pure rfl ?_)
          refine WO_step rfl (S_pure rfl ?_)
          refine WO_nil ?_
          refine KSeq_n ?_
          refine WC_cond rfl (fun hb4 => ?_) (fun hb4 => ?_)
          ·
            try simp only [decide_eq_true_eq, decide_eq_false_iff_not, Bool.not_eq_true', Bool.not_eq_false', beq_iff_eq, bne_iff_ne, beq_eq_false_iff_ne, Int.ofNat_lt, Int.ofNat_le, Int.ofNat_inj, ne_eq, gt_iff_lt, ge_iff_le] at hb4
            refine WC_seq ?_
            refine WC_region ?_
            refine WO_step rfl (S_pure rfl ?_)
            refine WO_nil ?_
            refine KSeq_n ?_
            refine WC_ret ?_
            refine KSeq_r ?_
            refine KFn_r (ResL.tmp rfl ResL.nil) ?_
            first
              | exact ⟨_, HSub.refl, rfl⟩
              | exact absurd trivial hg2
              | exact absurd hg2 (by decide)
              | exact absurd hg3 (by decide)
          ·
            try simp only [decide_eq_true_eq, decide_eq_false_iff_not, Bool.not_eq_true', Bool.not_eq_false', beq_iff_eq, bne_iff_ne, beq_eq_false_iff_ne, Int.ofNat_lt, Int.ofNat_le, Int.ofNat_inj, ne_eq, gt_iff_lt, ge_iff_le] at hb4
            have hC0 : 0 < C.length := by
              cases hc : C with
              | nil => subst hc; simp at hg1
              | cons a l => simp
            have hat : 0 ≤ at' := by
              by_cases h0 : at' < 0
              · exfalso; revert hb4; simp [h0]
              · omega
            obtain ⟨j, hj⟩ : ∃ j : Nat, at' = (j : Int) := ⟨at'.toNat, by omega⟩
            subst hj
            have hjm : j % C.length < C.length := Nat.mod_lt _ hC0
            obtain ⟨B, hB⟩ := get_of_lt hjm
            have hsl2 : (C.set (j % C.length) (B ^^^ xx)).length = C.length := List.length_set ..
            refine WC_skip ?_
            refine KSeq_n ?_
            refine WC_seq ?_
            refine WC_region ?_
            refine WO_step rfl (S_pure rfl ?_)
            refine WO_step rfl (S_pure rfl ?_)
            refine WO_step rfl (S_pure rfl ?_)
            first | refine WO_step rfl (S_pure rfl ?_) | refine WO_step rfl (S_lenS rfl (by repeat (first | assumption | exact RD.head | exact RD.nil | apply RD.tail)) ?_)
            refine WO_step rfl (S_remN rfl rfl (by omega) ?_)
            refine WO_step rfl (S_idx rfl rfl (by repeat (first | assumption | exact RD.head | exact RD.nil | apply RD.tail)) (by first | rfl | assumption | (symm; assumption)) (by rfl) (by first | assumption | omega | exact lt_of_get (by assumption) | (simp only [List.length_set]; first | assumption | omega | exact lt_of_get (by assumption))) fun hp37 => ?_)
            refine WO_step rfl (S_loadE rfl (by repeat (first | assumption | exact RD.head | exact RD.nil | apply RD.tail)) (by first | rfl | assumption | (symm; assumption)) (by first | rfl | assumption | (symm; assumption)) (by first | rfl | assumption | (symm; assumption)) (by assumption) ?_)
            refine WO_step rfl (S_pure rfl ?_)
            refine WO_step rfl (S_xorB (a := B) (b := xx) rfl rfl ?_)
            refine WO_step rfl (S_idx rfl rfl (by repeat (first | assumption | exact RD.head | exact RD.nil | apply RD.tail)) (by first | rfl | assumption | (symm; assumption)) (by rfl) (by first | assumption | omega | exact lt_of_get (by assumption) | (simp only [List.length_set]; first | assumption | omega | exact lt_of_get (by assumption))) fun hp41 => ?_)
            refine WO_step rfl (S_storeW rfl rfl (by repeat (first | exact Pick.head | apply Pick.tail)) (by first | rfl | assumption | (symm; assumption)) (by rfl) (by first | rfl | assumption | (symm; assumption)) (by first | assumption | omega | exact lt_of_get (by assumption) | (simp only [List.length_set]; first | assumption | omega | exact lt_of_get (by assumption))) ?_)
            refine WO_nil ?_
            refine KSeq_n ?_
            refine WC_seq ?_
            refine WC_region ?_
            refine WO_step rfl (S_pure rfl ?_)
            refine WO_call rfl rfl rfl ?_
            refine (sp_tellsM (bs := C.set (j % C.length) (B ^^^ xx)) (by repeat (first | assumption | exact RD.head | exact RD.nil | apply RD.tail)) (by rw [hsl2]; omega)).mono ?_
            rintro _ _ ⟨rfl, rfl⟩
            refine WO_step rfl (S_pure rfl ?_)
            refine WO_cases (t := 44) rfl (fun hg2 => ?_) (fun hg2 => ?_)
            ·
              try simp only [decide_eq_true_eq, decide_eq_false_iff_not, Bool.not_eq_true', Bool.not_eq_false', beq_iff_eq, bne_iff_ne, beq_eq_false_iff_ne, Int.ofNat_lt, Int.ofNat_le, Int.ofNat_inj, ne_eq, gt_iff_lt, ge_iff_le] at hg2
              refine WO_step rfl (S_pure rfl ?_)
              refine WO_step rfl (S_pure rfl ?_)
              refine WO_step rfl (S_pure rfl ?_)
              first | refine WO_step rfl (S_pure rfl ?_) | refine WO_step rfl (S_lenS rfl (by repeat (first | assumption | exact RD.head | exact RD.nil | apply RD.tail)) ?_)
              refine WO_step rfl (S_remN rfl rfl (by rw [hsl2]; omega) ?_)
              refine WO_step rfl (S_cut (a := 0) (b := j % C.length) rfl (by repeat (first | assumption | exact RD.head | exact RD.nil | apply RD.tail)) (by rfl) LB.dflt (LB.mk rfl (by rw [hsl2])) LB.dflt (by omega) (by rw [hsl2]; omega) (by omega) ?_)
              refine WO_call rfl rfl rfl ?_
              refine (sp_tellsM (RD.sub' (T := TByte) (xs := C.set (j % C.length) (B ^^^ xx)) (by repeat (first | assumption | exact RD.head | exact RD.nil | apply RD.tail)) rfl (by rw [hsl2]; omega)) (by rw [List.length_take, List.length_drop]; omega)).mono ?_
              rintro _ _ ⟨rfl, rfl⟩
              refine WO_step rfl (S_pure rfl ?_)
              refine WO_step rfl (S_pure rfl ?_)
              refine WO_cases (t := 53) rfl (fun hg3 => ?_) (fun hg3 => ?_)
              ·
                try simp only [decide_eq_true_eq, decide_eq_false_iff_not, Bool.not_eq_true', Bool.not_eq_false', beq_iff_eq, bne_iff_ne, beq_eq_false_iff_ne, Int.ofNat_lt, Int.ofNat_le, Int.ofNat_inj, ne_eq, gt_iff_lt, ge_iff_le] at hg3
                refine WO_step rfl (S_pure rfl ?_)
                refine WO_step rfl (S_pure rfl ?_)
                refine WO_step rfl (S_lit1B (k := xx.toNat) rfl (by omega) fun w56 => ?_)
                refine WO_step rfl (S_app rfl rfl (by repeat (first | exact Pick.head | apply Pick.tail)) (by first | exact SRC.str rfl rfl | (apply RD.src; repeat (first | assumption | exact RD.head | exact RD.nil | apply RD.tail))) (by rfl) (by rfl) (by (try simp only [List.length_append, List.length_cons, List.length_nil]); omega) fun w57 => ?_)
                refine WO_call rfl rfl rfl ?_
                refine (sp_tellsM (bs := C.set (j % C.length) (B ^^^ xx) ++ [UInt8.ofNat xx.toNat]) (by repeat (first | assumption | exact RD.head | exact RD.nil | apply RD.tail)) (by rw [List.length_append, hsl2, List.length_singleton]; omega)).mono ?_
                rintro _ _ ⟨rfl, rfl⟩
                refine WO_step rfl (S_pure rfl ?_)
                refine WO_step rfl (S_pure rfl ?_)
                refine WO_nil ?_
                refine KSeq_n ?_
                refine WC_ret ?_
                refine KFn_r (ResL.tmp rfl ResL.nil) ?_
                first
                  | exact ⟨_, HSub.refl, rfl⟩
                  | exact absurd trivial hg2
                  | exact absurd hg2 (by decide)
                  | exact absurd hg3 (by decide)
              ·
                try simp only [decide_eq_true_eq, decide_eq_false_iff_not, Bool.not_eq_true', Bool.not_eq_false', beq_iff_eq, bne_iff_ne, beq_eq_false_iff_ne, Int.ofNat_lt, Int.ofNat_le, Int.ofNat_inj, ne_eq, gt_iff_lt, ge_iff_le] at hg3
                refine WO_off rfl ?_
                refine WO_off rfl ?_
                refine WO_off rfl ?_
                refine WO_off rfl ?_
                refine WO_off rfl ?_
                refine WO_step rfl (S_pure rfl ?_)
                refine WO_step rfl (S_pure rfl ?_)
                refine WO_nil ?_
                refine KSeq_n ?_
                refine WC_ret ?_
                refine KFn_r (ResL.tmp rfl ResL.nil) ?_
                first
                  | exact ⟨_, HSub.refl, rfl⟩
                  | exact absurd trivial hg2
                  | exact absurd hg2 (by decide)
                  | exact absurd hg3 (by decide)
            ·
              try simp only [decide_eq_true_eq, decide_eq_false_iff_not, Bool.not_eq_true', Bool.not_eq_false', beq_iff_eq, bne_iff_ne, beq_eq_false_iff_ne, Int.ofNat_lt, Int.ofNat_le, Int.ofNat_inj, ne_eq, gt_iff_lt, ge_iff_le] at hg2
              refine WO_off rfl ?_
              refine WO_off rfl ?_
              refine WO_off rfl ?_
              refine WO_off rfl ?_
              refine WO_off rfl ?_
              refine WO_off rfl ?_
              refine WO_off rfl ?_
              refine WO_step rfl (S_pure rfl ?_)
              refine WO_step rfl (S_pure rfl ?_)
              refine WO_off rfl ?_
              refine WO_off rfl ?_
              refine WO_off rfl ?_
              refine WO_off rfl ?_
              refine WO_off rfl ?_
              refine WO_step rfl (S_pure rfl ?_)
              refine WO_step rfl (S_pure rfl ?_)
              refine WO_nil ?_
              refine KSeq_n ?_
              refine WC_ret ?_
              refine KFn_r (ResL.tmp rfl ResL.nil) ?_
              first
                | exact ⟨_, HSub.refl, rfl⟩
                | exact absurd trivial hg2
                | exact absurd hg2 (by decide)
                | exact absurd hg3 (by decide)
end Go.Proofs.YtmibhdoegcgfmaaDoor.AM
