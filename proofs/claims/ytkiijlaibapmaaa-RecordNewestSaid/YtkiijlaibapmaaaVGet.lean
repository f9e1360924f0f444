/- Walks: what the functions compute. -/
import Derived.Test.YtkiijlaibapmaaaGet
namespace Go.Proofs.Ytkiijlaibapmaaa.AM
open Go
set_option linter.unusedSimpArgs false
set_option linter.unusedVariables false
set_option maxRecDepth 4000

/-! ### Values, records from bytes -/
def getVal (bs : List UInt8) : Raw × Nat × Nat := match get bs with
  | (kd, k, e) => if e ≠ 0 then (raw0, 0, e) else
    if kd = 1 then (match get (bs.drop k) with | (n, m, f) => if f ≠ 0 then (raw0, 0, f) else (⟨1, n, es0⟩, k + m, 0))
    else if kd = 2 then (match getT (bs.drop k) with | (s, m, f) => if f ≠ 0 then (raw0, 0, f) else if mayRaw ⟨2, 0, s⟩ then (⟨2, 0, s⟩, k + m, 0) else (raw0, 0, 1))
    else (raw0, 0, 1)
def getRec (bs : List UInt8) : Rec × Nat × Nat := match getT bs with
  | (q, k, e) => if e ≠ 0 then (rec0, 0, e) else if mayKey q = false then (rec0, 0, 1) else match get (bs.drop k) with
    | (kd, m, f) => if f ≠ 0 then (rec0, 0, f) else if kd = 0 then (⟨q, true, raw0⟩, k + m, 0) else match getVal (bs.drop k) with
      | (v, m, f) => if f ≠ 0 then (rec0, 0, f) else (⟨q, false, v⟩, k + m, 0)
theorem getT_le (bs : List UInt8) : (getT bs).2.1 ≤ bs.length := by
  have h := get_le bs
  unfold getT
  generalize get bs = p at *
  obtain ⟨n, k, e⟩ := p
  simp only [] at *
  split
  · simp
  · split
    · simp
    · split
      · simp
      · simp only []; omega
theorem getVal_le (bs : List UInt8) : (getVal bs).2.1 ≤ bs.length := by
  have h := get_le bs
  unfold getVal
  generalize get bs = p at *
  obtain ⟨n, k, e⟩ := p
  have h1 := get_le (bs.drop k)
  have h2 := getT_le (bs.drop k)
  rw [List.length_drop] at h1 h2
  simp only [] at h ⊢
  revert h1 h2
  generalize get (bs.drop k) = p1
  generalize getT (bs.drop k) = p2
  intro h1 h2
  obtain ⟨n1, k1, e1⟩ := p1
  obtain ⟨n2, k2, e2⟩ := p2
  simp only [] at *
  repeat' split
  all_goals (simp only []; omega)
def getValV (p : Raw × Nat × Nat) : Value := .tuple #[TRaw.val p.1, .int .i64 p.2.1, .int .i64 p.2.2]
theorem getValV_mk (r : Raw) (k e : Nat) : getValV (r, k, e) = .tuple #[TRaw.val r, .int .i64 k, .int .i64 e] := rfl
theorem getTV_mk (r : ByteArray) (k e : Nat) : getTV (r, k, e) = .tuple #[.string r, .int .i64 k, .int .i64 e] := rfl
def getRecV (p : Rec × Nat × Nat) : Value := .tuple #[TRec.val p.1, .int .i64 p.2.1, .int .i64 p.2.2]
theorem getRecV_mk (r : Rec) (k e : Nat) : getRecV (r, k, e) = .tuple #[TRec.val r, .int .i64 k, .int .i64 e] := rfl
theorem sp_vGet {H : SH} {v : Value} {bs : List UInt8} (hv : RD H v TByte bs) (hl : bs.length ≤ 1000000) : WF F X f_value_Get [v] H (fun r H' => H' = H ∧ r = getValV (getVal bs)) := by
  have hgl := get_le bs
  refine WF_fn F_value_Get ?_
  refine WC_seq ?_
  refine WC_region ?_
  refine WO_step rfl (S_new fun i2 => ?_)
  refine WO_step rfl (S_pure rfl ?_)
  refine WO_step rfl (S_pure rfl ?_)
  refine WO_nil ?_
  refine KSeq_n ?_
  refine WC_seq ?_
  refine WC_region ?_
  refine WO_step rfl (S_pure rfl ?_)
  refine WO_call rfl rfl rfl ?_
  refine (sp_nGet (by repeat (first | assumption | exact RD.head | exact RD.nil | apply RD.tail)) hl).mono ?_
  rintro _ _ ⟨rfl, rfl⟩
  have hT : getVal bs = getVal bs := rfl
  conv at hT => rhs; unfold getVal
  generalize get bs = p at *
  obtain ⟨kd, k, e⟩ := p
  rw [getV_mk]
  simp only [] at hT hgl
  have hvd := hv.tailSl (es := 1) (a := k) rfl hgl
  have hdl : (bs.drop k).length = bs.length - k := List.length_drop ..
  have hg2 := get_le (bs.drop k)
  have hg3 := getT_le (bs.drop k)
  refine WO_step rfl (S_pure rfl ?_)
  refine WO_step rfl (S_pure rfl ?_)
  refine WO_step rfl (S_pure rfl ?_)
  refine WO_step rfl (S_pure rfl ?_)
  refine WO_step rfl (S_pure rfl ?_)
  refine WO_step rfl (S_pure rfl ?_)
  refine WO_step rfl (S_pure rfl ?_)
  refine WO_nil ?_
  refine KSeq_n ?_
  refine WC_seq ?_
  refine WC_seq ?_
  refine WC_region ?_
  refine WO_step rfl (S_pure rfl ?_)
  first | refine WO_step rfl (S_neS rfl rfl ?_) | refine WO_step rfl (S_pure rfl ?_)
  refine WO_nil ?_
  refine KSeq_n ?_
  refine WC_cond rfl (fun hb1 => ?_) (fun hb1 => ?_)
  ·
    try simp only [decide_eq_true_eq, decide_eq_false_iff_not, Bool.not_eq_true', Bool.not_eq_false', beq_iff_eq, bne_iff_ne, beq_eq_false_iff_ne, Int.ofNat_lt, Int.ofNat_le, Int.ofNat_inj, ne_eq, gt_iff_lt, ge_iff_le] at hb1
    rw [if_pos (by omega)] at hT
    refine WC_seq ?_
    refine WC_region ?_
    refine WO_step rfl (S_pure rfl ?_)
    refine WO_step rfl (S_pure rfl ?_)
    first | refine WO_step rfl (S_storeT rfl rfl (by repeat (first | exact Pick.head | apply Pick.tail)) (by rfl) (by rfl) ?_) | refine WO_step rfl (S_storeO rfl rfl (by repeat (first | exact Pick.head | apply Pick.tail)) (by first | rfl | exact SV.cells1 _) (by rfl) (by first | rfl | exact SV.ones _) ?_)
    refine WO_step rfl (S_pure rfl ?_)
    refine WO_step rfl (S_pure rfl ?_)
    refine WO_nil ?_
    refine KSeq_n ?_
    refine WC_ret ?_
    refine KSeq_r ?_
    refine KFn_r (ResL.cell rfl (by repeat (first | exact Pick.head | apply Pick.tail)) (Nat.le_of_ble_eq_true rfl) rfl (ResL.tmp rfl (ResL.tmp rfl ResL.nil))) ?_
    first
      | (exfalso; simp_all; done)
      | (exfalso; omega)
      | (cases hm : mayRaw ⟨2, 0, s⟩
         · simp only [hm] at *; first | (exfalso; simp_all; done) | exact ⟨_, (by repeat (first | exact HSub.refl | refine HSub.pick (by repeat (first | exact Pick.head | apply Pick.tail)) ?_ | apply HSub.drop)), rfl, by rw [hT]; rfl⟩
         · simp only [hm] at *; first | (exfalso; simp_all; done) | exact ⟨_, (by repeat (first | exact HSub.refl | refine HSub.pick (by repeat (first | exact Pick.head | apply Pick.tail)) ?_ | apply HSub.drop)), rfl, by rw [hT]; rfl⟩)
      | exact ⟨_, (by repeat (first | exact HSub.refl | refine HSub.pick (by repeat (first | exact Pick.head | apply Pick.tail)) ?_ | apply HSub.drop)), rfl, by rw [hT]; rfl⟩
  ·
    try simp only [decide_eq_true_eq, decide_eq_false_iff_not, Bool.not_eq_true', Bool.not_eq_false', beq_iff_eq, bne_iff_ne, beq_eq_false_iff_ne, Int.ofNat_lt, Int.ofNat_le, Int.ofNat_inj, ne_eq, gt_iff_lt, ge_iff_le] at hb1
    have he0 : e = 0 := by simpa using hb1
    rw [if_neg (by omega)] at hT
    refine WC_skip ?_
    refine KSeq_n ?_
    refine WC_seq ?_
    refine WC_region ?_
    refine WO_step rfl (S_pure rfl ?_)
    refine WO_step rfl (S_pure rfl ?_)
    refine WO_step rfl (S_new fun i8 => ?_)
    first | refine WO_step rfl (S_storeT rfl rfl (by repeat (first | exact Pick.head | apply Pick.tail)) (by rfl) (by rfl) ?_) | refine WO_step rfl (S_storeO rfl rfl (by repeat (first | exact Pick.head | apply Pick.tail)) (by first | rfl | exact SV.cells1 _) (by rfl) (by first | rfl | exact SV.ones _) ?_)
    refine WO_nil ?_
    refine KSeq_n ?_
    refine WC_seq ?_
    refine WC_region ?_
    refine WO_step rfl (S_pure rfl ?_)
    refine WO_nil ?_
    refine KSeq_n ?_
    refine WC_seq ?_
    refine WC_seq ?_
    refine WC_region ?_
    refine WO_step rfl (S_pure rfl ?_)
    refine WO_nil ?_
    refine KSeq_n ?_
    refine WC_block ?_
    refine WC_seq ?_
    refine WC_region ?_
    first | refine WO_step rfl (S_eqS rfl rfl ?_) | refine WO_step rfl (S_pure rfl ?_)
    refine WO_step rfl (S_pure rfl ?_)
    refine WO_nil ?_
    refine KSeq_n ?_
    refine WC_cond rfl (fun hb2 => ?_) (fun hb2 => ?_)
    ·
      try simp only [decide_eq_true_eq, decide_eq_false_iff_not, Bool.not_eq_true', Bool.not_eq_false', beq_iff_eq, bne_iff_ne, beq_eq_false_iff_ne, Int.ofNat_lt, Int.ofNat_le, Int.ofNat_inj, ne_eq, gt_iff_lt, ge_iff_le] at hb2
      subst hb2
      rw [if_pos rfl] at hT
      refine WC_region ?_
      refine WO_step rfl (S_pure rfl ?_)
      refine WO_step rfl (S_pure rfl ?_)
      refine WO_step rfl (S_cutV (a := k) (b := bs.length) rfl (by repeat (first | assumption | exact RD.head | exact RD.nil | apply RD.tail)) (by rfl) (LB.mk rfl rfl) LB.dflt LB.dflt (by omega) (by omega) (by omega) ?_)
      refine WO_call rfl rfl rfl ?_
      refine (sp_nGet (by repeat (first | assumption | exact RD.head | exact RD.nil | apply RD.tail)) (by omega)).mono ?_
      rintro _ _ ⟨rfl, rfl⟩
      generalize get (bs.drop k) = p at *
      obtain ⟨n, m, f⟩ := p
      rw [getV_mk]
      simp only [] at hT hg2
      refine WO_step rfl (S_pure rfl ?_)
      refine WO_step rfl (S_pure rfl ?_)
      refine WO_step rfl (S_pure rfl ?_)
      refine WO_step rfl (S_pure rfl ?_)
      refine WO_step rfl (S_pure rfl ?_)
      refine WO_step rfl (S_storeO rfl rfl (by repeat (first | exact Pick.head | apply Pick.tail)) (by first | rfl | exact SV.cells1 _) (by rfl) (by first | rfl | exact SV.ones _) ?_)
      refine WO_step rfl (S_pure rfl ?_)
      refine WO_step rfl (S_pure rfl ?_)
      refine WO_nil ?_
      refine KBlock_n ?_
      refine KSeq_n ?_
      refine WC_seq ?_
      refine WC_seq ?_
      refine WC_region ?_
      refine WO_step rfl (S_pure rfl ?_)
      first | refine WO_step rfl (S_eqS rfl rfl ?_) | refine WO_step rfl (S_pure rfl ?_)
      refine WO_nil ?_
      refine KSeq_n ?_
      refine WC_cond rfl (fun hb3 => ?_) (fun hb3 => ?_)
      ·
        try simp only [decide_eq_true_eq, decide_eq_false_iff_not, Bool.not_eq_true', Bool.not_eq_false', beq_iff_eq, bne_iff_ne, beq_eq_false_iff_ne, Int.ofNat_lt, Int.ofNat_le, Int.ofNat_inj, ne_eq, gt_iff_lt, ge_iff_le] at hb3
        rw [if_neg (by omega)] at hT
        have hm : mayRaw ⟨1, n, es0⟩ = true := by simp [mayRaw]
        refine WC_region ?_
        first | refine WO_step rfl (S_loadT rfl (by repeat (first | exact Pick.head | apply Pick.tail)) (by rfl) (by rfl) ?_) | refine WO_step rfl (S_loadO rfl (by repeat (first | exact Pick.head | apply Pick.tail)) (by rfl) (by rfl) ?_)
        refine WO_call rfl rfl rfl ?_
        refine (sp_Of (r := ⟨1, n, es0⟩)).mono ?_
        rw [hm]
        rintro _ _ ⟨rfl, c, hc, rfl⟩
        refine WO_step rfl (S_pure rfl ?_)
        refine WO_step rfl (S_pure rfl ?_)
        refine WO_step rfl (S_pure rfl ?_)
        refine WO_step rfl (S_pure rfl ?_)
        refine WO_nil ?_
        refine KSeq_n ?_
        refine WC_seq ?_
        refine WC_seq ?_
        refine WC_region ?_
        refine WO_step rfl (S_pure rfl ?_)
        first | refine WO_step rfl (S_neS rfl rfl ?_) | refine WO_step rfl (S_pure rfl ?_)
        refine WO_nil ?_
        refine KSeq_n ?_
        refine WC_cond rfl (fun hb4 => ?_) (fun hb4 => ?_)
        ·
          try simp only [decide_eq_true_eq, decide_eq_false_iff_not, Bool.not_eq_true', Bool.not_eq_false', beq_iff_eq, bne_iff_ne, beq_eq_false_iff_ne, Int.ofNat_lt, Int.ofNat_le, Int.ofNat_inj, ne_eq, gt_iff_lt, ge_iff_le] at hb4
          exact absurd hb4 (by decide)
          --stop
        ·
          try simp only [decide_eq_true_eq, decide_eq_false_iff_not, Bool.not_eq_true', Bool.not_eq_false', beq_iff_eq, bne_iff_ne, beq_eq_false_iff_ne, Int.ofNat_lt, Int.ofNat_le, Int.ofNat_inj, ne_eq, gt_iff_lt, ge_iff_le] at hb4
          refine WC_skip ?_
          refine KSeq_n ?_
          refine WC_seq ?_
          refine WC_region ?_
          first | refine WO_step rfl (S_loadT rfl (by repeat (first | exact Pick.head | apply Pick.tail)) (by rfl) (by rfl) ?_) | refine WO_step rfl (S_loadO rfl (by repeat (first | exact Pick.head | apply Pick.tail)) (by rfl) (by rfl) ?_)
          refine WO_step rfl (S_pure rfl ?_)
          refine WO_step rfl (S_pure rfl ?_)
          first | refine WO_step rfl (S_addN rfl rfl (by omega) ?_) | refine WO_step rfl (S_pure rfl ?_)
          first | refine WO_step rfl (S_storeT rfl rfl (by repeat (first | exact Pick.head | apply Pick.tail)) (by rfl) (by rfl) ?_) | refine WO_step rfl (S_storeO rfl rfl (by repeat (first | exact Pick.head | apply Pick.tail)) (by first | rfl | exact SV.cells1 _) (by rfl) (by first | rfl | exact SV.ones _) ?_)
          refine WO_step rfl (S_pure rfl ?_)
          refine WO_step rfl (S_pure rfl ?_)
          refine WO_nil ?_
          refine KSeq_n ?_
          refine WC_ret ?_
          refine KFn_r (ResL.cell rfl (by repeat (first | exact Pick.head | apply Pick.tail)) (Nat.le_of_ble_eq_true rfl) rfl (ResL.tmp rfl (ResL.tmp rfl ResL.nil))) ?_
          first
            | (exfalso; simp_all; done)
            | (exfalso; omega)
            | (cases hm : mayRaw ⟨2, 0, s⟩
               · simp only [hm] at *; first | (exfalso; simp_all; done) | exact ⟨_, (by repeat (first | exact HSub.refl | refine HSub.pick (by repeat (first | exact Pick.head | apply Pick.tail)) ?_ | apply HSub.drop)), rfl, by rw [hT]; rfl⟩
               · simp only [hm] at *; first | (exfalso; simp_all; done) | exact ⟨_, (by repeat (first | exact HSub.refl | refine HSub.pick (by repeat (first | exact Pick.head | apply Pick.tail)) ?_ | apply HSub.drop)), rfl, by rw [hT]; rfl⟩)
            | exact ⟨_, (by repeat (first | exact HSub.refl | refine HSub.pick (by repeat (first | exact Pick.head | apply Pick.tail)) ?_ | apply HSub.drop)), rfl, by rw [hT]; rfl⟩
      ·
        try simp only [decide_eq_true_eq, decide_eq_false_iff_not, Bool.not_eq_true', Bool.not_eq_false', beq_iff_eq, bne_iff_ne, beq_eq_false_iff_ne, Int.ofNat_lt, Int.ofNat_le, Int.ofNat_inj, ne_eq, gt_iff_lt, ge_iff_le] at hb3
        rw [if_pos (by omega)] at hT
        refine WC_skip ?_
        refine KSeq_n ?_
        refine WC_seq ?_
        refine WC_seq ?_
        refine WC_region ?_
        refine WO_step rfl (S_pure rfl ?_)
        first | refine WO_step rfl (S_neS rfl rfl ?_) | refine WO_step rfl (S_pure rfl ?_)
        refine WO_nil ?_
        refine KSeq_n ?_
        refine WC_cond rfl (fun hb5 => ?_) (fun hb5 => ?_)
        ·
          try simp only [decide_eq_true_eq, decide_eq_false_iff_not, Bool.not_eq_true', Bool.not_eq_false', beq_iff_eq, bne_iff_ne, beq_eq_false_iff_ne, Int.ofNat_lt, Int.ofNat_le, Int.ofNat_inj, ne_eq, gt_iff_lt, ge_iff_le] at hb5
          refine WC_seq ?_
          refine WC_region ?_
          refine WO_step rfl (S_pure rfl ?_)
          refine WO_step rfl (S_pure rfl ?_)
          first | refine WO_step rfl (S_storeT rfl rfl (by repeat (first | exact Pick.head | apply Pick.tail)) (by rfl) (by rfl) ?_) | refine WO_step rfl (S_storeO rfl rfl (by repeat (first | exact Pick.head | apply Pick.tail)) (by first | rfl | exact SV.cells1 _) (by rfl) (by first | rfl | exact SV.ones _) ?_)
          refine WO_step rfl (S_pure rfl ?_)
          refine WO_step rfl (S_pure rfl ?_)
          refine WO_nil ?_
          refine KSeq_n ?_
          refine WC_ret ?_
          refine KSeq_r ?_
          refine KFn_r (ResL.cell rfl (by repeat (first | exact Pick.head | apply Pick.tail)) (Nat.le_of_ble_eq_true rfl) rfl (ResL.tmp rfl (ResL.tmp rfl ResL.nil))) ?_
          first
            | (exfalso; simp_all; done)
            | (exfalso; omega)
            | (cases hm : mayRaw ⟨2, 0, s⟩
               · simp only [hm] at *; first | (exfalso; simp_all; done) | exact ⟨_, (by repeat (first | exact HSub.refl | refine HSub.pick (by repeat (first | exact Pick.head | apply Pick.tail)) ?_ | apply HSub.drop)), rfl, by rw [hT]; rfl⟩
               · simp only [hm] at *; first | (exfalso; simp_all; done) | exact ⟨_, (by repeat (first | exact HSub.refl | refine HSub.pick (by repeat (first | exact Pick.head | apply Pick.tail)) ?_ | apply HSub.drop)), rfl, by rw [hT]; rfl⟩)
            | exact ⟨_, (by repeat (first | exact HSub.refl | refine HSub.pick (by repeat (first | exact Pick.head | apply Pick.tail)) ?_ | apply HSub.drop)), rfl, by rw [hT]; rfl⟩
        ·
          try simp only [decide_eq_true_eq, decide_eq_false_iff_not, Bool.not_eq_true', Bool.not_eq_false', beq_iff_eq, bne_iff_ne, beq_eq_false_iff_ne, Int.ofNat_lt, Int.ofNat_le, Int.ofNat_inj, ne_eq, gt_iff_lt, ge_iff_le] at hb5
          refine WC_skip ?_
          refine KSeq_n ?_
          refine WC_seq ?_
          refine WC_region ?_
          first | refine WO_step rfl (S_loadT rfl (by repeat (first | exact Pick.head | apply Pick.tail)) (by rfl) (by rfl) ?_) | refine WO_step rfl (S_loadO rfl (by repeat (first | exact Pick.head | apply Pick.tail)) (by rfl) (by rfl) ?_)
          refine WO_step rfl (S_pure rfl ?_)
          refine WO_step rfl (S_pure rfl ?_)
          first | refine WO_step rfl (S_addN rfl rfl (by omega) ?_) | refine WO_step rfl (S_pure rfl ?_)
          first | refine WO_step rfl (S_storeT rfl rfl (by repeat (first | exact Pick.head | apply Pick.tail)) (by rfl) (by rfl) ?_) | refine WO_step rfl (S_storeO rfl rfl (by repeat (first | exact Pick.head | apply Pick.tail)) (by first | rfl | exact SV.cells1 _) (by rfl) (by first | rfl | exact SV.ones _) ?_)
          refine WO_step rfl (S_pure rfl ?_)
          refine WO_step rfl (S_pure rfl ?_)
          refine WO_nil ?_
          refine KSeq_n ?_
          refine WC_ret ?_
          refine KFn_r (ResL.cell rfl (by repeat (first | exact Pick.head | apply Pick.tail)) (Nat.le_of_ble_eq_true rfl) rfl (ResL.tmp rfl (ResL.tmp rfl ResL.nil))) ?_
          first
            | (exfalso; simp_all; done)
            | (exfalso; omega)
            | (cases hm : mayRaw ⟨2, 0, s⟩
               · simp only [hm] at *; first | (exfalso; simp_all; done) | exact ⟨_, (by repeat (first | exact HSub.refl | refine HSub.pick (by repeat (first | exact Pick.head | apply Pick.tail)) ?_ | apply HSub.drop)), rfl, by rw [hT]; rfl⟩
               · simp only [hm] at *; first | (exfalso; simp_all; done) | exact ⟨_, (by repeat (first | exact HSub.refl | refine HSub.pick (by repeat (first | exact Pick.head | apply Pick.tail)) ?_ | apply HSub.drop)), rfl, by rw [hT]; rfl⟩)
            | exact ⟨_, (by repeat (first | exact HSub.refl | refine HSub.pick (by repeat (first | exact Pick.head | apply Pick.tail)) ?_ | apply HSub.drop)), rfl, by rw [hT]; rfl⟩
    ·
      try simp only [decide_eq_true_eq, decide_eq_false_iff_not, Bool.not_eq_true', Bool.not_eq_false', beq_iff_eq, bne_iff_ne, beq_eq_false_iff_ne, Int.ofNat_lt, Int.ofNat_le, Int.ofNat_inj, ne_eq, gt_iff_lt, ge_iff_le] at hb2
      rw [if_neg hb2] at hT
      refine WC_seq ?_
      refine WC_region ?_
      first | refine WO_step rfl (S_eqS rfl rfl ?_) | refine WO_step rfl (S_pure rfl ?_)
      refine WO_step rfl (S_pure rfl ?_)
      refine WO_nil ?_
      refine KSeq_n ?_
      refine WC_cond rfl (fun hb6 => ?_) (fun hb6 => ?_)
      ·
        try simp only [decide_eq_true_eq, decide_eq_false_iff_not, Bool.not_eq_true', Bool.not_eq_false', beq_iff_eq, bne_iff_ne, beq_eq_false_iff_ne, Int.ofNat_lt, Int.ofNat_le, Int.ofNat_inj, ne_eq, gt_iff_lt, ge_iff_le] at hb6
        subst hb6
        rw [if_pos rfl] at hT
        refine WC_region ?_
        refine WO_step rfl (S_pure rfl ?_)
        refine WO_step rfl (S_pure rfl ?_)
        refine WO_step rfl (S_cutV (a := k) (b := bs.length) rfl (by repeat (first | assumption | exact RD.head | exact RD.nil | apply RD.tail)) (by rfl) (LB.mk rfl rfl) LB.dflt LB.dflt (by omega) (by omega) (by omega) ?_)
        refine WO_call rfl rfl rfl ?_
        refine (sp_nGetText (by repeat (first | assumption | exact RD.head | exact RD.nil | apply RD.tail)) (by omega)).mono ?_
        rintro _ _ ⟨rfl, rfl⟩
        generalize getT (bs.drop k) = p at *
        obtain ⟨s, m, f⟩ := p
        rw [getTV_mk]
        simp only [] at hT hg3
        refine WO_step rfl (S_pure rfl ?_)
        refine WO_step rfl (S_pure rfl ?_)
        refine WO_step rfl (S_pure rfl ?_)
        refine WO_step rfl (S_pure rfl ?_)
        refine WO_step rfl (S_pure rfl ?_)
        refine WO_step rfl (S_storeO rfl rfl (by repeat (first | exact Pick.head | apply Pick.tail)) (by first | rfl | exact SV.cells1 _) (by rfl) (by first | rfl | exact SV.ones _) ?_)
        refine WO_step rfl (S_pure rfl ?_)
        refine WO_step rfl (S_pure rfl ?_)
        refine WO_nil ?_
        refine KBlock_n ?_
        refine KSeq_n ?_
        refine WC_seq ?_
        refine WC_seq ?_
        refine WC_region ?_
        refine WO_step rfl (S_pure rfl ?_)
        first | refine WO_step rfl (S_eqS rfl rfl ?_) | refine WO_step rfl (S_pure rfl ?_)
        refine WO_nil ?_
        refine KSeq_n ?_
        refine WC_cond rfl (fun hb7 => ?_) (fun hb7 => ?_)
        ·
          try simp only [decide_eq_true_eq, decide_eq_false_iff_not, Bool.not_eq_true', Bool.not_eq_false', beq_iff_eq, bne_iff_ne, beq_eq_false_iff_ne, Int.ofNat_lt, Int.ofNat_le, Int.ofNat_inj, ne_eq, gt_iff_lt, ge_iff_le] at hb7
          rw [if_neg (by omega)] at hT
          refine WC_region ?_
          first | refine WO_step rfl (S_loadT rfl (by repeat (first | exact Pick.head | apply Pick.tail)) (by rfl) (by rfl) ?_) | refine WO_step rfl (S_loadO rfl (by repeat (first | exact Pick.head | apply Pick.tail)) (by rfl) (by rfl) ?_)
          refine WO_call rfl rfl rfl ?_
          refine (sp_Of (r := ⟨2, 0, s⟩)).mono ?_
          rintro _ _ ⟨rfl, c, hc, rfl⟩
          refine WO_step rfl (S_pure rfl ?_)
          refine WO_step rfl (S_pure rfl ?_)
          refine WO_step rfl (S_pure rfl ?_)
          refine WO_step rfl (S_pure rfl ?_)
          refine WO_nil ?_
          refine KSeq_n ?_
          refine WC_seq ?_
          refine WC_seq ?_
          refine WC_region ?_
          refine WO_step rfl (S_pure rfl ?_)
          first | refine WO_step rfl (S_neS rfl rfl ?_) | refine WO_step rfl (S_pure rfl ?_)
          refine WO_nil ?_
          refine KSeq_n ?_
          refine WC_cond rfl (fun hb8 => ?_) (fun hb8 => ?_)
          ·
            try simp only [decide_eq_true_eq, decide_eq_false_iff_not, Bool.not_eq_true', Bool.not_eq_false', beq_iff_eq, bne_iff_ne, beq_eq_false_iff_ne, Int.ofNat_lt, Int.ofNat_le, Int.ofNat_inj, ne_eq, gt_iff_lt, ge_iff_le] at hb8
            refine WC_seq ?_
            refine WC_region ?_
            refine WO_step rfl (S_pure rfl ?_)
            refine WO_step rfl (S_pure rfl ?_)
            first | refine WO_step rfl (S_storeT rfl rfl (by repeat (first | exact Pick.head | apply Pick.tail)) (by rfl) (by rfl) ?_) | refine WO_step rfl (S_storeO rfl rfl (by repeat (first | exact Pick.head | apply Pick.tail)) (by first | rfl | exact SV.cells1 _) (by rfl) (by first | rfl | exact SV.ones _) ?_)
            refine WO_step rfl (S_pure rfl ?_)
            refine WO_step rfl (S_pure rfl ?_)
            refine WO_nil ?_
            refine KSeq_n ?_
            refine WC_ret ?_
            refine KSeq_r ?_
            refine KFn_r (ResL.cell rfl (by repeat (first | exact Pick.head | apply Pick.tail)) (Nat.le_of_ble_eq_true rfl) rfl (ResL.tmp rfl (ResL.tmp rfl ResL.nil))) ?_
            first
              | (exfalso; simp_all; done)
              | (exfalso; omega)
              | (cases hm : mayRaw ⟨2, 0, s⟩
                 · simp only [hm] at *; first | (exfalso; simp_all; done) | exact ⟨_, (by repeat (first | exact HSub.refl | refine HSub.pick (by repeat (first | exact Pick.head | apply Pick.tail)) ?_ | apply HSub.drop)), rfl, by rw [hT]; rfl⟩
                 · simp only [hm] at *; first | (exfalso; simp_all; done) | exact ⟨_, (by repeat (first | exact HSub.refl | refine HSub.pick (by repeat (first | exact Pick.head | apply Pick.tail)) ?_ | apply HSub.drop)), rfl, by rw [hT]; rfl⟩)
              | exact ⟨_, (by repeat (first | exact HSub.refl | refine HSub.pick (by repeat (first | exact Pick.head | apply Pick.tail)) ?_ | apply HSub.drop)), rfl, by rw [hT]; rfl⟩
          ·
            try simp only [decide_eq_true_eq, decide_eq_false_iff_not, Bool.not_eq_true', Bool.not_eq_false', beq_iff_eq, bne_iff_ne, beq_eq_false_iff_ne, Int.ofNat_lt, Int.ofNat_le, Int.ofNat_inj, ne_eq, gt_iff_lt, ge_iff_le] at hb8
            refine WC_skip ?_
            refine KSeq_n ?_
            refine WC_seq ?_
            refine WC_region ?_
            first | refine WO_step rfl (S_loadT rfl (by repeat (first | exact Pick.head | apply Pick.tail)) (by rfl) (by rfl) ?_) | refine WO_step rfl (S_loadO rfl (by repeat (first | exact Pick.head | apply Pick.tail)) (by rfl) (by rfl) ?_)
            refine WO_step rfl (S_pure rfl ?_)
            refine WO_step rfl (S_pure rfl ?_)
            first | refine WO_step rfl (S_addN rfl rfl (by omega) ?_) | refine WO_step rfl (S_pure rfl ?_)
            first | refine WO_step rfl (S_storeT rfl rfl (by repeat (first | exact Pick.head | apply Pick.tail)) (by rfl) (by rfl) ?_) | refine WO_step rfl (S_storeO rfl rfl (by repeat (first | exact Pick.head | apply Pick.tail)) (by first | rfl | exact SV.cells1 _) (by rfl) (by first | rfl | exact SV.ones _) ?_)
            refine WO_step rfl (S_pure rfl ?_)
            refine WO_step rfl (S_pure rfl ?_)
            refine WO_nil ?_
            refine KSeq_n ?_
            refine WC_ret ?_
            refine KFn_r (ResL.cell rfl (by repeat (first | exact Pick.head | apply Pick.tail)) (Nat.le_of_ble_eq_true rfl) rfl (ResL.tmp rfl (ResL.tmp rfl ResL.nil))) ?_
            first
              | (exfalso; simp_all; done)
              | (exfalso; omega)
              | (cases hm : mayRaw ⟨2, 0, s⟩
                 · simp only [hm] at *; first | (exfalso; simp_all; done) | exact ⟨_, (by repeat (first | exact HSub.refl | refine HSub.pick (by repeat (first | exact Pick.head | apply Pick.tail)) ?_ | apply HSub.drop)), rfl, by rw [hT]; rfl⟩
                 · simp only [hm] at *; first | (exfalso; simp_all; done) | exact ⟨_, (by repeat (first | exact HSub.refl | refine HSub.pick (by repeat (first | exact Pick.head | apply Pick.tail)) ?_ | apply HSub.drop)), rfl, by rw [hT]; rfl⟩)
              | exact ⟨_, (by repeat (first | exact HSub.refl | refine HSub.pick (by repeat (first | exact Pick.head | apply Pick.tail)) ?_ | apply HSub.drop)), rfl, by rw [hT]; rfl⟩
        ·
          try simp only [decide_eq_true_eq, decide_eq_false_iff_not, Bool.not_eq_true', Bool.not_eq_false', beq_iff_eq, bne_iff_ne, beq_eq_false_iff_ne, Int.ofNat_lt, Int.ofNat_le, Int.ofNat_inj, ne_eq, gt_iff_lt, ge_iff_le] at hb7
          rw [if_pos (by omega)] at hT
          refine WC_skip ?_
          refine KSeq_n ?_
          refine WC_seq ?_
          refine WC_seq ?_
          refine WC_region ?_
          refine WO_step rfl (S_pure rfl ?_)
          first | refine WO_step rfl (S_neS rfl rfl ?_) | refine WO_step rfl (S_pure rfl ?_)
          refine WO_nil ?_
          refine KSeq_n ?_
          refine WC_cond rfl (fun hb9 => ?_) (fun hb9 => ?_)
          ·
            try simp only [decide_eq_true_eq, decide_eq_false_iff_not, Bool.not_eq_true', Bool.not_eq_false', beq_iff_eq, bne_iff_ne, beq_eq_false_iff_ne, Int.ofNat_lt, Int.ofNat_le, Int.ofNat_inj, ne_eq, gt_iff_lt, ge_iff_le] at hb9
            refine WC_seq ?_
            refine WC_region ?_
            refine WO_step rfl (S_pure rfl ?_)
            refine WO_step rfl (S_pure rfl ?_)
            first | refine WO_step rfl (S_storeT rfl rfl (by repeat (first | exact Pick.head | apply Pick.tail)) (by rfl) (by rfl) ?_) | refine WO_step rfl (S_storeO rfl rfl (by repeat (first | exact Pick.head | apply Pick.tail)) (by first | rfl | exact SV.cells1 _) (by rfl) (by first | rfl | exact SV.ones _) ?_)
            refine WO_step rfl (S_pure rfl ?_)
            refine WO_step rfl (S_pure rfl ?_)
            refine WO_nil ?_
            refine KSeq_n ?_
            refine WC_ret ?_
            refine KSeq_r ?_
            refine KFn_r (ResL.cell rfl (by repeat (first | exact Pick.head | apply Pick.tail)) (Nat.le_of_ble_eq_true rfl) rfl (ResL.tmp rfl (ResL.tmp rfl ResL.nil))) ?_
            first
              | (exfalso; simp_all; done)
              | (exfalso; omega)
              | (cases hm : mayRaw ⟨2, 0, s⟩
                 · simp only [hm] at *; first | (exfalso; simp_all; done) | exact ⟨_, (by repeat (first | exact HSub.refl | refine HSub.pick (by repeat (first | exact Pick.head | apply Pick.tail)) ?_ | apply HSub.drop)), rfl, by rw [hT]; rfl⟩
                 · simp only [hm] at *; first | (exfalso; simp_all; done) | exact ⟨_, (by repeat (first | exact HSub.refl | refine HSub.pick (by repeat (first | exact Pick.head | apply Pick.tail)) ?_ | apply HSub.drop)), rfl, by rw [hT]; rfl⟩)
              | exact ⟨_, (by repeat (first | exact HSub.refl | refine HSub.pick (by repeat (first | exact Pick.head | apply Pick.tail)) ?_ | apply HSub.drop)), rfl, by rw [hT]; rfl⟩
          ·
            try simp only [decide_eq_true_eq, decide_eq_false_iff_not, Bool.not_eq_true', Bool.not_eq_false', beq_iff_eq, bne_iff_ne, beq_eq_false_iff_ne, Int.ofNat_lt, Int.ofNat_le, Int.ofNat_inj, ne_eq, gt_iff_lt, ge_iff_le] at hb9
            refine WC_skip ?_
            refine KSeq_n ?_
            refine WC_seq ?_
            refine WC_region ?_
            first | refine WO_step rfl (S_loadT rfl (by repeat (first | exact Pick.head | apply Pick.tail)) (by rfl) (by rfl) ?_) | refine WO_step rfl (S_loadO rfl (by repeat (first | exact Pick.head | apply Pick.tail)) (by rfl) (by rfl) ?_)
            refine WO_step rfl (S_pure rfl ?_)
            refine WO_step rfl (S_pure rfl ?_)
            first | refine WO_step rfl (S_addN rfl rfl (by omega) ?_) | refine WO_step rfl (S_pure rfl ?_)
            first | refine WO_step rfl (S_storeT rfl rfl (by repeat (first | exact Pick.head | apply Pick.tail)) (by rfl) (by rfl) ?_) | refine WO_step rfl (S_storeO rfl rfl (by repeat (first | exact Pick.head | apply Pick.tail)) (by first | rfl | exact SV.cells1 _) (by rfl) (by first | rfl | exact SV.ones _) ?_)
            refine WO_step rfl (S_pure rfl ?_)
            refine WO_step rfl (S_pure rfl ?_)
            refine WO_nil ?_
            refine KSeq_n ?_
            refine WC_ret ?_
            refine KFn_r (ResL.cell rfl (by repeat (first | exact Pick.head | apply Pick.tail)) (Nat.le_of_ble_eq_true rfl) rfl (ResL.tmp rfl (ResL.tmp rfl ResL.nil))) ?_
            first
              | (exfalso; simp_all; done)
              | (exfalso; omega)
              | (cases hm : mayRaw ⟨2, 0, s⟩
                 · simp only [hm] at *; first | (exfalso; simp_all; done) | exact ⟨_, (by repeat (first | exact HSub.refl | refine HSub.pick (by repeat (first | exact Pick.head | apply Pick.tail)) ?_ | apply HSub.drop)), rfl, by rw [hT]; rfl⟩
                 · simp only [hm] at *; first | (exfalso; simp_all; done) | exact ⟨_, (by repeat (first | exact HSub.refl | refine HSub.pick (by repeat (first | exact Pick.head | apply Pick.tail)) ?_ | apply HSub.drop)), rfl, by rw [hT]; rfl⟩)
              | exact ⟨_, (by repeat (first | exact HSub.refl | refine HSub.pick (by repeat (first | exact Pick.head | apply Pick.tail)) ?_ | apply HSub.drop)), rfl, by rw [hT]; rfl⟩
      ·
        try simp only [decide_eq_true_eq, decide_eq_false_iff_not, Bool.not_eq_true', Bool.not_eq_false', beq_iff_eq, bne_iff_ne, beq_eq_false_iff_ne, Int.ofNat_lt, Int.ofNat_le, Int.ofNat_inj, ne_eq, gt_iff_lt, ge_iff_le] at hb6
        rw [if_neg hb6] at hT
        refine WC_region ?_
        refine WO_step rfl (S_pure rfl ?_)
        refine WO_nil ?_
        refine KBlock_n ?_
        refine KSeq_n ?_
        refine WC_seq ?_
        refine WC_seq ?_
        refine WC_region ?_
        refine WO_step rfl (S_pure rfl ?_)
        first | refine WO_step rfl (S_eqS rfl rfl ?_) | refine WO_step rfl (S_pure rfl ?_)
        refine WO_nil ?_
        refine KSeq_n ?_
        refine WC_cond rfl (fun hb10 => ?_) (fun hb10 => ?_)
        ·
          try simp only [decide_eq_true_eq, decide_eq_false_iff_not, Bool.not_eq_true', Bool.not_eq_false', beq_iff_eq, bne_iff_ne, beq_eq_false_iff_ne, Int.ofNat_lt, Int.ofNat_le, Int.ofNat_inj, ne_eq, gt_iff_lt, ge_iff_le] at hb10
          exact absurd hb10 (by decide)
          --stop
        ·
          try simp only [decide_eq_true_eq, decide_eq_false_iff_not, Bool.not_eq_true', Bool.not_eq_false', beq_iff_eq, bne_iff_ne, beq_eq_false_iff_ne, Int.ofNat_lt, Int.ofNat_le, Int.ofNat_inj, ne_eq, gt_iff_lt, ge_iff_le] at hb10
          refine WC_skip ?_
          refine KSeq_n ?_
          refine WC_seq ?_
          refine WC_seq ?_
          refine WC_region ?_
          refine WO_step rfl (S_pure rfl ?_)
          first | refine WO_step rfl (S_neS rfl rfl ?_) | refine WO_step rfl (S_pure rfl ?_)
          refine WO_nil ?_
          refine KSeq_n ?_
          refine WC_cond rfl (fun hb11 => ?_) (fun hb11 => ?_)
          ·
            try simp only [decide_eq_true_eq, decide_eq_false_iff_not, Bool.not_eq_true', Bool.not_eq_false', beq_iff_eq, bne_iff_ne, beq_eq_false_iff_ne, Int.ofNat_lt, Int.ofNat_le, Int.ofNat_inj, ne_eq, gt_iff_lt, ge_iff_le] at hb11
            refine WC_seq ?_
            refine WC_region ?_
            refine WO_step rfl (S_pure rfl ?_)
            refine WO_step rfl (S_pure rfl ?_)
            first | refine WO_step rfl (S_storeT rfl rfl (by repeat (first | exact Pick.head | apply Pick.tail)) (by rfl) (by rfl) ?_) | refine WO_step rfl (S_storeO rfl rfl (by repeat (first | exact Pick.head | apply Pick.tail)) (by first | rfl | exact SV.cells1 _) (by rfl) (by first | rfl | exact SV.ones _) ?_)
            refine WO_step rfl (S_pure rfl ?_)
            refine WO_step rfl (S_pure rfl ?_)
            refine WO_nil ?_
            refine KSeq_n ?_
            refine WC_ret ?_
            refine KSeq_r ?_
            refine KFn_r (ResL.cell rfl (by repeat (first | exact Pick.head | apply Pick.tail)) (Nat.le_of_ble_eq_true rfl) rfl (ResL.tmp rfl (ResL.tmp rfl ResL.nil))) ?_
            first
              | (exfalso; simp_all; done)
              | (exfalso; omega)
              | (cases hm : mayRaw ⟨2, 0, s⟩
                 · simp only [hm] at *; first | (exfalso; simp_all; done) | exact ⟨_, (by repeat (first | exact HSub.refl | refine HSub.pick (by repeat (first | exact Pick.head | apply Pick.tail)) ?_ | apply HSub.drop)), rfl, by rw [hT]; rfl⟩
                 · simp only [hm] at *; first | (exfalso; simp_all; done) | exact ⟨_, (by repeat (first | exact HSub.refl | refine HSub.pick (by repeat (first | exact Pick.head | apply Pick.tail)) ?_ | apply HSub.drop)), rfl, by rw [hT]; rfl⟩)
              | exact ⟨_, (by repeat (first | exact HSub.refl | refine HSub.pick (by repeat (first | exact Pick.head | apply Pick.tail)) ?_ | apply HSub.drop)), rfl, by rw [hT]; rfl⟩
          ·
            try simp only [decide_eq_true_eq, decide_eq_false_iff_not, Bool.not_eq_true', Bool.not_eq_false', beq_iff_eq, bne_iff_ne, beq_eq_false_iff_ne, Int.ofNat_lt, Int.ofNat_le, Int.ofNat_inj, ne_eq, gt_iff_lt, ge_iff_le] at hb11
            refine WC_skip ?_
            refine KSeq_n ?_
            refine WC_seq ?_
            refine WC_region ?_
            first | refine WO_step rfl (S_loadT rfl (by repeat (first | exact Pick.head | apply Pick.tail)) (by rfl) (by rfl) ?_) | refine WO_step rfl (S_loadO rfl (by repeat (first | exact Pick.head | apply Pick.tail)) (by rfl) (by rfl) ?_)
            refine WO_step rfl (S_pure rfl ?_)
            refine WO_step rfl (S_pure rfl ?_)
            first | refine WO_step rfl (S_addN rfl rfl (by omega) ?_) | refine WO_step rfl (S_pure rfl ?_)
            first | refine WO_step rfl (S_storeT rfl rfl (by repeat (first | exact Pick.head | apply Pick.tail)) (by rfl) (by rfl) ?_) | refine WO_step rfl (S_storeO rfl rfl (by repeat (first | exact Pick.head | apply Pick.tail)) (by first | rfl | exact SV.cells1 _) (by rfl) (by first | rfl | exact SV.ones _) ?_)
            refine WO_step rfl (S_pure rfl ?_)
            refine WO_step rfl (S_pure rfl ?_)
            refine WO_nil ?_
            refine KSeq_n ?_
            refine WC_ret ?_
            refine KFn_r (ResL.cell rfl (by repeat (first | exact Pick.head | apply Pick.tail)) (Nat.le_of_ble_eq_true rfl) rfl (ResL.tmp rfl (ResL.tmp rfl ResL.nil))) ?_
            first
              | (exfalso; simp_all; done)
              | (exfalso; omega)
              | (cases hm : mayRaw ⟨2, 0, s⟩
                 · simp only [hm] at *; first | (exfalso; simp_all; done) | exact ⟨_, (by repeat (first | exact HSub.refl | refine HSub.pick (by repeat (first | exact Pick.head | apply Pick.tail)) ?_ | apply HSub.drop)), rfl, by rw [hT]; rfl⟩
                 · simp only [hm] at *; first | (exfalso; simp_all; done) | exact ⟨_, (by repeat (first | exact HSub.refl | refine HSub.pick (by repeat (first | exact Pick.head | apply Pick.tail)) ?_ | apply HSub.drop)), rfl, by rw [hT]; rfl⟩)
              | exact ⟨_, (by repeat (first | exact HSub.refl | refine HSub.pick (by repeat (first | exact Pick.head | apply Pick.tail)) ?_ | apply HSub.drop)), rfl, by rw [hT]; rfl⟩
theorem sp_refGetVal {H : SH} {v : Value} {bs : List UInt8} (hv : RD H v TByte bs) (hl : bs.length ≤ 1000000) : WF F X f_loessref1_GetVal [v] H (fun r H' => H' = H ∧ r = getValV (getVal bs)) := by
  have hgl := get_le bs
  refine WF_fn F_loessref1_GetVal ?_
  refine WC_seq ?_
  refine WC_region ?_
  refine WO_step rfl (S_new fun i2 => ?_)
  refine WO_step rfl (S_pure rfl ?_)
  refine WO_step rfl (S_pure rfl ?_)
  refine WO_nil ?_
  refine KSeq_n ?_
  refine WC_seq ?_
  refine WC_region ?_
  refine WO_step rfl (S_pure rfl ?_)
  refine WO_call rfl rfl rfl ?_
  refine (sp_refGet (by repeat (first | assumption | exact RD.head | exact RD.nil | apply RD.tail)) hl).mono ?_
  rintro _ _ ⟨rfl, rfl⟩
  have hT : getVal bs = getVal bs := rfl
  conv at hT => rhs; unfold getVal
  generalize get bs = p at *
  obtain ⟨kd, k, e⟩ := p
  rw [getV_mk]
  simp only [] at hT hgl
  have hvd := hv.tailSl (es := 1) (a := k) rfl hgl
  have hdl : (bs.drop k).length = bs.length - k := List.length_drop ..
  have hg2 := get_le (bs.drop k)
  have hg3 := getT_le (bs.drop k)
  refine WO_step rfl (S_pure rfl ?_)
  refine WO_step rfl (S_pure rfl ?_)
  refine WO_step rfl (S_pure rfl ?_)
  refine WO_step rfl (S_pure rfl ?_)
  refine WO_step rfl (S_pure rfl ?_)
  refine WO_step rfl (S_pure rfl ?_)
  refine WO_step rfl (S_pure rfl ?_)
  refine WO_nil ?_
  refine KSeq_n ?_
  refine WC_seq ?_
  refine WC_seq ?_
  refine WC_region ?_
  refine WO_step rfl (S_pure rfl ?_)
  first | refine WO_step rfl (S_neS rfl rfl ?_) | refine WO_step rfl (S_pure rfl ?_)
  refine WO_nil ?_
  refine KSeq_n ?_
  refine WC_cond rfl (fun hb1 => ?_) (fun hb1 => ?_)
  ·
    try simp only [decide_eq_true_eq, decide_eq_false_iff_not, Bool.not_eq_true', Bool.not_eq_false', beq_iff_eq, bne_iff_ne, beq_eq_false_iff_ne, Int.ofNat_lt, Int.ofNat_le, Int.ofNat_inj, ne_eq, gt_iff_lt, ge_iff_le] at hb1
    rw [if_pos (by omega)] at hT
    refine WC_seq ?_
    refine WC_region ?_
    refine WO_step rfl (S_pure rfl ?_)
    refine WO_step rfl (S_pure rfl ?_)
    first | refine WO_step rfl (S_storeT rfl rfl (by repeat (first | exact Pick.head | apply Pick.tail)) (by rfl) (by rfl) ?_) | refine WO_step rfl (S_storeO rfl rfl (by repeat (first | exact Pick.head | apply Pick.tail)) (by first | rfl | exact SV.cells1 _) (by rfl) (by first | rfl | exact SV.ones _) ?_)
    refine WO_step rfl (S_pure rfl ?_)
    refine WO_step rfl (S_pure rfl ?_)
    refine WO_nil ?_
    refine KSeq_n ?_
    refine WC_ret ?_
    refine KSeq_r ?_
    refine KFn_r (ResL.cell rfl (by repeat (first | exact Pick.head | apply Pick.tail)) (Nat.le_of_ble_eq_true rfl) rfl (ResL.tmp rfl (ResL.tmp rfl ResL.nil))) ?_
    exact ⟨_, (by repeat (first | exact HSub.refl | refine HSub.pick (by repeat (first | exact Pick.head | apply Pick.tail)) ?_ | apply HSub.drop)), rfl, by rw [hT]; rfl⟩
  ·
    try simp only [decide_eq_true_eq, decide_eq_false_iff_not, Bool.not_eq_true', Bool.not_eq_false', beq_iff_eq, bne_iff_ne, beq_eq_false_iff_ne, Int.ofNat_lt, Int.ofNat_le, Int.ofNat_inj, ne_eq, gt_iff_lt, ge_iff_le] at hb1
    have he0 : e = 0 := by simpa using hb1
    rw [if_neg (by omega)] at hT
    refine WC_skip ?_
    refine KSeq_n ?_
    refine WC_seq ?_
    refine WC_seq ?_
    refine WC_region ?_
    refine WO_step rfl (S_pure rfl ?_)
    refine WO_nil ?_
    refine KSeq_n ?_
    refine WC_block ?_
    refine WC_seq ?_
    refine WC_region ?_
    first | refine WO_step rfl (S_eqS rfl rfl ?_) | refine WO_step rfl (S_pure rfl ?_)
    refine WO_step rfl (S_pure rfl ?_)
    refine WO_nil ?_
    refine KSeq_n ?_
    refine WC_cond rfl (fun hb2 => ?_) (fun hb2 => ?_)
    ·
      try simp only [decide_eq_true_eq, decide_eq_false_iff_not, Bool.not_eq_true', Bool.not_eq_false', beq_iff_eq, bne_iff_ne, beq_eq_false_iff_ne, Int.ofNat_lt, Int.ofNat_le, Int.ofNat_inj, ne_eq, gt_iff_lt, ge_iff_le] at hb2
      rw [if_pos hb2] at hT
      refine WC_seq ?_
      refine WC_region ?_
      refine WO_step rfl (S_pure rfl ?_)
      refine WO_step rfl (S_pure rfl ?_)
      refine WO_step rfl (S_cutV (a := k) (b := bs.length) rfl (by repeat (first | assumption | exact RD.head | exact RD.nil | apply RD.tail)) (by rfl) (LB.mk rfl rfl) LB.dflt LB.dflt (by omega) (by omega) (by omega) ?_)
      refine WO_call rfl rfl rfl ?_
      refine (sp_refGet (by repeat (first | assumption | exact RD.head | exact RD.nil | apply RD.tail)) (by omega)).mono ?_
      rintro _ _ ⟨rfl, rfl⟩
      generalize get (bs.drop k) = p at *
      obtain ⟨n, m, f⟩ := p
      rw [getV_mk]
      simp only [] at hT hg2
      refine WO_step rfl (S_pure rfl ?_)
      refine WO_step rfl (S_pure rfl ?_)
      refine WO_step rfl (S_pure rfl ?_)
      refine WO_step rfl (S_pure rfl ?_)
      refine WO_step rfl (S_pure rfl ?_)
      refine WO_step rfl (S_pure rfl ?_)
      refine WO_step rfl (S_pure rfl ?_)
      refine WO_nil ?_
      refine KSeq_n ?_
      refine WC_seq ?_
      refine WC_seq ?_
      refine WC_region ?_
      refine WO_step rfl (S_pure rfl ?_)
      first | refine WO_step rfl (S_neS rfl rfl ?_) | refine WO_step rfl (S_pure rfl ?_)
      refine WO_nil ?_
      refine KSeq_n ?_
      refine WC_cond rfl (fun hb3 => ?_) (fun hb3 => ?_)
      ·
        try simp only [decide_eq_true_eq, decide_eq_false_iff_not, Bool.not_eq_true', Bool.not_eq_false', beq_iff_eq, bne_iff_ne, beq_eq_false_iff_ne, Int.ofNat_lt, Int.ofNat_le, Int.ofNat_inj, ne_eq, gt_iff_lt, ge_iff_le] at hb3
        rw [if_pos (by omega)] at hT
        refine WC_seq ?_
        refine WC_region ?_
        refine WO_step rfl (S_pure rfl ?_)
        refine WO_step rfl (S_pure rfl ?_)
        first | refine WO_step rfl (S_storeT rfl rfl (by repeat (first | exact Pick.head | apply Pick.tail)) (by rfl) (by rfl) ?_) | refine WO_step rfl (S_storeO rfl rfl (by repeat (first | exact Pick.head | apply Pick.tail)) (by first | rfl | exact SV.cells1 _) (by rfl) (by first | rfl | exact SV.ones _) ?_)
        refine WO_step rfl (S_pure rfl ?_)
        refine WO_step rfl (S_pure rfl ?_)
        refine WO_nil ?_
        refine KSeq_n ?_
        refine WC_ret ?_
        refine KSeq_r ?_
        refine KBlock_r ?_
        refine KSeq_r ?_
        refine KFn_r (ResL.cell rfl (by repeat (first | exact Pick.head | apply Pick.tail)) (Nat.le_of_ble_eq_true rfl) rfl (ResL.tmp rfl (ResL.tmp rfl ResL.nil))) ?_
        exact ⟨_, (by repeat (first | exact HSub.refl | refine HSub.pick (by repeat (first | exact Pick.head | apply Pick.tail)) ?_ | apply HSub.drop)), rfl, by rw [hT]; rfl⟩
      ·
        try simp only [decide_eq_true_eq, decide_eq_false_iff_not, Bool.not_eq_true', Bool.not_eq_false', beq_iff_eq, bne_iff_ne, beq_eq_false_iff_ne, Int.ofNat_lt, Int.ofNat_le, Int.ofNat_inj, ne_eq, gt_iff_lt, ge_iff_le] at hb3
        have hf0 : f = 0 := by simpa using hb3
        rw [if_neg (by omega)] at hT
        refine WC_skip ?_
        refine KSeq_n ?_
        refine WC_seq ?_
        refine WC_region ?_
        refine WO_step rfl (S_pure rfl ?_)
        refine WO_step rfl (S_pure rfl ?_)
        refine WO_step rfl (S_pure rfl ?_)
        refine WO_step rfl (S_pure rfl ?_)
        first | refine WO_step rfl (S_addN rfl rfl (by omega) ?_) | refine WO_step rfl (S_pure rfl ?_)
        first | refine WO_step rfl (S_storeT rfl rfl (by repeat (first | exact Pick.head | apply Pick.tail)) (by rfl) (by rfl) ?_) | refine WO_step rfl (S_storeO rfl rfl (by repeat (first | exact Pick.head | apply Pick.tail)) (by first | rfl | exact SV.cells1 _) (by rfl) (by first | rfl | exact SV.ones _) ?_)
        refine WO_step rfl (S_pure rfl ?_)
        refine WO_step rfl (S_pure rfl ?_)
        refine WO_nil ?_
        refine KSeq_n ?_
        refine WC_ret ?_
        refine KBlock_r ?_
        refine KSeq_r ?_
        refine KFn_r (ResL.cell rfl (by repeat (first | exact Pick.head | apply Pick.tail)) (Nat.le_of_ble_eq_true rfl) rfl (ResL.tmp rfl (ResL.tmp rfl ResL.nil))) ?_
        exact ⟨_, (by repeat (first | exact HSub.refl | refine HSub.pick (by repeat (first | exact Pick.head | apply Pick.tail)) ?_ | apply HSub.drop)), rfl, by rw [hT]; rfl⟩
    ·
      try simp only [decide_eq_true_eq, decide_eq_false_iff_not, Bool.not_eq_true', Bool.not_eq_false', beq_iff_eq, bne_iff_ne, beq_eq_false_iff_ne, Int.ofNat_lt, Int.ofNat_le, Int.ofNat_inj, ne_eq, gt_iff_lt, ge_iff_le] at hb2
      rw [if_neg hb2] at hT
      refine WC_seq ?_
      refine WC_region ?_
      first | refine WO_step rfl (S_eqS rfl rfl ?_) | refine WO_step rfl (S_pure rfl ?_)
      refine WO_step rfl (S_pure rfl ?_)
      refine WO_nil ?_
      refine KSeq_n ?_
      refine WC_cond rfl (fun hb4 => ?_) (fun hb4 => ?_)
      ·
        try simp only [decide_eq_true_eq, decide_eq_false_iff_not, Bool.not_eq_true', Bool.not_eq_false', beq_iff_eq, bne_iff_ne, beq_eq_false_iff_ne, Int.ofNat_lt, Int.ofNat_le, Int.ofNat_inj, ne_eq, gt_iff_lt, ge_iff_le] at hb4
        rw [if_pos hb4] at hT
        refine WC_seq ?_
        refine WC_region ?_
        refine WO_step rfl (S_pure rfl ?_)
        refine WO_step rfl (S_pure rfl ?_)
        refine WO_step rfl (S_cutV (a := k) (b := bs.length) rfl (by repeat (first | assumption | exact RD.head | exact RD.nil | apply RD.tail)) (by rfl) (LB.mk rfl rfl) LB.dflt LB.dflt (by omega) (by omega) (by omega) ?_)
        refine WO_call rfl rfl rfl ?_
        refine (sp_refGetText (by repeat (first | assumption | exact RD.head | exact RD.nil | apply RD.tail)) (by omega)).mono ?_
        rintro _ _ ⟨rfl, rfl⟩
        generalize getT (bs.drop k) = p at *
        obtain ⟨s, m, f⟩ := p
        rw [getTV_mk]
        simp only [] at hT hg3
        refine WO_step rfl (S_pure rfl ?_)
        refine WO_step rfl (S_pure rfl ?_)
        refine WO_step rfl (S_pure rfl ?_)
        refine WO_step rfl (S_pure rfl ?_)
        refine WO_step rfl (S_pure rfl ?_)
        refine WO_step rfl (S_pure rfl ?_)
        refine WO_step rfl (S_pure rfl ?_)
        refine WO_nil ?_
        refine KSeq_n ?_
        refine WC_seq ?_
        refine WC_seq ?_
        refine WC_region ?_
        refine WO_step rfl (S_pure rfl ?_)
        first | refine WO_step rfl (S_neS rfl rfl ?_) | refine WO_step rfl (S_pure rfl ?_)
        refine WO_nil ?_
        refine KSeq_n ?_
        refine WC_cond rfl (fun hb5 => ?_) (fun hb5 => ?_)
        ·
          try simp only [decide_eq_true_eq, decide_eq_false_iff_not, Bool.not_eq_true', Bool.not_eq_false', beq_iff_eq, bne_iff_ne, beq_eq_false_iff_ne, Int.ofNat_lt, Int.ofNat_le, Int.ofNat_inj, ne_eq, gt_iff_lt, ge_iff_le] at hb5
          rw [if_pos (by omega)] at hT
          refine WC_seq ?_
          refine WC_region ?_
          refine WO_step rfl (S_pure rfl ?_)
          refine WO_step rfl (S_pure rfl ?_)
          first | refine WO_step rfl (S_storeT rfl rfl (by repeat (first | exact Pick.head | apply Pick.tail)) (by rfl) (by rfl) ?_) | refine WO_step rfl (S_storeO rfl rfl (by repeat (first | exact Pick.head | apply Pick.tail)) (by first | rfl | exact SV.cells1 _) (by rfl) (by first | rfl | exact SV.ones _) ?_)
          refine WO_step rfl (S_pure rfl ?_)
          refine WO_step rfl (S_pure rfl ?_)
          refine WO_nil ?_
          refine KSeq_n ?_
          refine WC_ret ?_
          refine KSeq_r ?_
          refine KBlock_r ?_
          refine KSeq_r ?_
          refine KFn_r (ResL.cell rfl (by repeat (first | exact Pick.head | apply Pick.tail)) (Nat.le_of_ble_eq_true rfl) rfl (ResL.tmp rfl (ResL.tmp rfl ResL.nil))) ?_
          exact ⟨_, (by repeat (first | exact HSub.refl | refine HSub.pick (by repeat (first | exact Pick.head | apply Pick.tail)) ?_ | apply HSub.drop)), rfl, by rw [hT]; rfl⟩
        ·
          try simp only [decide_eq_true_eq, decide_eq_false_iff_not, Bool.not_eq_true', Bool.not_eq_false', beq_iff_eq, bne_iff_ne, beq_eq_false_iff_ne, Int.ofNat_lt, Int.ofNat_le, Int.ofNat_inj, ne_eq, gt_iff_lt, ge_iff_le] at hb5
          have hf0 : f = 0 := by simpa using hb5
          rw [if_neg (by omega)] at hT
          refine WC_skip ?_
          refine KSeq_n ?_
          refine WC_seq ?_
          refine WC_region ?_
          refine WO_step rfl (S_pure rfl ?_)
          refine WO_step rfl (S_pure rfl ?_)
          refine WO_step rfl (S_new fun i14 => ?_)
          first | refine WO_step rfl (S_storeT rfl rfl (by repeat (first | exact Pick.head | apply Pick.tail)) (by rfl) (by rfl) ?_) | refine WO_step rfl (S_storeO rfl rfl (by repeat (first | exact Pick.head | apply Pick.tail)) (by first | rfl | exact SV.cells1 _) (by rfl) (by first | rfl | exact SV.ones _) ?_)
          refine WO_nil ?_
          refine KSeq_n ?_
          refine WC_seq ?_
          refine WC_seq ?_
          refine WC_region ?_
          first | refine WO_step rfl (S_loadT rfl (by repeat (first | exact Pick.head | apply Pick.tail)) (by rfl) (by rfl) ?_) | refine WO_step rfl (S_loadO rfl (by repeat (first | exact Pick.head | apply Pick.tail)) (by rfl) (by rfl) ?_)
          refine WO_call rfl rfl rfl ?_
          refine (sp_MayVal (r := ⟨2, 0, s⟩)).mono ?_
          rintro _ _ ⟨rfl, rfl⟩
          refine WO_step rfl (S_pure rfl ?_)
          refine WO_nil ?_
          refine KSeq_n ?_
          refine WC_cond rfl (fun hb6 => ?_) (fun hb6 => ?_)
          ·
            try simp only [decide_eq_true_eq, decide_eq_false_iff_not, Bool.not_eq_true', Bool.not_eq_false', beq_iff_eq, bne_iff_ne, beq_eq_false_iff_ne, Int.ofNat_lt, Int.ofNat_le, Int.ofNat_inj, ne_eq, gt_iff_lt, ge_iff_le] at hb6
            rw [if_neg (by simp [hb6])] at hT
            refine WC_seq ?_
            refine WC_region ?_
            refine WO_step rfl (S_pure rfl ?_)
            first | refine WO_step rfl (S_storeT rfl rfl (by repeat (first | exact Pick.head | apply Pick.tail)) (by rfl) (by rfl) ?_) | refine WO_step rfl (S_storeO rfl rfl (by repeat (first | exact Pick.head | apply Pick.tail)) (by first | rfl | exact SV.cells1 _) (by rfl) (by first | rfl | exact SV.ones _) ?_)
            refine WO_step rfl (S_pure rfl ?_)
            refine WO_step rfl (S_pure rfl ?_)
            refine WO_nil ?_
            refine KSeq_n ?_
            refine WC_ret ?_
            refine KSeq_r ?_
            refine KBlock_r ?_
            refine KSeq_r ?_
            refine KFn_r (ResL.cell rfl (by repeat (first | exact Pick.head | apply Pick.tail)) (Nat.le_of_ble_eq_true rfl) rfl (ResL.tmp rfl (ResL.tmp rfl ResL.nil))) ?_
            exact ⟨_, (by repeat (first | exact HSub.refl | refine HSub.pick (by repeat (first | exact Pick.head | apply Pick.tail)) ?_ | apply HSub.drop)), rfl, by rw [hT]; rfl⟩
          ·
            try simp only [decide_eq_true_eq, decide_eq_false_iff_not, Bool.not_eq_true', Bool.not_eq_false', beq_iff_eq, bne_iff_ne, beq_eq_false_iff_ne, Int.ofNat_lt, Int.ofNat_le, Int.ofNat_inj, ne_eq, gt_iff_lt, ge_iff_le] at hb6
            rw [if_pos hb6] at hT
            refine WC_skip ?_
            refine KSeq_n ?_
            refine WC_seq ?_
            refine WC_region ?_
            first | refine WO_step rfl (S_loadT rfl (by repeat (first | exact Pick.head | apply Pick.tail)) (by rfl) (by rfl) ?_) | refine WO_step rfl (S_loadO rfl (by repeat (first | exact Pick.head | apply Pick.tail)) (by rfl) (by rfl) ?_)
            refine WO_step rfl (S_pure rfl ?_)
            refine WO_step rfl (S_pure rfl ?_)
            first | refine WO_step rfl (S_addN rfl rfl (by omega) ?_) | refine WO_step rfl (S_pure rfl ?_)
            first | refine WO_step rfl (S_storeT rfl rfl (by repeat (first | exact Pick.head | apply Pick.tail)) (by rfl) (by rfl) ?_) | refine WO_step rfl (S_storeO rfl rfl (by repeat (first | exact Pick.head | apply Pick.tail)) (by first | rfl | exact SV.cells1 _) (by rfl) (by first | rfl | exact SV.ones _) ?_)
            refine WO_step rfl (S_pure rfl ?_)
            refine WO_step rfl (S_pure rfl ?_)
            refine WO_nil ?_
            refine KSeq_n ?_
            refine WC_ret ?_
            refine KBlock_r ?_
            refine KSeq_r ?_
            refine KFn_r (ResL.cell rfl (by repeat (first | exact Pick.head | apply Pick.tail)) (Nat.le_of_ble_eq_true rfl) rfl (ResL.tmp rfl (ResL.tmp rfl ResL.nil))) ?_
            exact ⟨_, (by repeat (first | exact HSub.refl | refine HSub.pick (by repeat (first | exact Pick.head | apply Pick.tail)) ?_ | apply HSub.drop)), rfl, by rw [hT]; rfl⟩
      ·
        try simp only [decide_eq_true_eq, decide_eq_false_iff_not, Bool.not_eq_true', Bool.not_eq_false', beq_iff_eq, bne_iff_ne, beq_eq_false_iff_ne, Int.ofNat_lt, Int.ofNat_le, Int.ofNat_inj, ne_eq, gt_iff_lt, ge_iff_le] at hb4
        rw [if_neg hb4] at hT
        refine WC_skip ?_
        refine KBlock_n ?_
        refine KSeq_n ?_
        refine WC_seq ?_
        refine WC_region ?_
        refine WO_step rfl (S_pure rfl ?_)
        first | refine WO_step rfl (S_storeT rfl rfl (by repeat (first | exact Pick.head | apply Pick.tail)) (by rfl) (by rfl) ?_) | refine WO_step rfl (S_storeO rfl rfl (by repeat (first | exact Pick.head | apply Pick.tail)) (by first | rfl | exact SV.cells1 _) (by rfl) (by first | rfl | exact SV.ones _) ?_)
        refine WO_step rfl (S_pure rfl ?_)
        refine WO_step rfl (S_pure rfl ?_)
        refine WO_nil ?_
        refine KSeq_n ?_
        refine WC_ret ?_
        refine KFn_r (ResL.cell rfl (by repeat (first | exact Pick.head | apply Pick.tail)) (Nat.le_of_ble_eq_true rfl) rfl (ResL.tmp rfl (ResL.tmp rfl ResL.nil))) ?_
        exact ⟨_, (by repeat (first | exact HSub.refl | refine HSub.pick (by repeat (first | exact Pick.head | apply Pick.tail)) ?_ | apply HSub.drop)), rfl, by rw [hT]; rfl⟩
theorem sp_rGet {H : SH} {v : Value} {bs : List UInt8} (hv : RD H v TByte bs) (hl : bs.length ≤ 1000000) : WF F X f_record_Get [v] H (fun r H' => H' = H ∧ r = getRecV (getRec bs)) := by
  have hgl := getT_le bs
  refine WF_fn F_record_Get ?_
  refine WC_seq ?_
  refine WC_region ?_
  refine WO_step rfl (S_new fun i2 => ?_)
  refine WO_step rfl (S_pure rfl ?_)
  refine WO_step rfl (S_pure rfl ?_)
  refine WO_nil ?_
  refine KSeq_n ?_
  refine WC_seq ?_
  refine WC_region ?_
  refine WO_step rfl (S_pure rfl ?_)
  refine WO_call rfl rfl rfl ?_
  refine (sp_nGetText (by repeat (first | assumption | exact RD.head | exact RD.nil | apply RD.tail)) hl).mono ?_
  rintro _ _ ⟨rfl, rfl⟩
  have hT : getRec bs = getRec bs := rfl
  conv at hT => rhs; unfold getRec
  generalize getT bs = p at *
  obtain ⟨q, k, e⟩ := p
  rw [getTV_mk]
  simp only [] at hT hgl
  have hvd := hv.tailSl (es := 1) (a := k) rfl hgl
  have hdl : (bs.drop k).length = bs.length - k := List.length_drop ..
  have hg2 := get_le (bs.drop k)
  have hg3 := getVal_le (bs.drop k)
  refine WO_step rfl (S_pure rfl ?_)
  refine WO_step rfl (S_pure rfl ?_)
  refine WO_step rfl (S_pure rfl ?_)
  refine WO_step rfl (S_pure rfl ?_)
  refine WO_step rfl (S_pure rfl ?_)
  refine WO_step rfl (S_pure rfl ?_)
  refine WO_step rfl (S_pure rfl ?_)
  refine WO_nil ?_
  refine KSeq_n ?_
  refine WC_seq ?_
  refine WC_seq ?_
  refine WC_region ?_
  refine WO_step rfl (S_pure rfl ?_)
  first | refine WO_step rfl (S_eqS rfl rfl ?_) | refine WO_step rfl (S_pure rfl ?_)
  refine WO_step rfl (S_pure rfl ?_)
  refine WO_cases (t := 19) rfl (fun hg1 => ?_) (fun hg1 => ?_)
  ·
    try simp only [decide_eq_true_eq, decide_eq_false_iff_not, Bool.not_eq_true', Bool.not_eq_false', beq_iff_eq, bne_iff_ne, beq_eq_false_iff_ne, Int.ofNat_lt, Int.ofNat_le, Int.ofNat_inj, ne_eq, gt_iff_lt, ge_iff_le] at hg1
    have he0 : e = 0 := by omega
    rw [if_neg (by omega)] at hT
    refine WO_step rfl (S_pure rfl ?_)
    refine WO_call rfl rfl rfl ?_
    refine sp_kMay.mono ?_
    rintro _ _ ⟨rfl, rfl⟩
    refine WO_step rfl (S_pure rfl ?_)
    refine WO_step rfl (S_pure rfl ?_)
    refine WO_nil ?_
    refine KSeq_n ?_
    refine WC_cond rfl (fun hb1 => ?_) (fun hb1 => ?_)
    ·
      try simp only [decide_eq_true_eq, decide_eq_false_iff_not, Bool.not_eq_true', Bool.not_eq_false', beq_iff_eq, bne_iff_ne, beq_eq_false_iff_ne, Int.ofNat_lt, Int.ofNat_le, Int.ofNat_inj, ne_eq, gt_iff_lt, ge_iff_le] at hb1
      rw [if_pos hb1] at hT
      refine WC_region ?_
      refine WO_step rfl (S_pure rfl ?_)
      refine WO_nil ?_
      refine KSeq_n ?_
      refine WC_seq ?_
      refine WC_seq ?_
      refine WC_region ?_
      refine WO_step rfl (S_pure rfl ?_)
      first | refine WO_step rfl (S_neS rfl rfl ?_) | refine WO_step rfl (S_pure rfl ?_)
      refine WO_nil ?_
      refine KSeq_n ?_
      refine WC_cond rfl (fun hb2 => ?_) (fun hb2 => ?_)
      ·
        try simp only [decide_eq_true_eq, decide_eq_false_iff_not, Bool.not_eq_true', Bool.not_eq_false', beq_iff_eq, bne_iff_ne, beq_eq_false_iff_ne, Int.ofNat_lt, Int.ofNat_le, Int.ofNat_inj, ne_eq, gt_iff_lt, ge_iff_le] at hb2
        refine WC_seq ?_
        refine WC_region ?_
        refine WO_step rfl (S_pure rfl ?_)
        refine WO_step rfl (S_pure rfl ?_)
        first | refine WO_step rfl (S_storeT rfl rfl (by repeat (first | exact Pick.head | apply Pick.tail)) (by rfl) (by rfl) ?_) | refine WO_step rfl (S_storeO rfl rfl (by repeat (first | exact Pick.head | apply Pick.tail)) (by first | rfl | exact SV.cells1 _) (by rfl) (by first | rfl | exact SV.ones _) ?_)
        refine WO_step rfl (S_pure rfl ?_)
        refine WO_step rfl (S_pure rfl ?_)
        refine WO_nil ?_
        refine KSeq_n ?_
        refine WC_ret ?_
        refine KSeq_r ?_
        refine KFn_r (ResL.cell rfl (by repeat (first | exact Pick.head | apply Pick.tail)) (Nat.le_of_ble_eq_true rfl) rfl (ResL.tmp rfl (ResL.tmp rfl ResL.nil))) ?_
        exact ⟨_, (by repeat (first | exact HSub.refl | refine HSub.pick (by repeat (first | exact Pick.head | apply Pick.tail)) ?_ | apply HSub.drop)), rfl, by rw [hT]; rfl⟩
      ·
        try simp only [decide_eq_true_eq, decide_eq_false_iff_not, Bool.not_eq_true', Bool.not_eq_false', beq_iff_eq, bne_iff_ne, beq_eq_false_iff_ne, Int.ofNat_lt, Int.ofNat_le, Int.ofNat_inj, ne_eq, gt_iff_lt, ge_iff_le] at hb2
        exact absurd hb2 (by decide)
        --stop
    ·
      try simp only [decide_eq_true_eq, decide_eq_false_iff_not, Bool.not_eq_true', Bool.not_eq_false', beq_iff_eq, bne_iff_ne, beq_eq_false_iff_ne, Int.ofNat_lt, Int.ofNat_le, Int.ofNat_inj, ne_eq, gt_iff_lt, ge_iff_le] at hb1
      rw [if_neg (by simp [hb1])] at hT
      refine WC_skip ?_
      refine KSeq_n ?_
      refine WC_seq ?_
      refine WC_seq ?_
      refine WC_region ?_
      refine WO_step rfl (S_pure rfl ?_)
      first | refine WO_step rfl (S_neS rfl rfl ?_) | refine WO_step rfl (S_pure rfl ?_)
      refine WO_nil ?_
      refine KSeq_n ?_
      refine WC_cond rfl (fun hb3 => ?_) (fun hb3 => ?_)
      ·
        try simp only [decide_eq_true_eq, decide_eq_false_iff_not, Bool.not_eq_true', Bool.not_eq_false', beq_iff_eq, bne_iff_ne, beq_eq_false_iff_ne, Int.ofNat_lt, Int.ofNat_le, Int.ofNat_inj, ne_eq, gt_iff_lt, ge_iff_le] at hb3
        exact absurd hb3 (by omega)
        --stop
      ·
        try simp only [decide_eq_true_eq, decide_eq_false_iff_not, Bool.not_eq_true', Bool.not_eq_false', beq_iff_eq, bne_iff_ne, beq_eq_false_iff_ne, Int.ofNat_lt, Int.ofNat_le, Int.ofNat_inj, ne_eq, gt_iff_lt, ge_iff_le] at hb3
        refine WC_skip ?_
        refine KSeq_n ?_
        refine WC_seq ?_
        refine WC_region ?_
        refine WO_step rfl (S_pure rfl ?_)
        refine WO_step rfl (S_pure rfl ?_)
        refine WO_step rfl (S_new fun i8 => ?_)
        first | refine WO_step rfl (S_storeT rfl rfl (by repeat (first | exact Pick.head | apply Pick.tail)) (by rfl) (by rfl) ?_) | refine WO_step rfl (S_storeO rfl rfl (by repeat (first | exact Pick.head | apply Pick.tail)) (by first | rfl | exact SV.cells1 _) (by rfl) (by first | rfl | exact SV.ones _) ?_)
        refine WO_nil ?_
        refine KSeq_n ?_
        refine WC_seq ?_
        refine WC_region ?_
        refine WO_step rfl (S_pure rfl ?_)
        refine WO_step rfl (S_pure rfl ?_)
        refine WO_step rfl (S_cutV (a := k) (b := bs.length) rfl (by repeat (first | assumption | exact RD.head | exact RD.nil | apply RD.tail)) (by rfl) (LB.mk rfl rfl) LB.dflt LB.dflt (by omega) (by omega) (by omega) ?_)
        refine WO_call rfl rfl rfl ?_
        refine (sp_nGet (by repeat (first | assumption | exact RD.head | exact RD.nil | apply RD.tail)) (by omega)).mono ?_
        rintro _ _ ⟨rfl, rfl⟩
        generalize get (bs.drop k) = p at *
        obtain ⟨kd, m, f⟩ := p
        rw [getV_mk]
        simp only [] at hT hg2
        refine WO_step rfl (S_pure rfl ?_)
        refine WO_step rfl (S_pure rfl ?_)
        refine WO_step rfl (S_pure rfl ?_)
        refine WO_step rfl (S_pure rfl ?_)
        refine WO_step rfl (S_pure rfl ?_)
        refine WO_step rfl (S_pure rfl ?_)
        refine WO_step rfl (S_pure rfl ?_)
        refine WO_nil ?_
        refine KSeq_n ?_
        refine WC_seq ?_
        refine WC_block ?_
        refine WC_seq ?_
        refine WC_region ?_
        refine WO_step rfl (S_pure rfl ?_)
        first | refine WO_step rfl (S_neS rfl rfl ?_) | refine WO_step rfl (S_pure rfl ?_)
        refine WO_step rfl (S_pure rfl ?_)
        refine WO_nil ?_
        refine KSeq_n ?_
        refine WC_cond rfl (fun hb4 => ?_) (fun hb4 => ?_)
        ·
          try simp only [decide_eq_true_eq, decide_eq_false_iff_not, Bool.not_eq_true', Bool.not_eq_false', beq_iff_eq, bne_iff_ne, beq_eq_false_iff_ne, Int.ofNat_lt, Int.ofNat_le, Int.ofNat_inj, ne_eq, gt_iff_lt, ge_iff_le] at hb4
          rw [if_pos (by omega)] at hT
          refine WC_skip ?_
          refine KBlock_n ?_
          refine KSeq_n ?_
          refine WC_seq ?_
          refine WC_seq ?_
          refine WC_region ?_
          refine WO_step rfl (S_pure rfl ?_)
          first | refine WO_step rfl (S_neS rfl rfl ?_) | refine WO_step rfl (S_pure rfl ?_)
          refine WO_nil ?_
          refine KSeq_n ?_
          refine WC_cond rfl (fun hb5 => ?_) (fun hb5 => ?_)
          ·
            try simp only [decide_eq_true_eq, decide_eq_false_iff_not, Bool.not_eq_true', Bool.not_eq_false', beq_iff_eq, bne_iff_ne, beq_eq_false_iff_ne, Int.ofNat_lt, Int.ofNat_le, Int.ofNat_inj, ne_eq, gt_iff_lt, ge_iff_le] at hb5
            refine WC_seq ?_
            refine WC_region ?_
            refine WO_step rfl (S_pure rfl ?_)
            refine WO_step rfl (S_pure rfl ?_)
            first | refine WO_step rfl (S_storeT rfl rfl (by repeat (first | exact Pick.head | apply Pick.tail)) (by rfl) (by rfl) ?_) | refine WO_step rfl (S_storeO rfl rfl (by repeat (first | exact Pick.head | apply Pick.tail)) (by first | rfl | exact SV.cells1 _) (by rfl) (by first | rfl | exact SV.ones _) ?_)
            refine WO_step rfl (S_pure rfl ?_)
            refine WO_step rfl (S_pure rfl ?_)
            refine WO_nil ?_
            refine KSeq_n ?_
            refine WC_ret ?_
            refine KSeq_r ?_
            refine KFn_r (ResL.cell rfl (by repeat (first | exact Pick.head | apply Pick.tail)) (Nat.le_of_ble_eq_true rfl) rfl (ResL.tmp rfl (ResL.tmp rfl ResL.nil))) ?_
            exact ⟨_, (by repeat (first | exact HSub.refl | refine HSub.pick (by repeat (first | exact Pick.head | apply Pick.tail)) ?_ | apply HSub.drop)), rfl, by rw [hT]; rfl⟩
          ·
            try simp only [decide_eq_true_eq, decide_eq_false_iff_not, Bool.not_eq_true', Bool.not_eq_false', beq_iff_eq, bne_iff_ne, beq_eq_false_iff_ne, Int.ofNat_lt, Int.ofNat_le, Int.ofNat_inj, ne_eq, gt_iff_lt, ge_iff_le] at hb5
            exact absurd (by simpa using hb5) hb4
            --stop
        ·
          try simp only [decide_eq_true_eq, decide_eq_false_iff_not, Bool.not_eq_true', Bool.not_eq_false', beq_iff_eq, bne_iff_ne, beq_eq_false_iff_ne, Int.ofNat_lt, Int.ofNat_le, Int.ofNat_inj, ne_eq, gt_iff_lt, ge_iff_le] at hb4
          have hf0 : f = 0 := by simpa using hb4
          rw [if_neg (by omega)] at hT
          refine WC_seq ?_
          refine WC_region ?_
          refine WO_step rfl (S_pure rfl ?_)
          first | refine WO_step rfl (S_eqS rfl rfl ?_) | refine WO_step rfl (S_pure rfl ?_)
          refine WO_step rfl (S_pure rfl ?_)
          refine WO_nil ?_
          refine KSeq_n ?_
          refine WC_cond rfl (fun hb6 => ?_) (fun hb6 => ?_)
          ·
            try simp only [decide_eq_true_eq, decide_eq_false_iff_not, Bool.not_eq_true', Bool.not_eq_false', beq_iff_eq, bne_iff_ne, beq_eq_false_iff_ne, Int.ofNat_lt, Int.ofNat_le, Int.ofNat_inj, ne_eq, gt_iff_lt, ge_iff_le] at hb6
            rw [if_pos hb6] at hT
            refine WC_region ?_
            refine WO_step rfl (S_pure rfl ?_)
            refine WO_step rfl (S_storeO rfl rfl (by repeat (first | exact Pick.head | apply Pick.tail)) (by first | rfl | exact SV.cells1 _) (by rfl) (by first | rfl | exact SV.ones _) ?_)
            refine WO_nil ?_
            refine KBlock_n ?_
            refine KSeq_n ?_
            refine WC_seq ?_
            refine WC_seq ?_
            refine WC_region ?_
            refine WO_step rfl (S_pure rfl ?_)
            first | refine WO_step rfl (S_neS rfl rfl ?_) | refine WO_step rfl (S_pure rfl ?_)
            refine WO_nil ?_
            refine KSeq_n ?_
            refine WC_cond rfl (fun hb7 => ?_) (fun hb7 => ?_)
            ·
              try simp only [decide_eq_true_eq, decide_eq_false_iff_not, Bool.not_eq_true', Bool.not_eq_false', beq_iff_eq, bne_iff_ne, beq_eq_false_iff_ne, Int.ofNat_lt, Int.ofNat_le, Int.ofNat_inj, ne_eq, gt_iff_lt, ge_iff_le] at hb7
              exact absurd hb7 (by omega)
              --stop
            ·
              try simp only [decide_eq_true_eq, decide_eq_false_iff_not, Bool.not_eq_true', Bool.not_eq_false', beq_iff_eq, bne_iff_ne, beq_eq_false_iff_ne, Int.ofNat_lt, Int.ofNat_le, Int.ofNat_inj, ne_eq, gt_iff_lt, ge_iff_le] at hb7
              refine WC_skip ?_
              refine KSeq_n ?_
              refine WC_seq ?_
              refine WC_region ?_
              first | refine WO_step rfl (S_loadT rfl (by repeat (first | exact Pick.head | apply Pick.tail)) (by rfl) (by rfl) ?_) | refine WO_step rfl (S_loadO rfl (by repeat (first | exact Pick.head | apply Pick.tail)) (by rfl) (by rfl) ?_)
              refine WO_step rfl (S_pure rfl ?_)
              refine WO_step rfl (S_pure rfl ?_)
              first | refine WO_step rfl (S_addN rfl rfl (by omega) ?_) | refine WO_step rfl (S_pure rfl ?_)
              first | refine WO_step rfl (S_storeT rfl rfl (by repeat (first | exact Pick.head | apply Pick.tail)) (by rfl) (by rfl) ?_) | refine WO_step rfl (S_storeO rfl rfl (by repeat (first | exact Pick.head | apply Pick.tail)) (by first | rfl | exact SV.cells1 _) (by rfl) (by first | rfl | exact SV.ones _) ?_)
              refine WO_step rfl (S_pure rfl ?_)
              refine WO_step rfl (S_pure rfl ?_)
              refine WO_nil ?_
              refine KSeq_n ?_
              refine WC_ret ?_
              refine KFn_r (ResL.cell rfl (by repeat (first | exact Pick.head | apply Pick.tail)) (Nat.le_of_ble_eq_true rfl) rfl (ResL.tmp rfl (ResL.tmp rfl ResL.nil))) ?_
              exact ⟨_, (by repeat (first | exact HSub.refl | refine HSub.pick (by repeat (first | exact Pick.head | apply Pick.tail)) ?_ | apply HSub.drop)), rfl, by rw [hT]; rfl⟩
          ·
            try simp only [decide_eq_true_eq, decide_eq_false_iff_not, Bool.not_eq_true', Bool.not_eq_false', beq_iff_eq, bne_iff_ne, beq_eq_false_iff_ne, Int.ofNat_lt, Int.ofNat_le, Int.ofNat_inj, ne_eq, gt_iff_lt, ge_iff_le] at hb6
            rw [if_neg hb6] at hT
            refine WC_region ?_
            refine WO_step rfl (S_pure rfl ?_)
            refine WO_step rfl (S_pure rfl ?_)
            refine WO_step rfl (S_cutV (a := k) (b := bs.length) rfl (by repeat (first | assumption | exact RD.head | exact RD.nil | apply RD.tail)) (by rfl) (LB.mk rfl rfl) LB.dflt LB.dflt (by omega) (by omega) (by omega) ?_)
            refine WO_call rfl rfl rfl ?_
            refine (sp_vGet (by repeat (first | assumption | exact RD.head | exact RD.nil | apply RD.tail)) (by omega)).mono ?_
            rintro _ _ ⟨rfl, rfl⟩
            generalize getVal (bs.drop k) = p at *
            obtain ⟨r, m2, f2⟩ := p
            rw [getValV_mk]
            simp only [] at hT hg3
            refine WO_step rfl (S_pure rfl ?_)
            refine WO_step rfl (S_pure rfl ?_)
            refine WO_step rfl (S_pure rfl ?_)
            refine WO_step rfl (S_pure rfl ?_)
            refine WO_step rfl (S_pure rfl ?_)
            refine WO_step rfl (S_storeO rfl rfl (by repeat (first | exact Pick.head | apply Pick.tail)) (by first | rfl | exact SV.cells1 _) (by rfl) (by first | rfl | exact SV.ones _) ?_)
            refine WO_step rfl (S_pure rfl ?_)
            refine WO_step rfl (S_pure rfl ?_)
            refine WO_nil ?_
            refine KBlock_n ?_
            refine KSeq_n ?_
            refine WC_seq ?_
            refine WC_seq ?_
            refine WC_region ?_
            refine WO_step rfl (S_pure rfl ?_)
            first | refine WO_step rfl (S_neS rfl rfl ?_) | refine WO_step rfl (S_pure rfl ?_)
            refine WO_nil ?_
            refine KSeq_n ?_
            refine WC_cond rfl (fun hb8 => ?_) (fun hb8 => ?_)
            ·
              try simp only [decide_eq_true_eq, decide_eq_false_iff_not, Bool.not_eq_true', Bool.not_eq_false', beq_iff_eq, bne_iff_ne, beq_eq_false_iff_ne, Int.ofNat_lt, Int.ofNat_le, Int.ofNat_inj, ne_eq, gt_iff_lt, ge_iff_le] at hb8
              rw [if_pos (by omega)] at hT
              refine WC_seq ?_
              refine WC_region ?_
              refine WO_step rfl (S_pure rfl ?_)
              refine WO_step rfl (S_pure rfl ?_)
              first | refine WO_step rfl (S_storeT rfl rfl (by repeat (first | exact Pick.head | apply Pick.tail)) (by rfl) (by rfl) ?_) | refine WO_step rfl (S_storeO rfl rfl (by repeat (first | exact Pick.head | apply Pick.tail)) (by first | rfl | exact SV.cells1 _) (by rfl) (by first | rfl | exact SV.ones _) ?_)
              refine WO_step rfl (S_pure rfl ?_)
              refine WO_step rfl (S_pure rfl ?_)
              refine WO_nil ?_
              refine KSeq_n ?_
              refine WC_ret ?_
              refine KSeq_r ?_
              refine KFn_r (ResL.cell rfl (by repeat (first | exact Pick.head | apply Pick.tail)) (Nat.le_of_ble_eq_true rfl) rfl (ResL.tmp rfl (ResL.tmp rfl ResL.nil))) ?_
              exact ⟨_, (by repeat (first | exact HSub.refl | refine HSub.pick (by repeat (first | exact Pick.head | apply Pick.tail)) ?_ | apply HSub.drop)), rfl, by rw [hT]; rfl⟩
            ·
              try simp only [decide_eq_true_eq, decide_eq_false_iff_not, Bool.not_eq_true', Bool.not_eq_false', beq_iff_eq, bne_iff_ne, beq_eq_false_iff_ne, Int.ofNat_lt, Int.ofNat_le, Int.ofNat_inj, ne_eq, gt_iff_lt, ge_iff_le] at hb8
              have hf20 : f2 = 0 := by simpa using hb8
              rw [if_neg (by omega)] at hT
              refine WC_skip ?_
              refine KSeq_n ?_
              refine WC_seq ?_
              refine WC_region ?_
              first | refine WO_step rfl (S_loadT rfl (by repeat (first | exact Pick.head | apply Pick.tail)) (by rfl) (by rfl) ?_) | refine WO_step rfl (S_loadO rfl (by repeat (first | exact Pick.head | apply Pick.tail)) (by rfl) (by rfl) ?_)
              refine WO_step rfl (S_pure rfl ?_)
              refine WO_step rfl (S_pure rfl ?_)
              first | refine WO_step rfl (S_addN rfl rfl (by omega) ?_) | refine WO_step rfl (S_pure rfl ?_)
              first | refine WO_step rfl (S_storeT rfl rfl (by repeat (first | exact Pick.head | apply Pick.tail)) (by rfl) (by rfl) ?_) | refine WO_step rfl (S_storeO rfl rfl (by repeat (first | exact Pick.head | apply Pick.tail)) (by first | rfl | exact SV.cells1 _) (by rfl) (by first | rfl | exact SV.ones _) ?_)
              refine WO_step rfl (S_pure rfl ?_)
              refine WO_step rfl (S_pure rfl ?_)
              refine WO_nil ?_
              refine KSeq_n ?_
              refine WC_ret ?_
              refine KFn_r (ResL.cell rfl (by repeat (first | exact Pick.head | apply Pick.tail)) (Nat.le_of_ble_eq_true rfl) rfl (ResL.tmp rfl (ResL.tmp rfl ResL.nil))) ?_
              exact ⟨_, (by repeat (first | exact HSub.refl | refine HSub.pick (by repeat (first | exact Pick.head | apply Pick.tail)) ?_ | apply HSub.drop)), rfl, by rw [hT]; rfl⟩
  ·
    try simp only [decide_eq_true_eq, decide_eq_false_iff_not, Bool.not_eq_true', Bool.not_eq_false', beq_iff_eq, bne_iff_ne, beq_eq_false_iff_ne, Int.ofNat_lt, Int.ofNat_le, Int.ofNat_inj, ne_eq, gt_iff_lt, ge_iff_le] at hg1
    rw [if_pos (by omega)] at hT
    refine WO_off rfl ?_
    refine WO_off rfl ?_
    refine WO_off rfl ?_
    refine WO_step rfl (S_pure rfl ?_)
    refine WO_nil ?_
    refine KSeq_n ?_
    refine WC_cond rfl (fun h => ?_) (fun _ => ?_)
    · exact absurd h (by decide)
    refine WC_skip ?_
    refine KSeq_n ?_
    refine WC_seq ?_
    refine WC_seq ?_
    refine WC_region ?_
    refine WO_step rfl (S_pure rfl ?_)
    first | refine WO_step rfl (S_neS rfl rfl ?_) | refine WO_step rfl (S_pure rfl ?_)
    refine WO_nil ?_
    refine KSeq_n ?_
    refine WC_cond rfl (fun hb9 => ?_) (fun hb9 => ?_)
    ·
      try simp only [decide_eq_true_eq, decide_eq_false_iff_not, Bool.not_eq_true', Bool.not_eq_false', beq_iff_eq, bne_iff_ne, beq_eq_false_iff_ne, Int.ofNat_lt, Int.ofNat_le, Int.ofNat_inj, ne_eq, gt_iff_lt, ge_iff_le] at hb9
      refine WC_seq ?_
      refine WC_region ?_
      refine WO_step rfl (S_pure rfl ?_)
      refine WO_step rfl (S_pure rfl ?_)
      first | refine WO_step rfl (S_storeT rfl rfl (by repeat (first | exact Pick.head | apply Pick.tail)) (by rfl) (by rfl) ?_) | refine WO_step rfl (S_storeO rfl rfl (by repeat (first | exact Pick.head | apply Pick.tail)) (by first | rfl | exact SV.cells1 _) (by rfl) (by first | rfl | exact SV.ones _) ?_)
      refine WO_step rfl (S_pure rfl ?_)
      refine WO_step rfl (S_pure rfl ?_)
      refine WO_nil ?_
      refine KSeq_n ?_
      refine WC_ret ?_
      refine KSeq_r ?_
      refine KFn_r (ResL.cell rfl (by repeat (first | exact Pick.head | apply Pick.tail)) (Nat.le_of_ble_eq_true rfl) rfl (ResL.tmp rfl (ResL.tmp rfl ResL.nil))) ?_
      exact ⟨_, (by repeat (first | exact HSub.refl | refine HSub.pick (by repeat (first | exact Pick.head | apply Pick.tail)) ?_ | apply HSub.drop)), rfl, by rw [hT]; rfl⟩
    ·
      try simp only [decide_eq_true_eq, decide_eq_false_iff_not, Bool.not_eq_true', Bool.not_eq_false', beq_iff_eq, bne_iff_ne, beq_eq_false_iff_ne, Int.ofNat_lt, Int.ofNat_le, Int.ofNat_inj, ne_eq, gt_iff_lt, ge_iff_le] at hb9
      exact absurd (by simpa using hb9) hg1
      --stop
theorem sp_Read {H : SH} {v : Value} {bs : List UInt8} (hv : RD H v TByte bs) (hl : bs.length ≤ 1000000) : WF F X f_loessref10_Read [v] H (fun r H' => H' = H ∧ r = getRecV (getRec bs)) := by
  have hgl := getT_le bs
  refine WF_fn F_loessref10_Read ?_
  refine WC_seq ?_
  refine WC_region ?_
  refine WO_step rfl (S_new fun i2 => ?_)
  refine WO_step rfl (S_pure rfl ?_)
  refine WO_step rfl (S_pure rfl ?_)
  refine WO_nil ?_
  refine KSeq_n ?_
  refine WC_seq ?_
  refine WC_region ?_
  refine WO_step rfl (S_pure rfl ?_)
  refine WO_call rfl rfl rfl ?_
  refine (sp_refGetText (by repeat (first | assumption | exact RD.head | exact RD.nil | apply RD.tail)) hl).mono ?_
  rintro _ _ ⟨rfl, rfl⟩
  have hT : getRec bs = getRec bs := rfl
  conv at hT => rhs; unfold getRec
  generalize getT bs = p at *
  obtain ⟨q, k, e⟩ := p
  rw [getTV_mk]
  simp only [] at hT hgl
  have hvd := hv.tailSl (es := 1) (a := k) rfl hgl
  have hdl : (bs.drop k).length = bs.length - k := List.length_drop ..
  have hg2 := get_le (bs.drop k)
  have hg3 := getVal_le (bs.drop k)
  refine WO_step rfl (S_pure rfl ?_)
  refine WO_step rfl (S_pure rfl ?_)
  refine WO_step rfl (S_pure rfl ?_)
  refine WO_step rfl (S_pure rfl ?_)
  refine WO_step rfl (S_pure rfl ?_)
  refine WO_step rfl (S_pure rfl ?_)
  refine WO_step rfl (S_pure rfl ?_)
  refine WO_nil ?_
  refine KSeq_n ?_
  refine WC_seq ?_
  refine WC_seq ?_
  refine WC_region ?_
  refine WO_step rfl (S_pure rfl ?_)
  first | refine WO_step rfl (S_neS rfl rfl ?_) | refine WO_step rfl (S_pure rfl ?_)
  refine WO_nil ?_
  refine KSeq_n ?_
  refine WC_cond rfl (fun hb1 => ?_) (fun hb1 => ?_)
  ·
    try simp only [decide_eq_true_eq, decide_eq_false_iff_not, Bool.not_eq_true', Bool.not_eq_false', beq_iff_eq, bne_iff_ne, beq_eq_false_iff_ne, Int.ofNat_lt, Int.ofNat_le, Int.ofNat_inj, ne_eq, gt_iff_lt, ge_iff_le] at hb1
    rw [if_pos (by omega)] at hT
    refine WC_seq ?_
    refine WC_region ?_
    refine WO_step rfl (S_pure rfl ?_)
    refine WO_step rfl (S_pure rfl ?_)
    first | refine WO_step rfl (S_storeT rfl rfl (by repeat (first | exact Pick.head | apply Pick.tail)) (by rfl) (by rfl) ?_) | refine WO_step rfl (S_storeO rfl rfl (by repeat (first | exact Pick.head | apply Pick.tail)) (by first | rfl | exact SV.cells1 _) (by rfl) (by first | rfl | exact SV.ones _) ?_)
    refine WO_step rfl (S_pure rfl ?_)
    refine WO_step rfl (S_pure rfl ?_)
    refine WO_nil ?_
    refine KSeq_n ?_
    refine WC_ret ?_
    refine KSeq_r ?_
    refine KFn_r (ResL.cell rfl (by repeat (first | exact Pick.head | apply Pick.tail)) (Nat.le_of_ble_eq_true rfl) rfl (ResL.tmp rfl (ResL.tmp rfl ResL.nil))) ?_
    exact ⟨_, (by repeat (first | exact HSub.refl | refine HSub.pick (by repeat (first | exact Pick.head | apply Pick.tail)) ?_ | apply HSub.drop)), rfl, by rw [hT]; rfl⟩
  ·
    try simp only [decide_eq_true_eq, decide_eq_false_iff_not, Bool.not_eq_true', Bool.not_eq_false', beq_iff_eq, bne_iff_ne, beq_eq_false_iff_ne, Int.ofNat_lt, Int.ofNat_le, Int.ofNat_inj, ne_eq, gt_iff_lt, ge_iff_le] at hb1
    have he0 : e = 0 := by simpa using hb1
    rw [if_neg (by omega)] at hT
    refine WC_skip ?_
    refine KSeq_n ?_
    refine WC_seq ?_
    refine WC_seq ?_
    refine WC_region ?_
    refine WO_step rfl (S_pure rfl ?_)
    refine WO_call rfl rfl rfl ?_
    refine sp_MayKey.mono ?_
    rintro _ _ ⟨rfl, rfl⟩
    refine WO_step rfl (S_pure rfl ?_)
    refine WO_nil ?_
    refine KSeq_n ?_
    refine WC_cond rfl (fun hb2 => ?_) (fun hb2 => ?_)
    ·
      try simp only [decide_eq_true_eq, decide_eq_false_iff_not, Bool.not_eq_true', Bool.not_eq_false', beq_iff_eq, bne_iff_ne, beq_eq_false_iff_ne, Int.ofNat_lt, Int.ofNat_le, Int.ofNat_inj, ne_eq, gt_iff_lt, ge_iff_le] at hb2
      rw [if_pos hb2] at hT
      refine WC_seq ?_
      refine WC_region ?_
      refine WO_step rfl (S_pure rfl ?_)
      first | refine WO_step rfl (S_storeT rfl rfl (by repeat (first | exact Pick.head | apply Pick.tail)) (by rfl) (by rfl) ?_) | refine WO_step rfl (S_storeO rfl rfl (by repeat (first | exact Pick.head | apply Pick.tail)) (by first | rfl | exact SV.cells1 _) (by rfl) (by first | rfl | exact SV.ones _) ?_)
      refine WO_step rfl (S_pure rfl ?_)
      refine WO_step rfl (S_pure rfl ?_)
      refine WO_nil ?_
      refine KSeq_n ?_
      refine WC_ret ?_
      refine KSeq_r ?_
      refine KFn_r (ResL.cell rfl (by repeat (first | exact Pick.head | apply Pick.tail)) (Nat.le_of_ble_eq_true rfl) rfl (ResL.tmp rfl (ResL.tmp rfl ResL.nil))) ?_
      exact ⟨_, (by repeat (first | exact HSub.refl | refine HSub.pick (by repeat (first | exact Pick.head | apply Pick.tail)) ?_ | apply HSub.drop)), rfl, by rw [hT]; rfl⟩
    ·
      try simp only [decide_eq_true_eq, decide_eq_false_iff_not, Bool.not_eq_true', Bool.not_eq_false', beq_iff_eq, bne_iff_ne, beq_eq_false_iff_ne, Int.ofNat_lt, Int.ofNat_le, Int.ofNat_inj, ne_eq, gt_iff_lt, ge_iff_le] at hb2
      rw [if_neg (by simp [hb2])] at hT
      refine WC_skip ?_
      refine KSeq_n ?_
      refine WC_seq ?_
      refine WC_region ?_
      refine WO_step rfl (S_pure rfl ?_)
      refine WO_step rfl (S_pure rfl ?_)
      refine WO_step rfl (S_cutV (a := k) (b := bs.length) rfl (by repeat (first | assumption | exact RD.head | exact RD.nil | apply RD.tail)) (by rfl) (LB.mk rfl rfl) LB.dflt LB.dflt (by omega) (by omega) (by omega) ?_)
      refine WO_call rfl rfl rfl ?_
      refine (sp_refGet (by repeat (first | assumption | exact RD.head | exact RD.nil | apply RD.tail)) (by omega)).mono ?_
      rintro _ _ ⟨rfl, rfl⟩
      generalize get (bs.drop k) = p at *
      obtain ⟨kd, m, f⟩ := p
      rw [getV_mk]
      simp only [] at hT hg2
      refine WO_step rfl (S_pure rfl ?_)
      refine WO_step rfl (S_pure rfl ?_)
      refine WO_step rfl (S_pure rfl ?_)
      refine WO_step rfl (S_pure rfl ?_)
      refine WO_step rfl (S_pure rfl ?_)
      refine WO_step rfl (S_pure rfl ?_)
      refine WO_step rfl (S_pure rfl ?_)
      refine WO_nil ?_
      refine KSeq_n ?_
      refine WC_seq ?_
      refine WC_seq ?_
      refine WC_region ?_
      refine WO_step rfl (S_pure rfl ?_)
      first | refine WO_step rfl (S_neS rfl rfl ?_) | refine WO_step rfl (S_pure rfl ?_)
      refine WO_nil ?_
      refine KSeq_n ?_
      refine WC_cond rfl (fun hb3 => ?_) (fun hb3 => ?_)
      ·
        try simp only [decide_eq_true_eq, decide_eq_false_iff_not, Bool.not_eq_true', Bool.not_eq_false', beq_iff_eq, bne_iff_ne, beq_eq_false_iff_ne, Int.ofNat_lt, Int.ofNat_le, Int.ofNat_inj, ne_eq, gt_iff_lt, ge_iff_le] at hb3
        rw [if_pos (by omega)] at hT
        refine WC_seq ?_
        refine WC_region ?_
        refine WO_step rfl (S_pure rfl ?_)
        refine WO_step rfl (S_pure rfl ?_)
        first | refine WO_step rfl (S_storeT rfl rfl (by repeat (first | exact Pick.head | apply Pick.tail)) (by rfl) (by rfl) ?_) | refine WO_step rfl (S_storeO rfl rfl (by repeat (first | exact Pick.head | apply Pick.tail)) (by first | rfl | exact SV.cells1 _) (by rfl) (by first | rfl | exact SV.ones _) ?_)
        refine WO_step rfl (S_pure rfl ?_)
        refine WO_step rfl (S_pure rfl ?_)
        refine WO_nil ?_
        refine KSeq_n ?_
        refine WC_ret ?_
        refine KSeq_r ?_
        refine KFn_r (ResL.cell rfl (by repeat (first | exact Pick.head | apply Pick.tail)) (Nat.le_of_ble_eq_true rfl) rfl (ResL.tmp rfl (ResL.tmp rfl ResL.nil))) ?_
        exact ⟨_, (by repeat (first | exact HSub.refl | refine HSub.pick (by repeat (first | exact Pick.head | apply Pick.tail)) ?_ | apply HSub.drop)), rfl, by rw [hT]; rfl⟩
      ·
        try simp only [decide_eq_true_eq, decide_eq_false_iff_not, Bool.not_eq_true', Bool.not_eq_false', beq_iff_eq, bne_iff_ne, beq_eq_false_iff_ne, Int.ofNat_lt, Int.ofNat_le, Int.ofNat_inj, ne_eq, gt_iff_lt, ge_iff_le] at hb3
        have hf0 : f = 0 := by simpa using hb3
        rw [if_neg (by omega)] at hT
        refine WC_skip ?_
        refine KSeq_n ?_
        refine WC_seq ?_
        refine WC_seq ?_
        refine WC_region ?_
        refine WO_step rfl (S_pure rfl ?_)
        first | refine WO_step rfl (S_eqS rfl rfl ?_) | refine WO_step rfl (S_pure rfl ?_)
        refine WO_nil ?_
        refine KSeq_n ?_
        refine WC_cond rfl (fun hb4 => ?_) (fun hb4 => ?_)
        ·
          try simp only [decide_eq_true_eq, decide_eq_false_iff_not, Bool.not_eq_true', Bool.not_eq_false', beq_iff_eq, bne_iff_ne, beq_eq_false_iff_ne, Int.ofNat_lt, Int.ofNat_le, Int.ofNat_inj, ne_eq, gt_iff_lt, ge_iff_le] at hb4
          rw [if_pos hb4] at hT
          refine WC_seq ?_
          refine WC_region ?_
          refine WO_step rfl (S_pure rfl ?_)
          refine WO_step rfl (S_pure rfl ?_)
          refine WO_step rfl (S_pure rfl ?_)
          refine WO_step rfl (S_pure rfl ?_)
          first | refine WO_step rfl (S_addN rfl rfl (by omega) ?_) | refine WO_step rfl (S_pure rfl ?_)
          first | refine WO_step rfl (S_storeT rfl rfl (by repeat (first | exact Pick.head | apply Pick.tail)) (by rfl) (by rfl) ?_) | refine WO_step rfl (S_storeO rfl rfl (by repeat (first | exact Pick.head | apply Pick.tail)) (by first | rfl | exact SV.cells1 _) (by rfl) (by first | rfl | exact SV.ones _) ?_)
          refine WO_step rfl (S_pure rfl ?_)
          refine WO_step rfl (S_pure rfl ?_)
          refine WO_nil ?_
          refine KSeq_n ?_
          refine WC_ret ?_
          refine KSeq_r ?_
          refine KFn_r (ResL.cell rfl (by repeat (first | exact Pick.head | apply Pick.tail)) (Nat.le_of_ble_eq_true rfl) rfl (ResL.tmp rfl (ResL.tmp rfl ResL.nil))) ?_
          exact ⟨_, (by repeat (first | exact HSub.refl | refine HSub.pick (by repeat (first | exact Pick.head | apply Pick.tail)) ?_ | apply HSub.drop)), rfl, by rw [hT]; rfl⟩
        ·
          try simp only [decide_eq_true_eq, decide_eq_false_iff_not, Bool.not_eq_true', Bool.not_eq_false', beq_iff_eq, bne_iff_ne, beq_eq_false_iff_ne, Int.ofNat_lt, Int.ofNat_le, Int.ofNat_inj, ne_eq, gt_iff_lt, ge_iff_le] at hb4
          rw [if_neg hb4] at hT
          refine WC_skip ?_
          refine KSeq_n ?_
          refine WC_seq ?_
          refine WC_region ?_
          refine WO_step rfl (S_pure rfl ?_)
          refine WO_step rfl (S_pure rfl ?_)
          refine WO_step rfl (S_cutV (a := k) (b := bs.length) rfl (by repeat (first | assumption | exact RD.head | exact RD.nil | apply RD.tail)) (by rfl) (LB.mk rfl rfl) LB.dflt LB.dflt (by omega) (by omega) (by omega) ?_)
          refine WO_call rfl rfl rfl ?_
          refine (sp_refGetVal (by repeat (first | assumption | exact RD.head | exact RD.nil | apply RD.tail)) (by omega)).mono ?_
          rintro _ _ ⟨rfl, rfl⟩
          generalize getVal (bs.drop k) = p at *
          obtain ⟨r, m2, f2⟩ := p
          rw [getValV_mk]
          simp only [] at hT hg3
          refine WO_step rfl (S_pure rfl ?_)
          refine WO_step rfl (S_pure rfl ?_)
          refine WO_step rfl (S_pure rfl ?_)
          refine WO_step rfl (S_pure rfl ?_)
          refine WO_step rfl (S_new fun i10 => ?_)
          first | refine WO_step rfl (S_storeT rfl rfl (by repeat (first | exact Pick.head | apply Pick.tail)) (by rfl) (by rfl) ?_) | refine WO_step rfl (S_storeO rfl rfl (by repeat (first | exact Pick.head | apply Pick.tail)) (by first | rfl | exact SV.cells1 _) (by rfl) (by first | rfl | exact SV.ones _) ?_)
          refine WO_step rfl (S_pure rfl ?_)
          refine WO_step rfl (S_pure rfl ?_)
          refine WO_nil ?_
          refine KSeq_n ?_
          refine WC_seq ?_
          refine WC_seq ?_
          refine WC_region ?_
          refine WO_step rfl (S_pure rfl ?_)
          first | refine WO_step rfl (S_neS rfl rfl ?_) | refine WO_step rfl (S_pure rfl ?_)
          refine WO_nil ?_
          refine KSeq_n ?_
          refine WC_cond rfl (fun hb5 => ?_) (fun hb5 => ?_)
          ·
            try simp only [decide_eq_true_eq, decide_eq_false_iff_not, Bool.not_eq_true', Bool.not_eq_false', beq_iff_eq, bne_iff_ne, beq_eq_false_iff_ne, Int.ofNat_lt, Int.ofNat_le, Int.ofNat_inj, ne_eq, gt_iff_lt, ge_iff_le] at hb5
            rw [if_pos (by omega)] at hT
            refine WC_seq ?_
            refine WC_region ?_
            refine WO_step rfl (S_pure rfl ?_)
            refine WO_step rfl (S_pure rfl ?_)
            first | refine WO_step rfl (S_storeT rfl rfl (by repeat (first | exact Pick.head | apply Pick.tail)) (by rfl) (by rfl) ?_) | refine WO_step rfl (S_storeO rfl rfl (by repeat (first | exact Pick.head | apply Pick.tail)) (by first | rfl | exact SV.cells1 _) (by rfl) (by first | rfl | exact SV.ones _) ?_)
            refine WO_step rfl (S_pure rfl ?_)
            refine WO_step rfl (S_pure rfl ?_)
            refine WO_nil ?_
            refine KSeq_n ?_
            refine WC_ret ?_
            refine KSeq_r ?_
            refine KFn_r (ResL.cell rfl (by repeat (first | exact Pick.head | apply Pick.tail)) (Nat.le_of_ble_eq_true rfl) rfl (ResL.tmp rfl (ResL.tmp rfl ResL.nil))) ?_
            exact ⟨_, (by repeat (first | exact HSub.refl | refine HSub.pick (by repeat (first | exact Pick.head | apply Pick.tail)) ?_ | apply HSub.drop)), rfl, by rw [hT]; rfl⟩
          ·
            try simp only [decide_eq_true_eq, decide_eq_false_iff_not, Bool.not_eq_true', Bool.not_eq_false', beq_iff_eq, bne_iff_ne, beq_eq_false_iff_ne, Int.ofNat_lt, Int.ofNat_le, Int.ofNat_inj, ne_eq, gt_iff_lt, ge_iff_le] at hb5
            have hf20 : f2 = 0 := by simpa using hb5
            rw [if_neg (by omega)] at hT
            refine WC_skip ?_
            refine KSeq_n ?_
            refine WC_seq ?_
            refine WC_region ?_
            refine WO_step rfl (S_pure rfl ?_)
            first | refine WO_step rfl (S_loadT rfl (by repeat (first | exact Pick.head | apply Pick.tail)) (by rfl) (by rfl) ?_) | refine WO_step rfl (S_loadO rfl (by repeat (first | exact Pick.head | apply Pick.tail)) (by rfl) (by rfl) ?_)
            refine WO_step rfl (S_pure rfl ?_)
            refine WO_step rfl (S_pure rfl ?_)
            refine WO_step rfl (S_pure rfl ?_)
            first | refine WO_step rfl (S_addN rfl rfl (by omega) ?_) | refine WO_step rfl (S_pure rfl ?_)
            first | refine WO_step rfl (S_storeT rfl rfl (by repeat (first | exact Pick.head | apply Pick.tail)) (by rfl) (by rfl) ?_) | refine WO_step rfl (S_storeO rfl rfl (by repeat (first | exact Pick.head | apply Pick.tail)) (by first | rfl | exact SV.cells1 _) (by rfl) (by first | rfl | exact SV.ones _) ?_)
            refine WO_step rfl (S_pure rfl ?_)
            refine WO_step rfl (S_pure rfl ?_)
            refine WO_nil ?_
            refine KSeq_n ?_
            refine WC_ret ?_
            refine KFn_r (ResL.cell rfl (by repeat (first | exact Pick.head | apply Pick.tail)) (Nat.le_of_ble_eq_true rfl) rfl (ResL.tmp rfl (ResL.tmp rfl ResL.nil))) ?_
            exact ⟨_, (by repeat (first | exact HSub.refl | refine HSub.pick (by repeat (first | exact Pick.head | apply Pick.tail)) ?_ | apply HSub.drop)), rfl, by rw [hT]; rfl⟩
theorem sp_tells {H : SH} {v : Value} {bs : List UInt8} (hv : RD H v TByte bs) (hl : bs.length ≤ 1000000) : WF F X f_loesslaw10_tells [v] H (fun r H' => H' = H ∧ r = .bool true) := by
  refine WF_fn F_loesslaw10_tells ?_
  refine WC_seq ?_
  refine WC_region ?_
  refine WO_step rfl (S_pure rfl ?_)
  refine WO_nil ?_
  refine KSeq_n ?_
  refine WC_seq ?_
  refine WC_region ?_
  refine WO_step rfl (S_pure rfl ?_)
  refine WO_call rfl rfl rfl ?_
  refine (sp_rGet (by repeat (first | assumption | exact RD.head | exact RD.nil | apply RD.tail)) hl).mono ?_
  rintro _ _ ⟨rfl, rfl⟩
  refine WO_step rfl (S_pure rfl ?_)
  refine WO_step rfl (S_pure rfl ?_)
  refine WO_step rfl (S_pure rfl ?_)
  refine WO_step rfl (S_pure rfl ?_)
  refine WO_step rfl (S_new fun i3 => ?_)
  first | refine WO_step rfl (S_storeT rfl rfl (by repeat (first | exact Pick.head | apply Pick.tail)) (by rfl) (by rfl) ?_) | refine WO_step rfl (S_storeO rfl rfl (by repeat (first | exact Pick.head | apply Pick.tail)) (by first | rfl | exact SV.cells1 _) (by rfl) (by first | rfl | exact SV.ones _) ?_)
  refine WO_step rfl (S_pure rfl ?_)
  refine WO_step rfl (S_pure rfl ?_)
  refine WO_nil ?_
  refine KSeq_n ?_
  refine WC_seq ?_
  refine WC_region ?_
  refine WO_step rfl (S_pure rfl ?_)
  refine WO_call rfl rfl rfl ?_
  refine (sp_Read (by repeat (first | assumption | exact RD.head | exact RD.nil | apply RD.tail)) hl).mono ?_
  rintro _ _ ⟨rfl, rfl⟩
  refine WO_step rfl (S_pure rfl ?_)
  refine WO_step rfl (S_pure rfl ?_)
  refine WO_step rfl (S_pure rfl ?_)
  refine WO_step rfl (S_pure rfl ?_)
  refine WO_step rfl (S_new fun i6 => ?_)
  first | refine WO_step rfl (S_storeT rfl rfl (by repeat (first | exact Pick.head | apply Pick.tail)) (by rfl) (by rfl) ?_) | refine WO_step rfl (S_storeO rfl rfl (by repeat (first | exact Pick.head | apply Pick.tail)) (by first | rfl | exact SV.cells1 _) (by rfl) (by first | rfl | exact SV.ones _) ?_)
  refine WO_step rfl (S_pure rfl ?_)
  refine WO_step rfl (S_pure rfl ?_)
  refine WO_nil ?_
  refine KSeq_n ?_
  refine WC_seq ?_
  refine WC_region ?_
  refine WO_step rfl (S_pure rfl ?_)
  refine WO_step rfl (S_pure rfl ?_)
  first | refine WO_step rfl (S_eqS rfl rfl ?_) | refine WO_step rfl (S_pure rfl ?_)
  refine WO_step rfl (S_pure rfl ?_)
  refine WO_cases (t := 24) rfl (fun hg1 => ?_) (fun hg1 => ?_)
  ·
    try simp only [decide_eq_true_eq, decide_eq_false_iff_not, Bool.not_eq_true', Bool.not_eq_false', beq_iff_eq, bne_iff_ne, beq_eq_false_iff_ne, Int.ofNat_lt, Int.ofNat_le, Int.ofNat_inj, ne_eq, gt_iff_lt, ge_iff_le] at hg1
    refine WO_step rfl (S_pure rfl ?_)
    refine WO_step rfl (S_pure rfl ?_)
    first | refine WO_step rfl (S_eqS rfl rfl ?_) | refine WO_step rfl (S_pure rfl ?_)
    refine WO_step rfl (S_pure rfl ?_)
    refine WO_step rfl (S_pure rfl ?_)
    refine WO_cases (t := 29) rfl (fun hg2 => ?_) (fun hg2 => ?_)
    ·
      try simp only [decide_eq_true_eq, decide_eq_false_iff_not, Bool.not_eq_true', Bool.not_eq_false', beq_iff_eq, bne_iff_ne, beq_eq_false_iff_ne, Int.ofNat_lt, Int.ofNat_le, Int.ofNat_inj, ne_eq, gt_iff_lt, ge_iff_le] at hg2
      first | refine WO_step rfl (S_loadT rfl (by repeat (first | exact Pick.head | apply Pick.tail)) (by rfl) (by rfl) ?_) | refine WO_step rfl (S_loadO rfl (by repeat (first | exact Pick.head | apply Pick.tail)) (by rfl) (by rfl) ?_)
      first | refine WO_step rfl (S_loadT rfl (by repeat (first | exact Pick.head | apply Pick.tail)) (by rfl) (by rfl) ?_) | refine WO_step rfl (S_loadO rfl (by repeat (first | exact Pick.head | apply Pick.tail)) (by rfl) (by rfl) ?_)
      refine WO_call rfl rfl rfl ?_
      refine sp_Eq.mono ?_
      rintro _ _ ⟨rfl, rfl⟩
      refine WO_step rfl (S_pure rfl ?_)
      refine WO_step rfl (S_pure rfl ?_)
      refine WO_nil ?_
      refine KSeq_n ?_
      refine WC_ret ?_
      refine KFn_r (ResL.tmp rfl ResL.nil) ?_
      first
        | (exfalso; simp_all; done)
        | exact ⟨_, (by repeat (first | exact HSub.refl | refine HSub.pick (by repeat (first | exact Pick.head | apply Pick.tail)) ?_ | apply HSub.drop)), rfl, by simp [resV]⟩
    ·
      try simp only [decide_eq_true_eq, decide_eq_false_iff_not, Bool.not_eq_true', Bool.not_eq_false', beq_iff_eq, bne_iff_ne, beq_eq_false_iff_ne, Int.ofNat_lt, Int.ofNat_le, Int.ofNat_inj, ne_eq, gt_iff_lt, ge_iff_le] at hg2
      refine WO_off rfl ?_
      refine WO_off rfl ?_
      refine WO_off rfl ?_
      refine WO_step rfl (S_pure rfl ?_)
      refine WO_step rfl (S_pure rfl ?_)
      refine WO_nil ?_
      refine KSeq_n ?_
      refine WC_ret ?_
      refine KFn_r (ResL.tmp rfl ResL.nil) ?_
      first
        | (exfalso; simp_all; done)
        | exact ⟨_, (by repeat (first | exact HSub.refl | refine HSub.pick (by repeat (first | exact Pick.head | apply Pick.tail)) ?_ | apply HSub.drop)), rfl, by simp [resV]⟩
  ·
    try simp only [decide_eq_true_eq, decide_eq_false_iff_not, Bool.not_eq_true', Bool.not_eq_false', beq_iff_eq, bne_iff_ne, beq_eq_false_iff_ne, Int.ofNat_lt, Int.ofNat_le, Int.ofNat_inj, ne_eq, gt_iff_lt, ge_iff_le] at hg1
    refine WO_off rfl ?_
    refine WO_off rfl ?_
    refine WO_off rfl ?_
    refine WO_step rfl (S_pure rfl ?_)
    refine WO_step rfl (S_pure rfl ?_)
    refine WO_off rfl ?_
    refine WO_off rfl ?_
    refine WO_off rfl ?_
    refine WO_step rfl (S_pure rfl ?_)
    refine WO_step rfl (S_pure rfl ?_)
    refine WO_nil ?_
    refine KSeq_n ?_
    refine WC_ret ?_
    refine KFn_r (ResL.tmp rfl ResL.nil) ?_
    first
      | (exfalso; simp_all; done)
      | exact ⟨_, (by repeat (first | exact HSub.refl | refine HSub.pick (by repeat (first | exact Pick.head | apply Pick.tail)) ?_ | apply HSub.drop)), rfl, by simp [resV]⟩
theorem sp_Short {H : SH} {v : Value} {bs : List UInt8} {n : Nat} (hv : RD H v TByte bs) : WF F X f_loesslaw1_Short [v, .int .i64 n] H (fun r H' => H' = H ∧ ∀ H0 : SH, RD H0 v TByte bs → RD H0 r TByte (bs.take n)) := by
  refine WF_fn F_loesslaw1_Short ?_
  refine WC_seq ?_
  refine WC_region ?_
  refine WO_step rfl (S_pure rfl ?_)
  refine WO_nil ?_
  refine KSeq_n ?_
  refine WC_seq ?_
  refine WC_seq ?_
  refine WC_region ?_
  refine WO_step rfl (S_pure rfl ?_)
  first | refine WO_step rfl (S_pure rfl ?_) | refine WO_step rfl (S_lenS rfl (by repeat (first | assumption | exact RD.head | exact RD.nil | apply RD.tail)) ?_)
  refine WO_step rfl (S_pure rfl ?_)
  refine WO_step rfl (S_pure rfl ?_)
  refine WO_nil ?_
  refine KSeq_n ?_
  refine WC_cond rfl (fun hb1 => ?_) (fun hb1 => ?_)
  ·
    try simp only [decide_eq_true_eq, decide_eq_false_iff_not, Bool.not_eq_true', Bool.not_eq_false', beq_iff_eq, bne_iff_ne, beq_eq_false_iff_ne, Int.ofNat_lt, Int.ofNat_le, Int.ofNat_inj, ne_eq, gt_iff_lt, ge_iff_le] at hb1
    refine WC_seq ?_
    refine WC_region ?_
    refine WO_step rfl (S_pure rfl ?_)
    refine WO_step rfl (S_pure rfl ?_)
    refine WO_step rfl (S_cutV (a := 0) (b := n) rfl (by repeat (first | assumption | exact RD.head | exact RD.nil | apply RD.tail)) (by rfl) LB.dflt (LB.mk rfl rfl) LB.dflt (by omega) (by omega) (by omega) ?_)
    refine WO_step rfl (S_pure rfl ?_)
    refine WO_nil ?_
    refine KSeq_n ?_
    refine WC_ret ?_
    refine KSeq_r ?_
    refine KFn_r (ResL.tmp rfl ResL.nil) ?_
    exact ⟨_, (by repeat (first | exact HSub.refl | refine HSub.pick (by repeat (first | exact Pick.head | apply Pick.tail)) ?_ | apply HSub.drop)), rfl, fun H0 hv => by have := hv.subSl (es := 1) (lo := 0) (n := n - 0) rfl (by omega); exact this⟩
  ·
    try simp only [decide_eq_true_eq, decide_eq_false_iff_not, Bool.not_eq_true', Bool.not_eq_false', beq_iff_eq, bne_iff_ne, beq_eq_false_iff_ne, Int.ofNat_lt, Int.ofNat_le, Int.ofNat_inj, ne_eq, gt_iff_lt, ge_iff_le] at hb1
    refine WC_skip ?_
    refine KSeq_n ?_
    refine WC_seq ?_
    refine WC_region ?_
    refine WO_step rfl (S_pure rfl ?_)
    refine WO_step rfl (S_pure rfl ?_)
    refine WO_nil ?_
    refine KSeq_n ?_
    refine WC_ret ?_
    refine KFn_r (ResL.tmp rfl ResL.nil) ?_
    exact ⟨_, (by repeat (first | exact HSub.refl | refine HSub.pick (by repeat (first | exact Pick.head | apply Pick.tail)) ?_ | apply HSub.drop)), rfl, fun H0 hv => by rw [List.take_of_length_le (by omega)]; exact hv⟩
end Go.Proofs.Ytkiijlaibapmaaa.AM
