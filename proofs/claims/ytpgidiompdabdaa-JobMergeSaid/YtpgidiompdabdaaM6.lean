/- Walks: what the functions compute. -/
import Derived.Test.YtpgidiompdabdaaM3
namespace Go.Proofs.Ytpgidiompdabdaa.AM
open Go
set_option linter.unusedSimpArgs false
set_option linter.unusedVariables false
set_option maxRecDepth 4000

/-! ### Orders -/
def sLt (a b : ByteArray) : Bool := Op.bytesLess a.toList b.toList
def lessK (a b : ByteArray) : Bool := decide (hashOf a < hashOf b) || (decide (hashOf a = hashOf b) && sLt a b)
def cmpI (x y : Int) : Int := if x < y then -1 else if x > y then 1 else 0
def cmpS (a b : ByteArray) : Int := if sLt a b then -1 else if !(sLt a b || a.toList == b.toList) then 1 else 0
theorem sp_isNaN64 {H : SH} {n : Int} : WF F X f_cmp_isNaN_uint64 [.int .u64 n] H (fun r H' => H' = H ∧ r = .bool false) := by
  refine WF_fn F_cmp_isNaN_uint64 ?_
  refine WC_seq ?_
  refine WC_region ?_
  refine WO_step rfl (S_pure rfl ?_)
  refine WO_nil ?_
  refine KSeq_n ?_
  refine WC_seq ?_
  refine WC_region ?_
  iterate 2 refine WO_step rfl (S_pure rfl ?_)
  first | refine WO_step rfl (S_neS rfl rfl ?_) | refine WO_step rfl (S_pure rfl ?_)
  refine WO_step rfl (S_pure rfl ?_)
  refine WO_nil ?_
  refine KSeq_n ?_
  refine WC_ret ?_
  refine KFn_r (ResL.tmp rfl ResL.nil) ?_
  refine ⟨_, hsA, rfl, ?_⟩
  simp [resV]
theorem sp_isNaNs {H : SH} {n : ByteArray} : WF F X f_cmp_isNaN_string [.string n] H (fun r H' => H' = H ∧ r = .bool false) := by
  refine WF_fn F_cmp_isNaN_string ?_
  refine WC_seq ?_
  refine WC_region ?_
  refine WO_step rfl (S_pure rfl ?_)
  refine WO_nil ?_
  refine KSeq_n ?_
  refine WC_seq ?_
  refine WC_region ?_
  iterate 2 refine WO_step rfl (S_pure rfl ?_)
  first | refine WO_step rfl (S_neS rfl rfl ?_) | refine WO_step rfl (S_pure rfl ?_)
  refine WO_step rfl (S_pure rfl ?_)
  refine WO_nil ?_
  refine KSeq_n ?_
  refine WC_ret ?_
  refine KFn_r (ResL.tmp rfl ResL.nil) ?_
  refine ⟨_, hsA, rfl, ?_⟩
  simp [resV]
theorem sp_Cmp64 {H : SH} {a b : Int} : WF F X f_cmp_Compare_uint64 [.int .u64 a, .int .u64 b] H (fun r H' => H' = H ∧ r = .int .i64 (cmpI a b)) := by
  refine WF_fn F_cmp_Compare_uint64 ?_
  refine WC_seq ?_
  refine WC_region ?_
  refine WO_step rfl (S_pure rfl ?_)
  refine WO_nil ?_
  refine KSeq_n ?_
  refine WC_seq ?_
  refine WC_region ?_
  refine WO_step rfl (S_pure rfl ?_)
  refine WO_call rfl rfl rfl ?_
  refine sp_isNaN64.mono ?_
  rintro _ _ ⟨rfl, rfl⟩
  refine WO_step rfl (S_pure rfl ?_)
  refine WO_nil ?_
  refine KSeq_n ?_
  refine WC_seq ?_
  refine WC_region ?_
  refine WO_step rfl (S_pure rfl ?_)
  refine WO_call rfl rfl rfl ?_
  refine sp_isNaN64.mono ?_
  rintro _ _ ⟨rfl, rfl⟩
  refine WO_step rfl (S_pure rfl ?_)
  refine WO_nil ?_
  refine KSeq_n ?_
  refine WC_seq ?_
  refine WC_seq ?_
  refine WC_region ?_
  refine WO_step rfl (S_pure rfl ?_)
  refine WO_nil ?_
  refine KSeq_n ?_
  refine WC_cond rfl (fun hb1 => ?_) (fun hb1 => ?_)
  ·
   try simp only [bsT] at hb1
   exact absurd hb1 (by decide)
   --stop
  ·
   try simp only [bsT] at hb1
   refine WC_skip ?_
   refine KSeq_n ?_
   refine WC_seq ?_
   refine WC_seq ?_
   refine WC_region ?_
   refine WO_step rfl (S_pure rfl ?_)
   refine WO_nil ?_
   refine KSeq_n ?_
   refine WC_cond rfl (fun hb2 => ?_) (fun hb2 => ?_)
   ·
    try simp only [bsT] at hb2
    exact absurd hb2 (by decide)
    --stop
   ·
    try simp only [bsT] at hb2
    refine WC_skip ?_
    refine KSeq_n ?_
    refine WC_seq ?_
    refine WC_seq ?_
    refine WC_region ?_
    iterate 3 refine WO_step rfl (S_pure rfl ?_)
    refine WO_nil ?_
    refine KSeq_n ?_
    refine WC_cond rfl (fun hb3 => ?_) (fun hb3 => ?_)
    ·
     try simp only [bsT] at hb3
     refine WC_seq ?_
     refine WC_region ?_
     refine WO_step rfl (S_pure rfl ?_)
     refine WO_nil ?_
     refine KSeq_n ?_
     refine WC_ret ?_
     refine KSeq_r ?_
     refine KFn_r (ResL.tmp rfl ResL.nil) ?_
     refine ⟨_, hsA, rfl, ?_⟩
     simp only [resV, cmpI, gt_iff_lt]
     first | rw [if_pos (by assumption)] | rw [if_neg (by assumption), if_pos (by assumption)] | rw [if_neg (by assumption), if_neg (by assumption)]
    ·
     try simp only [bsT] at hb3
     refine WC_skip ?_
     refine KSeq_n ?_
     refine WC_seq ?_
     refine WC_seq ?_
     refine WC_region ?_
     iterate 3 refine WO_step rfl (S_pure rfl ?_)
     refine WO_nil ?_
     refine KSeq_n ?_
     refine WC_cond rfl (fun hb4 => ?_) (fun hb4 => ?_)
     ·
      try simp only [bsT] at hb4
      refine WC_seq ?_
      refine WC_region ?_
      refine WO_step rfl (S_pure rfl ?_)
      refine WO_nil ?_
      refine KSeq_n ?_
      refine WC_ret ?_
      refine KSeq_r ?_
      refine KFn_r (ResL.tmp rfl ResL.nil) ?_
      refine ⟨_, hsA, rfl, ?_⟩
      simp only [resV, cmpI, gt_iff_lt]
      first | rw [if_pos (by assumption)] | rw [if_neg (by assumption), if_pos (by assumption)] | rw [if_neg (by assumption), if_neg (by assumption)]
     ·
      try simp only [bsT] at hb4
      refine WC_skip ?_
      refine KSeq_n ?_
      refine WC_seq ?_
      refine WC_region ?_
      refine WO_step rfl (S_pure rfl ?_)
      refine WO_nil ?_
      refine KSeq_n ?_
      refine WC_ret ?_
      refine KFn_r (ResL.tmp rfl ResL.nil) ?_
      refine ⟨_, hsA, rfl, ?_⟩
      simp only [resV, cmpI, gt_iff_lt]
      first | rw [if_pos (by assumption)] | rw [if_neg (by assumption), if_pos (by assumption)] | rw [if_neg (by assumption), if_neg (by assumption)]
theorem sp_CmpS {H : SH} {a b : ByteArray} : WF F X f_cmp_Compare_string [.string a, .string b] H (fun r H' => H' = H ∧ r = .int .i64 (cmpS a b)) := by
  refine WF_fn F_cmp_Compare_string ?_
  refine WC_seq ?_
  refine WC_region ?_
  refine WO_step rfl (S_pure rfl ?_)
  refine WO_nil ?_
  refine KSeq_n ?_
  refine WC_seq ?_
  refine WC_region ?_
  refine WO_step rfl (S_pure rfl ?_)
  refine WO_call rfl rfl rfl ?_
  refine sp_isNaNs.mono ?_
  rintro _ _ ⟨rfl, rfl⟩
  refine WO_step rfl (S_pure rfl ?_)
  refine WO_nil ?_
  refine KSeq_n ?_
  refine WC_seq ?_
  refine WC_region ?_
  refine WO_step rfl (S_pure rfl ?_)
  refine WO_call rfl rfl rfl ?_
  refine sp_isNaNs.mono ?_
  rintro _ _ ⟨rfl, rfl⟩
  refine WO_step rfl (S_pure rfl ?_)
  refine WO_nil ?_
  refine KSeq_n ?_
  refine WC_seq ?_
  refine WC_seq ?_
  refine WC_region ?_
  refine WO_step rfl (S_pure rfl ?_)
  refine WO_nil ?_
  refine KSeq_n ?_
  refine WC_cond rfl (fun hb1 => ?_) (fun hb1 => ?_)
  ·
   try simp only [bsT] at hb1
   exact absurd hb1 (by decide)
   --stop
  ·
   try simp only [bsT] at hb1
   refine WC_skip ?_
   refine KSeq_n ?_
   refine WC_seq ?_
   refine WC_seq ?_
   refine WC_region ?_
   refine WO_step rfl (S_pure rfl ?_)
   refine WO_nil ?_
   refine KSeq_n ?_
   refine WC_cond rfl (fun hb2 => ?_) (fun hb2 => ?_)
   ·
    try simp only [bsT] at hb2
    exact absurd hb2 (by decide)
    --stop
   ·
    try simp only [bsT] at hb2
    refine WC_skip ?_
    refine KSeq_n ?_
    refine WC_seq ?_
    refine WC_seq ?_
    refine WC_region ?_
    iterate 3 refine WO_step rfl (S_pure rfl ?_)
    refine WO_nil ?_
    refine KSeq_n ?_
    refine WC_cond rfl (fun hb3 => ?_) (fun hb3 => ?_)
    ·
     try simp only [bsT] at hb3
     refine WC_seq ?_
     refine WC_region ?_
     refine WO_step rfl (S_pure rfl ?_)
     refine WO_nil ?_
     refine KSeq_n ?_
     refine WC_ret ?_
     refine KSeq_r ?_
     refine KFn_r (ResL.tmp rfl ResL.nil) ?_
     refine ⟨_, hsA, rfl, ?_⟩
     simp only [resV, cmpS, sLt]
     cases hc : (a.toList == b.toList) <;> simp_all
    ·
     try simp only [bsT] at hb3
     refine WC_skip ?_
     refine KSeq_n ?_
     refine WC_seq ?_
     refine WC_seq ?_
     refine WC_region ?_
     iterate 3 refine WO_step rfl (S_pure rfl ?_)
     refine WO_nil ?_
     refine KSeq_n ?_
     refine WC_cond rfl (fun hb4 => ?_) (fun hb4 => ?_)
     ·
      try simp only [bsT] at hb4
      refine WC_seq ?_
      refine WC_region ?_
      refine WO_step rfl (S_pure rfl ?_)
      refine WO_nil ?_
      refine KSeq_n ?_
      refine WC_ret ?_
      refine KSeq_r ?_
      refine KFn_r (ResL.tmp rfl ResL.nil) ?_
      refine ⟨_, hsA, rfl, ?_⟩
      simp only [resV, cmpS, sLt]
      cases hc : (a.toList == b.toList) <;> simp_all
     ·
      try simp only [bsT] at hb4
      refine WC_skip ?_
      refine KSeq_n ?_
      refine WC_seq ?_
      refine WC_region ?_
      refine WO_step rfl (S_pure rfl ?_)
      refine WO_nil ?_
      refine KSeq_n ?_
      refine WC_ret ?_
      refine KFn_r (ResL.tmp rfl ResL.nil) ?_
      refine ⟨_, hsA, rfl, ?_⟩
      simp only [resV, cmpS, sLt]
      cases hc : (a.toList == b.toList) <;> simp_all
def orI : List Int → Int
  | [] => 0
  | x :: l => if x = 0 then orI l else x
theorem lp_Or_0 {H : SH} {w : Value} {l : List Int} (hr : RD H w TInt l) (hl : l.length ≤ 1000000) : ∀ (n a : Nat), l.length - a = n → a ≤ l.length →
    WC F X (.loop L_cmp_Or_int_0) [(8, .int .i64 a), (6, w), (3, .int .i64 0), (7, .int .i64 l.length)] H
      (KPost fun x l' H' => H' = H ∧ ((x = .exit 0 ∧ l' = [(3, .int .i64 0)] ∧ orI (l.drop a) = 0) ∨ (x = .ret ∧ l' = [(2, .int .i64 (orI (l.drop a)))]))) := by
  intro n
  induction n using Nat.strongRecOn with
  | _ n ih =>
    intro a hn ha
    refine WC_loop ?_
    refine WC_seq ?_
    refine WC_region ?_
    refine WO_step rfl (S_pure rfl ?_)
    refine WO_nil ?_
    refine KSeq_n ?_
    refine WC_seq ?_
    refine WC_cond rfl (fun hb1 => ?_) (fun hb1 => ?_)
    ·
     try simp only [bsT] at hb1
     obtain ⟨x, hx⟩ := get_of_lt hb1
     rw [drop_get hx]
     refine WC_skip ?_
     refine KSeq_n ?_
     refine WC_seq ?_
     refine WC_block ?_
     refine WC_seq ?_
     refine WC_region ?_
     refine WO_step rfl (S_idx rfl rfl rdA (by first | rfl | assumption | (symm; assumption)) (by rfl) (by first | assumption | omega | exact lt_of_get (by assumption) | (simp only [List.length_set]; first | assumption | omega | exact lt_of_get (by assumption))) fun hp10 => ?_)
     refine WO_step rfl (S_loadE rfl rdA (by first | rfl | assumption | (symm; assumption)) (by first | rfl | assumption | (symm; assumption)) (by first | rfl | assumption | (symm; assumption)) (by assumption) ?_)
     refine WO_step rfl (S_pure rfl ?_)
     refine WO_nil ?_
     refine KSeq_n ?_
     refine WC_seq ?_
     refine WC_region ?_
     iterate 2 refine WO_step rfl (S_pure rfl ?_)
     first | refine WO_step rfl (S_neS rfl rfl ?_) | refine WO_step rfl (S_pure rfl ?_)
     refine WO_nil ?_
     refine KSeq_n ?_
     refine WC_cond rfl (fun hb2 => ?_) (fun hb2 => ?_)
     ·
      try simp only [bsT] at hb2
      refine WC_seq ?_
      refine WC_region ?_
      iterate 2 refine WO_step rfl (S_pure rfl ?_)
      refine WO_nil ?_
      refine KSeq_n ?_
      refine WC_ret ?_
      refine KBlock_r ?_
      refine KSeq_r ?_
      refine KLoop_r ?_
      have hne : ¬ x = 0 := by intro h; subst h; simp at hb2
      simp only [orI, if_neg hne]
      exact KPost_i seA hsA ⟨rfl, .inr ⟨rfl, rfl⟩⟩
     ·
      try simp only [bsT] at hb2
      refine WC_skip ?_
      refine KBlock_n ?_
      refine KSeq_n ?_
      refine WC_region ?_
      first | refine WO_step rfl (S_addN (b := 1) rfl rfl (by omega) ?_) | refine WO_step rfl (S_pure rfl ?_)
      refine WO_step rfl (S_pure rfl ?_)
      refine WO_nil ?_
      refine KLoop_n ?_
      have hne : x = 0 := by simpa using hb2
      subst hne
      simp only [orI, if_true]
      exact WC_weak (ih (l.length - (a + 1)) (by omega) (a + 1) rfl (by omega)) seA hsA
    ·
     try simp only [bsT] at hb1
     refine WC_exit ?_
     refine KSeq_x ?_
     refine KLoop_x ?_
     rw [List.drop_of_length_le (by omega)]
     exact KPost_i seA hsA ⟨rfl, .inl ⟨rfl, rfl, rfl⟩⟩
theorem sp_Or {H : SH} {w : Value} {l : List Int} (hr : RD H w TInt l) (hl : l.length ≤ 1000000) : WF F X f_cmp_Or_int [w] H (fun r H' => H' = H ∧ r = .int .i64 (orI l)) := by
  refine WF_fn F_cmp_Or_int ?_
  refine WC_seq ?_
  refine WC_region ?_
  refine WO_step rfl (S_pure rfl ?_)
  refine WO_nil ?_
  refine KSeq_n ?_
  refine WC_seq ?_
  refine WC_region ?_
  refine WO_step rfl (S_pure rfl ?_)
  refine WO_nil ?_
  refine KSeq_n ?_
  refine WC_seq ?_
  refine WC_seq ?_
  refine WC_region ?_
  refine WO_step rfl (S_pure rfl ?_)
  first | refine WO_step rfl (S_pure rfl ?_) | refine WO_step rfl (S_lenS rfl rdA ?_)
  refine WO_step rfl (S_pure rfl ?_)
  refine WO_nil ?_
  refine KSeq_n ?_
  refine WC_block ?_
  --out x0 r
  refine WC_post (WC_weak (lp_Or_0 hr (by omega) l.length 0 (by omega) (by omega)) seA HSub.refl) ?_
  rintro x l' H' ⟨rfl, ⟨rfl, rfl, h0⟩ | ⟨rfl, rfl⟩⟩
  ·
   refine KBlock_h ?_
   refine KSeq_n ?_
   refine WC_seq ?_
   refine WC_region ?_
   iterate 2 refine WO_step rfl (S_pure rfl ?_)
   refine WO_nil ?_
   refine KSeq_n ?_
   refine WC_ret ?_
   refine KFn_r (ResL.tmp rfl ResL.nil) ?_
   first | exact ⟨_, hsA, rfl, rfl⟩ | (refine ⟨_, hsA, rfl, ?_⟩; rw [List.drop_zero] at h0; rw [h0]; rfl)
  ·
   refine KBlock_r ?_
   refine KSeq_r ?_
   refine KFn_r (ResL.tmp rfl ResL.nil) ?_
   first | exact ⟨_, hsA, rfl, rfl⟩ | (refine ⟨_, hsA, rfl, ?_⟩; rw [List.drop_zero] at h0; rw [h0]; rfl)
theorem bytesLess_irrefl : ∀ a : List UInt8, Op.bytesLess a a = false
  | [] => rfl
  | x :: a => by simp [Op.bytesLess, bytesLess_irrefl a]
theorem or_less {a b : ByteArray} : decide (orI [cmpI (hashOf a) (hashOf b), cmpS a b] < 0) = lessK a b := by
  unfold cmpI cmpS lessK
  by_cases h1 : hashOf a < hashOf b
  · simp [h1, orI]
  · by_cases h2 : hashOf a > hashOf b
    · have h3 : ¬ hashOf a = hashOf b := by omega
      simp [h1, h2, h3, orI]
    · have h3 : hashOf a = hashOf b := by omega
      simp only [h3, Int.lt_irrefl, if_false, gt_iff_lt, orI, if_true, decide_true, Bool.true_and, decide_false, Bool.false_or]
      cases hs : sLt a b with
      | true => simp
      | false => simp only [Bool.false_or, Bool.false_eq_true, if_false]; cases (a.toList == b.toList) <;> simp
theorem sp_SLess {H : SH} {a b : ByteArray} (ha : a.size ≤ 1000000) (hb : b.size ≤ 1000000) : WF F X f_sorted_Less [.string a, .string b] H (fun r H' => H' = H ∧ r = .bool (lessK a b)) := by
  refine WF_fn F_sorted_Less ?_
  refine WC_seq ?_
  refine WC_region ?_
  refine WO_step rfl (S_pure rfl ?_)
  refine WO_nil ?_
  refine KSeq_n ?_
  refine WC_seq ?_
  refine WC_region ?_
  refine WO_step rfl (S_pure rfl ?_)
  refine WO_call rfl rfl rfl ?_
  refine (sp_HashOf (by omega)).mono ?_
  rintro _ _ ⟨rfl, rfl⟩
  refine WO_step rfl (S_pure rfl ?_)
  refine WO_call rfl rfl rfl ?_
  refine (sp_HashOf (by omega)).mono ?_
  rintro _ _ ⟨rfl, rfl⟩
  refine WO_call rfl rfl rfl ?_
  refine sp_Cmp64.mono ?_
  rintro _ _ ⟨rfl, rfl⟩
  iterate 2 refine WO_step rfl (S_pure rfl ?_)
  refine WO_call rfl rfl rfl ?_
  refine sp_CmpS.mono ?_
  rintro _ _ ⟨rfl, rfl⟩
  refine WO_step rfl (S_lit rfl rfl rfl fun w13 => ?_)
  refine WO_call rfl rfl rfl ?_
  refine (sp_Or (l := [cmpI (hashOf a) (hashOf b), cmpS a b]) RD.head (by simp)).mono ?_
  rintro _ _ ⟨rfl, rfl⟩
  iterate 2 refine WO_step rfl (S_pure rfl ?_)
  refine WO_nil ?_
  refine KSeq_n ?_
  refine WC_ret ?_
  refine KFn_r (ResL.tmp rfl ResL.nil) ?_
  refine ⟨_, hsA, rfl, ?_⟩
  rw [← or_less]; rfl
theorem sp_RLess {H : SH} {a b : ByteArray} (ha : a.size ≤ 1000000) (hb : b.size ≤ 1000000) : WF F X f_loessref22_Less [.string a, .string b] H (fun r H' => H' = H ∧ r = .bool (lessK a b)) := by
  refine WF_fn F_loessref22_Less ?_
  refine WC_seq ?_
  refine WC_region ?_
  refine WO_step rfl (S_pure rfl ?_)
  refine WO_nil ?_
  refine KSeq_n ?_
  refine WC_seq ?_
  refine WC_region ?_
  refine WO_step rfl (S_pure rfl ?_)
  refine WO_call rfl rfl rfl ?_
  refine (sp_RHash (by omega)).mono ?_
  rintro _ _ ⟨rfl, rfl⟩
  refine WO_step rfl (S_pure rfl ?_)
  refine WO_call rfl rfl rfl ?_
  refine (sp_RHash (by omega)).mono ?_
  rintro _ _ ⟨rfl, rfl⟩
  iterate 2 refine WO_step rfl (S_pure rfl ?_)
  refine WO_nil ?_
  refine KSeq_n ?_
  refine WC_seq ?_
  refine WC_region ?_
  iterate 4 refine WO_step rfl (S_pure rfl ?_)
  refine WO_cases (t := 14) rfl (fun hg1 => ?_) (fun hg1 => ?_)
  ·
   try simp only [bsT] at hg1
   iterate 8 refine WO_off rfl ?_
   iterate 2 refine WO_step rfl (S_pure rfl ?_)
   refine WO_nil ?_
   refine KSeq_n ?_
   refine WC_ret ?_
   refine KFn_r (ResL.tmp rfl ResL.nil) ?_
   refine ⟨_, hsA, rfl, ?_⟩
   simp only [resV, lessK, sLt]
   simp [*]
  ·
   try simp only [bsT] at hg1
   iterate 2 refine WO_step rfl (S_pure rfl ?_)
   first | refine WO_step rfl (S_eqS rfl rfl ?_) | refine WO_step rfl (S_pure rfl ?_)
   refine WO_step rfl (S_pure rfl ?_)
   refine WO_cases (t := 18) rfl (fun hg2 => ?_) (fun hg2 => ?_)
   ·
    try simp only [bsT] at hg2
    iterate 6 refine WO_step rfl (S_pure rfl ?_)
    refine WO_nil ?_
    refine KSeq_n ?_
    refine WC_ret ?_
    refine KFn_r (ResL.tmp rfl ResL.nil) ?_
    refine ⟨_, hsA, rfl, ?_⟩
    simp only [resV, lessK, sLt]
    simp [*]
   ·
    try simp only [bsT] at hg2
    iterate 3 refine WO_off rfl ?_
    iterate 3 refine WO_step rfl (S_pure rfl ?_)
    refine WO_nil ?_
    refine KSeq_n ?_
    refine WC_ret ?_
    refine KFn_r (ResL.tmp rfl ResL.nil) ?_
    refine ⟨_, hsA, rfl, ?_⟩
    simp only [resV, lessK, sLt]
    simp [*]
/-! ### Records -/
theorem raw_ext (a b : Raw) : decide (a = b) = (decide (a.kind = b.kind) && decide (a.n = b.n) && decide (a.s = b.s)) := by
  cases a; cases b; simp [Bool.and_assoc]
theorem rec_ext (a b : Rec) : decide (a = b) = (decide (a.key = b.key) && decide (a.gone = b.gone) && decide (a.val = b.val)) := by
  cases a; cases b; simp [Bool.and_assoc]
theorem pair_ext (a b : Pair) : decide (a = b) = (decide (a.key = b.key) && decide (a.val = b.val)) := by
  cases a; cases b; simp
theorem drop_both {α : Type} {l m : List α} {a : Nat} {x y : α} (hx : l[a]? = some x) (hy : m[a]? = some y) : l.drop a = m.drop a ↔ x = y ∧ l.drop (a + 1) = m.drop (a + 1) := by
  rw [drop_get hx, drop_get hy, List.cons.injEq]
theorem sp_EqVal {H : SH} {a b : Raw} : WF F X f_loessref1_EqVal [TRaw.val a, TRaw.val b] H (fun r H' => H' = H ∧ r = .bool (decide (a = b))) := by
  refine WF_fn F_loessref1_EqVal ?_
  refine WC_seq ?_
  refine WC_region ?_
  refine WO_step rfl (S_box rfl rfl fun i2 => ?_)
  refine WO_step rfl (S_box rfl rfl fun i3 => ?_)
  refine WO_step rfl (S_pure rfl ?_)
  refine WO_nil ?_
  refine KSeq_n ?_
  refine WC_seq ?_
  refine WC_region ?_
  refine WO_step rfl (S_pure rfl ?_)
  refine WO_step rfl (S_loadO rfl pkA (by rfl) (by rfl) ?_)
  refine WO_step rfl (S_pure rfl ?_)
  refine WO_step rfl (S_loadO rfl pkA (by rfl) (by rfl) ?_)
  first | refine WO_step rfl (S_eqS rfl rfl ?_) | refine WO_step rfl (S_pure rfl ?_)
  refine WO_step rfl (S_pure rfl ?_)
  refine WO_cases (t := 10) rfl (fun hg1 => ?_) (fun hg1 => ?_)
  ·
   try simp only [bsT] at hg1
   refine WO_step rfl (S_pure rfl ?_)
   refine WO_step rfl (S_loadO rfl pkA (by rfl) (by rfl) ?_)
   refine WO_step rfl (S_pure rfl ?_)
   refine WO_step rfl (S_loadO rfl pkA (by rfl) (by rfl) ?_)
   first | refine WO_step rfl (S_eqS rfl rfl ?_) | refine WO_step rfl (S_pure rfl ?_)
   iterate 2 refine WO_step rfl (S_pure rfl ?_)
   refine WO_cases (t := 17) rfl (fun hg2 => ?_) (fun hg2 => ?_)
   ·
    try simp only [bsT] at hg2
    refine WO_step rfl (S_pure rfl ?_)
    refine WO_step rfl (S_loadO rfl pkA (by rfl) (by rfl) ?_)
    refine WO_step rfl (S_pure rfl ?_)
    refine WO_step rfl (S_loadO rfl pkA (by rfl) (by rfl) ?_)
    first | refine WO_step rfl (S_eqS rfl rfl ?_) | refine WO_step rfl (S_pure rfl ?_)
    iterate 2 refine WO_step rfl (S_pure rfl ?_)
    refine WO_nil ?_
    refine KSeq_n ?_
    refine WC_ret ?_
    refine KFn_r (ResL.tmp rfl ResL.nil) ?_
    refine ⟨_, hsA, rfl, ?_⟩
    simp only [resV, raw_ext]
    simp_all
   ·
    try simp only [bsT] at hg2
    iterate 5 refine WO_off rfl ?_
    iterate 2 refine WO_step rfl (S_pure rfl ?_)
    refine WO_nil ?_
    refine KSeq_n ?_
    refine WC_ret ?_
    refine KFn_r (ResL.tmp rfl ResL.nil) ?_
    refine ⟨_, hsA, rfl, ?_⟩
    simp only [resV, raw_ext]
    simp_all
  ·
   try simp only [bsT] at hg1
   iterate 5 refine WO_off rfl ?_
   iterate 2 refine WO_step rfl (S_pure rfl ?_)
   iterate 5 refine WO_off rfl ?_
   iterate 2 refine WO_step rfl (S_pure rfl ?_)
   refine WO_nil ?_
   refine KSeq_n ?_
   refine WC_ret ?_
   refine KFn_r (ResL.tmp rfl ResL.nil) ?_
   refine ⟨_, hsA, rfl, ?_⟩
   simp only [resV, raw_ext]
   simp_all
theorem lp_EqPairs_0 {H : SH} {v w : Value} {l m : List Pair} (hv : RD H v TPair l) (hw : RD H w TPair m) (hlm : l.length = m.length) (hl : l.length ≤ 1000000) : ∀ (n a : Nat), l.length - a = n → a ≤ l.length →
    WC F X (.loop L_loessref22_EqPairs_0) [(5, .int .i64 a), (0, v), (1, w)] H
      (KPost fun x l' H' => H' = H ∧ ((x = .exit 0 ∧ l' = [] ∧ l.drop a = m.drop a) ∨ (x = .ret ∧ l' = [(4, .bool false)] ∧ l.drop a ≠ m.drop a))) := by
  intro n
  induction n using Nat.strongRecOn with
  | _ n ih =>
    intro a hn ha
    refine WC_loop ?_
    refine WC_seq ?_
    refine WC_seq ?_
    refine WC_region ?_
    iterate 2 refine WO_step rfl (S_pure rfl ?_)
    first | refine WO_step rfl (S_pure rfl ?_) | refine WO_step rfl (S_lenS rfl rdA ?_)
    refine WO_step rfl (S_pure rfl ?_)
    refine WO_nil ?_
    refine KSeq_n ?_
    refine WC_cond rfl (fun hb1 => ?_) (fun hb1 => ?_)
    ·
     try simp only [bsT] at hb1
     obtain ⟨x, hx⟩ := get_of_lt hb1
     obtain ⟨y, hy⟩ := get_of_lt (hlm ▸ hb1 : a < m.length)
     refine WC_skip ?_
     refine KSeq_n ?_
     refine WC_seq ?_
     refine WC_block ?_
     refine WC_seq ?_
     refine WC_region ?_
     iterate 2 refine WO_step rfl (S_pure rfl ?_)
     refine WO_step rfl (S_idx rfl rfl rdA (by first | rfl | assumption | (symm; assumption)) (by rfl) (by first | assumption | omega | exact lt_of_get (by assumption) | (simp only [List.length_set]; first | assumption | omega | exact lt_of_get (by assumption))) fun hp19 => ?_)
     refine WO_step rfl (S_fldE rfl (by repeat (first | assumption | apply IsP.padd)) ?_)
     refine WO_step rfl (S_loadF rfl rdA (by rfl) (by assumption) (by rfl) (by rfl) ?_)
     iterate 2 refine WO_step rfl (S_pure rfl ?_)
     refine WO_step rfl (S_idx rfl rfl rdA (by first | rfl | assumption | (symm; assumption)) (by rfl) (by first | assumption | omega | exact lt_of_get (by assumption) | (simp only [List.length_set]; first | assumption | omega | exact lt_of_get (by assumption))) fun hp24 => ?_)
     refine WO_step rfl (S_fldE rfl (by repeat (first | assumption | apply IsP.padd)) ?_)
     refine WO_step rfl (S_loadF rfl rdA (by rfl) (by assumption) (by rfl) (by rfl) ?_)
     first | refine WO_step rfl (S_neS rfl rfl ?_) | refine WO_step rfl (S_pure rfl ?_)
     refine WO_step rfl (S_pure rfl ?_)
     refine WO_cases (t := 28) rfl (fun hg1 => ?_) (fun hg1 => ?_)
     ·
      try simp only [bsT] at hg1
      iterate 12 refine WO_off rfl ?_
      refine WO_step rfl (S_pure rfl ?_)
      refine WO_nil ?_
      refine KSeq_n ?_
      refine WC_cond rfl (fun _ => ?_) (fun h => ?_)
      rotate_left
      · exact absurd h (by decide)
      refine WC_seq ?_
      refine WC_region ?_
      refine WO_step rfl (S_pure rfl ?_)
      refine WO_nil ?_
      refine KSeq_n ?_
      refine WC_ret ?_
      refine KBlock_r ?_
      refine KSeq_r ?_
      refine KLoop_r ?_
      refine KPost_i (l' := [(4, .bool false)]) seA hsA ⟨rfl, .inr ⟨rfl, rfl, ?_⟩⟩
      rw [Ne, drop_both hx hy]; have := pair_ext x y; simp_all
     ·
      try simp only [bsT] at hg1
      iterate 2 refine WO_step rfl (S_pure rfl ?_)
      refine WO_step rfl (S_idx rfl rfl rdA (by first | rfl | assumption | (symm; assumption)) (by rfl) (by first | assumption | omega | exact lt_of_get (by assumption) | (simp only [List.length_set]; first | assumption | omega | exact lt_of_get (by assumption))) fun hp31 => ?_)
      refine WO_step rfl (S_fldE rfl (by repeat (first | assumption | apply IsP.padd)) ?_)
      refine WO_step rfl (S_loadF rfl rdA (by rfl) (by assumption) (by rfl) (by rfl) ?_)
      iterate 2 refine WO_step rfl (S_pure rfl ?_)
      refine WO_step rfl (S_idx rfl rfl rdA (by first | rfl | assumption | (symm; assumption)) (by rfl) (by first | assumption | omega | exact lt_of_get (by assumption) | (simp only [List.length_set]; first | assumption | omega | exact lt_of_get (by assumption))) fun hp36 => ?_)
      refine WO_step rfl (S_fldE rfl (by repeat (first | assumption | apply IsP.padd)) ?_)
      refine WO_step rfl (S_loadF rfl rdA (by rfl) (by assumption) (by rfl) (by rfl) ?_)
      refine WO_call rfl rfl rfl ?_
      refine sp_EqVal.mono ?_
      rintro _ _ ⟨rfl, rfl⟩
      iterate 2 refine WO_step rfl (S_pure rfl ?_)
      refine WO_nil ?_
      refine KSeq_n ?_
      refine WC_cond rfl (fun hb2 => ?_) (fun hb2 => ?_)
      ·
       try simp only [bsT] at hb2
       refine WC_seq ?_
       refine WC_region ?_
       refine WO_step rfl (S_pure rfl ?_)
       refine WO_nil ?_
       refine KSeq_n ?_
       refine WC_ret ?_
       refine KBlock_r ?_
       refine KSeq_r ?_
       refine KLoop_r ?_
       refine KPost_i (l' := [(4, .bool false)]) seA hsA ⟨rfl, .inr ⟨rfl, rfl, ?_⟩⟩
       rw [Ne, drop_both hx hy]; have := pair_ext x y; simp_all
      ·
       try simp only [bsT] at hb2
       refine WC_skip ?_
       refine KBlock_n ?_
       refine KSeq_n ?_
       refine WC_region ?_
       refine WO_step rfl (S_pure rfl ?_)
       first | refine WO_step rfl (S_addN (b := 1) rfl rfl (by omega) ?_) | refine WO_step rfl (S_pure rfl ?_)
       refine WO_step rfl (S_pure rfl ?_)
       refine WO_nil ?_
       refine KLoop_n ?_
       have : l.drop a = m.drop a ↔ l.drop (a + 1) = m.drop (a + 1) := by rw [drop_both hx hy]; have := pair_ext x y; simp_all
       simp only [this, ne_eq]
       exact WC_weak (ih (l.length - (a + 1)) (by omega) (a + 1) rfl (by omega)) seA hsA
    ·
     try simp only [bsT] at hb1
     refine WC_exit ?_
     refine KSeq_x ?_
     refine KLoop_x ?_
     exact KPost_i seA hsA ⟨rfl, .inl ⟨rfl, rfl, by rw [List.drop_of_length_le (by omega), List.drop_of_length_le (by omega)]⟩⟩
theorem sp_EqPairs {H : SH} {v w : Value} {l m : List Pair} (hv : RD H v TPair l) (hw : RD H w TPair m) (hl : l.length ≤ 1000000) : WF F X f_loessref22_EqPairs [v, w] H (fun r H' => H' = H ∧ r = .bool (decide (l = m))) := by
  refine WF_fn F_loessref22_EqPairs ?_
  refine WC_seq ?_
  refine WC_region ?_
  refine WO_step rfl (S_pure rfl ?_)
  refine WO_nil ?_
  refine KSeq_n ?_
  refine WC_seq ?_
  refine WC_seq ?_
  refine WC_region ?_
  refine WO_step rfl (S_pure rfl ?_)
  first | refine WO_step rfl (S_pure rfl ?_) | refine WO_step rfl (S_lenS rfl rdA ?_)
  refine WO_step rfl (S_pure rfl ?_)
  first | refine WO_step rfl (S_pure rfl ?_) | refine WO_step rfl (S_lenS rfl rdA ?_)
  first | refine WO_step rfl (S_neS rfl rfl ?_) | refine WO_step rfl (S_pure rfl ?_)
  refine WO_nil ?_
  refine KSeq_n ?_
  refine WC_cond rfl (fun hb1 => ?_) (fun hb1 => ?_)
  ·
   try simp only [bsT] at hb1
   refine WC_seq ?_
   refine WC_region ?_
   refine WO_step rfl (S_pure rfl ?_)
   refine WO_nil ?_
   refine KSeq_n ?_
   refine WC_ret ?_
   refine KSeq_r ?_
   refine KFn_r (ResL.tmp rfl ResL.nil) ?_
   refine ⟨_, hsA, rfl, ?_⟩
   have : ¬ l = m := by rintro rfl; simp at hb1
   simp [resV, this]
  ·
   try simp only [bsT] at hb1
   have hlm : l.length = m.length := by simp at hb1; omega
   refine WC_skip ?_
   refine KSeq_n ?_
   refine WC_seq ?_
   refine WC_seq ?_
   refine WC_region ?_
   refine WO_step rfl (S_pure rfl ?_)
   refine WO_nil ?_
   refine KSeq_n ?_
   refine WC_block ?_
   --out x0 r
   refine WC_post (WC_weak (lp_EqPairs_0 hv hw hlm hl l.length 0 (by omega) (by omega)) seA HSub.refl) ?_
   rintro x l' H' ⟨rfl, ⟨rfl, rfl, h0⟩ | ⟨rfl, rfl, h0⟩⟩
   ·
    refine KBlock_h ?_
    refine KSeq_n ?_
    refine WC_seq ?_
    refine WC_region ?_
    refine WO_step rfl (S_pure rfl ?_)
    refine WO_nil ?_
    refine KSeq_n ?_
    refine WC_ret ?_
    refine KFn_r (ResL.tmp rfl ResL.nil) ?_
    refine ⟨_, hsA, rfl, ?_⟩
    simp only [List.drop_zero] at h0
    simp [resV, h0]
   ·
    refine KBlock_r ?_
    refine KSeq_r ?_
    refine KFn_r (ResL.tmp rfl ResL.nil) ?_
    refine ⟨_, hsA, rfl, ?_⟩
    simp only [List.drop_zero] at h0
    simp [resV, h0]
def pairsOf (l : List Rec) : List Pair := (l.filter (fun r => !r.gone)).map (fun r => ⟨r.key, r.val⟩)
theorem pairsOf_len (l : List Rec) : (pairsOf l).length ≤ l.length := by unfold pairsOf; rw [List.length_map]; exact List.length_filter_le _ _
theorem lp_Pairs_0 {H : SH} {v : Value} {l : List Rec} (hv : RD H v TRec l) (hb : l.length ≤ 1000000) : ∀ (n a : Nat) (w : SV), l.length - a = n → a ≤ l.length →
    WC F X (.loop L_loessref22_Pairs_0) [(4, .int .i64 a), (0, v), (3, w.toV)] (SL w.toV TPair (pairsOf (l.take a)) :: H)
      (KPost fun x l' H' => ∃ w : SV, x = .exit 0 ∧ l' = [(3, w.toV)] ∧ H' = SL w.toV TPair (pairsOf l) :: H) := by
  intro n
  induction n using Nat.strongRecOn with
  | _ n ih =>
    intro a w hn ha
    have hpl := pairsOf_len (l.take a)
    rw [List.length_take] at hpl
    refine WC_loop ?_
    refine WC_seq ?_
    refine WC_seq ?_
    refine WC_region ?_
    iterate 2 refine WO_step rfl (S_pure rfl ?_)
    first | refine WO_step rfl (S_pure rfl ?_) | refine WO_step rfl (S_lenS rfl rdA ?_)
    refine WO_step rfl (S_pure rfl ?_)
    refine WO_nil ?_
    refine KSeq_n ?_
    refine WC_cond rfl (fun hb1 => ?_) (fun hb1 => ?_)
    ·
     try simp only [bsT] at hb1
     obtain ⟨x, hx⟩ := get_of_lt hb1
     have htk : l.take (a + 1) = l.take a ++ [x] := by rw [List.take_add_one, hx]; rfl
     refine WC_skip ?_
     refine KSeq_n ?_
     refine WC_seq ?_
     refine WC_block ?_
     refine WC_seq ?_
     refine WC_region ?_
     iterate 2 refine WO_step rfl (S_pure rfl ?_)
     refine WO_step rfl (S_idx rfl rfl rdA (by first | rfl | assumption | (symm; assumption)) (by rfl) (by first | assumption | omega | exact lt_of_get (by assumption) | (simp only [List.length_set]; first | assumption | omega | exact lt_of_get (by assumption))) fun hp13 => ?_)
     refine WO_step rfl (S_fldE rfl (by repeat (first | assumption | apply IsP.padd)) ?_)
     refine WO_step rfl (S_loadF rfl rdA (by rfl) (by assumption) (by rfl) (by rfl) ?_)
     refine WO_step rfl (S_pure rfl ?_)
     refine WO_nil ?_
     refine KSeq_n ?_
     refine WC_cond rfl (fun hb2 => ?_) (fun hb2 => ?_)
     ·
      try simp only [bsT] at hb2
      refine WC_region ?_
      iterate 3 refine WO_step rfl (S_pure rfl ?_)
      refine WO_step rfl (S_idx rfl rfl rdA (by first | rfl | assumption | (symm; assumption)) (by rfl) (by first | assumption | omega | exact lt_of_get (by assumption) | (simp only [List.length_set]; first | assumption | omega | exact lt_of_get (by assumption))) fun hp20 => ?_)
      refine WO_step rfl (S_fldE rfl (by repeat (first | assumption | apply IsP.padd)) ?_)
      refine WO_step rfl (S_loadF rfl rdA (by rfl) (by assumption) (by rfl) (by rfl) ?_)
      iterate 2 refine WO_step rfl (S_pure rfl ?_)
      refine WO_step rfl (S_idx rfl rfl rdA (by first | rfl | assumption | (symm; assumption)) (by rfl) (by first | assumption | omega | exact lt_of_get (by assumption) | (simp only [List.length_set]; first | assumption | omega | exact lt_of_get (by assumption))) fun hp25 => ?_)
      refine WO_step rfl (S_fldE rfl (by repeat (first | assumption | apply IsP.padd)) ?_)
      refine WO_step rfl (S_loadF rfl rdA (by rfl) (by assumption) (by rfl) (by rfl) ?_)
      refine WO_step rfl (S_pure rfl ?_)
      refine WO_step rfl (S_lit1 (T := TPair) (y := ⟨x.key, x.val⟩) rfl rfl rfl rfl fun w29 => ?_)
      refine WO_step rfl (S_app rfl rfl pkA (by first | exact SRC.str rfl rfl | (apply RD.src; repeat (first | assumption | exact RD.head | exact RD.nil | apply RD.tail))) (by rfl) (by rfl) (by (try simp only [List.length_append, List.length_cons, List.length_nil]); omega) fun w30 => ?_)
      refine WO_step rfl (S_pure rfl ?_)
      refine WO_nil ?_
      refine KBlock_n ?_
      refine KSeq_n ?_
      refine WC_region ?_
      refine WO_step rfl (S_pure rfl ?_)
      first | refine WO_step rfl (S_addN (b := 1) rfl rfl (by omega) ?_) | refine WO_step rfl (S_pure rfl ?_)
      refine WO_step rfl (S_pure rfl ?_)
      refine WO_nil ?_
      refine KLoop_n ?_
      have e : pairsOf (l.take (a + 1)) = pairsOf (l.take a) ++ [⟨x.key, x.val⟩] := by rw [htk]; simp [pairsOf, List.filter_append, hb2]
      exact WC_weak (ih (l.length - (a + 1)) (by omega) (a + 1) w30 rfl (by omega)) seA (by rw [e]; exact hsA)
     ·
      try simp only [bsT] at hb2
      refine WC_skip ?_
      refine KBlock_n ?_
      refine KSeq_n ?_
      refine WC_region ?_
      refine WO_step rfl (S_pure rfl ?_)
      first | refine WO_step rfl (S_addN (b := 1) rfl rfl (by omega) ?_) | refine WO_step rfl (S_pure rfl ?_)
      refine WO_step rfl (S_pure rfl ?_)
      refine WO_nil ?_
      refine KLoop_n ?_
      have e : pairsOf (l.take (a + 1)) = pairsOf (l.take a) := by rw [htk]; simp [pairsOf, List.filter_append, hb2]
      exact WC_weak (ih (l.length - (a + 1)) (by omega) (a + 1) w rfl (by omega)) seA (by rw [e]; exact hsA)
    ·
     try simp only [bsT] at hb1
     refine WC_exit ?_
     refine KSeq_x ?_
     refine KLoop_x ?_
     refine KPost_i (l' := [(3, w.toV)]) (H' := SL w.toV TPair (pairsOf l) :: H) seA ?_ ⟨w, rfl, rfl, rfl⟩
     rw [List.take_of_length_le (by omega)]; exact hsA
theorem sp_Pairs {H : SH} {v : Value} {l : List Rec} (hv : RD H v TRec l) (hb : l.length ≤ 1000000) : WF F X f_loessref22_Pairs [v] H (fun r H' => ∃ w : SV, H' = SL w.toV TPair (pairsOf l) :: H ∧ r = w.toV) := by
  refine WF_fn F_loessref22_Pairs ?_
  refine WC_seq ?_
  refine WC_region ?_
  refine WO_step rfl (S_pure rfl ?_)
  refine WO_nil ?_
  refine KSeq_n ?_
  refine WC_seq ?_
  refine WC_region ?_
  refine WO_step rfl (S_pure rfl ?_)
  refine WO_nil ?_
  refine KSeq_n ?_
  refine WC_seq ?_
  refine WC_seq ?_
  refine WC_region ?_
  refine WO_step rfl (S_pure rfl ?_)
  refine WO_nil ?_
  refine KSeq_n ?_
  refine WC_block ?_
  refine WC_view (H' := SL (SV.toV .nil) TPair [] :: H) (fun h hh => (HAg.addNil hh)) ?_
  refine WC_post (WC_weak (lp_Pairs_0 hv hb l.length 0 .nil (by omega) (by omega)) seA hsA) ?_
  rintro x l' H' ⟨w, rfl, rfl, rfl⟩
  refine KBlock_h ?_
  refine KSeq_n ?_
  refine WC_seq ?_
  refine WC_region ?_
  iterate 2 refine WO_step rfl (S_pure rfl ?_)
  refine WO_nil ?_
  refine KSeq_n ?_
  refine WC_ret ?_
  refine KFn_r (ResL.tmp rfl ResL.nil) ?_
  exact ⟨_, hsA, _, rfl, rfl⟩
/-! ### What may be; cuts -/
def cut (s : ByteArray) (n : Nat) : ByteArray := if n < s.size then s.extract 0 n else s
def cutRaw (r : Raw) : Raw := ⟨r.kind, r.n, cut r.s 30⟩
def cutRec (r : Rec) : Rec := ⟨cut r.key 20, r.gone, cutRaw r.val⟩
def vld (s : ByteArray) : Nat → Nat → Bool
  | 0, _ => true
  | f + 1, pos => if pos < s.size then decOk (Utf8.decode s pos) && vld s f (pos + (Utf8.decode s pos).2) else true
def valid (s : ByteArray) : Bool := vld s s.size 0
def mayKey (s : ByteArray) : Bool := decide (1 ≤ s.size) && decide (s.size ≤ 16)
def mayRaw (r : Raw) : Bool := (decide (r.kind = 1) && decide (r.s = es0)) || (decide (r.kind = 2) && decide (r.n = 0) && decide (r.s.size ≤ 24) && valid r.s)
def mayRec (r : Rec) : Bool := mayKey r.key && (if r.gone then decide (r.val = raw0) else mayRaw r.val)
theorem cut_size (s : ByteArray) (n : Nat) : (cut s n).size ≤ n := by
  unfold cut; split
  · rw [ByteArray.size_extract]; omega
  · omega
theorem sp_Cut3 {H : SH} {s : ByteArray} {n : Nat} : WF F X f_loesslaw3_Cut [.string s, .int .i64 n] H (fun r H' => H' = H ∧ r = .string (cut s n)) := by
  refine WF_fn F_loesslaw3_Cut ?_
  refine WC_seq ?_
  refine WC_region ?_
  refine WO_step rfl (S_pure rfl ?_)
  refine WO_nil ?_
  refine KSeq_n ?_
  refine WC_seq ?_
  refine WC_seq ?_
  refine WC_region ?_
  iterate 4 refine WO_step rfl (S_pure rfl ?_)
  refine WO_nil ?_
  refine KSeq_n ?_
  refine WC_cond rfl (fun hb1 => ?_) (fun hb1 => ?_)
  ·
   try simp only [bsT] at hb1
   refine WC_seq ?_
   refine WC_region ?_
   iterate 2 refine WO_step rfl (S_pure rfl ?_)
   refine WO_step rfl (S_cutS rfl LB.dflt (LB.mk rfl rfl) ?_ ?_ ?_)
   · omega
   · omega
   refine WO_step rfl (S_pure rfl ?_)
   refine WO_nil ?_
   refine KSeq_n ?_
   refine WC_ret ?_
   refine KSeq_r ?_
   refine KFn_r (ResL.tmp rfl ResL.nil) ?_
   refine ⟨_, hsA, rfl, ?_⟩
   simp [resV, cut, hb1]
  ·
   try simp only [bsT] at hb1
   refine WC_skip ?_
   refine KSeq_n ?_
   refine WC_seq ?_
   refine WC_region ?_
   iterate 2 refine WO_step rfl (S_pure rfl ?_)
   refine WO_nil ?_
   refine KSeq_n ?_
   refine WC_ret ?_
   refine KFn_r (ResL.tmp rfl ResL.nil) ?_
   refine ⟨_, hsA, rfl, ?_⟩
   simp [resV, cut, hb1]
theorem sp_Cut4 {H : SH} {r : Raw} : WF F X f_loesslaw4_Cut [TRaw.val r] H (fun v H' => H' = H ∧ v = TRaw.val (cutRaw r)) := by
  refine WF_fn F_loesslaw4_Cut ?_
  refine WC_seq ?_
  refine WC_region ?_
  refine WO_step rfl (S_box rfl rfl fun i1 => ?_)
  refine WO_step rfl (S_new fun i2 => ?_)
  refine WO_nil ?_
  refine KSeq_n ?_
  refine WC_seq ?_
  refine WC_region ?_
  refine WO_step rfl (S_pure rfl ?_)
  refine WO_step rfl (S_loadO rfl pkA (by rfl) (by rfl) ?_)
  refine WO_call rfl rfl rfl ?_
  refine (sp_Cut3 (n := 30)).mono ?_
  rintro _ _ ⟨rfl, rfl⟩
  refine WO_step rfl (S_pure rfl ?_)
  refine WO_step rfl (S_storeO rfl rfl pkA (by first | rfl | exact SV.cells1 _) (by rfl) (by first | rfl | exact SV.ones _) ?_)
  refine WO_nil ?_
  refine KSeq_n ?_
  refine WC_seq ?_
  refine WC_region ?_
  first | refine WO_step rfl (S_loadT rfl pkA (by rfl) (by rfl) ?_) | refine WO_step rfl (S_loadO rfl pkA (by rfl) (by rfl) ?_)
  first | refine WO_step rfl (S_storeT rfl rfl pkA (by rfl) (by rfl) ?_) | refine WO_step rfl (S_storeO rfl rfl pkA (by first | rfl | exact SV.cells1 _) (by rfl) (by first | rfl | exact SV.ones _) ?_)
  refine WO_nil ?_
  refine KSeq_n ?_
  refine WC_ret ?_
  refine KFn_r (ResL.cell rfl pkA (Nat.le_of_ble_eq_true rfl) rfl ResL.nil) ?_
  exact ⟨_, hsA, rfl, rfl⟩
theorem sp_Cut10 {H : SH} {r : Rec} : WF F X f_loesslaw10_Cut [TRec.val r] H (fun v H' => H' = H ∧ v = TRec.val (cutRec r)) := by
  refine WF_fn F_loesslaw10_Cut ?_
  refine WC_seq ?_
  refine WC_region ?_
  refine WO_step rfl (S_box rfl rfl fun i1 => ?_)
  refine WO_step rfl (S_new fun i2 => ?_)
  refine WO_nil ?_
  refine KSeq_n ?_
  refine WC_seq ?_
  refine WC_drawn ?_
  refine WD_step rfl (S_pure rfl ?_)
  refine WD_step rfl (S_loadO rfl pkA (by rfl) (by rfl) ?_)
  refine WD_call rfl rfl rfl ?_
  refine (sp_Cut3 (n := 20)).mono ?_
  rintro _ _ ⟨rfl, rfl⟩
  refine WD_step rfl (S_pure rfl ?_)
  refine WD_step rfl (S_loadO rfl pkA (by rfl) (by rfl) ?_)
  refine WD_call rfl rfl rfl ?_
  refine sp_Cut4.mono ?_
  rintro _ _ ⟨rfl, rfl⟩
  refine WD_step rfl (S_pure rfl ?_)
  refine WD_step rfl (S_storeO rfl rfl pkA (by first | rfl | exact SV.cells1 _) (by rfl) (by first | rfl | exact SV.ones _) ?_)
  refine WD_step rfl (S_pure rfl ?_)
  refine WD_step rfl (S_storeO rfl rfl pkA (by first | rfl | exact SV.cells1 _) (by rfl) (by first | rfl | exact SV.ones _) ?_)
  refine WD_nil ?_
  refine ⟨?_, ?_⟩
  ·
   refine ⟨ObR.of_step rfl (S_loadO rfl pkA (by rfl) (by rfl) ?_), trivial⟩
   simp [eqV, eqVs, eqV0, TRec, TRaw, Ty.ofAgg, AM.cells, Value.cells]
  ·
   refine KSeq_n ?_
   refine WC_seq ?_
   refine WC_region ?_
   first | refine WO_step rfl (S_loadT rfl pkA (by rfl) (by rfl) ?_) | refine WO_step rfl (S_loadO rfl pkA (by rfl) (by rfl) ?_)
   first | refine WO_step rfl (S_storeT rfl rfl pkA (by rfl) (by rfl) ?_) | refine WO_step rfl (S_storeO rfl rfl pkA (by first | rfl | exact SV.cells1 _) (by rfl) (by first | rfl | exact SV.ones _) ?_)
   refine WO_nil ?_
   refine KSeq_n ?_
   refine WC_ret ?_
   refine KFn_r (ResL.cell rfl pkA (Nat.le_of_ble_eq_true rfl) rfl ResL.nil) ?_
   exact ⟨_, hsA, rfl, rfl⟩
theorem sp_MayKey {H : SH} {s : ByteArray} : WF F X f_loessref1_MayKey [.string s] H (fun v H' => H' = H ∧ v = .bool (mayKey s)) := by
  refine WF_fn F_loessref1_MayKey ?_
  refine WC_seq ?_
  refine WC_region ?_
  refine WO_step rfl (S_pure rfl ?_)
  refine WO_nil ?_
  refine KSeq_n ?_
  refine WC_seq ?_
  refine WC_region ?_
  iterate 4 refine WO_step rfl (S_pure rfl ?_)
  refine WO_cases (t := 6) rfl (fun hg1 => ?_) (fun hg1 => ?_)
  ·
   try simp only [bsT] at hg1
   iterate 5 refine WO_step rfl (S_pure rfl ?_)
   refine WO_nil ?_
   refine KSeq_n ?_
   refine WC_ret ?_
   refine KFn_r (ResL.tmp rfl ResL.nil) ?_
   refine ⟨_, hsA, rfl, ?_⟩
   simp only [resV, mayKey]
   first | (congr 1; rw [Bool.eq_iff_iff]; simp; omega) | skip
  ·
   try simp only [bsT] at hg1
   iterate 3 refine WO_off rfl ?_
   iterate 2 refine WO_step rfl (S_pure rfl ?_)
   refine WO_nil ?_
   refine KSeq_n ?_
   refine WC_ret ?_
   refine KFn_r (ResL.tmp rfl ResL.nil) ?_
   refine ⟨_, hsA, rfl, ?_⟩
   simp only [resV, mayKey]
   first | (congr 1; rw [Bool.eq_iff_iff]; simp; omega) | skip
theorem lp_Valid_0 {H : SH} {s : ByteArray} (hs : s.size ≤ 1000000) : ∀ (f pos : Nat), s.size - pos ≤ f → pos ≤ s.size + 4 → vld s f pos = valid s →
    WC F X (.loop L_loessref1_Valid_0) [(3, .int .i64 pos), (0, .string s)] H
      (KPost fun x l' H' => H' = H ∧ ((x = .exit 0 ∧ l' = [] ∧ valid s = true) ∨ (x = .ret ∧ l' = [(2, .bool false)] ∧ valid s = false))) := by
  intro f
  induction f using Nat.strongRecOn with
  | _ f ih =>
    intro pos hf hp ha
    refine WC_loop ?_
    refine WC_seq ?_
    refine WC_seq ?_
    refine WC_region ?_
    iterate 4 refine WO_step rfl (S_pure rfl ?_)
    refine WO_nil ?_
    refine KSeq_n ?_
    refine WC_cond rfl (fun hb1 => ?_) (fun hb1 => ?_)
    ·
     try simp only [bsT] at hb1
     obtain ⟨f', rfl⟩ : ∃ m', f = m' + 1 := ⟨f - 1, by omega⟩
     have hw1 := Lib.width_pos s pos
     have hd4 := width_le4 s pos
     simp only [vld, if_pos hb1] at ha
     have hsz : (s.extract pos s.size).size = s.size - pos := by simp
     refine WC_skip ?_
     refine KSeq_n ?_
     refine WC_block ?_
     refine WC_seq ?_
     refine WC_region ?_
     iterate 2 refine WO_step rfl (S_pure rfl ?_)
     refine WO_step rfl (S_cutS rfl (LB.mk rfl rfl) LB.dflt ?_ ?_ ?_)
     · omega
     · omega
     refine WO_call rfl rfl rfl ?_
     refine (sp_Decode (by rw [hsz]; omega)).mono ?_
     rintro _ _ ⟨rfl, rfl⟩
     rw [decode_tail]
     unfold decV
     iterate 7 refine WO_step rfl (S_pure rfl ?_)
     refine WO_nil ?_
     refine KSeq_n ?_
     refine WC_seq ?_
     refine WC_seq ?_
     refine WC_region ?_
     iterate 2 refine WO_step rfl (S_pure rfl ?_)
     refine WO_nil ?_
     refine KSeq_n ?_
     refine WC_cond rfl (fun hb2 => ?_) (fun hb2 => ?_)
     ·
      try simp only [bsT] at hb2
      refine WC_seq ?_
      refine WC_region ?_
      refine WO_step rfl (S_pure rfl ?_)
      refine WO_nil ?_
      refine KSeq_n ?_
      refine WC_ret ?_
      refine KSeq_r ?_
      refine KBlock_r ?_
      refine KLoop_r ?_
      refine KPost_i (l' := [(2, .bool false)]) (H' := _) seA hsA ⟨rfl, .inr ⟨rfl, rfl, ?_⟩⟩
      rw [← ha]; simp_all
     ·
      try simp only [bsT] at hb2
      refine WC_skip ?_
      refine KSeq_n ?_
      refine WC_region ?_
      iterate 2 refine WO_step rfl (S_pure rfl ?_)
      first | refine WO_step rfl (S_addN rfl rfl (by omega) ?_) | refine WO_step rfl (S_pure rfl ?_)
      refine WO_step rfl (S_pure rfl ?_)
      refine WO_nil ?_
      refine KBlock_n ?_
      refine KLoop_n ?_
      exact WC_weak (ih f' (by omega) (pos + (Utf8.decode s pos).2) (by omega) (by omega) (by rw [← ha]; simp_all)) seA hsA
    ·
     try simp only [bsT] at hb1
     refine WC_exit ?_
     refine KSeq_x ?_
     refine KLoop_x ?_
     refine KPost_i (l' := []) (H' := H) seA hsA ⟨rfl, .inl ⟨rfl, rfl, ?_⟩⟩
     rw [← ha]
     cases f with
       | zero => rfl
       | succ f => simp only [vld, if_neg hb1]
theorem sp_Valid {H : SH} {s : ByteArray} (hs : s.size ≤ 1000000) : WF F X f_loessref1_Valid [.string s] H (fun v H' => H' = H ∧ v = .bool (valid s)) := by
  refine WF_fn F_loessref1_Valid ?_
  refine WC_seq ?_
  refine WC_region ?_
  refine WO_step rfl (S_pure rfl ?_)
  refine WO_nil ?_
  refine KSeq_n ?_
  refine WC_seq ?_
  refine WC_seq ?_
  refine WC_region ?_
  refine WO_step rfl (S_pure rfl ?_)
  refine WO_nil ?_
  refine KSeq_n ?_
  refine WC_block ?_
  --out x0 r
  refine WC_post (WC_weak (lp_Valid_0 hs s.size 0 (by omega) (by omega) rfl) seA HSub.refl) ?_
  rintro x l' H' ⟨rfl, ⟨rfl, rfl, h0⟩ | ⟨rfl, rfl, h0⟩⟩
  ·
   refine KBlock_h ?_
   refine KSeq_n ?_
   refine WC_seq ?_
   refine WC_region ?_
   refine WO_step rfl (S_pure rfl ?_)
   refine WO_nil ?_
   refine KSeq_n ?_
   refine WC_ret ?_
   refine KFn_r (ResL.tmp rfl ResL.nil) ?_
   exact ⟨_, hsA, rfl, by rw [h0]; rfl⟩
  ·
   refine KBlock_r ?_
   refine KSeq_r ?_
   refine KFn_r (ResL.tmp rfl ResL.nil) ?_
   exact ⟨_, hsA, rfl, by rw [h0]; rfl⟩
theorem sp_MayVal {H : SH} {r : Raw} : WF F X f_loessref1_MayVal [TRaw.val r] H (fun v H' => H' = H ∧ v = .bool (mayRaw r)) := by
  refine WF_fn F_loessref1_MayVal ?_
  refine WC_seq ?_
  refine WC_region ?_
  refine WO_step rfl (S_box rfl rfl fun i1 => ?_)
  refine WO_step rfl (S_pure rfl ?_)
  refine WO_nil ?_
  refine KSeq_n ?_
  refine WC_seq ?_
  refine WC_seq ?_
  refine WC_region ?_
  refine WO_step rfl (S_pure rfl ?_)
  refine WO_step rfl (S_loadO rfl pkA (by rfl) (by rfl) ?_)
  refine WO_nil ?_
  refine KSeq_n ?_
  refine WC_block ?_
  refine WC_seq ?_
  refine WC_region ?_
  first | refine WO_step rfl (S_eqS rfl rfl ?_) | refine WO_step rfl (S_pure rfl ?_)
  refine WO_step rfl (S_pure rfl ?_)
  refine WO_nil ?_
  refine KSeq_n ?_
  refine WC_cond rfl (fun hb1 => ?_) (fun hb1 => ?_)
  ·
   try simp only [bsT] at hb1
   refine WC_seq ?_
   refine WC_region ?_
   refine WO_step rfl (S_pure rfl ?_)
   refine WO_step rfl (S_loadO rfl pkA (by rfl) (by rfl) ?_)
   first | refine WO_step rfl (S_eqS rfl rfl ?_) | refine WO_step rfl (S_pure rfl ?_)
   refine WO_step rfl (S_pure rfl ?_)
   refine WO_nil ?_
   refine KSeq_n ?_
   refine WC_ret ?_
   refine KBlock_r ?_
   refine KSeq_r ?_
   refine KFn_r (ResL.tmp rfl ResL.nil) ?_
   refine ⟨_, hsA, rfl, ?_⟩
   simp only [resV, mayRaw]
   first | (congr 1; rw [Bool.eq_iff_iff]; simp_all; done) | (congr 1; rw [Bool.eq_iff_iff]; simp_all; omega)
  ·
   try simp only [bsT] at hb1
   refine WC_seq ?_
   refine WC_region ?_
   first | refine WO_step rfl (S_eqS rfl rfl ?_) | refine WO_step rfl (S_pure rfl ?_)
   refine WO_step rfl (S_pure rfl ?_)
   refine WO_nil ?_
   refine KSeq_n ?_
   refine WC_cond rfl (fun hb2 => ?_) (fun hb2 => ?_)
   ·
    try simp only [bsT] at hb2
    refine WC_seq ?_
    refine WC_region ?_
    refine WO_step rfl (S_pure rfl ?_)
    refine WO_step rfl (S_loadO rfl pkA (by rfl) (by rfl) ?_)
    first | refine WO_step rfl (S_eqS rfl rfl ?_) | refine WO_step rfl (S_pure rfl ?_)
    refine WO_step rfl (S_pure rfl ?_)
    refine WO_cases (t := 15) rfl (fun hg1 => ?_) (fun hg1 => ?_)
    ·
     try simp only [bsT] at hg1
     refine WO_step rfl (S_pure rfl ?_)
     refine WO_step rfl (S_loadO rfl pkA (by rfl) (by rfl) ?_)
     iterate 4 refine WO_step rfl (S_pure rfl ?_)
     refine WO_cases (t := 21) rfl (fun hg2 => ?_) (fun hg2 => ?_)
     ·
      try simp only [bsT] at hg2
      refine WO_step rfl (S_pure rfl ?_)
      refine WO_step rfl (S_loadO rfl pkA (by rfl) (by rfl) ?_)
      refine WO_call rfl rfl rfl ?_
      refine (sp_Valid (by omega)).mono ?_
      rintro _ _ ⟨rfl, rfl⟩
      iterate 2 refine WO_step rfl (S_pure rfl ?_)
      refine WO_nil ?_
      refine KSeq_n ?_
      refine WC_ret ?_
      refine KBlock_r ?_
      refine KSeq_r ?_
      refine KFn_r (ResL.tmp rfl ResL.nil) ?_
      refine ⟨_, hsA, rfl, ?_⟩
      simp only [resV, mayRaw]
      first | (congr 1; rw [Bool.eq_iff_iff]; simp_all; done) | (congr 1; rw [Bool.eq_iff_iff]; simp_all; omega)
     ·
      try simp only [bsT] at hg2
      iterate 3 refine WO_off rfl ?_
      iterate 2 refine WO_step rfl (S_pure rfl ?_)
      refine WO_nil ?_
      refine KSeq_n ?_
      refine WC_ret ?_
      refine KBlock_r ?_
      refine KSeq_r ?_
      refine KFn_r (ResL.tmp rfl ResL.nil) ?_
      refine ⟨_, hsA, rfl, ?_⟩
      simp only [resV, mayRaw]
      first | (congr 1; rw [Bool.eq_iff_iff]; simp_all; done) | (congr 1; rw [Bool.eq_iff_iff]; simp_all; omega)
    ·
     try simp only [bsT] at hg1
     iterate 4 refine WO_off rfl ?_
     iterate 2 refine WO_step rfl (S_pure rfl ?_)
     iterate 3 refine WO_off rfl ?_
     iterate 2 refine WO_step rfl (S_pure rfl ?_)
     refine WO_nil ?_
     refine KSeq_n ?_
     refine WC_ret ?_
     refine KBlock_r ?_
     refine KSeq_r ?_
     refine KFn_r (ResL.tmp rfl ResL.nil) ?_
     refine ⟨_, hsA, rfl, ?_⟩
     simp only [resV, mayRaw]
     first | (congr 1; rw [Bool.eq_iff_iff]; simp_all; done) | (congr 1; rw [Bool.eq_iff_iff]; simp_all; omega)
   ·
    try simp only [bsT] at hb2
    refine WC_skip ?_
    refine KBlock_n ?_
    refine KSeq_n ?_
    refine WC_seq ?_
    refine WC_region ?_
    refine WO_step rfl (S_pure rfl ?_)
    refine WO_nil ?_
    refine KSeq_n ?_
    refine WC_ret ?_
    refine KFn_r (ResL.tmp rfl ResL.nil) ?_
    refine ⟨_, hsA, rfl, ?_⟩
    simp only [resV, mayRaw]
    first | (congr 1; rw [Bool.eq_iff_iff]; simp_all; done) | (congr 1; rw [Bool.eq_iff_iff]; simp_all; omega)
theorem raw0_ext (r : Raw) : decide (r = raw0) = (decide (r.kind = 0) && decide (r.n = 0) && decide (r.s = es0)) := raw_ext _ _
theorem sp_May {H : SH} {r : Rec} : WF F X f_loessref10_May [TRec.val r] H (fun v H' => H' = H ∧ v = .bool (mayRec r)) := by
  refine WF_fn F_loessref10_May ?_
  refine WC_seq ?_
  refine WC_region ?_
  refine WO_step rfl (S_box rfl rfl fun i1 => ?_)
  refine WO_step rfl (S_pure rfl ?_)
  refine WO_nil ?_
  refine KSeq_n ?_
  refine WC_seq ?_
  refine WC_seq ?_
  refine WC_region ?_
  refine WO_step rfl (S_pure rfl ?_)
  refine WO_step rfl (S_loadO rfl pkA (by rfl) (by rfl) ?_)
  refine WO_call rfl rfl rfl ?_
  refine sp_MayKey.mono ?_
  rintro _ _ ⟨rfl, rfl⟩
  refine WO_step rfl (S_pure rfl ?_)
  refine WO_nil ?_
  refine KSeq_n ?_
  refine WC_cond rfl (fun hb1 => ?_) (fun hb1 => ?_)
  ·
   try simp only [bsT] at hb1
   refine WC_seq ?_
   refine WC_region ?_
   refine WO_step rfl (S_pure rfl ?_)
   refine WO_nil ?_
   refine KSeq_n ?_
   refine WC_ret ?_
   refine KSeq_r ?_
   refine KFn_r (ResL.tmp rfl ResL.nil) ?_
   refine ⟨_, hsA, rfl, ?_⟩
   simp only [resV, mayRec, raw0_ext, es0]
   congr 1
   rw [Bool.eq_iff_iff]
   simp_all <;> (intros; simp_all)
  ·
   try simp only [bsT] at hb1
   refine WC_skip ?_
   refine KSeq_n ?_
   refine WC_seq ?_
   refine WC_seq ?_
   refine WC_region ?_
   refine WO_step rfl (S_pure rfl ?_)
   refine WO_step rfl (S_loadO rfl pkA (by rfl) (by rfl) ?_)
   refine WO_nil ?_
   refine KSeq_n ?_
   refine WC_cond rfl (fun hb2 => ?_) (fun hb2 => ?_)
   ·
    try simp only [bsT] at hb2
    refine WC_seq ?_
    refine WC_region ?_
    iterate 2 refine WO_step rfl (S_pure rfl ?_)
    refine WO_step rfl (S_loadO rfl pkA (by rfl) (by rfl) ?_)
    first | refine WO_step rfl (S_eqS rfl rfl ?_) | refine WO_step rfl (S_pure rfl ?_)
    refine WO_step rfl (S_pure rfl ?_)
    refine WO_cases (t := 13) rfl (fun hg1 => ?_) (fun hg1 => ?_)
    ·
     try simp only [bsT] at hg1
     iterate 2 refine WO_step rfl (S_pure rfl ?_)
     refine WO_step rfl (S_loadO rfl pkA (by rfl) (by rfl) ?_)
     first | refine WO_step rfl (S_eqS rfl rfl ?_) | refine WO_step rfl (S_pure rfl ?_)
     iterate 2 refine WO_step rfl (S_pure rfl ?_)
     refine WO_cases (t := 19) rfl (fun hg2 => ?_) (fun hg2 => ?_)
     ·
      try simp only [bsT] at hg2
      iterate 2 refine WO_step rfl (S_pure rfl ?_)
      refine WO_step rfl (S_loadO rfl pkA (by rfl) (by rfl) ?_)
      first | refine WO_step rfl (S_eqS rfl rfl ?_) | refine WO_step rfl (S_pure rfl ?_)
      iterate 2 refine WO_step rfl (S_pure rfl ?_)
      refine WO_nil ?_
      refine KSeq_n ?_
      refine WC_ret ?_
      refine KSeq_r ?_
      refine KFn_r (ResL.tmp rfl ResL.nil) ?_
      refine ⟨_, hsA, rfl, ?_⟩
      simp only [resV, mayRec, raw0_ext, es0]
      congr 1
      rw [Bool.eq_iff_iff]
      simp_all <;> (intros; simp_all)
     ·
      try simp only [bsT] at hg2
      iterate 4 refine WO_off rfl ?_
      iterate 2 refine WO_step rfl (S_pure rfl ?_)
      refine WO_nil ?_
      refine KSeq_n ?_
      refine WC_ret ?_
      refine KSeq_r ?_
      refine KFn_r (ResL.tmp rfl ResL.nil) ?_
      refine ⟨_, hsA, rfl, ?_⟩
      simp only [resV, mayRec, raw0_ext, es0]
      congr 1
      rw [Bool.eq_iff_iff]
      simp_all <;> (intros; simp_all)
    ·
     try simp only [bsT] at hg1
     iterate 4 refine WO_off rfl ?_
     iterate 2 refine WO_step rfl (S_pure rfl ?_)
     iterate 4 refine WO_off rfl ?_
     iterate 2 refine WO_step rfl (S_pure rfl ?_)
     refine WO_nil ?_
     refine KSeq_n ?_
     refine WC_ret ?_
     refine KSeq_r ?_
     refine KFn_r (ResL.tmp rfl ResL.nil) ?_
     refine ⟨_, hsA, rfl, ?_⟩
     simp only [resV, mayRec, raw0_ext, es0]
     congr 1
     rw [Bool.eq_iff_iff]
     simp_all <;> (intros; simp_all)
   ·
    try simp only [bsT] at hb2
    refine WC_skip ?_
    refine KSeq_n ?_
    refine WC_seq ?_
    refine WC_region ?_
    refine WO_step rfl (S_pure rfl ?_)
    refine WO_step rfl (S_loadO rfl pkA (by rfl) (by rfl) ?_)
    refine WO_call rfl rfl rfl ?_
    refine sp_MayVal.mono ?_
    rintro _ _ ⟨rfl, rfl⟩
    refine WO_step rfl (S_pure rfl ?_)
    refine WO_nil ?_
    refine KSeq_n ?_
    refine WC_ret ?_
    refine KFn_r (ResL.tmp rfl ResL.nil) ?_
    refine ⟨_, hsA, rfl, ?_⟩
    simp only [resV, mayRec, raw0_ext, es0]
    congr 1
    rw [Bool.eq_iff_iff]
    simp_all <;> (intros; simp_all)

end Go.Proofs.Ytpgidiompdabdaa.AM
