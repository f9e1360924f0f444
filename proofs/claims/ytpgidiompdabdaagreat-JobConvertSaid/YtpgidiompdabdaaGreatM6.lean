/- Walks: what the functions compute. -/
import Derived.Test.YtpgidiompdabdaaGreatM3
namespace Go.Proofs.YtpgidiompdabdaaGreat.AM
open Go
set_option linter.unusedSimpArgs false
set_option linter.unusedVariables false
set_option maxRecDepth 4000

/-! ### Records -/
theorem raw_ext (a b : Raw) : decide (a = b) = (decide (a.kind = b.kind) && decide (a.n = b.n) && decide (a.s = b.s)) := by
  cases a; cases b; simp [Bool.and_assoc]
theorem rec_ext (a b : Rec) : decide (a = b) = (decide (a.key = b.key) && decide (a.gone = b.gone) && decide (a.val = b.val)) := by
  cases a; cases b; simp [Bool.and_assoc]
theorem pair_ext (a b : Pair) : decide (a = b) = (decide (a.key = b.key) && decide (a.val = b.val)) := by
  cases a; cases b; simp
theorem drop_both {α : Type} {l m : List α} {a : Nat} {x y : α} (hx : l[a]? = some x) (hy : m[a]? = some y) : l.drop a = m.drop a ↔ x = y ∧ l.drop (a + 1) = m.drop (a + 1) := by
  rw [drop_get hx, drop_get hy, List.cons.injEq]
theorem sp_EqVal {H : SH} {a b : Raw} : WF F X f_loessref1_EqVal [TRaw.val a, TRaw.val b] H (fun r H' => H' = H ∧ r = .bool (decide (a = b))) := by
  refine WF_fn F_loessref1_EqVal ?_
  refine WC_seq (WC_region ?_)
  refine WO_step rfl (S_box rfl rfl fun i2 => ?_)
  refine WO_step rfl (S_box rfl rfl fun i3 => ?_)
  refine WO_step rfl (S_pure rfl ?_)
  refine WO_nil (KSeq_n (WC_seq (WC_region ?_)))
  refine WO_step rfl (S_pure rfl ?_)
  refine WO_step rfl (S_loadO rfl pkA (by rfl) (by rfl) ?_)
  refine WO_step rfl (S_pure rfl ?_)
  refine WO_step rfl (S_loadO rfl pkA (by rfl) (by rfl) ?_)
  first | refine WO_step rfl (S_eqS rfl rfl ?_) | refine WO_step rfl (S_pure rfl ?_)
  refine WO_step rfl (S_pure rfl ?_)
  refine WO_cases (t := 10) rfl (fun hg1 => ?_) (fun hg1 => ?_)
  ·
   try simp only [bsT] at hg1
   refine WO_step rfl (S_pure rfl ?_)
   refine WO_step rfl (S_loadO rfl pkA (by rfl) (by rfl) ?_)
   refine WO_step rfl (S_pure rfl ?_)
   refine WO_step rfl (S_loadO rfl pkA (by rfl) (by rfl) ?_)
   first | refine WO_step rfl (S_eqS rfl rfl ?_) | refine WO_step rfl (S_pure rfl ?_)
   iterate 2 refine WO_step rfl (S_pure rfl ?_)
   refine WO_cases (t := 17) rfl (fun hg2 => ?_) (fun hg2 => ?_)
   ·
    try simp only [bsT] at hg2
    refine WO_step rfl (S_pure rfl ?_)
    refine WO_step rfl (S_loadO rfl pkA (by rfl) (by rfl) ?_)
    refine WO_step rfl (S_pure rfl ?_)
    refine WO_step rfl (S_loadO rfl pkA (by rfl) (by rfl) ?_)
    first | refine WO_step rfl (S_eqS rfl rfl ?_) | refine WO_step rfl (S_pure rfl ?_)
    iterate 2 refine WO_step rfl (S_pure rfl ?_)
    refine WO_nil (KSeq_n (WC_ret ?_))
    refine KFn_r (ResL.tmp rfl ResL.nil) ?_
    refine ⟨_, hsA, rfl, ?_⟩
    simp only [resV, raw_ext]
    simp_all
   ·
    try simp only [bsT] at hg2
    iterate 5 refine WO_off rfl ?_
    iterate 2 refine WO_step rfl (S_pure rfl ?_)
    refine WO_nil (KSeq_n (WC_ret ?_))
    refine KFn_r (ResL.tmp rfl ResL.nil) ?_
    refine ⟨_, hsA, rfl, ?_⟩
    simp only [resV, raw_ext]
    simp_all
  ·
   try simp only [bsT] at hg1
   iterate 5 refine WO_off rfl ?_
   iterate 2 refine WO_step rfl (S_pure rfl ?_)
   iterate 5 refine WO_off rfl ?_
   iterate 2 refine WO_step rfl (S_pure rfl ?_)
   refine WO_nil (KSeq_n (WC_ret ?_))
   refine KFn_r (ResL.tmp rfl ResL.nil) ?_
   refine ⟨_, hsA, rfl, ?_⟩
   simp only [resV, raw_ext]
   simp_all
theorem sp_Eq {H : SH} {a b : Rec} : WF F X f_loessref10_Eq [TRec.val a, TRec.val b] H (fun r H' => H' = H ∧ r = .bool (decide (a = b))) := by
  refine WF_fn F_loessref10_Eq ?_
  refine WC_seq (WC_region ?_)
  refine WO_step rfl (S_box rfl rfl fun i2 => ?_)
  refine WO_step rfl (S_box rfl rfl fun i3 => ?_)
  refine WO_step rfl (S_pure rfl ?_)
  refine WO_nil (KSeq_n (WC_seq (WC_region ?_)))
  refine WO_step rfl (S_pure rfl ?_)
  refine WO_step rfl (S_loadO rfl pkA (by rfl) (by rfl) ?_)
  refine WO_step rfl (S_pure rfl ?_)
  refine WO_step rfl (S_loadO rfl pkA (by rfl) (by rfl) ?_)
  first | refine WO_step rfl (S_eqS rfl rfl ?_) | refine WO_step rfl (S_pure rfl ?_)
  refine WO_step rfl (S_pure rfl ?_)
  refine WO_cases (t := 10) rfl (fun hg1 => ?_) (fun hg1 => ?_)
  ·
   try simp only [bsT] at hg1
   refine WO_step rfl (S_pure rfl ?_)
   refine WO_step rfl (S_loadO rfl pkA (by rfl) (by rfl) ?_)
   refine WO_step rfl (S_pure rfl ?_)
   refine WO_step rfl (S_loadO rfl pkA (by rfl) (by rfl) ?_)
   iterate 3 refine WO_step rfl (S_pure rfl ?_)
   refine WO_cases (t := 17) rfl (fun hg2 => ?_) (fun hg2 => ?_)
   ·
    try simp only [bsT] at hg2
    refine WO_step rfl (S_pure rfl ?_)
    refine WO_step rfl (S_loadO rfl pkA (by rfl) (by rfl) ?_)
    refine WO_step rfl (S_pure rfl ?_)
    refine WO_step rfl (S_loadO rfl pkA (by rfl) (by rfl) ?_)
    refine WO_call rfl rfl rfl ?_
    refine sp_EqVal.mono ?_
    rintro _ _ ⟨rfl, rfl⟩
    iterate 2 refine WO_step rfl (S_pure rfl ?_)
    refine WO_nil (KSeq_n (WC_ret ?_))
    refine KFn_r (ResL.tmp rfl ResL.nil) ?_
    refine ⟨_, hsA, rfl, ?_⟩
    simp only [resV, rec_ext]
    simp_all
   ·
    try simp only [bsT] at hg2
    iterate 5 refine WO_off rfl ?_
    iterate 2 refine WO_step rfl (S_pure rfl ?_)
    refine WO_nil (KSeq_n (WC_ret ?_))
    refine KFn_r (ResL.tmp rfl ResL.nil) ?_
    refine ⟨_, hsA, rfl, ?_⟩
    simp only [resV, rec_ext]
    simp_all
  ·
   try simp only [bsT] at hg1
   iterate 5 refine WO_off rfl ?_
   iterate 2 refine WO_step rfl (S_pure rfl ?_)
   iterate 5 refine WO_off rfl ?_
   iterate 2 refine WO_step rfl (S_pure rfl ?_)
   refine WO_nil (KSeq_n (WC_ret ?_))
   refine KFn_r (ResL.tmp rfl ResL.nil) ?_
   refine ⟨_, hsA, rfl, ?_⟩
   simp only [resV, rec_ext]
   simp_all
theorem lp_EqRecs_0 {H : SH} {v w : Value} {l m : List Rec} (hv : RD H v TRec l) (hw : RD H w TRec m) (hlm : l.length = m.length) (hl : l.length ≤ 1000000) : ∀ (n a : Nat), l.length - a = n → a ≤ l.length →
    WC F X (.loop L_loessref10_EqRecs_0) [(5, .int .i64 a), (0, v), (1, w)] H
      (KPost fun x l' H' => H' = H ∧ ((x = .exit 0 ∧ l' = [] ∧ l.drop a = m.drop a) ∨ (x = .ret ∧ l' = [(4, .bool false)] ∧ l.drop a ≠ m.drop a))) := by
  intro n
  induction n using Nat.strongRecOn with
  | _ n ih =>
    intro a hn ha
    refine WC_loop (WC_seq (WC_seq (WC_region ?_)))
    iterate 2 refine WO_step rfl (S_pure rfl ?_)
    first | refine WO_step rfl (S_pure rfl ?_) | refine WO_step rfl (S_lenS rfl rdA ?_)
    refine WO_step rfl (S_pure rfl ?_)
    refine WO_nil (KSeq_n ?_)
    refine WC_cond rfl (fun hb1 => ?_) (fun hb1 => ?_)
    ·
     try simp only [bsT] at hb1
     obtain ⟨x, hx⟩ := get_of_lt hb1
     obtain ⟨y, hy⟩ := get_of_lt (hlm ▸ hb1 : a < m.length)
     refine WC_skip (KSeq_n (WC_seq (WC_block (WC_seq (WC_region ?_)))))
     iterate 2 refine WO_step rfl (S_pure rfl ?_)
     refine WO_step rfl (S_idx rfl rfl rdA (by first | rfl | assumption | (symm; assumption)) (by rfl) (by first | assumption | omega | exact lt_of_get (by assumption) | (simp only [List.length_set]; first | assumption | omega | exact lt_of_get (by assumption))) fun hp19 => ?_)
     refine WO_step rfl (S_loadE rfl rdA (by first | rfl | assumption | (symm; assumption)) (by first | rfl | assumption | (symm; assumption)) (by first | rfl | assumption | (symm; assumption)) (by assumption) ?_)
     iterate 2 refine WO_step rfl (S_pure rfl ?_)
     refine WO_step rfl (S_idx rfl rfl rdA (by first | rfl | assumption | (symm; assumption)) (by rfl) (by first | assumption | omega | exact lt_of_get (by assumption) | (simp only [List.length_set]; first | assumption | omega | exact lt_of_get (by assumption))) fun hp23 => ?_)
     refine WO_step rfl (S_loadE rfl rdA (by first | rfl | assumption | (symm; assumption)) (by first | rfl | assumption | (symm; assumption)) (by first | rfl | assumption | (symm; assumption)) (by assumption) ?_)
     refine WO_call rfl rfl rfl ?_
     refine sp_Eq.mono ?_
     rintro _ _ ⟨rfl, rfl⟩
     refine WO_step rfl (S_pure rfl ?_)
     refine WO_nil (KSeq_n ?_)
     refine WC_cond rfl (fun hb2 => ?_) (fun hb2 => ?_)
     ·
      try simp only [bsT] at hb2
      refine WC_seq (WC_region ?_)
      refine WO_step rfl (S_pure rfl ?_)
      refine WO_nil (KSeq_n (WC_ret (KBlock_r (KSeq_r (KLoop_r ?_)))))
      refine KPost_i (l' := [(4, .bool false)]) seA hsA ⟨rfl, .inr ⟨rfl, rfl, ?_⟩⟩
      rw [Ne, drop_both hx hy]; simp_all
     ·
      try simp only [bsT] at hb2
      refine WC_skip (KBlock_n (KSeq_n (WC_region ?_)))
      refine WO_step rfl (S_pure rfl ?_)
      first | refine WO_step rfl (S_addN (b := 1) rfl rfl (by omega) ?_) | refine WO_step rfl (S_pure rfl ?_)
      refine WO_step rfl (S_pure rfl ?_)
      refine WO_nil (KLoop_n ?_)
      have : l.drop a = m.drop a ↔ l.drop (a + 1) = m.drop (a + 1) := by rw [drop_both hx hy]; simp_all
      simp only [this, ne_eq]
      exact WC_weak (ih (l.length - (a + 1)) (by omega) (a + 1) rfl (by omega)) seA hsA
    ·
     try simp only [bsT] at hb1
     refine WC_exit (KSeq_x (KLoop_x ?_))
     exact KPost_i seA hsA ⟨rfl, .inl ⟨rfl, rfl, by rw [List.drop_of_length_le (by omega), List.drop_of_length_le (by omega)]⟩⟩
theorem sp_EqRecs {H : SH} {v w : Value} {l m : List Rec} (hv : RD H v TRec l) (hw : RD H w TRec m) (hl : l.length ≤ 1000000) : WF F X f_loessref10_EqRecs [v, w] H (fun r H' => H' = H ∧ r = .bool (decide (l = m))) := by
  refine WF_fn F_loessref10_EqRecs ?_
  refine WC_seq (WC_region ?_)
  refine WO_step rfl (S_pure rfl ?_)
  refine WO_nil (KSeq_n (WC_seq (WC_seq (WC_region ?_))))
  refine WO_step rfl (S_pure rfl ?_)
  first | refine WO_step rfl (S_pure rfl ?_) | refine WO_step rfl (S_lenS rfl rdA ?_)
  refine WO_step rfl (S_pure rfl ?_)
  first | refine WO_step rfl (S_pure rfl ?_) | refine WO_step rfl (S_lenS rfl rdA ?_)
  first | refine WO_step rfl (S_neS rfl rfl ?_) | refine WO_step rfl (S_pure rfl ?_)
  refine WO_nil (KSeq_n ?_)
  refine WC_cond rfl (fun hb1 => ?_) (fun hb1 => ?_)
  ·
   try simp only [bsT] at hb1
   refine WC_seq (WC_region ?_)
   refine WO_step rfl (S_pure rfl ?_)
   refine WO_nil (KSeq_n (WC_ret (KSeq_r ?_)))
   refine KFn_r (ResL.tmp rfl ResL.nil) ?_
   refine ⟨_, hsA, rfl, ?_⟩
   have : ¬ l = m := by rintro rfl; simp at hb1
   simp [resV, this]
  ·
   try simp only [bsT] at hb1
   have hlm : l.length = m.length := by simp at hb1; omega
   refine WC_skip (KSeq_n (WC_seq (WC_seq (WC_region ?_))))
   refine WO_step rfl (S_pure rfl ?_)
   refine WO_nil (KSeq_n (WC_block ?_))
   --out x0 r
   refine WC_post (WC_weak (lp_EqRecs_0 hv hw hlm hl l.length 0 (by omega) (by omega)) seA HSub.refl) ?_
   rintro x l' H' ⟨rfl, ⟨rfl, rfl, h0⟩ | ⟨rfl, rfl, h0⟩⟩
   ·
    refine KBlock_h (KSeq_n (WC_seq (WC_region ?_)))
    refine WO_step rfl (S_pure rfl ?_)
    refine WO_nil (KSeq_n (WC_ret ?_))
    refine KFn_r (ResL.tmp rfl ResL.nil) ?_
    refine ⟨_, hsA, rfl, ?_⟩
    simp only [List.drop_zero] at h0
    simp [resV, h0]
   ·
    refine KBlock_r (KSeq_r ?_)
    refine KFn_r (ResL.tmp rfl ResL.nil) ?_
    refine ⟨_, hsA, rfl, ?_⟩
    simp only [List.drop_zero] at h0
    simp [resV, h0]
/-! ### What may be; cuts -/
def cut (s : ByteArray) (n : Nat) : ByteArray := if n < s.size then s.extract 0 n else s
def cutRaw (r : Raw) : Raw := ⟨r.kind, r.n, cut r.s 30⟩
def cutRec (r : Rec) : Rec := ⟨cut r.key 20, r.gone, cutRaw r.val⟩
def vld (s : ByteArray) : Nat → Nat → Bool
  | 0, _ => true
  | f + 1, pos => if pos < s.size then decOk (Utf8.decode s pos) && vld s f (pos + (Utf8.decode s pos).2) else true
def valid (s : ByteArray) : Bool := vld s s.size 0
def mayKey (s : ByteArray) : Bool := decide (1 ≤ s.size) && decide (s.size ≤ 16)
def mayRaw (r : Raw) : Bool := (decide (r.kind = 1) && decide (r.s = es0)) || (decide (r.kind = 2) && decide (r.n = 0) && decide (r.s.size ≤ 24) && valid r.s)
def mayRec (r : Rec) : Bool := mayKey r.key && (if r.gone then decide (r.val = raw0) else mayRaw r.val)
theorem cut_size (s : ByteArray) (n : Nat) : (cut s n).size ≤ n := by
  unfold cut; split
  · rw [ByteArray.size_extract]; omega
  · omega
theorem sp_Cut3 {H : SH} {s : ByteArray} {n : Nat} : WF F X f_loesslaw3_Cut [.string s, .int .i64 n] H (fun r H' => H' = H ∧ r = .string (cut s n)) := by
  refine WF_fn F_loesslaw3_Cut ?_
  refine WC_seq (WC_region ?_)
  refine WO_step rfl (S_pure rfl ?_)
  refine WO_nil (KSeq_n (WC_seq (WC_seq (WC_region ?_))))
  iterate 4 refine WO_step rfl (S_pure rfl ?_)
  refine WO_nil (KSeq_n ?_)
  refine WC_cond rfl (fun hb1 => ?_) (fun hb1 => ?_)
  ·
   try simp only [bsT] at hb1
   refine WC_seq (WC_region ?_)
   iterate 2 refine WO_step rfl (S_pure rfl ?_)
   refine WO_step rfl (S_cutS rfl LB.dflt (LB.mk rfl rfl) ?_ ?_ ?_)
   · omega
   · omega
   refine WO_step rfl (S_pure rfl ?_)
   refine WO_nil (KSeq_n (WC_ret (KSeq_r ?_)))
   refine KFn_r (ResL.tmp rfl ResL.nil) ?_
   refine ⟨_, hsA, rfl, ?_⟩
   simp [resV, cut, hb1]
  ·
   try simp only [bsT] at hb1
   refine WC_skip (KSeq_n (WC_seq (WC_region ?_)))
   iterate 2 refine WO_step rfl (S_pure rfl ?_)
   refine WO_nil (KSeq_n (WC_ret ?_))
   refine KFn_r (ResL.tmp rfl ResL.nil) ?_
   refine ⟨_, hsA, rfl, ?_⟩
   simp [resV, cut, hb1]
theorem sp_Cut4 {H : SH} {r : Raw} : WF F X f_loesslaw4_Cut [TRaw.val r] H (fun v H' => H' = H ∧ v = TRaw.val (cutRaw r)) := by
  refine WF_fn F_loesslaw4_Cut ?_
  refine WC_seq (WC_region ?_)
  refine WO_step rfl (S_box rfl rfl fun i1 => ?_)
  refine WO_step rfl (S_new fun i2 => ?_)
  refine WO_nil (KSeq_n (WC_seq (WC_region ?_)))
  refine WO_step rfl (S_pure rfl ?_)
  refine WO_step rfl (S_loadO rfl pkA (by rfl) (by rfl) ?_)
  refine WO_call rfl rfl rfl ?_
  refine (sp_Cut3 (n := 30)).mono ?_
  rintro _ _ ⟨rfl, rfl⟩
  refine WO_step rfl (S_pure rfl ?_)
  refine WO_step rfl (S_storeO rfl rfl pkA (by first | rfl | exact SV.cells1 _) (by rfl) (by first | rfl | exact SV.ones _) ?_)
  refine WO_nil (KSeq_n (WC_seq (WC_region ?_)))
  first | refine WO_step rfl (S_loadT rfl pkA (by rfl) (by rfl) ?_) | refine WO_step rfl (S_loadO rfl pkA (by rfl) (by rfl) ?_)
  first | refine WO_step rfl (S_storeT rfl rfl pkA (by rfl) (by rfl) ?_) | refine WO_step rfl (S_storeO rfl rfl pkA (by first | rfl | exact SV.cells1 _) (by rfl) (by first | rfl | exact SV.ones _) ?_)
  refine WO_nil (KSeq_n (WC_ret ?_))
  refine KFn_r (ResL.cell rfl pkA (Nat.le_of_ble_eq_true rfl) rfl ResL.nil) ?_
  exact ⟨_, hsA, rfl, rfl⟩
theorem sp_Cut10 {H : SH} {r : Rec} : WF F X f_loesslaw10_Cut [TRec.val r] H (fun v H' => H' = H ∧ v = TRec.val (cutRec r)) := by
  refine WF_fn F_loesslaw10_Cut ?_
  refine WC_seq (WC_region ?_)
  refine WO_step rfl (S_box rfl rfl fun i1 => ?_)
  refine WO_step rfl (S_new fun i2 => ?_)
  refine WO_nil (KSeq_n (WC_seq (WC_drawn ?_)))
  refine WD_step rfl (S_pure rfl ?_)
  refine WD_step rfl (S_loadO rfl pkA (by rfl) (by rfl) ?_)
  refine WD_call rfl rfl rfl ?_
  refine (sp_Cut3 (n := 20)).mono ?_
  rintro _ _ ⟨rfl, rfl⟩
  refine WD_step rfl (S_pure rfl ?_)
  refine WD_step rfl (S_loadO rfl pkA (by rfl) (by rfl) ?_)
  refine WD_call rfl rfl rfl ?_
  refine sp_Cut4.mono ?_
  rintro _ _ ⟨rfl, rfl⟩
  refine WD_step rfl (S_pure rfl ?_)
  refine WD_step rfl (S_storeO rfl rfl pkA (by first | rfl | exact SV.cells1 _) (by rfl) (by first | rfl | exact SV.ones _) ?_)
  refine WD_step rfl (S_pure rfl ?_)
  refine WD_step rfl (S_storeO rfl rfl pkA (by first | rfl | exact SV.cells1 _) (by rfl) (by first | rfl | exact SV.ones _) ?_)
  refine WD_nil ?_
  refine ⟨?_, ?_⟩
  ·
   refine ⟨ObR.of_step rfl (S_loadO rfl pkA (by rfl) (by rfl) ?_), trivial⟩
   simp [eqV, eqVs, eqV0, TRec, TRaw, Ty.ofAgg, AM.cells, Value.cells]
  ·
   refine KSeq_n (WC_seq (WC_region ?_))
   first | refine WO_step rfl (S_loadT rfl pkA (by rfl) (by rfl) ?_) | refine WO_step rfl (S_loadO rfl pkA (by rfl) (by rfl) ?_)
   first | refine WO_step rfl (S_storeT rfl rfl pkA (by rfl) (by rfl) ?_) | refine WO_step rfl (S_storeO rfl rfl pkA (by first | rfl | exact SV.cells1 _) (by rfl) (by first | rfl | exact SV.ones _) ?_)
   refine WO_nil (KSeq_n (WC_ret ?_))
   refine KFn_r (ResL.cell rfl pkA (Nat.le_of_ble_eq_true rfl) rfl ResL.nil) ?_
   exact ⟨_, hsA, rfl, rfl⟩
theorem lp_Recs_0 {H : SH} {v : Value} {l : List Rec} (hv : RD H v TRec l) {m : Nat} (hm : m ≤ 1000000) : ∀ (n a : Nat) (w : SV), m - a = n → a ≤ l.length → a ≤ m →
    WC F X (.loop L_loesslaw10_Recs_0) [(6, .int .i64 a), (0, v), (1, .int .i64 m), (5, w.toV)] (SL w.toV TRec ((l.take a).map cutRec) :: H)
      (KPost fun x l' H' => ∃ w : SV, x = .exit 0 ∧ l' = [(5, w.toV)] ∧ H' = SL w.toV TRec ((l.take m).map cutRec) :: H) := by
  intro n
  induction n using Nat.strongRecOn with
  | _ n ih =>
    intro a w hn ha hab
    have htl : ((l.take a).map cutRec).length = a := by simp; omega
    refine WC_loop (WC_seq (WC_seq (WC_region ?_)))
    iterate 2 refine WO_step rfl (S_pure rfl ?_)
    first | refine WO_step rfl (S_pure rfl ?_) | refine WO_step rfl (S_lenS rfl rdA ?_)
    iterate 2 refine WO_step rfl (S_pure rfl ?_)
    refine WO_cases (t := 11) rfl (fun hg1 => ?_) (fun hg1 => ?_)
    ·
     try simp only [bsT] at hg1
     iterate 4 refine WO_step rfl (S_pure rfl ?_)
     refine WO_nil (KSeq_n ?_)
     refine WC_cond rfl (fun hb1 => ?_) (fun hb1 => ?_)
     ·
      try simp only [bsT] at hb1
      have hlt : a < l.length := by simpa using hg1
      obtain ⟨x, hx⟩ := get_of_lt hlt
      have htk : (l.take (a + 1)).map cutRec = (l.take a).map cutRec ++ [cutRec x] := by rw [List.take_add_one, hx]; simp
      refine WC_skip (KSeq_n (WC_seq (WC_block (WC_region ?_))))
      iterate 3 refine WO_step rfl (S_pure rfl ?_)
      refine WO_step rfl (S_idx rfl rfl rdA (by first | rfl | assumption | (symm; assumption)) (by rfl) (by first | assumption | omega | exact lt_of_get (by assumption) | (simp only [List.length_set]; first | assumption | omega | exact lt_of_get (by assumption))) fun hp21 => ?_)
      refine WO_step rfl (S_loadE rfl rdA (by first | rfl | assumption | (symm; assumption)) (by first | rfl | assumption | (symm; assumption)) (by first | rfl | assumption | (symm; assumption)) (by assumption) ?_)
      refine WO_call rfl rfl rfl ?_
      refine sp_Cut10.mono ?_
      rintro _ _ ⟨rfl, rfl⟩
      refine WO_step rfl (S_lit1 (T := TRec) rfl rfl rfl rfl fun w24 => ?_)
      refine WO_step rfl (S_app rfl rfl pkA (by first | exact SRC.str rfl rfl | (apply RD.src; repeat (first | assumption | exact RD.head | exact RD.nil | apply RD.tail))) (by rfl) (by rfl) (by (try simp only [List.length_append, List.length_cons, List.length_nil]); omega) fun w25 => ?_)
      refine WO_step rfl (S_pure rfl ?_)
      refine WO_nil (KBlock_n (KSeq_n (WC_region ?_)))
      refine WO_step rfl (S_pure rfl ?_)
      first | refine WO_step rfl (S_addN (b := 1) rfl rfl (by omega) ?_) | refine WO_step rfl (S_pure rfl ?_)
      refine WO_step rfl (S_pure rfl ?_)
      refine WO_nil (KLoop_n ?_)
      exact WC_weak (ih (m - (a + 1)) (by omega) (a + 1) w25 rfl (by omega) (by omega)) seA (by rw [htk]; exact hsA)
     ·
      try simp only [bsT] at hb1
      refine WC_exit (KSeq_x (KLoop_x ?_))
      have e : l.take a = l.take m := by
        first
          | (have : a = m := by omega
             rw [this])
          | (rw [List.take_of_length_le (by omega), List.take_of_length_le (by omega)])
      refine KPost_i (l' := [(5, w.toV)]) (H' := SL w.toV TRec ((l.take m).map cutRec) :: H) seA ?_ ⟨w, rfl, rfl, rfl⟩
      rw [← e]; exact hsA
    ·
     try simp only [bsT] at hg1
     iterate 3 refine WO_off rfl ?_
     refine WO_step rfl (S_pure rfl ?_)
     refine WO_nil (KSeq_n ?_)
     refine WC_cond rfl (fun h => ?_) (fun _ => ?_)
     · exact absurd h (by decide)
     refine WC_exit (KSeq_x (KLoop_x ?_))
     have e : l.take a = l.take m := by
       first
         | (have : a = m := by omega
            rw [this])
         | (rw [List.take_of_length_le (by omega), List.take_of_length_le (by omega)])
     refine KPost_i (l' := [(5, w.toV)]) (H' := SL w.toV TRec ((l.take m).map cutRec) :: H) seA ?_ ⟨w, rfl, rfl, rfl⟩
     rw [← e]; exact hsA
theorem sp_Recs {H : SH} {v : Value} {l : List Rec} {m : Nat} (hv : RD H v TRec l) (hm : m ≤ 1000000) : WF F X f_loesslaw10_Recs [v, .int .i64 m] H (fun r H' => ∃ w : SV, H' = SL w.toV TRec ((l.take m).map cutRec) :: H ∧ r = w.toV) := by
  refine WF_fn F_loesslaw10_Recs ?_
  refine WC_seq (WC_region ?_)
  refine WO_step rfl (S_pure rfl ?_)
  refine WO_nil (KSeq_n (WC_seq (WC_region ?_)))
  refine WO_step rfl (S_pure rfl ?_)
  refine WO_nil (KSeq_n (WC_seq (WC_seq (WC_region ?_))))
  refine WO_step rfl (S_pure rfl ?_)
  refine WO_nil (KSeq_n (WC_block ?_))
  refine WC_view (H' := SL (SV.toV .nil) TRec [] :: H) (fun h hh => (HAg.addNil hh)) ?_
  refine WC_post (WC_weak (lp_Recs_0 hv hm m 0 .nil (by omega) (by omega) (by omega)) seA hsA) ?_
  rintro x l' H' ⟨w, rfl, rfl, rfl⟩
  refine KBlock_h (KSeq_n (WC_seq (WC_region ?_)))
  iterate 2 refine WO_step rfl (S_pure rfl ?_)
  refine WO_nil (KSeq_n (WC_ret ?_))
  refine KFn_r (ResL.tmp rfl ResL.nil) ?_
  exact ⟨_, hsA, _, rfl, rfl⟩

end Go.Proofs.YtpgidiompdabdaaGreat.AM
