/- Walks: what the functions compute. -/
import Derived.Test.YtmibhdoegcgfmaaDoorMx
namespace Go.Proofs.YtmibhdoegcgfmaaDoor.AM
open Go
set_option linter.unusedSimpArgs false
set_option linter.unusedVariables false
set_option maxRecDepth 4000

/-! ### The law ManifestAll -/
def cut (s : ByteArray) (n : Nat) : ByteArray := if n < s.size then s.extract 0 n else s
theorem FStr : Flat Tryd.prog 9 TS (fun _ => True) := by
  refine ⟨by kernel_rfl, by decide, ?_, fun _ => rfl⟩
  intro H enc W base spare held fuel cs x h
  obtain ⟨s, hs, _⟩ := trod_str' Tryd.underlying9 h
  exact ⟨s, hs, trivial⟩
theorem inB_perm {xs ys : List ByteArray} (h : xs.Perm ys) (s : ByteArray) : inB xs s = inB ys s := by
  rw [Bool.eq_iff_iff, inB_iff, inB_iff, h.mem_iff]
theorem inB_succ {xs : List ByteArray} {k : Nat} {x s : ByteArray} (h : xs[k]? = some x) : inB (xs.take (k + 1)) s = (inB (xs.take k) s || decide (x = s)) := by
  unfold inB
  rw [List.take_add_one, h, List.any_append]
  simp
theorem sp_Cut3 {H : SH} {s : ByteArray} {n : Nat} : WF F X f_loesslaw3_Cut [.string s, .int .i64 n] H (fun r H' => H' = H ∧ r = .string (cut s n)) := by
  refine WF_fn F_loesslaw3_Cut ?_
  refine WC_seq ?_
  refine WC_region ?_
  refine WO_step rfl (S_pure rfl ?_)
  refine WO_nil ?_
  refine KSeq_n ?_
  refine WC_seq ?_
  refine WC_seq ?_
  refine WC_region ?_
  refine WO_step rfl (S_pure rfl ?_)
  refine WO_step rfl (S_pure rfl ?_)
  refine WO_step rfl (S_pure rfl ?_)
  refine WO_step rfl (S_pure rfl ?_)
  refine WO_nil ?_
  refine KSeq_n ?_
  refine WC_cond rfl (fun hb1 => ?_) (fun hb1 => ?_)
  ·
    try simp only [decide_eq_true_eq, decide_eq_false_iff_not, Bool.not_eq_true', Bool.not_eq_false', beq_iff_eq, bne_iff_ne, beq_eq_false_iff_ne, Int.ofNat_lt, Int.ofNat_le, Int.ofNat_inj, ne_eq, gt_iff_lt, ge_iff_le] at hb1
    refine WC_seq ?_
    refine WC_region ?_
    refine WO_step rfl (S_pure rfl ?_)
    refine WO_step rfl (S_pure rfl ?_)
    refine WO_step rfl (S_cutS rfl LB.dflt (LB.mk rfl rfl) ?_ ?_ ?_)
    · omega
    · omega
    refine WO_step rfl (S_pure rfl ?_)
    refine WO_nil ?_
    refine KSeq_n ?_
    refine WC_ret ?_
    refine KSeq_r ?_
    refine KFn_r (ResL.tmp rfl ResL.nil) ?_
    refine ⟨_, (by repeat (first | exact HSub.refl | refine HSub.pick (by repeat (first | exact Pick.head | apply Pick.tail)) ?_ | apply HSub.drop)), rfl, ?_⟩
    simp [resV, cut, hb1]
  ·
    try simp only [decide_eq_true_eq, decide_eq_false_iff_not, Bool.not_eq_true', Bool.not_eq_false', beq_iff_eq, bne_iff_ne, beq_eq_false_iff_ne, Int.ofNat_lt, Int.ofNat_le, Int.ofNat_inj, ne_eq, gt_iff_lt, ge_iff_le] at hb1
    refine WC_skip ?_
    refine KSeq_n ?_
    refine WC_seq ?_
    refine WC_region ?_
    refine WO_step rfl (S_pure rfl ?_)
    refine WO_step rfl (S_pure rfl ?_)
    refine WO_nil ?_
    refine KSeq_n ?_
    refine WC_ret ?_
    refine KFn_r (ResL.tmp rfl ResL.nil) ?_
    refine ⟨_, (by repeat (first | exact HSub.refl | refine HSub.pick (by repeat (first | exact Pick.head | apply Pick.tail)) ?_ | apply HSub.drop)), rfl, ?_⟩
    simp [resV, cut, hb1]
theorem lp_MA0 {H : SH} {v12 v13 v2 v3 : Value} {L : List ByteArray} (h1 : RD H v12 TS L) (h2 : RD H v13 TS L) (hL : L.length ≤ 1000) : ∀ (m i : Nat), L.length - i = m → i ≤ L.length →
    WC F X (.loop L_loesslaw24_ManifestAll_0) [(14, .int .i64 (i : Int)), (12, v12), (13, v13), (2, v2), (3, v3)] H (KPost fun y l' H' => y = .exit 0 ∧ l' = [(13, v13), (2, v2), (3, v3)] ∧ H' = H) := by
  intro m
  induction m using Nat.strongRecOn with
  | _ m ih =>
    intro i hm hi
    refine WC_loop ?_
    refine WC_seq ?_
    refine WC_seq ?_
    refine WC_region ?_
    refine WO_step rfl (S_pure rfl ?_)
    refine WO_step rfl (S_pure rfl ?_)
    first | refine WO_step rfl (S_pure rfl ?_) | refine WO_step rfl (S_lenS rfl (by repeat (first | assumption | exact RD.head | exact RD.nil | apply RD.tail)) ?_)
    refine WO_step rfl (S_pure rfl ?_)
    refine WO_nil ?_
    refine KSeq_n ?_
    refine WC_cond rfl (fun hb1 => ?_) (fun hb1 => ?_)
    ·
      try simp only [decide_eq_true_eq, decide_eq_false_iff_not, Bool.not_eq_true', Bool.not_eq_false', beq_iff_eq, bne_iff_ne, beq_eq_false_iff_ne, Int.ofNat_lt, Int.ofNat_le, Int.ofNat_inj, ne_eq, gt_iff_lt, ge_iff_le] at hb1
      obtain ⟨x, hx⟩ := get_of_lt hb1
      refine WC_skip ?_
      refine KSeq_n ?_
      refine WC_seq ?_
      refine WC_block ?_
      refine WC_seq ?_
      refine WC_region ?_
      refine WO_step rfl (S_pure rfl ?_)
      refine WO_step rfl (S_pure rfl ?_)
      refine WO_step rfl (S_idx rfl rfl (by repeat (first | assumption | exact RD.head | exact RD.nil | apply RD.tail)) (by first | rfl | assumption | (symm; assumption)) (by rfl) (by first | assumption | omega | exact lt_of_get (by assumption) | (simp only [List.length_set]; first | assumption | omega | exact lt_of_get (by assumption))) fun hp108 => ?_)
      refine WO_step rfl (S_loadE rfl (by repeat (first | assumption | exact RD.head | exact RD.nil | apply RD.tail)) (by first | rfl | assumption | (symm; assumption)) (by first | rfl | assumption | (symm; assumption)) (by first | rfl | assumption | (symm; assumption)) (by assumption) ?_)
      refine WO_step rfl (S_pure rfl ?_)
      refine WO_step rfl (S_pure rfl ?_)
      refine WO_step rfl (S_idx rfl rfl (by repeat (first | assumption | exact RD.head | exact RD.nil | apply RD.tail)) (by first | rfl | assumption | (symm; assumption)) (by rfl) (by first | assumption | omega | exact lt_of_get (by assumption) | (simp only [List.length_set]; first | assumption | omega | exact lt_of_get (by assumption))) fun hp112 => ?_)
      refine WO_step rfl (S_loadE rfl (by repeat (first | assumption | exact RD.head | exact RD.nil | apply RD.tail)) (by first | rfl | assumption | (symm; assumption)) (by first | rfl | assumption | (symm; assumption)) (by first | rfl | assumption | (symm; assumption)) (by assumption) ?_)
      first | refine WO_step rfl (S_neS rfl rfl ?_) | refine WO_step rfl (S_pure rfl ?_)
      refine WO_nil ?_
      refine KSeq_n ?_
      refine WC_cond rfl (fun hb2 => ?_) (fun hb2 => ?_)
      ·
        try simp only [decide_eq_true_eq, decide_eq_false_iff_not, Bool.not_eq_true', Bool.not_eq_false', beq_iff_eq, bne_iff_ne, beq_eq_false_iff_ne, Int.ofNat_lt, Int.ofNat_le, Int.ofNat_inj, ne_eq, gt_iff_lt, ge_iff_le] at hb2
        refine WC_seq ?_
        refine WC_region ?_
        refine WO_step rfl (S_pure rfl ?_)
        refine WO_nil ?_
        refine KSeq_n ?_
        refine WC_ret ?_
        refine KBlock_r ?_
        refine KSeq_r ?_
        refine KLoop_r ?_
        exact absurd hb2 (by simp)
      ·
        try simp only [decide_eq_true_eq, decide_eq_false_iff_not, Bool.not_eq_true', Bool.not_eq_false', beq_iff_eq, bne_iff_ne, beq_eq_false_iff_ne, Int.ofNat_lt, Int.ofNat_le, Int.ofNat_inj, ne_eq, gt_iff_lt, ge_iff_le] at hb2
        refine WC_skip ?_
        refine KBlock_n ?_
        refine KSeq_n ?_
        refine WC_region ?_
        refine WO_step rfl (S_pure rfl ?_)
        first | refine WO_step rfl (S_addN (b := 1) rfl rfl (by omega) ?_) | refine WO_step rfl (S_pure rfl ?_)
        refine WO_step rfl (S_pure rfl ?_)
        refine WO_nil ?_
        refine KLoop_n ?_
        exact WC_weak (ih (L.length - (i + 1)) (by omega) (i + 1) rfl (by omega)) (by repeat (first | exact SubE.nil | apply SubE.cons rfl)) (by repeat (first | exact HSub.refl | refine HSub.pick (by repeat (first | exact Pick.head | apply Pick.tail)) ?_ | apply HSub.drop))
    ·
      try simp only [decide_eq_true_eq, decide_eq_false_iff_not, Bool.not_eq_true', Bool.not_eq_false', beq_iff_eq, bne_iff_ne, beq_eq_false_iff_ne, Int.ofNat_lt, Int.ofNat_le, Int.ofNat_inj, ne_eq, gt_iff_lt, ge_iff_le] at hb1
      refine WC_exit ?_
      refine KSeq_x ?_
      refine KLoop_x ?_
      exact KPost_i (by repeat (first | exact SubE.nil | apply SubE.cons rfl)) (by repeat (first | exact HSub.refl | refine HSub.pick (by repeat (first | exact Pick.head | apply Pick.tail)) ?_ | apply HSub.drop)) ⟨rfl, rfl, rfl⟩
theorem lp_MA3 {H : SH} {v21 v16 : Value} {L : List ByteArray} (h1 : RD H v21 TS L) (h2 : RD H v16 TS L) (hL : L.length ≤ 1000) : ∀ (m i : Nat), L.length - i = m → i ≤ L.length →
    WC F X (.loop L_loesslaw24_ManifestAll_3) [(22, .int .i64 (i : Int)), (21, v21), (16, v16)] H (KPost fun y l' H' => y = .exit 6 ∧ l' = [] ∧ H' = H) := by
  intro m
  induction m using Nat.strongRecOn with
  | _ m ih =>
    intro i hm hi
    refine WC_loop ?_
    refine WC_seq ?_
    refine WC_seq ?_
    refine WC_region ?_
    refine WO_step rfl (S_pure rfl ?_)
    refine WO_step rfl (S_pure rfl ?_)
    first | refine WO_step rfl (S_pure rfl ?_) | refine WO_step rfl (S_lenS rfl (by repeat (first | assumption | exact RD.head | exact RD.nil | apply RD.tail)) ?_)
    refine WO_step rfl (S_pure rfl ?_)
    refine WO_nil ?_
    refine KSeq_n ?_
    refine WC_cond rfl (fun hb1 => ?_) (fun hb1 => ?_)
    ·
      try simp only [decide_eq_true_eq, decide_eq_false_iff_not, Bool.not_eq_true', Bool.not_eq_false', beq_iff_eq, bne_iff_ne, beq_eq_false_iff_ne, Int.ofNat_lt, Int.ofNat_le, Int.ofNat_inj, ne_eq, gt_iff_lt, ge_iff_le] at hb1
      obtain ⟨x, hx⟩ := get_of_lt hb1
      refine WC_skip ?_
      refine KSeq_n ?_
      refine WC_seq ?_
      refine WC_block ?_
      refine WC_seq ?_
      refine WC_region ?_
      refine WO_step rfl (S_pure rfl ?_)
      refine WO_step rfl (S_pure rfl ?_)
      refine WO_step rfl (S_idx rfl rfl (by repeat (first | assumption | exact RD.head | exact RD.nil | apply RD.tail)) (by first | rfl | assumption | (symm; assumption)) (by rfl) (by first | assumption | omega | exact lt_of_get (by assumption) | (simp only [List.length_set]; first | assumption | omega | exact lt_of_get (by assumption))) fun hp172 => ?_)
      refine WO_step rfl (S_loadE rfl (by repeat (first | assumption | exact RD.head | exact RD.nil | apply RD.tail)) (by first | rfl | assumption | (symm; assumption)) (by first | rfl | assumption | (symm; assumption)) (by first | rfl | assumption | (symm; assumption)) (by assumption) ?_)
      refine WO_step rfl (S_pure rfl ?_)
      refine WO_step rfl (S_pure rfl ?_)
      refine WO_step rfl (S_idx rfl rfl (by repeat (first | assumption | exact RD.head | exact RD.nil | apply RD.tail)) (by first | rfl | assumption | (symm; assumption)) (by rfl) (by first | assumption | omega | exact lt_of_get (by assumption) | (simp only [List.length_set]; first | assumption | omega | exact lt_of_get (by assumption))) fun hp176 => ?_)
      refine WO_step rfl (S_loadE rfl (by repeat (first | assumption | exact RD.head | exact RD.nil | apply RD.tail)) (by first | rfl | assumption | (symm; assumption)) (by first | rfl | assumption | (symm; assumption)) (by first | rfl | assumption | (symm; assumption)) (by assumption) ?_)
      first | refine WO_step rfl (S_neS rfl rfl ?_) | refine WO_step rfl (S_pure rfl ?_)
      refine WO_nil ?_
      refine KSeq_n ?_
      refine WC_cond rfl (fun hb2 => ?_) (fun hb2 => ?_)
      ·
        try simp only [decide_eq_true_eq, decide_eq_false_iff_not, Bool.not_eq_true', Bool.not_eq_false', beq_iff_eq, bne_iff_ne, beq_eq_false_iff_ne, Int.ofNat_lt, Int.ofNat_le, Int.ofNat_inj, ne_eq, gt_iff_lt, ge_iff_le] at hb2
        refine WC_seq ?_
        refine WC_region ?_
        refine WO_step rfl (S_pure rfl ?_)
        refine WO_nil ?_
        refine KSeq_n ?_
        refine WC_ret ?_
        refine KBlock_r ?_
        refine KSeq_r ?_
        refine KLoop_r ?_
        exact absurd hb2 (by simp)
      ·
        try simp only [decide_eq_true_eq, decide_eq_false_iff_not, Bool.not_eq_true', Bool.not_eq_false', beq_iff_eq, bne_iff_ne, beq_eq_false_iff_ne, Int.ofNat_lt, Int.ofNat_le, Int.ofNat_inj, ne_eq, gt_iff_lt, ge_iff_le] at hb2
        refine WC_skip ?_
        refine KBlock_n ?_
        refine KSeq_n ?_
        refine WC_region ?_
        refine WO_step rfl (S_pure rfl ?_)
        first | refine WO_step rfl (S_addN (b := 1) rfl rfl (by omega) ?_) | refine WO_step rfl (S_pure rfl ?_)
        refine WO_step rfl (S_pure rfl ?_)
        refine WO_nil ?_
        refine KLoop_n ?_
        exact WC_weak (ih (L.length - (i + 1)) (by omega) (i + 1) rfl (by omega)) (by repeat (first | exact SubE.nil | apply SubE.cons rfl)) (by repeat (first | exact HSub.refl | refine HSub.pick (by repeat (first | exact Pick.head | apply Pick.tail)) ?_ | apply HSub.drop))
    ·
      try simp only [decide_eq_true_eq, decide_eq_false_iff_not, Bool.not_eq_true', Bool.not_eq_false', beq_iff_eq, bne_iff_ne, beq_eq_false_iff_ne, Int.ofNat_lt, Int.ofNat_le, Int.ofNat_inj, ne_eq, gt_iff_lt, ge_iff_le] at hb1
      refine WC_exit ?_
      refine KSeq_x ?_
      refine KLoop_x ?_
      exact KPost_i (by repeat (first | exact SubE.nil | apply SubE.cons rfl)) (by repeat (first | exact HSub.refl | refine HSub.pick (by repeat (first | exact Pick.head | apply Pick.tail)) ?_ | apply HSub.drop)) ⟨rfl, rfl, rfl⟩
theorem lp_MA2 {H : SH} {v13 : Value} {L : List ByteArray} {f : ByteArray} (v2 v3 v15 v16 v17 : Value) (h1 : RD H v13 TS L) (hL : L.length ≤ 1000) : ∀ (m k : Nat), L.length - k = m → k ≤ L.length →
    WC F X (.loop L_loesslaw24_ManifestAll_2) [(20, .int .i64 (k : Int)), (19, .bool (inB (L.take k) f)), (18, .string f), (13, v13), (2, v2), (3, v3), (15, v15), (16, v16), (17, v17)] H
      (KPost fun y l' H' => y = .exit 4 ∧ l' = [(19, .bool (inB L f)), (18, .string f), (13, v13), (2, v2), (3, v3), (15, v15), (16, v16), (17, v17)] ∧ H' = H) := by
  intro m
  induction m using Nat.strongRecOn with
  | _ m ih =>
    intro k hm hk
    refine WC_loop ?_
    refine WC_seq ?_
    refine WC_seq ?_
    refine WC_region ?_
    refine WO_step rfl (S_pure rfl ?_)
    refine WO_step rfl (S_pure rfl ?_)
    first | refine WO_step rfl (S_pure rfl ?_) | refine WO_step rfl (S_lenS rfl (by repeat (first | assumption | exact RD.head | exact RD.nil | apply RD.tail)) ?_)
    refine WO_step rfl (S_pure rfl ?_)
    refine WO_nil ?_
    refine KSeq_n ?_
    refine WC_cond rfl (fun hb1 => ?_) (fun hb1 => ?_)
    ·
      try simp only [decide_eq_true_eq, decide_eq_false_iff_not, Bool.not_eq_true', Bool.not_eq_false', beq_iff_eq, bne_iff_ne, beq_eq_false_iff_ne, Int.ofNat_lt, Int.ofNat_le, Int.ofNat_inj, ne_eq, gt_iff_lt, ge_iff_le] at hb1
      obtain ⟨x, hx⟩ := get_of_lt hb1
      have hsc := inB_succ (s := f) hx
      refine WC_skip ?_
      refine KSeq_n ?_
      refine WC_seq ?_
      refine WC_block ?_
      refine WC_region ?_
      refine WO_step rfl (S_pure rfl ?_)
      refine WO_step rfl (S_pure rfl ?_)
      refine WO_cases (t := 141) rfl (fun hg1 => ?_) (fun hg1 => ?_)
      ·
        try simp only [decide_eq_true_eq, decide_eq_false_iff_not, Bool.not_eq_true', Bool.not_eq_false', beq_iff_eq, bne_iff_ne, beq_eq_false_iff_ne, Int.ofNat_lt, Int.ofNat_le, Int.ofNat_inj, ne_eq, gt_iff_lt, ge_iff_le] at hg1
        refine WO_off rfl ?_
        refine WO_off rfl ?_
        refine WO_off rfl ?_
        refine WO_off rfl ?_
        refine WO_off rfl ?_
        refine WO_off rfl ?_
        refine WO_step rfl (S_pure rfl ?_)
        refine WO_step rfl (S_pure rfl ?_)
        refine WO_nil ?_
        refine KBlock_n ?_
        refine KSeq_n ?_
        refine WC_region ?_
        refine WO_step rfl (S_pure rfl ?_)
        first | refine WO_step rfl (S_addN (b := 1) rfl rfl (by omega) ?_) | refine WO_step rfl (S_pure rfl ?_)
        refine WO_step rfl (S_pure rfl ?_)
        refine WO_nil ?_
        refine KLoop_n ?_
        have := ih (L.length - (k + 1)) (by omega) (k + 1) rfl (by omega)
        rw [hsc, hg1, Bool.true_or] at this
        exact WC_weak this (by repeat (first | exact SubE.nil | apply SubE.cons rfl)) (by repeat (first | exact HSub.refl | refine HSub.pick (by repeat (first | exact Pick.head | apply Pick.tail)) ?_ | apply HSub.drop))
      ·
        try simp only [decide_eq_true_eq, decide_eq_false_iff_not, Bool.not_eq_true', Bool.not_eq_false', beq_iff_eq, bne_iff_ne, beq_eq_false_iff_ne, Int.ofNat_lt, Int.ofNat_le, Int.ofNat_inj, ne_eq, gt_iff_lt, ge_iff_le] at hg1
        refine WO_step rfl (S_pure rfl ?_)
        refine WO_step rfl (S_pure rfl ?_)
        refine WO_step rfl (S_idx rfl rfl (by repeat (first | assumption | exact RD.head | exact RD.nil | apply RD.tail)) (by first | rfl | assumption | (symm; assumption)) (by rfl) (by first | assumption | omega | exact lt_of_get (by assumption) | (simp only [List.length_set]; first | assumption | omega | exact lt_of_get (by assumption))) fun hp144 => ?_)
        refine WO_step rfl (S_loadE rfl (by repeat (first | assumption | exact RD.head | exact RD.nil | apply RD.tail)) (by first | rfl | assumption | (symm; assumption)) (by first | rfl | assumption | (symm; assumption)) (by first | rfl | assumption | (symm; assumption)) (by assumption) ?_)
        refine WO_step rfl (S_pure rfl ?_)
        first | refine WO_step rfl (S_eqS rfl rfl ?_) | refine WO_step rfl (S_pure rfl ?_)
        refine WO_step rfl (S_pure rfl ?_)
        refine WO_step rfl (S_pure rfl ?_)
        refine WO_nil ?_
        refine KBlock_n ?_
        refine KSeq_n ?_
        refine WC_region ?_
        refine WO_step rfl (S_pure rfl ?_)
        first | refine WO_step rfl (S_addN (b := 1) rfl rfl (by omega) ?_) | refine WO_step rfl (S_pure rfl ?_)
        refine WO_step rfl (S_pure rfl ?_)
        refine WO_nil ?_
        refine KLoop_n ?_
        have := ih (L.length - (k + 1)) (by omega) (k + 1) rfl (by omega)
        rw [hsc, hg1, Bool.false_or] at this
        exact WC_weak this (by repeat (first | exact SubE.nil | apply SubE.cons rfl)) (by repeat (first | exact HSub.refl | refine HSub.pick (by repeat (first | exact Pick.head | apply Pick.tail)) ?_ | apply HSub.drop))
    ·
      try simp only [decide_eq_true_eq, decide_eq_false_iff_not, Bool.not_eq_true', Bool.not_eq_false', beq_iff_eq, bne_iff_ne, beq_eq_false_iff_ne, Int.ofNat_lt, Int.ofNat_le, Int.ofNat_inj, ne_eq, gt_iff_lt, ge_iff_le] at hb1
      refine WC_exit ?_
      refine KSeq_x ?_
      refine KLoop_x ?_
      have ek : k = L.length := by omega
      subst ek
      rw [List.take_length]
      exact KPost_i (by repeat (first | exact SubE.nil | apply SubE.cons rfl)) (by repeat (first | exact HSub.refl | refine HSub.pick (by repeat (first | exact Pick.head | apply Pick.tail)) ?_ | apply HSub.drop)) ⟨rfl, rfl, rfl⟩
def cutL (fs : List ByteArray) : List ByteArray := fs.map fun f => cut f 20
def wantL (L fs : List ByteArray) : List ByteArray := (cutL fs).filter fun y => !inB L y
theorem cutL_len (fs : List ByteArray) : (cutL fs).length = fs.length := by unfold cutL; simp
theorem wantL_len (L fs : List ByteArray) : (wantL L fs).length ≤ fs.length := by
  unfold wantL
  exact Nat.le_trans (List.length_filter_le _ _) (by rw [cutL_len]; exact Nat.le_refl _)
theorem cutL_snoc {fs : List ByteArray} {i : Nat} {x : ByteArray} (h : fs[i]? = some x) : cutL (fs.take (i + 1)) = cutL (fs.take i) ++ [cut x 20] := by
  unfold cutL
  rw [List.take_add_one, h]; simp
theorem wantL_snoc {L fs : List ByteArray} {i : Nat} {x : ByteArray} (h : fs[i]? = some x) : wantL L (fs.take (i + 1)) = wantL L (fs.take i) ++ if inB L (cut x 20) = true then [] else [cut x 20] := by
  unfold wantL
  rw [cutL_snoc h, List.filter_append]
  cases hb : inB L (cut x 20) <;> simp [hb]
theorem lp_MA1 {H : SH} {v13 v2 v3 : Value} {L fs : List ByteArray} (h1 : RD H v13 TS L) (h2 : RD H v2 TS fs) (hL : L.length ≤ 1000) : ∀ (m i : Nat) (w15 w16 : SV), 20 - i = m → i ≤ 20 → i ≤ fs.length →
    WC F X (.loop L_loesslaw24_ManifestAll_1) [(17, .int .i64 (i : Int)), (13, v13), (2, v2), (3, v3), (15, w15.toV), (16, w16.toV)] (SL w15.toV TS (cutL (fs.take i)) :: SL w16.toV TS (wantL L (fs.take i)) :: H)
      (KPost fun y l' H' => ∃ w15 w16 : SV, y = .exit 2 ∧ l' = [(13, v13), (2, v2), (3, v3), (15, w15.toV), (16, w16.toV)] ∧ H' = SL w15.toV TS (cutL (fs.take 20)) :: SL w16.toV TS (wantL L (fs.take 20)) :: H) := by
  intro m
  induction m using Nat.strongRecOn with
  | _ m ih =>
    intro i w15 w16 hm hi hil
    have htl : (fs.take i).length ≤ 20 := by rw [List.length_take]; omega
    have hc := cutL_len (fs.take i)
    have hw := wantL_len L (fs.take i)
    refine WC_loop ?_
    refine WC_seq ?_
    refine WC_seq ?_
    refine WC_region ?_
    refine WO_step rfl (S_pure rfl ?_)
    refine WO_step rfl (S_pure rfl ?_)
    first | refine WO_step rfl (S_pure rfl ?_) | refine WO_step rfl (S_lenS rfl (by repeat (first | assumption | exact RD.head | exact RD.nil | apply RD.tail)) ?_)
    refine WO_step rfl (S_pure rfl ?_)
    refine WO_step rfl (S_pure rfl ?_)
    refine WO_cases (t := 119) rfl (fun hg1 => ?_) (fun hg1 => ?_)
    ·
      try simp only [decide_eq_true_eq, decide_eq_false_iff_not, Bool.not_eq_true', Bool.not_eq_false', beq_iff_eq, bne_iff_ne, beq_eq_false_iff_ne, Int.ofNat_lt, Int.ofNat_le, Int.ofNat_inj, ne_eq, gt_iff_lt, ge_iff_le] at hg1
      obtain ⟨x, hx⟩ := get_of_lt hg1
      refine WO_step rfl (S_pure rfl ?_)
      refine WO_step rfl (S_pure rfl ?_)
      refine WO_step rfl (S_pure rfl ?_)
      refine WO_nil ?_
      refine KSeq_n ?_
      refine WC_cond rfl (fun hb1 => ?_) (fun hb1 => ?_)
      ·
        try simp only [decide_eq_true_eq, decide_eq_false_iff_not, Bool.not_eq_true', Bool.not_eq_false', beq_iff_eq, bne_iff_ne, beq_eq_false_iff_ne, Int.ofNat_lt, Int.ofNat_le, Int.ofNat_inj, ne_eq, gt_iff_lt, ge_iff_le] at hb1
        refine WC_skip ?_
        refine KSeq_n ?_
        refine WC_seq ?_
        refine WC_block ?_
        refine WC_seq ?_
        refine WC_region ?_
        refine WO_step rfl (S_pure rfl ?_)
        refine WO_step rfl (S_pure rfl ?_)
        refine WO_step rfl (S_idx rfl rfl (by repeat (first | assumption | exact RD.head | exact RD.nil | apply RD.tail)) (by first | rfl | assumption | (symm; assumption)) (by rfl) (by first | assumption | omega | exact lt_of_get (by assumption) | (simp only [List.length_set]; first | assumption | omega | exact lt_of_get (by assumption))) fun hp127 => ?_)
        refine WO_step rfl (S_loadE rfl (by repeat (first | assumption | exact RD.head | exact RD.nil | apply RD.tail)) (by first | rfl | assumption | (symm; assumption)) (by first | rfl | assumption | (symm; assumption)) (by first | rfl | assumption | (symm; assumption)) (by assumption) ?_)
        refine WO_call rfl rfl rfl ?_
        refine (sp_Cut3 (n := 20)).mono ?_
        rintro _ _ ⟨rfl, rfl⟩
        refine WO_step rfl (S_pure rfl ?_)
        refine WO_nil ?_
        refine KSeq_n ?_
        refine WC_seq ?_
        refine WC_region ?_
        refine WO_step rfl (S_pure rfl ?_)
        refine WO_step rfl (S_pure rfl ?_)
        refine WO_step rfl (S_lit1 (T := TS) (y := cut x 20) rfl rfl rfl rfl fun w132 => ?_)
        refine WO_step rfl (S_app rfl rfl (by repeat (first | exact Pick.head | apply Pick.tail)) (by first | exact SRC.str rfl rfl | (apply RD.src; repeat (first | assumption | exact RD.head | exact RD.nil | apply RD.tail))) (by rfl) (by rfl) (by simp only [List.length_cons, List.length_nil]; omega) fun w133 => ?_)
        refine WO_step rfl (S_pure rfl ?_)
        refine WO_nil ?_
        refine KSeq_n ?_
        refine WC_seq ?_
        refine WC_region ?_
        refine WO_step rfl (S_pure rfl ?_)
        refine WO_nil ?_
        refine KSeq_n ?_
        refine WC_seq ?_
        refine WC_seq ?_
        refine WC_region ?_
        refine WO_step rfl (S_pure rfl ?_)
        refine WO_nil ?_
        refine KSeq_n ?_
        refine WC_block ?_
        --out x4
        refine WC_post (WC_weak (lp_MA2 (f := cut x 20) (H := SL w133.toV TS (cutL (fs.take i) ++ [cut x 20]) :: SL w16.toV TS (wantL L (fs.take i)) :: H) v2 v3 w133.toV w16.toV (.int .i64 (i : Int)) (h1.tail.tail) hL L.length 0 (by omega) (by omega)) (by repeat (first | exact SubE.nil | apply SubE.cons rfl)) (by repeat (first | exact HSub.refl | refine HSub.pick (by repeat (first | exact Pick.head | apply Pick.tail)) ?_ | apply HSub.drop))) ?_
        rintro y l' _ ⟨rfl, rfl, rfl⟩
        refine KBlock_h ?_
        refine KSeq_n ?_
        refine WC_seq ?_
        refine WC_region ?_
        refine WO_step rfl (S_pure rfl ?_)
        refine WO_step rfl (S_pure rfl ?_)
        refine WO_nil ?_
        refine KSeq_n ?_
        refine WC_cond rfl (fun hb2 => ?_) (fun hb2 => ?_)
        ·
          try simp only [decide_eq_true_eq, decide_eq_false_iff_not, Bool.not_eq_true', Bool.not_eq_false', beq_iff_eq, bne_iff_ne, beq_eq_false_iff_ne, Int.ofNat_lt, Int.ofNat_le, Int.ofNat_inj, ne_eq, gt_iff_lt, ge_iff_le] at hb2
          refine WC_region ?_
          refine WO_step rfl (S_pure rfl ?_)
          refine WO_step rfl (S_pure rfl ?_)
          refine WO_step rfl (S_lit1 (T := TS) (y := cut x 20) rfl rfl rfl rfl fun w153 => ?_)
          refine WO_step rfl (S_app rfl rfl (by repeat (first | exact Pick.head | apply Pick.tail)) (by first | exact SRC.str rfl rfl | (apply RD.src; repeat (first | assumption | exact RD.head | exact RD.nil | apply RD.tail))) (by rfl) (by rfl) (by simp only [List.length_cons, List.length_nil]; omega) fun w154 => ?_)
          refine WO_step rfl (S_pure rfl ?_)
          refine WO_nil ?_
          refine KBlock_n ?_
          refine KSeq_n ?_
          refine WC_region ?_
          refine WO_step rfl (S_pure rfl ?_)
          first | refine WO_step rfl (S_addN (b := 1) rfl rfl (by omega) ?_) | refine WO_step rfl (S_pure rfl ?_)
          refine WO_step rfl (S_pure rfl ?_)
          refine WO_nil ?_
          refine KLoop_n ?_
          have hin : inB L (cut x 20) = false := by simpa using hb2
          have := ih (20 - (i + 1)) (by omega) (i + 1) w133 w154 rfl (by omega) (by omega)
          rw [cutL_snoc hx, wantL_snoc hx, if_neg (by rw [hin]; decide)] at this
          exact WC_weak this (by repeat (first | exact SubE.nil | apply SubE.cons rfl)) (by repeat (first | exact HSub.refl | refine HSub.pick (by repeat (first | exact Pick.head | apply Pick.tail)) ?_ | apply HSub.drop))
        ·
          try simp only [decide_eq_true_eq, decide_eq_false_iff_not, Bool.not_eq_true', Bool.not_eq_false', beq_iff_eq, bne_iff_ne, beq_eq_false_iff_ne, Int.ofNat_lt, Int.ofNat_le, Int.ofNat_inj, ne_eq, gt_iff_lt, ge_iff_le] at hb2
          refine WC_skip ?_
          refine KBlock_n ?_
          refine KSeq_n ?_
          refine WC_region ?_
          refine WO_step rfl (S_pure rfl ?_)
          first | refine WO_step rfl (S_addN (b := 1) rfl rfl (by omega) ?_) | refine WO_step rfl (S_pure rfl ?_)
          refine WO_step rfl (S_pure rfl ?_)
          refine WO_nil ?_
          refine KLoop_n ?_
          have hin : inB L (cut x 20) = true := by simpa using hb2
          have := ih (20 - (i + 1)) (by omega) (i + 1) w133 w16 rfl (by omega) (by omega)
          rw [cutL_snoc hx, wantL_snoc hx, if_pos hin, List.append_nil] at this
          exact WC_weak this (by repeat (first | exact SubE.nil | apply SubE.cons rfl)) (by repeat (first | exact HSub.refl | refine HSub.pick (by repeat (first | exact Pick.head | apply Pick.tail)) ?_ | apply HSub.drop))
      ·
        try simp only [decide_eq_true_eq, decide_eq_false_iff_not, Bool.not_eq_true', Bool.not_eq_false', beq_iff_eq, bne_iff_ne, beq_eq_false_iff_ne, Int.ofNat_lt, Int.ofNat_le, Int.ofNat_inj, ne_eq, gt_iff_lt, ge_iff_le] at hb1
        refine WC_exit ?_
        refine KSeq_x ?_
        refine KLoop_x ?_
        have e : fs.take i = fs.take 20 := by
          by_cases h20 : i = 20
          · rw [h20]
          · rw [List.take_of_length_le (show fs.length ≤ i by omega), List.take_of_length_le (show fs.length ≤ 20 by omega)]
        rw [e]
        exact KPost_i (by repeat (first | exact SubE.nil | apply SubE.cons rfl)) (by repeat (first | exact HSub.refl | refine HSub.pick (by repeat (first | exact Pick.head | apply Pick.tail)) ?_ | apply HSub.drop)) ⟨w15, w16, rfl, rfl, rfl⟩
    ·
      try simp only [decide_eq_true_eq, decide_eq_false_iff_not, Bool.not_eq_true', Bool.not_eq_false', beq_iff_eq, bne_iff_ne, beq_eq_false_iff_ne, Int.ofNat_lt, Int.ofNat_le, Int.ofNat_inj, ne_eq, gt_iff_lt, ge_iff_le] at hg1
      refine WO_off rfl ?_
      refine WO_off rfl ?_
      refine WO_step rfl (S_pure rfl ?_)
      refine WO_nil ?_
      refine KSeq_n ?_
      refine WC_cond rfl (fun h => ?_) (fun _ => ?_)
      · exact absurd h (by decide)
      refine WC_exit ?_
      refine KSeq_x ?_
      refine KLoop_x ?_
      have e : fs.take i = fs.take 20 := by
        by_cases h20 : i = 20
        · rw [h20]
        · rw [List.take_of_length_le (show fs.length ≤ i by omega), List.take_of_length_le (show fs.length ≤ 20 by omega)]
      rw [e]
      exact KPost_i (by repeat (first | exact SubE.nil | apply SubE.cons rfl)) (by repeat (first | exact HSub.refl | refine HSub.pick (by repeat (first | exact Pick.head | apply Pick.tail)) ?_ | apply HSub.drop)) ⟨w15, w16, rfl, rfl, rfl⟩
set_option maxHeartbeats 2000000 in
theorem law_ManifestAll {H : SH} {n f s n' f' s' : Int} {h h' : SV} {xs ys : List Int} {v2 : Value} {fs : List ByteArray} (hv : RD H h.toV TI64 xs) (hv' : RD H h'.toV TI64 ys) (hf : RD H v2 TS fs) (_ : ∀ x ∈ fs, True) : WF F X f_loesslaw24_ManifestAll [mfV n f s h, mfV n' f' s' h', v2] H (fun v _ => v = .bool true) := by
  refine WF_addNil (T := TS) (WF_addNil (T := TS) ?_)
  refine WF_fn F_loesslaw24_ManifestAll ?_
  refine WC_seq ?_
  refine WC_region ?_
  refine WO_step rfl (S_box rfl (by cases h <;> rfl) fun i3 => ?_)
  refine WO_step rfl (S_box rfl (by cases h' <;> rfl) fun i4 => ?_)
  refine WO_step rfl (S_pure rfl ?_)
  refine WO_nil ?_
  refine KSeq_n ?_
  refine WC_seq ?_
  refine WC_region ?_
  refine WO_call rfl rfl rfl ?_
  refine sp_begun.mono ?_
  rintro _ _ ⟨rfl, rfl⟩
  refine WO_step rfl (S_pure rfl ?_)
  refine WO_nil ?_
  refine KSeq_n ?_
  refine WC_seq ?_
  refine WC_seq ?_
  refine WC_region ?_
  refine WO_step rfl (S_pure rfl ?_)
  refine WO_step rfl (S_pure rfl ?_)
  refine WO_nil ?_
  refine KSeq_n ?_
  refine WC_cond rfl (fun hb1 => ?_) (fun hb1 => ?_)
  ·
    try simp only [decide_eq_true_eq, decide_eq_false_iff_not, Bool.not_eq_true', Bool.not_eq_false', beq_iff_eq, bne_iff_ne, beq_eq_false_iff_ne, Int.ofNat_lt, Int.ofNat_le, Int.ofNat_inj, ne_eq, gt_iff_lt, ge_iff_le] at hb1
    exact absurd hb1 (by simp)
    --stop
  ·
    try simp only [decide_eq_true_eq, decide_eq_false_iff_not, Bool.not_eq_true', Bool.not_eq_false', beq_iff_eq, bne_iff_ne, beq_eq_false_iff_ne, Int.ofNat_lt, Int.ofNat_le, Int.ofNat_inj, ne_eq, gt_iff_lt, ge_iff_le] at hb1
    refine WC_skip ?_
    refine KSeq_n ?_
    refine WC_seq ?_
    refine WC_seq ?_
    refine WC_region ?_
    refine WO_step rfl (S_pure rfl ?_)
    refine WO_step rfl (S_loadO rfl (by repeat (first | exact Pick.head | apply Pick.tail)) (by rfl) (by rfl) ?_)
    first | refine WO_step rfl (S_pure rfl ?_) | refine WO_step rfl (S_lenS rfl (by repeat (first | assumption | exact RD.head | exact RD.nil | apply RD.tail)) ?_)
    refine WO_step rfl (S_pure rfl ?_)
    refine WO_step rfl (S_pure rfl ?_)
    refine WO_cases (t := 30) rfl (fun hg1 => ?_) (fun hg1 => ?_)
    ·
      try simp only [decide_eq_true_eq, decide_eq_false_iff_not, Bool.not_eq_true', Bool.not_eq_false', beq_iff_eq, bne_iff_ne, beq_eq_false_iff_ne, Int.ofNat_lt, Int.ofNat_le, Int.ofNat_inj, ne_eq, gt_iff_lt, ge_iff_le] at hg1
      refine WO_off rfl ?_
      refine WO_off rfl ?_
      refine WO_off rfl ?_
      refine WO_off rfl ?_
      refine WO_step rfl (S_pure rfl ?_)
      refine WO_nil ?_
      refine KSeq_n ?_
      refine WC_cond rfl (fun _ => ?_) (fun h => ?_)
      rotate_left
      · exact absurd h (by decide)
      refine WC_seq ?_
      refine WC_region ?_
      refine WO_step rfl (S_pure rfl ?_)
      refine WO_nil ?_
      refine KSeq_n ?_
      refine WC_ret ?_
      refine KSeq_r ?_
      refine KFn_r (ResL.tmp rfl ResL.nil) ?_
      exact ⟨_, HSub.refl, rfl⟩
    ·
      try simp only [decide_eq_true_eq, decide_eq_false_iff_not, Bool.not_eq_true', Bool.not_eq_false', beq_iff_eq, bne_iff_ne, beq_eq_false_iff_ne, Int.ofNat_lt, Int.ofNat_le, Int.ofNat_inj, ne_eq, gt_iff_lt, ge_iff_le] at hg1
      refine WO_step rfl (S_pure rfl ?_)
      refine WO_step rfl (S_loadO rfl (by repeat (first | exact Pick.head | apply Pick.tail)) (by rfl) (by rfl) ?_)
      first | refine WO_step rfl (S_pure rfl ?_) | refine WO_step rfl (S_lenS rfl (by repeat (first | assumption | exact RD.head | exact RD.nil | apply RD.tail)) ?_)
      refine WO_step rfl (S_pure rfl ?_)
      refine WO_step rfl (S_pure rfl ?_)
      refine WO_nil ?_
      refine KSeq_n ?_
      refine WC_cond rfl (fun hb2 => ?_) (fun hb2 => ?_)
      ·
        try simp only [decide_eq_true_eq, decide_eq_false_iff_not, Bool.not_eq_true', Bool.not_eq_false', beq_iff_eq, bne_iff_ne, beq_eq_false_iff_ne, Int.ofNat_lt, Int.ofNat_le, Int.ofNat_inj, ne_eq, gt_iff_lt, ge_iff_le] at hb2
        refine WC_seq ?_
        refine WC_region ?_
        refine WO_step rfl (S_pure rfl ?_)
        refine WO_nil ?_
        refine KSeq_n ?_
        refine WC_ret ?_
        refine KSeq_r ?_
        refine KFn_r (ResL.tmp rfl ResL.nil) ?_
        exact ⟨_, HSub.refl, rfl⟩
      ·
        try simp only [decide_eq_true_eq, decide_eq_false_iff_not, Bool.not_eq_true', Bool.not_eq_false', beq_iff_eq, bne_iff_ne, beq_eq_false_iff_ne, Int.ofNat_lt, Int.ofNat_le, Int.ofNat_inj, ne_eq, gt_iff_lt, ge_iff_le] at hb2
        have hx6 : xs.length ≤ 6 := by omega
        have hy6 : ys.length ≤ 6 := by omega
        refine WC_skip ?_
        refine KSeq_n ?_
        refine WC_seq ?_
        refine WC_region ?_
        refine WO_step rfl (S_loadM rfl (by repeat (first | exact Pick.head | apply Pick.tail)) ?_)
        refine WO_call rfl rfl rfl ?_
        refine sp_Of.mono ?_
        rintro _ _ ⟨rfl, rfl⟩
        refine WO_call rfl rfl rfl ?_
        refine (sp_Enc (by repeat (first | assumption | exact RD.head | exact RD.nil | apply RD.tail)) (by omega)).mono ?_
        rintro _ _ ⟨b38, w38, hb38, hw38, rfl, rfl⟩
        refine WO_step rfl (S_pure rfl ?_)
        refine WO_nil ?_
        refine KSeq_n ?_
        refine WC_seq ?_
        refine WC_region ?_
        refine WO_step rfl (S_loadM rfl (by repeat (first | exact Pick.head | apply Pick.tail)) ?_)
        refine WO_call rfl rfl rfl ?_
        refine (sp_MayM (by repeat (first | assumption | exact RD.head | exact RD.nil | apply RD.tail)) (by omega)).mono ?_
        rintro _ _ ⟨rfl, b40, rfl, hb40⟩
        refine WO_step rfl (S_pure rfl ?_)
        refine WO_nil ?_
        refine KSeq_n ?_
        refine WC_seq ?_
        refine WC_seq ?_
        refine WC_drawn ?_
        refine WD_step rfl (S_loadM rfl (by repeat (first | exact Pick.head | apply Pick.tail)) ?_)
        refine WD_call rfl rfl rfl ?_
        refine sp_Of.mono ?_
        rintro _ _ ⟨rfl, rfl⟩
        refine WD_call rfl rfl rfl ?_
        refine (sp_May (by repeat (first | assumption | exact RD.head | exact RD.nil | apply RD.tail)) (by omega)).mono ?_
        rintro _ _ ⟨rfl, b43, rfl, hb43⟩
        refine WD_step rfl (S_pure rfl ?_)
        refine WD_step rfl (S_pure rfl ?_)
        refine WD_step rfl (S_pure rfl ?_)
        refine WD_cases (t := 46) rfl (fun hg2 => ?_) (fun hg2 => ?_)
        ·
          try simp only [decide_eq_true_eq, decide_eq_false_iff_not, Bool.not_eq_true', Bool.not_eq_false', beq_iff_eq, bne_iff_ne, beq_eq_false_iff_ne, Int.ofNat_lt, Int.ofNat_le, Int.ofNat_inj, ne_eq, gt_iff_lt, ge_iff_le] at hg2
          refine WD_off rfl ?_
          refine WD_off rfl ?_
          refine WD_off rfl ?_
          refine WD_off rfl ?_
          refine WD_off rfl ?_
          refine WD_off rfl ?_
          refine WD_step rfl (S_pure rfl ?_)
          refine WD_nil ?_
          refine ⟨?_, ?_⟩
          ·
            refine ⟨?_, trivial⟩ <;> first | exact ObR.off rfl | exact ObR.of_step rfl (S_strOf rfl (by repeat (first | assumption | exact RD.head | exact RD.nil | apply RD.tail)) (by rfl) (by rfl) (by simp [eqV, eqV0])) | exact ObR.of_step rfl (S_loadM rfl (by repeat (first | exact Pick.head | apply Pick.tail)) eqV_mf)
          ·
            refine KSeq_n ?_
            refine WC_cond rfl (fun _ => ?_) (fun h => ?_)
            rotate_left
            · exact absurd h (by decide)
            refine WC_seq ?_
            refine WC_region ?_
            refine WO_step rfl (S_pure rfl ?_)
            refine WO_nil ?_
            refine KSeq_n ?_
            refine WC_ret ?_
            refine KSeq_r ?_
            refine KFn_r (ResL.tmp rfl ResL.nil) ?_
            exfalso
            have e : b43 = b40 := by rw [Bool.eq_iff_iff, hb43, hb40]
            exact absurd e (by simpa using hg2)
        ·
          try simp only [decide_eq_true_eq, decide_eq_false_iff_not, Bool.not_eq_true', Bool.not_eq_false', beq_iff_eq, bne_iff_ne, beq_eq_false_iff_ne, Int.ofNat_lt, Int.ofNat_le, Int.ofNat_inj, ne_eq, gt_iff_lt, ge_iff_le] at hg2
          refine WD_step rfl (S_pure rfl ?_)
          refine WD_step rfl (S_strOf rfl (by repeat (first | assumption | exact RD.head | exact RD.nil | apply RD.tail)) (by rfl) (by rfl) ?_)
          refine WD_step rfl (S_loadM rfl (by repeat (first | exact Pick.head | apply Pick.tail)) ?_)
          refine WD_call rfl rfl rfl ?_
          refine (sp_MBytes (by repeat (first | assumption | exact RD.head | exact RD.nil | apply RD.tail)) (by omega)).mono ?_
          rintro _ _ ⟨b50, w50, hb50, rfl, rfl⟩
          refine WD_step rfl (S_strOf rfl (by repeat (first | assumption | exact RD.head | exact RD.nil | apply RD.tail)) (by rfl) (by rfl) ?_)
          first | refine WD_step rfl (S_neS rfl rfl ?_) | refine WD_step rfl (S_pure rfl ?_)
          refine WD_step rfl (S_pure rfl ?_)
          refine WD_nil ?_
          refine ⟨?_, ?_⟩
          ·
            refine ⟨?_, trivial⟩ <;> first | exact ObR.off rfl | exact ObR.of_step rfl (S_strOf rfl (by repeat (first | assumption | exact RD.head | exact RD.nil | apply RD.tail)) (by rfl) (by rfl) (by simp [eqV, eqV0])) | exact ObR.of_step rfl (S_loadM rfl (by repeat (first | exact Pick.head | apply Pick.tail)) eqV_mf)
          ·
            refine KSeq_n ?_
            refine WC_cond rfl (fun hb3 => ?_) (fun hb3 => ?_)
            ·
              try simp only [decide_eq_true_eq, decide_eq_false_iff_not, Bool.not_eq_true', Bool.not_eq_false', beq_iff_eq, bne_iff_ne, beq_eq_false_iff_ne, Int.ofNat_lt, Int.ofNat_le, Int.ofNat_inj, ne_eq, gt_iff_lt, ge_iff_le] at hb3
              refine WC_seq ?_
              refine WC_region ?_
              refine WO_step rfl (S_pure rfl ?_)
              refine WO_nil ?_
              refine KSeq_n ?_
              refine WC_ret ?_
              refine KSeq_r ?_
              refine KFn_r (ResL.tmp rfl ResL.nil) ?_
              exfalso
              have e : b38 = b50 := by rw [Bool.eq_iff_iff, hb38, hb50]
              rw [e] at hb3
              exact absurd hb3 (by simp)
            ·
              try simp only [decide_eq_true_eq, decide_eq_false_iff_not, Bool.not_eq_true', Bool.not_eq_false', beq_iff_eq, bne_iff_ne, beq_eq_false_iff_ne, Int.ofNat_lt, Int.ofNat_le, Int.ofNat_inj, ne_eq, gt_iff_lt, ge_iff_le] at hb3
              refine WC_skip ?_
              refine KSeq_n ?_
              refine WC_seq ?_
              refine WC_seq ?_
              refine WC_region ?_
              refine WO_step rfl (S_pure rfl ?_)
              refine WO_step rfl (S_pure rfl ?_)
              refine WO_nil ?_
              refine KSeq_n ?_
              refine WC_cond rfl (fun hb4 => ?_) (fun hb4 => ?_)
              ·
                try simp only [decide_eq_true_eq, decide_eq_false_iff_not, Bool.not_eq_true', Bool.not_eq_false', beq_iff_eq, bne_iff_ne, beq_eq_false_iff_ne, Int.ofNat_lt, Int.ofNat_le, Int.ofNat_inj, ne_eq, gt_iff_lt, ge_iff_le] at hb4
                refine WC_seq ?_
                refine WC_region ?_
                refine WO_step rfl (S_pure rfl ?_)
                first | refine WO_step rfl (S_pure rfl ?_) | refine WO_step rfl (S_lenS rfl (by repeat (first | assumption | exact RD.head | exact RD.nil | apply RD.tail)) ?_)
                first | refine WO_step rfl (S_eqS rfl rfl ?_) | refine WO_step rfl (S_pure rfl ?_)
                refine WO_step rfl (S_pure rfl ?_)
                refine WO_nil ?_
                refine KSeq_n ?_
                refine WC_ret ?_
                refine KSeq_r ?_
                refine KFn_r (ResL.tmp rfl ResL.nil) ?_
                have hbf : b40 = false := by simpa using hb4
                have h38 : b38 = false := by
                  cases hq : b38 with
                  | false => rfl
                  | true => rw [hb40.2 (hb38.1 hq)] at hbf; cases hbf
                refine ⟨_, HSub.refl, ?_⟩
                simp [resV, h38]
              ·
                try simp only [decide_eq_true_eq, decide_eq_false_iff_not, Bool.not_eq_true', Bool.not_eq_false', beq_iff_eq, bne_iff_ne, beq_eq_false_iff_ne, Int.ofNat_lt, Int.ofNat_le, Int.ofNat_inj, ne_eq, gt_iff_lt, ge_iff_le] at hb4
                have hbt : b40 = true := by simpa using hb4
                have hM : MayP n f s xs := hb40.1 hbt
                obtain ⟨kf, ks, kx, knd, kl⟩ := may_ok hM
                have h38 : b38 = true := hb38.2 hM
                have hEl : (encM n f s xs).length ≤ 1000 := by
                  have := puts_len (nums_range hM)
                  have e : (numsM n f s xs).length = 4 + xs.length := by unfold numsM; simp; omega
                  unfold encM; omega
                rw [if_pos h38]
                refine WC_skip ?_
                refine KSeq_n ?_
                refine WC_seq ?_
                refine WC_region ?_
                refine WO_step rfl (S_pure rfl ?_)
                refine WO_call rfl rfl rfl ?_
                refine (sp_Dec (bs := encM n f s xs) (by repeat (first | assumption | exact RD.head | exact RD.nil | apply RD.tail)) (by omega)).mono ?_
                rintro _ _ ⟨n2, f2, s2, h2, xs2, wL, lL, e2, rfl, rfl, hrd2, hD2⟩
                rcases hD2 with ⟨rfl, hM2, hbs⟩ | ⟨_, _, _, _, _, hno⟩
                rotate_left
                · exact absurd rfl (hno n f s xs hM)
                obtain ⟨rfl, rfl, rfl, rfl⟩ := (encM_inj hM hM2).1 hbs
                refine WO_step rfl (S_pure rfl ?_)
                refine WO_step rfl (S_pure rfl ?_)
                refine WO_step rfl (S_pure rfl ?_)
                refine WO_step rfl (S_new fun i10 => ?_)
                refine WO_step rfl (S_storeM rfl rfl (by repeat (first | exact Pick.head | apply Pick.tail)) (by rfl) ?_)
                refine WO_step rfl (S_pure rfl ?_)
                refine WO_nil ?_
                refine KSeq_n ?_
                refine WC_seq ?_
                refine WC_post (P := fun x' l' H' => x' = .normal ∧ l' = [(2, v2), (3, .pointer (some ⟨i3, 0, none⟩))] ∧ H' = MO i3 24 n f s h :: SL (SV.toV .nil) TS [] :: SL (SV.toV .nil) TS [] :: H) ?_ ?_
                ·
                  refine WC_seq ?_
                  refine WC_drawn ?_
                  refine WD_step rfl (S_pure rfl ?_)
                  first | refine WD_step rfl (S_neS rfl rfl ?_) | refine WD_step rfl (S_pure rfl ?_)
                  refine WD_step rfl (S_pure rfl ?_)
                  refine WD_cases (t := 66) rfl (fun hg3 => ?_) (fun hg3 => ?_)
                  ·
                    try simp only [decide_eq_true_eq, decide_eq_false_iff_not, Bool.not_eq_true', Bool.not_eq_false', beq_iff_eq, bne_iff_ne, beq_eq_false_iff_ne, Int.ofNat_lt, Int.ofNat_le, Int.ofNat_inj, ne_eq, gt_iff_lt, ge_iff_le] at hg3
                    refine WD_off rfl ?_
                    refine WD_off rfl ?_
                    refine WD_off rfl ?_
                    refine WD_off rfl ?_
                    refine WD_off rfl ?_
                    refine WD_step rfl (S_pure rfl ?_)
                    refine WD_step rfl (S_pure rfl ?_)
                    refine WD_off rfl ?_
                    refine WD_off rfl ?_
                    refine WD_off rfl ?_
                    refine WD_off rfl ?_
                    refine WD_off rfl ?_
                    refine WD_off rfl ?_
                    refine WD_off rfl ?_
                    refine WD_off rfl ?_
                    refine WD_off rfl ?_
                    refine WD_off rfl ?_
                    refine WD_off rfl ?_
                    refine WD_off rfl ?_
                    refine WD_off rfl ?_
                    refine WD_off rfl ?_
                    refine WD_off rfl ?_
                    refine WD_step rfl (S_pure rfl ?_)
                    refine WD_nil ?_
                    refine ⟨?_, ?_⟩
                    ·
                      refine ⟨?_, ?_, ?_, ?_, ?_, ?_, ?_, ?_, ?_, trivial⟩ <;> first | exact ObR.off rfl | exact ObR.of_step rfl (S_strOf rfl (by repeat (first | assumption | exact RD.head | exact RD.nil | apply RD.tail)) (by rfl) (by rfl) (by simp [eqV, eqV0])) | exact ObR.of_step rfl (S_loadM rfl (by repeat (first | exact Pick.head | apply Pick.tail)) eqV_mf)
                    ·
                      refine KSeq_n ?_
                      refine WC_cond rfl (fun _ => ?_) (fun h => ?_)
                      rotate_left
                      · exact absurd h (by decide)
                      refine WC_seq ?_
                      refine WC_region ?_
                      refine WO_step rfl (S_pure rfl ?_)
                      refine WO_nil ?_
                      refine KSeq_n ?_
                      refine WC_ret ?_
                      exact absurd hg3 (by simp)
                  ·
                    try simp only [decide_eq_true_eq, decide_eq_false_iff_not, Bool.not_eq_true', Bool.not_eq_false', beq_iff_eq, bne_iff_ne, beq_eq_false_iff_ne, Int.ofNat_lt, Int.ofNat_le, Int.ofNat_inj, ne_eq, gt_iff_lt, ge_iff_le] at hg3
                    refine WD_step rfl (S_loadM rfl (by repeat (first | exact Pick.head | apply Pick.tail)) ?_)
                    refine WD_call rfl rfl rfl ?_
                    refine sp_BackM.mono ?_
                    rintro _ _ ⟨rfl, rfl⟩
                    refine WD_step rfl (S_loadM rfl (by repeat (first | exact Pick.head | apply Pick.tail)) ?_)
                    refine WD_call rfl rfl rfl ?_
                    refine (sp_eqM (by repeat (first | assumption | exact RD.head | exact RD.nil | apply RD.tail)) (by repeat (first | assumption | exact RD.head | exact RD.nil | apply RD.tail)) (by omega)).mono ?_
                    rintro _ _ ⟨rfl, b70, rfl, hb70⟩
                    refine WD_step rfl (S_pure rfl ?_)
                    refine WD_step rfl (S_pure rfl ?_)
                    refine WD_step rfl (S_pure rfl ?_)
                    refine WD_cases (t := 73) rfl (fun hg4 => ?_) (fun hg4 => ?_)
                    ·
                      try simp only [decide_eq_true_eq, decide_eq_false_iff_not, Bool.not_eq_true', Bool.not_eq_false', beq_iff_eq, bne_iff_ne, beq_eq_false_iff_ne, Int.ofNat_lt, Int.ofNat_le, Int.ofNat_inj, ne_eq, gt_iff_lt, ge_iff_le] at hg4
                      refine WD_off rfl ?_
                      refine WD_off rfl ?_
                      refine WD_off rfl ?_
                      refine WD_off rfl ?_
                      refine WD_off rfl ?_
                      refine WD_off rfl ?_
                      refine WD_off rfl ?_
                      refine WD_off rfl ?_
                      refine WD_off rfl ?_
                      refine WD_off rfl ?_
                      refine WD_off rfl ?_
                      refine WD_off rfl ?_
                      refine WD_off rfl ?_
                      refine WD_off rfl ?_
                      refine WD_off rfl ?_
                      refine WD_step rfl (S_pure rfl ?_)
                      refine WD_nil ?_
                      refine ⟨?_, ?_⟩
                      ·
                        refine ⟨?_, ?_, ?_, ?_, ?_, ?_, ?_, ?_, ?_, trivial⟩ <;> first | exact ObR.off rfl | exact ObR.of_step rfl (S_strOf rfl (by repeat (first | assumption | exact RD.head | exact RD.nil | apply RD.tail)) (by rfl) (by rfl) (by simp [eqV, eqV0])) | exact ObR.of_step rfl (S_loadM rfl (by repeat (first | exact Pick.head | apply Pick.tail)) eqV_mf)
                      ·
                        refine KSeq_n ?_
                        refine WC_cond rfl (fun _ => ?_) (fun h => ?_)
                        rotate_left
                        · exact absurd h (by decide)
                        refine WC_seq ?_
                        refine WC_region ?_
                        refine WO_step rfl (S_pure rfl ?_)
                        refine WO_nil ?_
                        refine KSeq_n ?_
                        refine WC_ret ?_
                        exfalso
                        have h70 : b70 = true := hb70.2 ⟨rfl, rfl, rfl, rfl⟩
                        rw [h70] at hg4
                        exact absurd hg4 (by simp)
                    ·
                      try simp only [decide_eq_true_eq, decide_eq_false_iff_not, Bool.not_eq_true', Bool.not_eq_false', beq_iff_eq, bne_iff_ne, beq_eq_false_iff_ne, Int.ofNat_lt, Int.ofNat_le, Int.ofNat_inj, ne_eq, gt_iff_lt, ge_iff_le] at hg4
                      refine WD_step rfl (S_loadM rfl (by repeat (first | exact Pick.head | apply Pick.tail)) ?_)
                      refine WD_call rfl rfl rfl ?_
                      refine (sp_MayM (by repeat (first | assumption | exact RD.head | exact RD.nil | apply RD.tail)) (by omega)).mono ?_
                      rintro _ _ ⟨rfl, b75, rfl, hb75⟩
                      refine WD_step rfl (S_pure rfl ?_)
                      refine WD_cases (t := 76) rfl (fun hg5 => ?_) (fun hg5 => ?_)
                      ·
                        try simp only [decide_eq_true_eq, decide_eq_false_iff_not, Bool.not_eq_true', Bool.not_eq_false', beq_iff_eq, bne_iff_ne, beq_eq_false_iff_ne, Int.ofNat_lt, Int.ofNat_le, Int.ofNat_inj, ne_eq, gt_iff_lt, ge_iff_le] at hg5
                        refine WD_step rfl (S_loadM rfl (by repeat (first | exact Pick.head | apply Pick.tail)) ?_)
                        refine WD_call rfl rfl rfl ?_
                        refine sp_Of.mono ?_
                        rintro _ _ ⟨rfl, rfl⟩
                        refine WD_call rfl rfl rfl ?_
                        refine (sp_Enc (by repeat (first | assumption | exact RD.head | exact RD.nil | apply RD.tail)) (by omega)).mono ?_
                        rintro _ _ ⟨b79, w79, hb79, hw79, rfl, rfl⟩
                        refine WD_step rfl (S_strOf rfl (by repeat (first | assumption | exact RD.head | exact RD.nil | apply RD.tail)) (by rfl) (by rfl) ?_)
                        refine WD_step rfl (S_pure rfl ?_)
                        refine WD_step rfl (S_strOf rfl (by repeat (first | assumption | exact RD.head | exact RD.nil | apply RD.tail)) (by rfl) (by rfl) ?_)
                        first | refine WD_step rfl (S_eqS rfl rfl ?_) | refine WD_step rfl (S_pure rfl ?_)
                        refine WD_step rfl (S_loadM rfl (by repeat (first | exact Pick.head | apply Pick.tail)) ?_)
                        refine WD_step rfl (S_loadM rfl (by repeat (first | exact Pick.head | apply Pick.tail)) ?_)
                        refine WD_call rfl rfl rfl ?_
                        refine (sp_eqM (by repeat (first | assumption | exact RD.head | exact RD.nil | apply RD.tail)) (by repeat (first | assumption | exact RD.head | exact RD.nil | apply RD.tail)) (by omega)).mono ?_
                        rintro _ _ ⟨rfl, b86, rfl, hb86⟩
                        refine WD_step rfl (S_pure rfl ?_)
                        refine WD_step rfl (S_pure rfl ?_)
                        refine WD_step rfl (S_pure rfl ?_)
                        refine WD_nil ?_
                        refine ⟨?_, ?_⟩
                        ·
                          refine ⟨?_, ?_, ?_, ?_, ?_, ?_, ?_, ?_, ?_, trivial⟩ <;> first | exact ObR.off rfl | exact ObR.of_step rfl (S_strOf rfl (by repeat (first | assumption | exact RD.head | exact RD.nil | apply RD.tail)) (by rfl) (by rfl) (by simp [eqV, eqV0])) | exact ObR.of_step rfl (S_loadM rfl (by repeat (first | exact Pick.head | apply Pick.tail)) eqV_mf)
                        ·
                          refine KSeq_n ?_
                          refine WC_cond rfl (fun hb5 => ?_) (fun hb5 => ?_)
                          ·
                            try simp only [decide_eq_true_eq, decide_eq_false_iff_not, Bool.not_eq_true', Bool.not_eq_false', beq_iff_eq, bne_iff_ne, beq_eq_false_iff_ne, Int.ofNat_lt, Int.ofNat_le, Int.ofNat_inj, ne_eq, gt_iff_lt, ge_iff_le] at hb5
                            refine WC_seq ?_
                            refine WC_region ?_
                            refine WO_step rfl (S_pure rfl ?_)
                            refine WO_nil ?_
                            refine KSeq_n ?_
                            refine WC_ret ?_
                            exfalso
                            have h75 : b75 = true := hg5
                            have hM3 : MayP n' f' s' ys := hb75.1 h75
                            have h79 : b79 = true := hb79.2 hM3
                            have e : b86 = decide (n' = n ∧ f' = f ∧ s' = s ∧ ys = xs) := by
                              rw [Bool.eq_iff_iff, hb86, decide_eq_true_eq]
                              exact ⟨fun ⟨a, b, c, d⟩ => ⟨a.symm, b.symm, c.symm, d.symm⟩, fun ⟨a, b, c, d⟩ => ⟨a.symm, b.symm, c.symm, d.symm⟩⟩
                            revert hb5
                            rw [h79]
                            simp only [if_true]
                            rw [encM_bytes hM3 hM, e]
                            simp
                          ·
                            try simp only [decide_eq_true_eq, decide_eq_false_iff_not, Bool.not_eq_true', Bool.not_eq_false', beq_iff_eq, bne_iff_ne, beq_eq_false_iff_ne, Int.ofNat_lt, Int.ofNat_le, Int.ofNat_inj, ne_eq, gt_iff_lt, ge_iff_le] at hb5
                            refine WC_skip ?_
                            exact KPost_i (by repeat (first | exact SubE.nil | apply SubE.cons rfl)) (by repeat (first | exact HSub.refl | refine HSub.pick (by repeat (first | exact Pick.head | apply Pick.tail)) ?_ | apply HSub.drop)) ⟨rfl, rfl, rfl⟩
                      ·
                        try simp only [decide_eq_true_eq, decide_eq_false_iff_not, Bool.not_eq_true', Bool.not_eq_false', beq_iff_eq, bne_iff_ne, beq_eq_false_iff_ne, Int.ofNat_lt, Int.ofNat_le, Int.ofNat_inj, ne_eq, gt_iff_lt, ge_iff_le] at hg5
                        refine WD_off rfl ?_
                        refine WD_off rfl ?_
                        refine WD_off rfl ?_
                        refine WD_off rfl ?_
                        refine WD_off rfl ?_
                        refine WD_off rfl ?_
                        refine WD_off rfl ?_
                        refine WD_off rfl ?_
                        refine WD_off rfl ?_
                        refine WD_off rfl ?_
                        refine WD_off rfl ?_
                        refine WD_step rfl (S_pure rfl ?_)
                        refine WD_step rfl (S_pure rfl ?_)
                        refine WD_nil ?_
                        refine ⟨?_, ?_⟩
                        ·
                          refine ⟨?_, ?_, ?_, ?_, ?_, ?_, ?_, ?_, ?_, trivial⟩ <;> first | exact ObR.off rfl | exact ObR.of_step rfl (S_strOf rfl (by repeat (first | assumption | exact RD.head | exact RD.nil | apply RD.tail)) (by rfl) (by rfl) (by simp [eqV, eqV0])) | exact ObR.of_step rfl (S_loadM rfl (by repeat (first | exact Pick.head | apply Pick.tail)) eqV_mf)
                        ·
                          refine KSeq_n ?_
                          refine WC_cond rfl (fun h => ?_) (fun _ => ?_)
                          · exact absurd h (by decide)
                          refine WC_skip ?_
                          exact KPost_i (by repeat (first | exact SubE.nil | apply SubE.cons rfl)) (by repeat (first | exact HSub.refl | refine HSub.pick (by repeat (first | exact Pick.head | apply Pick.tail)) ?_ | apply HSub.drop)) ⟨rfl, rfl, rfl⟩
                ·
                  rintro x' l' _ ⟨rfl, rfl, rfl⟩
                  refine KSeq_n ?_
                  refine WC_seq ?_
                  refine WC_drawn ?_
                  refine WD_step rfl (S_loadM rfl (by repeat (first | exact Pick.head | apply Pick.tail)) ?_)
                  refine WD_call rfl rfl rfl ?_
                  refine sp_Of.mono ?_
                  rintro _ _ ⟨rfl, rfl⟩
                  refine WD_call rfl rfl rfl ?_
                  refine (sp_Names (xs := xs) (by repeat (first | assumption | exact RD.head | exact RD.nil | apply RD.tail)) kf ks kx (by omega)).mono ?_
                  rintro _ _ ⟨w92, L1, rfl, rfl, ho1, hp1⟩
                  refine WD_step rfl (S_loadM rfl (by repeat (first | exact Pick.head | apply Pick.tail)) ?_)
                  refine WD_call rfl rfl rfl ?_
                  refine (sp_names (xs := xs) (by repeat (first | assumption | exact RD.head | exact RD.nil | apply RD.tail)) kf ks kx (by omega)).mono ?_
                  rintro _ _ ⟨w94, L2, rfl, rfl, ho2, hp2⟩
                  obtain rfl : L1 = L2 := ssor_perm ho1 ho2 (hp1.trans hp2.symm)
                  have hLL : L1.length ≤ 10 := by rw [hp1.length_eq]; have := names3_len f s xs; omega
                  refine WD_step rfl (S_pure rfl ?_)
                  refine WD_step rfl (S_pure rfl ?_)
                  refine WD_nil ?_
                  refine ⟨?_, ?_⟩
                  ·
                    exact ⟨ObR.of_step rfl (S_loadM rfl (by repeat (first | exact Pick.head | apply Pick.tail)) eqV_mf), ObR.of_step rfl (S_loadM rfl (by repeat (first | exact Pick.head | apply Pick.tail)) eqV_mf), trivial⟩
                  ·
                    refine KSeq_n ?_
                    refine WC_seq ?_
                    refine WC_seq ?_
                    refine WC_region ?_
                    refine WO_step rfl (S_pure rfl ?_)
                    first | refine WO_step rfl (S_pure rfl ?_) | refine WO_step rfl (S_lenS rfl (by repeat (first | assumption | exact RD.head | exact RD.nil | apply RD.tail)) ?_)
                    refine WO_step rfl (S_pure rfl ?_)
                    first | refine WO_step rfl (S_pure rfl ?_) | refine WO_step rfl (S_lenS rfl (by repeat (first | assumption | exact RD.head | exact RD.nil | apply RD.tail)) ?_)
                    first | refine WO_step rfl (S_neS rfl rfl ?_) | refine WO_step rfl (S_pure rfl ?_)
                    refine WO_nil ?_
                    refine KSeq_n ?_
                    refine WC_cond rfl (fun hb6 => ?_) (fun hb6 => ?_)
                    ·
                      try simp only [decide_eq_true_eq, decide_eq_false_iff_not, Bool.not_eq_true', Bool.not_eq_false', beq_iff_eq, bne_iff_ne, beq_eq_false_iff_ne, Int.ofNat_lt, Int.ofNat_le, Int.ofNat_inj, ne_eq, gt_iff_lt, ge_iff_le] at hb6
                      refine WC_seq ?_
                      refine WC_region ?_
                      refine WO_step rfl (S_pure rfl ?_)
                      refine WO_nil ?_
                      refine KSeq_n ?_
                      refine WC_ret ?_
                      refine KSeq_r ?_
                      refine KFn_r (ResL.tmp rfl ResL.nil) ?_
                      exact absurd hb6 (by simp)
                    ·
                      try simp only [decide_eq_true_eq, decide_eq_false_iff_not, Bool.not_eq_true', Bool.not_eq_false', beq_iff_eq, bne_iff_ne, beq_eq_false_iff_ne, Int.ofNat_lt, Int.ofNat_le, Int.ofNat_inj, ne_eq, gt_iff_lt, ge_iff_le] at hb6
                      refine WC_skip ?_
                      refine KSeq_n ?_
                      refine WC_seq ?_
                      refine WC_seq ?_
                      refine WC_region ?_
                      refine WO_step rfl (S_pure rfl ?_)
                      refine WO_nil ?_
                      refine KSeq_n ?_
                      refine WC_block ?_
                      --out x0
                      refine WC_post (WC_weak (lp_MA0 (H := SL w94.toV TS L1 :: SL w92.toV TS L1 :: MO i3 24 n f s h :: SL (SV.toV .nil) TS [] :: SL (SV.toV .nil) TS [] :: H) (v12 := w92.toV) (v13 := w94.toV) (v2 := v2) (v3 := .pointer (some ⟨i3, 0, none⟩)) (L := L1) (by repeat (first | assumption | exact RD.head | exact RD.nil | apply RD.tail)) (by repeat (first | assumption | exact RD.head | exact RD.nil | apply RD.tail)) (by omega) L1.length 0 (by omega) (by omega)) (by repeat (first | exact SubE.nil | apply SubE.cons rfl)) (by repeat (first | exact HSub.refl | refine HSub.pick (by repeat (first | exact Pick.head | apply Pick.tail)) ?_ | apply HSub.drop))) ?_
                      rintro x' l' _ ⟨rfl, rfl, rfl⟩
                      refine KBlock_h ?_
                      refine KSeq_n ?_
                      refine WC_seq ?_
                      refine WC_region ?_
                      refine WO_step rfl (S_pure rfl ?_)
                      refine WO_step rfl (S_pure rfl ?_)
                      refine WO_nil ?_
                      refine KSeq_n ?_
                      refine WC_seq ?_
                      refine WC_seq ?_
                      refine WC_region ?_
                      refine WO_step rfl (S_pure rfl ?_)
                      refine WO_nil ?_
                      refine KSeq_n ?_
                      refine WC_block ?_
                      --out x2
                      refine WC_post (WC_weak (lp_MA1 (H := SL w94.toV TS L1 :: MO i3 24 n f s h :: H) (v13 := w94.toV) (v2 := v2) (v3 := .pointer (some ⟨i3, 0, none⟩)) (L := L1) (fs := fs) (by repeat (first | assumption | exact RD.head | exact RD.nil | apply RD.tail)) (by repeat (first | assumption | exact RD.head | exact RD.nil | apply RD.tail)) (by omega) 20 0 .nil .nil (by omega) (by omega) (by omega)) (by repeat (first | exact SubE.nil | apply SubE.cons rfl)) (by repeat (first | exact HSub.refl | refine HSub.pick (by repeat (first | exact Pick.head | apply Pick.tail)) ?_ | apply HSub.drop))) ?_
                      rintro x' l' _ ⟨w15, w16, rfl, rfl, rfl⟩
                      have hf20 : (fs.take 20).length ≤ 20 := by rw [List.length_take]; omega
                      have hcl := cutL_len (fs.take 20)
                      have hwl := wantL_len L1 (fs.take 20)
                      have hCW : wantL L1 (fs.take 20) = (cutL (fs.take 20)).filter (fun y => !inB L1 y) := rfl
                      generalize cutL (fs.take 20) = C at *
                      generalize wantL L1 (fs.take 20) = Wn at *
                      refine KBlock_h ?_
                      refine KSeq_n ?_
                      refine WC_seq ?_
                      refine WC_region ?_
                      refine WO_step rfl (S_loadM rfl (by repeat (first | exact Pick.head | apply Pick.tail)) ?_)
                      refine WO_call rfl rfl rfl ?_
                      refine sp_Of.mono ?_
                      rintro _ _ ⟨rfl, rfl⟩
                      refine WO_step rfl (S_pure rfl ?_)
                      refine WO_call rfl rfl rfl ?_
                      refine (sp_Orph (xs := xs) (fs := C) (by repeat (first | assumption | exact RD.head | exact RD.nil | apply RD.tail)) (by repeat (first | assumption | exact RD.head | exact RD.nil | apply RD.tail)) (by omega) kf ks kx (by omega)).mono ?_
                      rintro _ _ ⟨w158, own, rfl, rfl, ho⟩
                      have hfe : C.filter (fun y => !inB own y) = Wn := by
                        rw [hCW]
                        exact List.filter_congr fun y _ => by rw [inB_perm (ho.trans hp1.symm)]
                      rw [hfe]
                      refine WO_step rfl (S_pure rfl ?_)
                      refine WO_nil ?_
                      refine KSeq_n ?_
                      refine WC_seq ?_
                      refine WC_seq ?_
                      refine WC_region ?_
                      refine WO_step rfl (S_pure rfl ?_)
                      first | refine WO_step rfl (S_pure rfl ?_) | refine WO_step rfl (S_lenS rfl (by repeat (first | assumption | exact RD.head | exact RD.nil | apply RD.tail)) ?_)
                      refine WO_step rfl (S_pure rfl ?_)
                      first | refine WO_step rfl (S_pure rfl ?_) | refine WO_step rfl (S_lenS rfl (by repeat (first | assumption | exact RD.head | exact RD.nil | apply RD.tail)) ?_)
                      first | refine WO_step rfl (S_neS rfl rfl ?_) | refine WO_step rfl (S_pure rfl ?_)
                      refine WO_nil ?_
                      refine KSeq_n ?_
                      refine WC_cond rfl (fun hb7 => ?_) (fun hb7 => ?_)
                      ·
                        try simp only [decide_eq_true_eq, decide_eq_false_iff_not, Bool.not_eq_true', Bool.not_eq_false', beq_iff_eq, bne_iff_ne, beq_eq_false_iff_ne, Int.ofNat_lt, Int.ofNat_le, Int.ofNat_inj, ne_eq, gt_iff_lt, ge_iff_le] at hb7
                        refine WC_seq ?_
                        refine WC_region ?_
                        refine WO_step rfl (S_pure rfl ?_)
                        refine WO_nil ?_
                        refine KSeq_n ?_
                        refine WC_ret ?_
                        refine KSeq_r ?_
                        refine KFn_r (ResL.tmp rfl ResL.nil) ?_
                        exact absurd hb7 (by simp)
                      ·
                        try simp only [decide_eq_true_eq, decide_eq_false_iff_not, Bool.not_eq_true', Bool.not_eq_false', beq_iff_eq, bne_iff_ne, beq_eq_false_iff_ne, Int.ofNat_lt, Int.ofNat_le, Int.ofNat_inj, ne_eq, gt_iff_lt, ge_iff_le] at hb7
                        refine WC_skip ?_
                        refine KSeq_n ?_
                        refine WC_seq ?_
                        refine WC_seq ?_
                        refine WC_region ?_
                        refine WO_step rfl (S_pure rfl ?_)
                        refine WO_nil ?_
                        refine KSeq_n ?_
                        refine WC_block ?_
                        --out x6
                        refine WC_post (WC_weak (lp_MA3 (H := SL w158.toV TS (Wn) :: SL w15.toV TS (C) :: SL w16.toV TS (Wn) :: H) (v21 := w158.toV) (v16 := w16.toV) (L := Wn) (by repeat (first | assumption | exact RD.head | exact RD.nil | apply RD.tail)) (by repeat (first | assumption | exact RD.head | exact RD.nil | apply RD.tail)) (by omega) Wn.length 0 (by omega) (by omega)) (by repeat (first | exact SubE.nil | apply SubE.cons rfl)) (by repeat (first | exact HSub.refl | refine HSub.pick (by repeat (first | exact Pick.head | apply Pick.tail)) ?_ | apply HSub.drop))) ?_
                        rintro x' l' _ ⟨rfl, rfl, rfl⟩
                        refine KBlock_h ?_
                        refine KSeq_n ?_
                        refine WC_seq ?_
                        refine WC_region ?_
                        refine WO_step rfl (S_pure rfl ?_)
                        refine WO_nil ?_
                        refine KSeq_n ?_
                        refine WC_ret ?_
                        refine KFn_r (ResL.tmp rfl ResL.nil) ?_
                        exact ⟨_, HSub.refl, rfl⟩
end Go.Proofs.YtmibhdoegcgfmaaDoor.AM
