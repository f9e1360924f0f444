/- Walks: what the functions compute. -/
import Derived.Test.YtdpiggphcohmmaaM10
import Derived.Test.YtdpiggphcohmmaaM6
namespace Go.Proofs.Ytdpiggphcohmmaa.AM
open Go
set_option linter.unusedSimpArgs false
set_option linter.unusedVariables false
set_option maxRecDepth 4000

/-! ### The order of keys -/
theorem bl_irrefl : ∀ a : List UInt8, Op.bytesLess a a = false
  | [] => rfl
  | x :: a => by simp [Op.bytesLess, bl_irrefl a]
theorem bl_tri : ∀ a b : List UInt8, Op.bytesLess a b = true ∨ a = b ∨ Op.bytesLess b a = true
  | [], [] => .inr (.inl rfl)
  | [], y :: b => .inl rfl
  | x :: a, [] => .inr (.inr rfl)
  | x :: a, y :: b => by
    have ih := bl_tri a b
    simp only [Op.bytesLess, Bool.or_eq_true, Bool.and_eq_true, decide_eq_true_eq, beq_iff_eq, List.cons.injEq]
    rcases UInt8.lt_or_lt_of_ne (a := x) (b := y) |> fun f => (Classical.em (x = y)).elim (fun e => Or.inl e) (fun e => Or.inr (f e)) with e | e | e
    · subst e; rcases ih with h | h | h
      · exact .inl (.inr ⟨rfl, h⟩)
      · exact .inr (.inl ⟨rfl, h⟩)
      · exact .inr (.inr (.inr ⟨rfl, h⟩))
    · exact .inl (.inl e)
    · exact .inr (.inr (.inl e))
theorem bl_trans : ∀ a b c : List UInt8, Op.bytesLess a b = true → Op.bytesLess b c = true → Op.bytesLess a c = true
  | [], [], _, h, _ => by cases h
  | [], y :: b, [], _, h => by cases h
  | [], y :: b, z :: c, _, _ => rfl
  | x :: a, [], _, h, _ => by cases h
  | x :: a, y :: b, [], _, h => by cases h
  | x :: a, y :: b, z :: c, h1, h2 => by
    simp only [Op.bytesLess, Bool.or_eq_true, Bool.and_eq_true, decide_eq_true_eq, beq_iff_eq] at h1 h2 ⊢
    rcases h1 with h1 | ⟨rfl, h1⟩
    · rcases h2 with h2 | ⟨rfl, h2⟩
      · exact .inl (UInt8.lt_trans h1 h2)
      · exact .inl h1
    · rcases h2 with h2 | ⟨rfl, h2⟩
      · exact .inl h2
      · exact .inr ⟨rfl, bl_trans a b c h1 h2⟩
theorem lessK_irrefl (a : ByteArray) : lessK a a = false := by simp [lessK, sLt, bl_irrefl]
theorem lessK_tri (a b : ByteArray) : lessK a b = true ∨ a = b ∨ lessK b a = true := by
  unfold lessK sLt
  by_cases h : hashOf a < hashOf b
  · left; simp [h]
  · by_cases h2 : hashOf b < hashOf a
    · right; right; simp [h2]
    · have e : hashOf a = hashOf b := by omega
      rcases bl_tri a.toList b.toList with h3 | h3 | h3
      · left; simp [e, h3]
      · right; left; rw [toList_data, toList_data] at h3; exact ba_ext h3
      · right; right; simp [e, h3]
theorem lessK_trans {a b c : ByteArray} (h1 : lessK a b = true) (h2 : lessK b c = true) : lessK a c = true := by
  unfold lessK sLt at *
  simp only [Bool.or_eq_true, Bool.and_eq_true, decide_eq_true_eq] at *
  rcases h1 with h1 | ⟨e1, h1⟩ <;> rcases h2 with h2 | ⟨e2, h2⟩
  · left; omega
  · left; omega
  · left; omega
  · right; exact ⟨by omega, bl_trans _ _ _ h1 h2⟩
theorem lessK_asymm {a b : ByteArray} (h : lessK a b = true) : lessK b a = false := by
  cases hc : lessK b a with
  | false => rfl
  | true => have := lessK_trans h hc; rw [lessK_irrefl] at this; cases this
def ltR (a b : Rec) : Bool := lessK a.key b.key
theorem leK_trans {a b c : ByteArray} (h1 : lessK b a = false) (h2 : lessK c b = false) : lessK c a = false := by
  cases hc : lessK c a with
  | false => rfl
  | true =>
    rcases lessK_tri a b with h | h | h
    · rw [lessK_trans hc h] at h2; cases h2
    · subst h; rw [hc] at h2; cases h2
    · rw [h] at h1; cases h1
/-! ### Records with short keys -/
abbrev SRec := {r : Rec // r.key.size ≤ 20}
def TB : Ty SRec := ⟨5, 32, 56, true, fun r => TRec.enc r.1, fun r => TRec.val r.1, fun r => TRec.len r.1, fun r => TRec.ones r.1, fun r => TRec.hcells r.1, fun r => TRec.hmk r.1⟩
theorem TB_cells (xs : List SRec) : TB.cells xs = TRec.cells (xs.map (·.1)) := by
  induction xs with
  | nil => rfl
  | cons x xs ih => rw [Ty.cells, List.flatMap_cons, ← Ty.cells, ih]; rfl
theorem SL_TB {s : Value} (xs : List SRec) : SL s TB xs = SL s TRec (xs.map (·.1)) := by
  unfold SL; rw [TB_cells, List.length_map]; rfl
def short (l : List Rec) : Prop := ∀ x ∈ l, x.key.size ≤ 20
theorem short_sub {l : List Rec} (h : short l) : ∃ ys : List SRec, ys.map (·.1) = l := by
  induction l with
  | nil => exact ⟨[], rfl⟩
  | cons x l ih =>
    obtain ⟨ys, h1⟩ := ih (fun y hy => h y (List.mem_cons_of_mem _ hy))
    exact ⟨⟨x, h x (List.mem_cons_self ..)⟩ :: ys, by simp [h1]⟩
abbrev ltB (a b : SRec) : Bool := ltR a.1 b.1
theorem O_R : Ord0 (leOf ltR) := ⟨fun a b => by
    simp only [leOf, ltR]
    cases h : lessK b.key a.key with
    | false => exact .inl rfl
    | true => rw [lessK_asymm h]; exact .inr rfl, fun a b c h1 h2 => by
    simp only [leOf, ltR, Bool.not_eq_true'] at *
    exact leK_trans h1 h2⟩
theorem O_B : Ord0 (leOf ltB) := ⟨fun a b => O_R.tot a.1 b.1, fun a b c => O_R.trans a.1 b.1 c.1⟩
theorem ins_map (x : SRec) : ∀ l : List SRec, (ins (leOf ltB) x l).map (·.1) = ins (leOf ltR) x.1 (l.map (·.1))
  | [] => rfl
  | y :: l => by
    simp only [ins, List.map_cons]
    by_cases h : leOf ltB x y = true
    · have h' : leOf ltR x.1 y.1 = true := h
      simp [h, h']
    · have h' : ¬ leOf ltR x.1 y.1 = true := h
      simp [h, h', ins_map x l]
theorem isort_map : ∀ l : List SRec, (isort (leOf ltB) l).map (·.1) = isort (leOf ltR) (l.map (·.1))
  | [] => rfl
  | x :: l => by show (ins (leOf ltB) x (isort (leOf ltB) l)).map (·.1) = _; rw [ins_map, isort_map l]; rfl
theorem sp_Sort1 {H : SH} {a b : Rec} (ha : a.key.size ≤ 20) (hb : b.key.size ≤ 20) : WF F X f_merge_Sort_1 [TRec.val a, TRec.val b] H (fun r H' => H' = H ∧ ∃ n : Int, r = .int .i64 n ∧ (n < 0 ↔ ltR a b = true)) := by
  refine WF_fn F_merge_Sort_1 ?_
  refine WC_seq ?_
  refine WC_region ?_
  refine WO_step rfl (S_box rfl rfl fun i2 => ?_)
  refine WO_step rfl (S_box rfl rfl fun i3 => ?_)
  refine WO_step rfl (S_pure rfl ?_)
  refine WO_nil ?_
  refine KSeq_n ?_
  refine WC_seq ?_
  refine WC_block ?_
  refine WC_seq ?_
  refine WC_region ?_
  refine WO_step rfl (S_pure rfl ?_)
  refine WO_step rfl (S_loadO rfl (by repeat (first | exact Pick.head | apply Pick.tail)) (by rfl) (by rfl) ?_)
  refine WO_step rfl (S_pure rfl ?_)
  refine WO_step rfl (S_loadO rfl (by repeat (first | exact Pick.head | apply Pick.tail)) (by rfl) (by rfl) ?_)
  refine WO_call rfl rfl rfl ?_
  refine (sp_SLess (by omega) (by omega)).mono ?_
  rintro _ _ ⟨rfl, rfl⟩
  refine WO_step rfl (S_pure rfl ?_)
  refine WO_nil ?_
  refine KSeq_n ?_
  refine WC_cond rfl (fun hb1 => ?_) (fun hb1 => ?_)
  ·
    try simp only [decide_eq_true_eq, decide_eq_false_iff_not, Bool.not_eq_true', Bool.not_eq_false', beq_iff_eq, bne_iff_ne, beq_eq_false_iff_ne, Int.ofNat_lt, Int.ofNat_le, Int.ofNat_inj, ne_eq, gt_iff_lt, ge_iff_le] at hb1
    refine WC_seq ?_
    refine WC_region ?_
    refine WO_step rfl (S_pure rfl ?_)
    refine WO_nil ?_
    refine KSeq_n ?_
    refine WC_ret ?_
    refine KBlock_r ?_
    refine KSeq_r ?_
    refine KFn_r (ResL.tmp rfl ResL.nil) ?_
    exact ⟨_, (by repeat (first | exact HSub.refl | refine HSub.pick (by repeat (first | exact Pick.head | apply Pick.tail)) ?_ | apply HSub.drop)), rfl, -1, rfl, by simp [ltR, hb1]⟩
  ·
    try simp only [decide_eq_true_eq, decide_eq_false_iff_not, Bool.not_eq_true', Bool.not_eq_false', beq_iff_eq, bne_iff_ne, beq_eq_false_iff_ne, Int.ofNat_lt, Int.ofNat_le, Int.ofNat_inj, ne_eq, gt_iff_lt, ge_iff_le] at hb1
    refine WC_seq ?_
    refine WC_region ?_
    refine WO_step rfl (S_pure rfl ?_)
    refine WO_step rfl (S_loadO rfl (by repeat (first | exact Pick.head | apply Pick.tail)) (by rfl) (by rfl) ?_)
    refine WO_step rfl (S_pure rfl ?_)
    refine WO_step rfl (S_loadO rfl (by repeat (first | exact Pick.head | apply Pick.tail)) (by rfl) (by rfl) ?_)
    refine WO_call rfl rfl rfl ?_
    refine (sp_SLess (by omega) (by omega)).mono ?_
    rintro _ _ ⟨rfl, rfl⟩
    refine WO_step rfl (S_pure rfl ?_)
    refine WO_nil ?_
    refine KSeq_n ?_
    refine WC_cond rfl (fun hb2 => ?_) (fun hb2 => ?_)
    ·
      try simp only [decide_eq_true_eq, decide_eq_false_iff_not, Bool.not_eq_true', Bool.not_eq_false', beq_iff_eq, bne_iff_ne, beq_eq_false_iff_ne, Int.ofNat_lt, Int.ofNat_le, Int.ofNat_inj, ne_eq, gt_iff_lt, ge_iff_le] at hb2
      refine WC_seq ?_
      refine WC_region ?_
      refine WO_step rfl (S_pure rfl ?_)
      refine WO_nil ?_
      refine KSeq_n ?_
      refine WC_ret ?_
      refine KBlock_r ?_
      refine KSeq_r ?_
      refine KFn_r (ResL.tmp rfl ResL.nil) ?_
      exact ⟨_, (by repeat (first | exact HSub.refl | refine HSub.pick (by repeat (first | exact Pick.head | apply Pick.tail)) ?_ | apply HSub.drop)), rfl, 1, rfl, by simp [ltR, hb1]⟩
    ·
      try simp only [decide_eq_true_eq, decide_eq_false_iff_not, Bool.not_eq_true', Bool.not_eq_false', beq_iff_eq, bne_iff_ne, beq_eq_false_iff_ne, Int.ofNat_lt, Int.ofNat_le, Int.ofNat_inj, ne_eq, gt_iff_lt, ge_iff_le] at hb2
      refine WC_skip ?_
      refine KBlock_n ?_
      refine KSeq_n ?_
      refine WC_seq ?_
      refine WC_region ?_
      refine WO_step rfl (S_pure rfl ?_)
      refine WO_nil ?_
      refine KSeq_n ?_
      refine WC_ret ?_
      refine KFn_r (ResL.tmp rfl ResL.nil) ?_
      exact ⟨_, (by repeat (first | exact HSub.refl | refine HSub.pick (by repeat (first | exact Pick.head | apply Pick.tail)) ?_ | apply HSub.drop)), rfl, 0, rfl, by simp [ltR, hb1]⟩
theorem cmp_Sort1 : Cmp f_merge_Sort_1 TB ltB := fun H a b => sp_Sort1 a.2 b.2
theorem sp_New1 {H : SH} {a b : Rec} : WF F X f_merge_New_1 [TRec.val a, TRec.val b] H (fun r H' => H' = H ∧ r = .bool (decide (a.key = b.key))) := by
  refine WF_fn F_merge_New_1 ?_
  refine WC_seq ?_
  refine WC_region ?_
  refine WO_step rfl (S_box rfl rfl fun i2 => ?_)
  refine WO_step rfl (S_box rfl rfl fun i3 => ?_)
  refine WO_step rfl (S_pure rfl ?_)
  refine WO_nil ?_
  refine KSeq_n ?_
  refine WC_seq ?_
  refine WC_region ?_
  refine WO_step rfl (S_pure rfl ?_)
  refine WO_step rfl (S_loadO rfl (by repeat (first | exact Pick.head | apply Pick.tail)) (by rfl) (by rfl) ?_)
  refine WO_step rfl (S_pure rfl ?_)
  refine WO_step rfl (S_loadO rfl (by repeat (first | exact Pick.head | apply Pick.tail)) (by rfl) (by rfl) ?_)
  first | refine WO_step rfl (S_eqS rfl rfl ?_) | refine WO_step rfl (S_pure rfl ?_)
  refine WO_step rfl (S_pure rfl ?_)
  refine WO_nil ?_
  refine KSeq_n ?_
  refine WC_ret ?_
  refine KFn_r (ResL.tmp rfl ResL.nil) ?_
  exact ⟨_, (by repeat (first | exact HSub.refl | refine HSub.pick (by repeat (first | exact Pick.head | apply Pick.tail)) ?_ | apply HSub.drop)), rfl, rfl⟩
theorem sp_Clone_nil {H : SH} : WF F X f_slices_Clone_api_Rec [.slice none 0 0] H (fun r H' => ∃ w : SV, H' = SL w.toV TRec [] :: H ∧ r = w.toV) := by
  refine WF_view ?_
  refine WF_fn F_slices_Clone_api_Rec ?_
  refine WC_seq ?_
  refine WC_region ?_
  refine WO_step rfl (S_pure rfl ?_)
  refine WO_nil ?_
  refine KSeq_n ?_
  refine WC_seq ?_
  refine WC_seq ?_
  refine WC_region ?_
  refine WO_step rfl (S_pure rfl ?_)
  refine WO_step rfl (S_pure rfl ?_)
  refine WO_nil ?_
  refine KSeq_n ?_
  refine WC_cond rfl (fun hb1 => ?_) (fun hb1 => ?_)
  ·
    try simp only [decide_eq_true_eq, decide_eq_false_iff_not, Bool.not_eq_true', Bool.not_eq_false', beq_iff_eq, bne_iff_ne, beq_eq_false_iff_ne, Int.ofNat_lt, Int.ofNat_le, Int.ofNat_inj, ne_eq, gt_iff_lt, ge_iff_le] at hb1
    refine WC_seq ?_
    refine WC_region ?_
    refine WO_step rfl (S_pure rfl ?_)
    refine WO_nil ?_
    refine KSeq_n ?_
    refine WC_ret ?_
    refine KSeq_r ?_
    refine KFn_r (ResL.tmp rfl ResL.nil) ?_
    exact ⟨_, (by repeat (first | exact HSub.refl | refine HSub.pick (by repeat (first | exact Pick.head | apply Pick.tail)) ?_ | apply HSub.drop)), SL (SV.toV .nil) TRec [] :: H, fun h hh => HAg.addNil hh, .nil, rfl, rfl⟩
  ·
    try simp only [decide_eq_true_eq, decide_eq_false_iff_not, Bool.not_eq_true', Bool.not_eq_false', beq_iff_eq, bne_iff_ne, beq_eq_false_iff_ne, Int.ofNat_lt, Int.ofNat_le, Int.ofNat_inj, ne_eq, gt_iff_lt, ge_iff_le] at hb1
    exact absurd hb1 (by decide)
    --stop
theorem sp_Clone_mk {H : SH} {i o n es : Nat} {l : List Rec} (hv : RD H (.slice (some ⟨i, o, none⟩) n es) TRec l) (hl : l.length ≤ 1000000) : WF F X f_slices_Clone_api_Rec [.slice (some ⟨i, o, none⟩) n es] H (fun r H' => ∃ w : SV, H' = SL w.toV TRec l :: H ∧ r = w.toV) := by
  refine WF_fn F_slices_Clone_api_Rec ?_
  refine WC_seq ?_
  refine WC_region ?_
  refine WO_step rfl (S_pure rfl ?_)
  refine WO_nil ?_
  refine KSeq_n ?_
  refine WC_seq ?_
  refine WC_seq ?_
  refine WC_region ?_
  refine WO_step rfl (S_pure rfl ?_)
  refine WO_step rfl (S_pure rfl ?_)
  refine WO_nil ?_
  refine KSeq_n ?_
  refine WC_cond rfl (fun hb1 => ?_) (fun hb1 => ?_)
  ·
    try simp only [decide_eq_true_eq, decide_eq_false_iff_not, Bool.not_eq_true', Bool.not_eq_false', beq_iff_eq, bne_iff_ne, beq_eq_false_iff_ne, Int.ofNat_lt, Int.ofNat_le, Int.ofNat_inj, ne_eq, gt_iff_lt, ge_iff_le] at hb1
    exact absurd hb1 (by simp)
    --stop
  ·
    try simp only [decide_eq_true_eq, decide_eq_false_iff_not, Bool.not_eq_true', Bool.not_eq_false', beq_iff_eq, bne_iff_ne, beq_eq_false_iff_ne, Int.ofNat_lt, Int.ofNat_le, Int.ofNat_inj, ne_eq, gt_iff_lt, ge_iff_le] at hb1
    refine WC_skip ?_
    refine KSeq_n ?_
    refine WC_seq ?_
    refine WC_region ?_
    refine WO_step rfl (S_lit (vs := []) rfl rfl rfl fun w5 => ?_)
    refine WO_view (H' := SL w5.toV TRec [] :: H) (fun h hh => hh) ?_
    refine WO_step rfl (S_pure rfl ?_)
    refine WO_step rfl (S_app rfl rfl (by repeat (first | exact Pick.head | apply Pick.tail)) (by first | exact SRC.str rfl rfl | (apply RD.src; repeat (first | assumption | exact RD.head | exact RD.nil | apply RD.tail))) (by rfl) (by rfl) (by (try simp only [List.length_append, List.length_cons, List.length_nil]); omega) fun w7 => ?_)
    refine WO_step rfl (S_pure rfl ?_)
    refine WO_nil ?_
    refine KSeq_n ?_
    refine WC_ret ?_
    refine KFn_r (ResL.tmp rfl ResL.nil) ?_
    exact ⟨_, (by repeat (first | exact HSub.refl | refine HSub.pick (by repeat (first | exact Pick.head | apply Pick.tail)) ?_ | apply HSub.drop)), _, rfl, rfl⟩
theorem sp_Clone {H : SH} {v : SV} {l : List Rec} (hv : RD H v.toV TRec l) (hl : l.length ≤ 1000000) : WF F X f_slices_Clone_api_Rec [v.toV] H (fun r H' => ∃ w : SV, H' = SL w.toV TRec l :: H ∧ r = w.toV) := by
  cases v with
  | nil =>
    intro a hH
    have hl0 : l = [] := by
      rcases hv.2 a hH with ⟨ro, t, h0, h1⟩ | ⟨h1, _⟩
      · rcases h1 with ⟨_, h1⟩ | ⟨i, o, c, h1, _⟩
        · exact nil_of h1
        · cases h1
      · exact nil_of h1
    subst hl0
    exact sp_Clone_nil a hH
  | mk i o n es => exact sp_Clone_mk hv hl
theorem sp_Sort {H : SH} {v : SV} {l : List Rec} (hv : RD H v.toV TRec l) (hl : l.length ≤ 1000000) (hs : short l) : WF F X f_merge_Sort [v.toV] H (fun r H' => ∃ w : SV, H' = SL w.toV TRec (isort (leOf ltR) l) :: H ∧ r = w.toV) := by
  obtain ⟨ys, hys⟩ := short_sub hs
  refine WF_fn F_merge_Sort ?_
  refine WC_seq ?_
  refine WC_region ?_
  refine WO_step rfl (S_pure rfl ?_)
  refine WO_nil ?_
  refine KSeq_n ?_
  refine WC_seq ?_
  refine WC_region ?_
  refine WO_step rfl (S_pure rfl ?_)
  refine WO_call rfl rfl rfl ?_
  refine (sp_Clone (by repeat (first | assumption | exact RD.head | exact RD.nil | apply RD.tail)) (by omega)).mono ?_
  rintro _ _ ⟨wC, rfl, rfl⟩
  refine WO_step rfl (S_pure rfl ?_)
  refine WO_nil ?_
  refine KSeq_n ?_
  refine WC_seq ?_
  refine WC_region ?_
  refine WO_step rfl (S_pure rfl ?_)
  refine WO_call rfl rfl rfl ?_
  have e0 : (SL wC.toV TRec l :: H) = (SL wC.toV TB ys :: H) := by rw [SL_TB, hys]
  rw [e0]
  refine (sp_SortStable (T := TB) rfl rfl O_B cmp_Sort1 (by rw [← List.length_map (f := fun x : SRec => x.1), hys]; exact hl)).mono ?_
  rintro _ _ rfl
  rw [SL_TB, isort_map, hys]
  refine WO_nil ?_
  refine KSeq_n ?_
  refine WC_seq ?_
  refine WC_region ?_
  refine WO_step rfl (S_pure rfl ?_)
  refine WO_step rfl (S_pure rfl ?_)
  refine WO_nil ?_
  refine KSeq_n ?_
  refine WC_ret ?_
  refine KFn_r (ResL.tmp rfl ResL.nil) ?_
  exact ⟨_, (by repeat (first | exact HSub.refl | refine HSub.pick (by repeat (first | exact Pick.head | apply Pick.tail)) ?_ | apply HSub.drop)), wC, rfl, rfl⟩
theorem sp_Grow {H : SH} {n : Nat} (hn : n ≤ 1000000) : WF F X f_slices_Grow_api_Rec [.slice none 0 0, .int .i64 n] H (fun r H' => ∃ w : SV, H' = SL w.toV TRec [] :: H ∧ r = w.toV) := by
  refine WF_view ?_
  refine WF_fn F_slices_Grow_api_Rec ?_
  refine WC_seq ?_
  refine WC_region ?_
  refine WO_step rfl (S_pure rfl ?_)
  refine WO_nil ?_
  refine KSeq_n ?_
  refine WC_seq ?_
  refine WC_seq ?_
  refine WC_region ?_
  refine WO_step rfl (S_pure rfl ?_)
  refine WO_step rfl (S_pure rfl ?_)
  refine WO_nil ?_
  refine KSeq_n ?_
  refine WC_cond rfl (fun hb1 => ?_) (fun hb1 => ?_)
  ·
    try simp only [decide_eq_true_eq, decide_eq_false_iff_not, Bool.not_eq_true', Bool.not_eq_false', beq_iff_eq, bne_iff_ne, beq_eq_false_iff_ne, Int.ofNat_lt, Int.ofNat_le, Int.ofNat_inj, ne_eq, gt_iff_lt, ge_iff_le] at hb1
    exfalso; omega
    --stop
  ·
    try simp only [decide_eq_true_eq, decide_eq_false_iff_not, Bool.not_eq_true', Bool.not_eq_false', beq_iff_eq, bne_iff_ne, beq_eq_false_iff_ne, Int.ofNat_lt, Int.ofNat_le, Int.ofNat_inj, ne_eq, gt_iff_lt, ge_iff_le] at hb1
    refine WC_skip ?_
    refine KSeq_n ?_
    refine WC_seq ?_
    refine WC_seq ?_
    refine WC_region ?_
    refine WO_step rfl (S_pure rfl ?_)
    refine WO_step rfl (S_pure rfl ?_)
    refine WO_step rfl (S_pure rfl ?_)
    refine WO_step rfl (S_pure rfl ?_)
    first | refine WO_step rfl (S_pure rfl ?_) | refine WO_step rfl (S_lenS rfl (by repeat (first | assumption | exact RD.head | exact RD.nil | apply RD.tail)) ?_)
    refine WO_step rfl (S_pureE rfl (v' := .int .i64 0) ?_ ?_)
    · rfl
    refine WO_step rfl (S_pureE rfl (v' := .int .i64 (n : Int)) ?_ ?_)
    · rw [wrap_i64 (by omega) (by omega), Int.sub_zero]
    refine WO_step rfl (S_pure rfl ?_)
    refine WO_nil ?_
    refine KSeq_n ?_
    refine WC_seq ?_
    refine WC_region ?_
    refine WO_step rfl (S_pure rfl ?_)
    refine WO_step rfl (S_pure rfl ?_)
    refine WO_nil ?_
    refine KSeq_n ?_
    refine WC_cond rfl (fun hb2 => ?_) (fun hb2 => ?_)
    ·
      try simp only [decide_eq_true_eq, decide_eq_false_iff_not, Bool.not_eq_true', Bool.not_eq_false', beq_iff_eq, bne_iff_ne, beq_eq_false_iff_ne, Int.ofNat_lt, Int.ofNat_le, Int.ofNat_inj, ne_eq, gt_iff_lt, ge_iff_le] at hb2
      refine WC_region ?_
      refine WO_step rfl (S_pure rfl ?_)
      refine WO_step rfl (S_pure rfl ?_)
      refine WO_step rfl (S_pure rfl ?_)
      refine WO_step rfl (S_cut (s := .nil) (T := TRec) (xs := []) (a := 0) (b := 0) (m := 0) rfl RD.nil rfl LB.dflt (LB.mk rfl rfl) LB.dflt (by omega) (by omega) (by simp) ?_)
      refine WO_step rfl (S_pure rfl ?_)
      refine WO_step rfl (S_appZ (n := n) rfl rfl rfl (by omega) (by omega) fun i22 => ?_)
      refine WO_step rfl (S_pure rfl ?_)
      first | refine WO_step rfl (S_pure rfl ?_) | refine WO_step rfl (S_lenS rfl (by repeat (first | assumption | exact RD.head | exact RD.nil | apply RD.tail)) ?_)
      refine WO_step rfl (S_cutX (a := 0) (b := 0) (m := n) rfl LB.dflt (LB.mk rfl rfl) LB.dflt (by omega) (by omega) (by omega) ?_)
      refine WO_step rfl (S_pure rfl ?_)
      refine WO_nil ?_
      refine KSeq_n ?_
      refine WC_seq ?_
      refine WC_region ?_
      refine WO_step rfl (S_pure rfl ?_)
      refine WO_step rfl (S_pure rfl ?_)
      refine WO_nil ?_
      refine KSeq_n ?_
      refine WC_ret ?_
      refine KFn_r (ResL.tmp rfl ResL.nil) ?_
      exact ⟨_, (by repeat (first | exact HSub.refl | refine HSub.pick (by repeat (first | exact Pick.head | apply Pick.tail)) ?_ | apply HSub.drop)), SL (SV.mk i22 0 0 5).toV TRec [] :: H, fun h hh => HAg.rowSL rfl rfl hh, _, rfl, rfl⟩
    ·
      try simp only [decide_eq_true_eq, decide_eq_false_iff_not, Bool.not_eq_true', Bool.not_eq_false', beq_iff_eq, bne_iff_ne, beq_eq_false_iff_ne, Int.ofNat_lt, Int.ofNat_le, Int.ofNat_inj, ne_eq, gt_iff_lt, ge_iff_le] at hb2
      refine WC_skip ?_
      refine KSeq_n ?_
      refine WC_seq ?_
      refine WC_region ?_
      refine WO_step rfl (S_pure rfl ?_)
      refine WO_step rfl (S_pure rfl ?_)
      refine WO_nil ?_
      refine KSeq_n ?_
      refine WC_ret ?_
      refine KFn_r (ResL.tmp rfl ResL.nil) ?_
      exact ⟨_, (by repeat (first | exact HSub.refl | refine HSub.pick (by repeat (first | exact Pick.head | apply Pick.tail)) ?_ | apply HSub.drop)), SL (SV.toV .nil) TRec [] :: H, fun h hh => HAg.addNil hh, .nil, rfl, rfl⟩
theorem flat_take {α : Type} {ls : List (List α)} {k : Nat} {l : List α} (h : ls[k]? = some l) : (ls.take (k + 1)).flatten = (ls.take k).flatten ++ l := by
  rw [List.take_add_one, h]; simp
theorem flat_take_le {α : Type} : ∀ (ls : List (List α)) (k : Nat), (ls.take k).flatten.length ≤ ls.flatten.length
  | [], k => by simp
  | l :: ls, 0 => by simp
  | l :: ls, k + 1 => by have := flat_take_le ls k; simp at this ⊢; omega
theorem lp_Cat0 {H : SH} {v : Value} {svs : List SV} {ls : List (List Rec)} (hv : Rds H v svs TRecs TRec ls) (hl : ls.flatten.length ≤ 1000000) (hn : ls.length ≤ 1000000) : ∀ (n k : Nat), ls.length - k = n → k ≤ ls.length →
    WC F X (.loop L_slices_Concat_api_Rec_0) [(11, .int .i64 k), (10, .int .i64 ls.length), (9, v), (3, .int .i64 (ls.take k).flatten.length), (0, v)] H
      (KPost fun x l' H' => x = .exit 0 ∧ l' = [(3, .int .i64 ls.flatten.length), (0, v)] ∧ H' = H) := by
  intro n
  induction n using Nat.strongRecOn with
  | _ n ih =>
    intro k hk hkl
    have hle := flat_take_le ls k
    have hle2 := flat_take_le ls (k + 1)
    refine WC_loop ?_
    refine WC_seq ?_
    refine WC_region ?_
    refine WO_step rfl (S_pure rfl ?_)
    refine WO_nil ?_
    refine KSeq_n ?_
    refine WC_seq ?_
    refine WC_cond rfl (fun hb1 => ?_) (fun hb1 => ?_)
    ·
      try simp only [decide_eq_true_eq, decide_eq_false_iff_not, Bool.not_eq_true', Bool.not_eq_false', beq_iff_eq, bne_iff_ne, beq_eq_false_iff_ne, Int.ofNat_lt, Int.ofNat_le, Int.ofNat_inj, ne_eq, gt_iff_lt, ge_iff_le] at hb1
      obtain ⟨sv, hsv⟩ := get_of_lt (l := svs) (a := k) (by rw [hv.len]; exact hb1)
      obtain ⟨l, hl1⟩ := get_of_lt hb1
      have hin := hv.ins k sv l hsv hl1
      have hout := hv.out
      have hft := flat_take hl1
      rw [hft, List.length_append] at hle2
      refine WC_skip ?_
      refine KSeq_n ?_
      refine WC_seq ?_
      refine WC_block ?_
      refine WC_seq ?_
      refine WC_region ?_
      refine WO_step rfl (S_idx rfl rfl (by repeat (first | assumption | exact RD.head | exact RD.nil | apply RD.tail)) (by first | rfl | assumption | (symm; assumption)) (by rfl) (by first | assumption | omega | exact lt_of_get (by assumption) | (simp only [List.length_set]; first | assumption | omega | exact lt_of_get (by assumption))) fun hp13 => ?_)
      refine WO_step rfl (S_loadE rfl (by repeat (first | assumption | exact RD.head | exact RD.nil | apply RD.tail)) (by first | rfl | assumption | (symm; assumption)) (by first | rfl | assumption | (symm; assumption)) (by first | rfl | assumption | (symm; assumption)) (by assumption) ?_)
      refine WO_step rfl (S_pure rfl ?_)
      refine WO_nil ?_
      refine KSeq_n ?_
      refine WC_seq ?_
      refine WC_region ?_
      refine WO_step rfl (S_pure rfl ?_)
      refine WO_step rfl (S_pure rfl ?_)
      first | refine WO_step rfl (S_pure rfl ?_) | refine WO_step rfl (S_lenS rfl (by repeat (first | assumption | exact RD.head | exact RD.nil | apply RD.tail)) ?_)
      first | refine WO_step rfl (S_addN rfl rfl (by omega) ?_) | refine WO_step rfl (S_pure rfl ?_)
      refine WO_step rfl (S_pure rfl ?_)
      refine WO_nil ?_
      refine KSeq_n ?_
      refine WC_seq ?_
      refine WC_region ?_
      refine WO_step rfl (S_pure rfl ?_)
      refine WO_step rfl (S_pure rfl ?_)
      refine WO_nil ?_
      refine KSeq_n ?_
      refine WC_cond rfl (fun hb2 => ?_) (fun hb2 => ?_)
      ·
        try simp only [decide_eq_true_eq, decide_eq_false_iff_not, Bool.not_eq_true', Bool.not_eq_false', beq_iff_eq, bne_iff_ne, beq_eq_false_iff_ne, Int.ofNat_lt, Int.ofNat_le, Int.ofNat_inj, ne_eq, gt_iff_lt, ge_iff_le] at hb2
        exfalso; omega
        --stop
      ·
        try simp only [decide_eq_true_eq, decide_eq_false_iff_not, Bool.not_eq_true', Bool.not_eq_false', beq_iff_eq, bne_iff_ne, beq_eq_false_iff_ne, Int.ofNat_lt, Int.ofNat_le, Int.ofNat_inj, ne_eq, gt_iff_lt, ge_iff_le] at hb2
        refine WC_skip ?_
        refine KBlock_n ?_
        refine KSeq_n ?_
        refine WC_region ?_
        first | refine WO_step rfl (S_addN (b := 1) rfl rfl (by omega) ?_) | refine WO_step rfl (S_pure rfl ?_)
        refine WO_step rfl (S_pure rfl ?_)
        refine WO_nil ?_
        refine KLoop_n ?_
        have := ih (ls.length - (k + 1)) (by omega) (k + 1) rfl (by omega)
        rw [hft, List.length_append] at this
        exact WC_weak this (by repeat (first | exact SubE.nil | apply SubE.cons rfl)) (by repeat (first | exact HSub.refl | refine HSub.pick (by repeat (first | exact Pick.head | apply Pick.tail)) ?_ | apply HSub.drop))
    ·
      try simp only [decide_eq_true_eq, decide_eq_false_iff_not, Bool.not_eq_true', Bool.not_eq_false', beq_iff_eq, bne_iff_ne, beq_eq_false_iff_ne, Int.ofNat_lt, Int.ofNat_le, Int.ofNat_inj, ne_eq, gt_iff_lt, ge_iff_le] at hb1
      refine WC_exit ?_
      refine KSeq_x ?_
      refine KLoop_x ?_
      rw [show k = ls.length by omega, List.take_length]
      exact KPost_i (by repeat (first | exact SubE.nil | apply SubE.cons rfl)) (by repeat (first | exact HSub.refl | refine HSub.pick (by repeat (first | exact Pick.head | apply Pick.tail)) ?_ | apply HSub.drop)) ⟨rfl, rfl, rfl⟩
theorem lp_Cat1 {H : SH} {v : Value} {svs : List SV} {ls : List (List Rec)} (hv : Rds H v svs TRecs TRec ls) (hl : ls.flatten.length ≤ 1000000) (hn : ls.length ≤ 1000000) : ∀ (n k : Nat) (w : SV), ls.length - k = n → k ≤ ls.length →
    WC F X (.loop L_slices_Concat_api_Rec_1) [(27, .int .i64 k), (26, .int .i64 ls.length), (25, v), (6, w.toV)] (SL w.toV TRec (ls.take k).flatten :: H)
      (KPost fun x l' H' => ∃ w : SV, x = .exit 2 ∧ l' = [(6, w.toV)] ∧ H' = SL w.toV TRec ls.flatten :: H) := by
  intro n
  induction n using Nat.strongRecOn with
  | _ n ih =>
    intro k w hk hkl
    have hle := flat_take_le ls k
    have hle2 := flat_take_le ls (k + 1)
    refine WC_loop ?_
    refine WC_seq ?_
    refine WC_region ?_
    refine WO_step rfl (S_pure rfl ?_)
    refine WO_nil ?_
    refine KSeq_n ?_
    refine WC_seq ?_
    refine WC_cond rfl (fun hb1 => ?_) (fun hb1 => ?_)
    ·
      try simp only [decide_eq_true_eq, decide_eq_false_iff_not, Bool.not_eq_true', Bool.not_eq_false', beq_iff_eq, bne_iff_ne, beq_eq_false_iff_ne, Int.ofNat_lt, Int.ofNat_le, Int.ofNat_inj, ne_eq, gt_iff_lt, ge_iff_le] at hb1
      obtain ⟨sv, hsv⟩ := get_of_lt (l := svs) (a := k) (by rw [hv.len]; exact hb1)
      obtain ⟨l, hl1⟩ := get_of_lt hb1
      have hin := hv.ins k sv l hsv hl1
      have hout := hv.out
      have hft := flat_take hl1
      rw [hft, List.length_append] at hle2
      refine WC_skip ?_
      refine KSeq_n ?_
      refine WC_seq ?_
      refine WC_block ?_
      refine WC_seq ?_
      refine WC_region ?_
      refine WO_step rfl (S_idx rfl rfl (by repeat (first | assumption | exact RD.head | exact RD.nil | apply RD.tail)) (by first | rfl | assumption | (symm; assumption)) (by rfl) (by first | assumption | omega | exact lt_of_get (by assumption) | (simp only [List.length_set]; first | assumption | omega | exact lt_of_get (by assumption))) fun hp29 => ?_)
      refine WO_step rfl (S_loadE rfl (by repeat (first | assumption | exact RD.head | exact RD.nil | apply RD.tail)) (by first | rfl | assumption | (symm; assumption)) (by first | rfl | assumption | (symm; assumption)) (by first | rfl | assumption | (symm; assumption)) (by assumption) ?_)
      refine WO_step rfl (S_pure rfl ?_)
      refine WO_nil ?_
      refine KSeq_n ?_
      refine WC_region ?_
      refine WO_step rfl (S_pure rfl ?_)
      refine WO_step rfl (S_pure rfl ?_)
      refine WO_step rfl (S_app rfl rfl (by repeat (first | exact Pick.head | apply Pick.tail)) (by first | exact SRC.str rfl rfl | (apply RD.src; repeat (first | assumption | exact RD.head | exact RD.nil | apply RD.tail))) (by rfl) (by rfl) (by (try simp only [List.length_append, List.length_cons, List.length_nil]); omega) fun w33 => ?_)
      refine WO_step rfl (S_pure rfl ?_)
      refine WO_nil ?_
      refine KBlock_n ?_
      refine KSeq_n ?_
      refine WC_region ?_
      first | refine WO_step rfl (S_addN (b := 1) rfl rfl (by omega) ?_) | refine WO_step rfl (S_pure rfl ?_)
      refine WO_step rfl (S_pure rfl ?_)
      refine WO_nil ?_
      refine KLoop_n ?_
      have := ih (ls.length - (k + 1)) (by omega) (k + 1) w33 rfl (by omega)
      rw [hft] at this
      exact WC_weak this (by repeat (first | exact SubE.nil | apply SubE.cons rfl)) (by repeat (first | exact HSub.refl | refine HSub.pick (by repeat (first | exact Pick.head | apply Pick.tail)) ?_ | apply HSub.drop))
    ·
      try simp only [decide_eq_true_eq, decide_eq_false_iff_not, Bool.not_eq_true', Bool.not_eq_false', beq_iff_eq, bne_iff_ne, beq_eq_false_iff_ne, Int.ofNat_lt, Int.ofNat_le, Int.ofNat_inj, ne_eq, gt_iff_lt, ge_iff_le] at hb1
      refine WC_exit ?_
      refine KSeq_x ?_
      refine KLoop_x ?_
      refine KPost_i (l' := [(6, w.toV)]) (H' := SL w.toV TRec ls.flatten :: H) (by repeat (first | exact SubE.nil | apply SubE.cons rfl)) ?_ ⟨w, rfl, rfl, rfl⟩
      rw [show k = ls.length by omega, List.take_length]; exact (by repeat (first | exact HSub.refl | refine HSub.pick (by repeat (first | exact Pick.head | apply Pick.tail)) ?_ | apply HSub.drop))
theorem sp_Concat {H : SH} {v : Value} {svs : List SV} {ls : List (List Rec)} (hv : Rds H v svs TRecs TRec ls) (hl : ls.flatten.length ≤ 1000000) (hn : ls.length ≤ 1000000) : WF F X f_slices_Concat_api_Rec [v] H (fun r H' => ∃ w : SV, H' = SL w.toV TRec ls.flatten :: H ∧ r = w.toV) := by
  have hout := hv.out
  have hlen := hv.len
  refine WF_fn F_slices_Concat_api_Rec ?_
  refine WC_seq ?_
  refine WC_region ?_
  refine WO_step rfl (S_pure rfl ?_)
  refine WO_nil ?_
  refine KSeq_n ?_
  refine WC_seq ?_
  refine WC_region ?_
  refine WO_step rfl (S_pure rfl ?_)
  refine WO_nil ?_
  refine KSeq_n ?_
  refine WC_seq ?_
  refine WC_seq ?_
  refine WC_region ?_
  refine WO_step rfl (S_pure rfl ?_)
  refine WO_step rfl (S_lenS rfl hout ?_)
  rw [hlen]
  refine WO_step rfl (S_pure rfl ?_)
  refine WO_nil ?_
  refine KSeq_n ?_
  refine WC_block ?_
  refine WC_post (WC_weak (lp_Cat0 hv hl hn ls.length 0 (by omega) (by omega)) (by repeat (first | exact SubE.nil | apply SubE.cons rfl)) HSub.refl) ?_
  rintro x l' H' ⟨rfl, rfl, rfl⟩
  refine KBlock_h ?_
  refine KSeq_n ?_
  refine WC_seq ?_
  refine WC_region ?_
  refine WO_step rfl (S_pure rfl ?_)
  refine WO_call rfl rfl rfl ?_
  refine (sp_Grow hl).mono ?_
  rintro _ _ ⟨wG, rfl, rfl⟩
  refine WO_step rfl (S_pure rfl ?_)
  refine WO_nil ?_
  refine KSeq_n ?_
  refine WC_seq ?_
  refine WC_seq ?_
  refine WC_region ?_
  refine WO_step rfl (S_pure rfl ?_)
  refine WO_step rfl (S_lenS rfl hout.tail ?_)
  rw [hlen]
  refine WO_step rfl (S_pure rfl ?_)
  refine WO_nil ?_
  refine KSeq_n ?_
  refine WC_block ?_
  refine WC_post (WC_weak (lp_Cat1 hv hl hn ls.length 0 wG (by omega) (by omega)) (by repeat (first | exact SubE.nil | apply SubE.cons rfl)) (by repeat (first | exact HSub.refl | refine HSub.pick (by repeat (first | exact Pick.head | apply Pick.tail)) ?_ | apply HSub.drop))) ?_
  rintro x l' H' ⟨w, rfl, rfl, rfl⟩
  refine KBlock_h ?_
  refine KSeq_n ?_
  refine WC_seq ?_
  refine WC_region ?_
  refine WO_step rfl (S_pure rfl ?_)
  refine WO_step rfl (S_pure rfl ?_)
  refine WO_nil ?_
  refine KSeq_n ?_
  refine WC_ret ?_
  refine KFn_r (ResL.tmp rfl ResL.nil) ?_
  exact ⟨_, (by repeat (first | exact HSub.refl | refine HSub.pick (by repeat (first | exact Pick.head | apply Pick.tail)) ?_ | apply HSub.drop)), w, rfl, rfl⟩
def ddpFrom : ByteArray → List Rec → List Rec
  | _, [] => []
  | k, y :: ys => if y.key = k then ddpFrom k ys else y :: ddpFrom y.key ys
def ddp : List Rec → List Rec
  | [] => []
  | x :: xs => x :: ddpFrom x.key xs
theorem ddpFrom_len : ∀ (k : ByteArray) (l : List Rec), (ddpFrom k l).length ≤ l.length
  | _, [] => by simp [ddpFrom]
  | k, y :: ys => by
    unfold ddpFrom; split
    · have := ddpFrom_len k ys; simp; omega
    · have := ddpFrom_len y.key ys; simp; omega
theorem ddp_len (l : List Rec) : (ddp l).length ≤ l.length := by
  cases l with
  | nil => simp [ddp]
  | cons x l => have := ddpFrom_len x.key l; simp [ddp]; omega
def cmpP (H : SH) (s : SV) (xs : List Rec) (z : Ex) (l' : SE) (H' : SH) : Prop :=
  (z = .exit 0 ∧ l' = [(0, s.toV)] ∧ H' = SL s.toV TRec xs :: H ∧ ddp xs = xs) ∨
  (∃ (r : SV) (H'' : SH), z = .ret ∧ l' = [(4, r.toV)] ∧ H' = H'' ∧ ∀ h, HAg H'' h → HAg (SL r.toV TRec (ddp xs) :: H) h)
theorem take_set_succ {α : Type} {l : List α} {k : Nat} {y : α} (h : k < l.length) : (l.set k y).take (k + 1) = l.take k ++ [y] := by
  rw [List.take_add_one, List.take_set_of_le (Nat.le_refl _), List.getElem?_set_self h]; rfl
theorem lp_Cmp1 {g : FuncId} (hc : ∀ (H : SH) (a b : Rec), WF F X g [TRec.val a, TRec.val b] H (fun r H' => H' = H ∧ r = .bool (decide (a.key = b.key)))) {H : SH} {s : SV} {xs : List Rec} {k0 : Nat} (hk0 : 1 ≤ k0) (hn : xs.length ≤ 1000000) (hk0n : k0 < xs.length) : ∀ (n k2 k : Nat) (cur : List Rec), xs.length - (k0 + k2) = n → 1 ≤ k2 → k0 + k2 ≤ xs.length → k ≤ k0 + k2 - 1 → k0 ≤ k → cur.length = xs.length → cur.drop (k0 + k2 - 1) = xs.drop (k0 + k2 - 1) → (∃ p, xs[k0 + k2 - 1]? = some p ∧ ddp xs = cur.take k ++ ddpFrom p.key (xs.drop (k0 + k2))) →
    WC F X (.loop L_slices_CompactFunc_api_Rec_1) [(7, .int .i64 k2), (5, .int .i64 k), (6, (s.sub 5 k0 (xs.length - k0)).toV), (0, s.toV), (1, fv g)] (SL s.toV TRec cur :: H)
      (KPost fun z l' H' => ∃ (k : Nat) (cur : List Rec), z = .exit 2 ∧ l' = [(5, .int .i64 k), (0, s.toV)] ∧ H' = SL s.toV TRec cur :: H ∧ cur.length = xs.length ∧ k ≤ xs.length ∧ ddp xs = cur.take k) := by
  intro n
  induction n using Nat.strongRecOn with
  | _ n ih =>
    intro k2 k cur hn2 hk2 hkk hk hk0k hcl hcd hdd
    obtain ⟨p, hp, hdd⟩ := hdd
    have hcp : cur[k0 + k2 - 1]? = some p := by
      have := congrArg (·[0]?) hcd
      simp only [List.getElem?_drop, Nat.add_zero] at this
      rw [this]; exact hp
    have hsub : RD (SL s.toV TRec cur :: H) (s.sub 5 k0 (xs.length - k0)).toV TRec ((cur.drop k0).take (xs.length - k0)) := RD.head.sub' rfl (by omega)
    have hsl : ((cur.drop k0).take (xs.length - k0)).length = xs.length - k0 := by rw [List.length_take, List.length_drop]; omega
    have hsp : ((cur.drop k0).take (xs.length - k0))[k2 - 1]? = some p := by
      rw [List.getElem?_take, if_pos (by omega), List.getElem?_drop, ← hcp]; congr 1; omega
    refine WC_loop ?_
    refine WC_seq ?_
    refine WC_seq ?_
    refine WC_region ?_
    refine WO_step rfl (S_pure rfl ?_)
    refine WO_step rfl (S_pure rfl ?_)
    refine WO_step rfl (S_lenS rfl hsub ?_)
    rw [hsl]
    refine WO_step rfl (S_pure rfl ?_)
    refine WO_nil ?_
    refine KSeq_n ?_
    refine WC_cond rfl (fun hb1 => ?_) (fun hb1 => ?_)
    ·
      try simp only [decide_eq_true_eq, decide_eq_false_iff_not, Bool.not_eq_true', Bool.not_eq_false', beq_iff_eq, bne_iff_ne, beq_eq_false_iff_ne, Int.ofNat_lt, Int.ofNat_le, Int.ofNat_inj, ne_eq, gt_iff_lt, ge_iff_le] at hb1
      obtain ⟨y, hy⟩ := get_of_lt (l := xs) (a := k0 + k2) (by omega)
      have hcy : cur[k0 + k2]? = some y := by
        have := congrArg (·[1]?) hcd
        simp only [List.getElem?_drop] at this
        rw [show k0 + k2 - 1 + 1 = k0 + k2 by omega] at this
        rw [this]; exact hy
      have hsy : ((cur.drop k0).take (xs.length - k0))[k2]? = some y := by
        rw [List.getElem?_take, if_pos (by omega), List.getElem?_drop]; exact hcy
      rw [drop_get hy] at hdd
      have hdr : cur.drop (k0 + k2) = xs.drop (k0 + k2) := by
        have := congrArg (List.drop 1) hcd
        simp only [List.drop_drop] at this
        rw [show k0 + k2 - 1 + 1 = k0 + k2 by omega] at this
        exact this
      refine WC_skip ?_
      refine KSeq_n ?_
      refine WC_seq ?_
      refine WC_block ?_
      refine WC_seq ?_
      refine WC_region ?_
      refine WO_step rfl (S_pure rfl ?_)
      refine WO_step rfl (S_pure rfl ?_)
      refine WO_step rfl (S_pure rfl ?_)
      refine WO_step rfl (S_idx rfl rfl hsub (by rfl) (by rfl) (lt_of_get hsy) fun hp41 => ?_)
      refine WO_step rfl (S_loadE rfl hsub (by rfl) (by rfl) (by rfl) hsy ?_)
      refine WO_step rfl (S_pure rfl ?_)
      refine WO_step rfl (S_pure rfl ?_)
      first | refine WO_step rfl (S_subN (b := 1) rfl rfl (by omega) ?_) | refine WO_step rfl (S_pure rfl ?_)
      refine WO_step rfl (S_idx rfl rfl hsub (by rfl) (by rfl) (lt_of_get hsp) fun hp46 => ?_)
      refine WO_step rfl (S_loadE rfl hsub (by rfl) (by rfl) (by rfl) hsp ?_)
      refine WO_call rfl rfl rfl ?_
      refine (hc _ _ _).mono ?_
      rintro _ _ ⟨rfl, rfl⟩
      refine WO_step rfl (S_pure rfl ?_)
      refine WO_nil ?_
      refine KSeq_n ?_
      refine WC_cond rfl (fun hb2 => ?_) (fun hb2 => ?_)
      ·
        try simp only [decide_eq_true_eq, decide_eq_false_iff_not, Bool.not_eq_true', Bool.not_eq_false', beq_iff_eq, bne_iff_ne, beq_eq_false_iff_ne, Int.ofNat_lt, Int.ofNat_le, Int.ofNat_inj, ne_eq, gt_iff_lt, ge_iff_le] at hb2
        refine WC_seq ?_
        refine WC_region ?_
        refine WO_step rfl (S_pure rfl ?_)
        refine WO_step rfl (S_pure rfl ?_)
        refine WO_step rfl (S_pure rfl ?_)
        refine WO_step rfl (S_pure rfl ?_)
        refine WO_step rfl (S_idx rfl rfl hsub (by rfl) (by rfl) (lt_of_get hsy) fun hp54 => ?_)
        refine WO_step rfl (S_loadE rfl hsub (by rfl) (by rfl) (by rfl) hsy ?_)
        refine WO_step rfl (S_idx rfl rfl (by repeat (first | assumption | exact RD.head | exact RD.nil | apply RD.tail)) (by first | rfl | assumption | (symm; assumption)) (by rfl) (by first | assumption | omega | exact lt_of_get (by assumption) | (simp only [List.length_set]; first | assumption | omega | exact lt_of_get (by assumption))) fun hp56 => ?_)
        refine WO_step rfl (S_storeW rfl rfl (by repeat (first | exact Pick.head | apply Pick.tail)) (by first | rfl | assumption | (symm; assumption)) (by rfl) (by first | rfl | assumption | (symm; assumption)) (by first | assumption | omega | exact lt_of_get (by assumption) | (simp only [List.length_set]; first | assumption | omega | exact lt_of_get (by assumption))) ?_)
        refine WO_nil ?_
        refine KSeq_n ?_
        refine WC_region ?_
        refine WO_step rfl (S_pure rfl ?_)
        first | refine WO_step rfl (S_addN (b := 1) rfl rfl (by omega) ?_) | refine WO_step rfl (S_pure rfl ?_)
        refine WO_step rfl (S_pure rfl ?_)
        refine WO_nil ?_
        refine KBlock_n ?_
        refine KSeq_n ?_
        refine WC_region ?_
        refine WO_step rfl (S_pure rfl ?_)
        first | refine WO_step rfl (S_addN (b := 1) rfl rfl (by omega) ?_) | refine WO_step rfl (S_pure rfl ?_)
        refine WO_step rfl (S_pure rfl ?_)
        refine WO_nil ?_
        refine KLoop_n ?_
        have hkc : k < cur.length := by omega
        rw [ddpFrom, if_neg hb2] at hdd
        refine WC_weak (ih (xs.length - (k0 + (k2 + 1))) (by omega) (k2 + 1) (k + 1) (cur.set k y) rfl (by omega) (by omega) (by omega) (by omega) (by simpa using hcl) ?_ ⟨y, by rw [show k0 + (k2 + 1) - 1 = k0 + k2 by omega]; exact hy, ?_⟩) (by repeat (first | exact SubE.nil | apply SubE.cons rfl)) (by repeat (first | exact HSub.refl | refine HSub.pick (by repeat (first | exact Pick.head | apply Pick.tail)) ?_ | apply HSub.drop))
        · rw [show k0 + (k2 + 1) - 1 = k0 + k2 by omega, List.drop_set_of_lt (by omega)]; exact hdr
        · rw [take_set_succ hkc, hdd, List.append_assoc]; rfl
      ·
        try simp only [decide_eq_true_eq, decide_eq_false_iff_not, Bool.not_eq_true', Bool.not_eq_false', beq_iff_eq, bne_iff_ne, beq_eq_false_iff_ne, Int.ofNat_lt, Int.ofNat_le, Int.ofNat_inj, ne_eq, gt_iff_lt, ge_iff_le] at hb2
        refine WC_skip ?_
        refine KBlock_n ?_
        refine KSeq_n ?_
        refine WC_region ?_
        refine WO_step rfl (S_pure rfl ?_)
        first | refine WO_step rfl (S_addN (b := 1) rfl rfl (by omega) ?_) | refine WO_step rfl (S_pure rfl ?_)
        refine WO_step rfl (S_pure rfl ?_)
        refine WO_nil ?_
        refine KLoop_n ?_
        rw [ddpFrom, if_pos hb2] at hdd
        refine WC_weak (ih (xs.length - (k0 + (k2 + 1))) (by omega) (k2 + 1) k cur rfl (by omega) (by omega) (by omega) (by omega) hcl ?_ ⟨y, by rw [show k0 + (k2 + 1) - 1 = k0 + k2 by omega]; exact hy, ?_⟩) (by repeat (first | exact SubE.nil | apply SubE.cons rfl)) (by repeat (first | exact HSub.refl | refine HSub.pick (by repeat (first | exact Pick.head | apply Pick.tail)) ?_ | apply HSub.drop))
        · rw [show k0 + (k2 + 1) - 1 = k0 + k2 by omega]; exact hdr
        · rw [hdd, ← hb2]; rfl
    ·
      try simp only [decide_eq_true_eq, decide_eq_false_iff_not, Bool.not_eq_true', Bool.not_eq_false', beq_iff_eq, bne_iff_ne, beq_eq_false_iff_ne, Int.ofNat_lt, Int.ofNat_le, Int.ofNat_inj, ne_eq, gt_iff_lt, ge_iff_le] at hb1
      refine WC_exit ?_
      refine KSeq_x ?_
      refine KLoop_x ?_
      have e : k0 + k2 = xs.length := by omega
      rw [e, List.drop_length] at hdd
      exact KPost_i (l' := [(5, .int .i64 k), (0, s.toV)]) (H' := SL s.toV TRec cur :: H) (by repeat (first | exact SubE.nil | apply SubE.cons rfl)) (by repeat (first | exact HSub.refl | refine HSub.pick (by repeat (first | exact Pick.head | apply Pick.tail)) ?_ | apply HSub.drop)) ⟨k, cur, rfl, rfl, rfl, hcl, by omega, by rw [hdd]; simp [ddpFrom]⟩
theorem lp_Cmp0 {g : FuncId} (hc : ∀ (H : SH) (a b : Rec), WF F X g [TRec.val a, TRec.val b] H (fun r H' => H' = H ∧ r = .bool (decide (a.key = b.key)))) {H : SH} {s : SV} {xs : List Rec} (hn : xs.length ≤ 1000000) : ∀ (n k : Nat), xs.length - k = n → 1 ≤ k → k ≤ xs.length → (∃ p, xs[k - 1]? = some p ∧ ddp xs = xs.take k ++ ddpFrom p.key (xs.drop k)) →
    WC F X (.loop L_slices_CompactFunc_api_Rec_0) [(5, .int .i64 k), (0, s.toV), (1, fv g)] (SL s.toV TRec xs :: H) (KPost (cmpP H s xs)) := by
  intro n
  induction n using Nat.strongRecOn with
  | _ n ih =>
    intro k hk hk1 hkn hdd
    obtain ⟨p, hp, hdd⟩ := hdd
    refine WC_loop ?_
    refine WC_seq ?_
    refine WC_seq ?_
    refine WC_region ?_
    refine WO_step rfl (S_pure rfl ?_)
    refine WO_step rfl (S_pure rfl ?_)
    first | refine WO_step rfl (S_pure rfl ?_) | refine WO_step rfl (S_lenS rfl (by repeat (first | assumption | exact RD.head | exact RD.nil | apply RD.tail)) ?_)
    refine WO_step rfl (S_pure rfl ?_)
    refine WO_nil ?_
    refine KSeq_n ?_
    refine WC_cond rfl (fun hb1 => ?_) (fun hb1 => ?_)
    ·
      try simp only [decide_eq_true_eq, decide_eq_false_iff_not, Bool.not_eq_true', Bool.not_eq_false', beq_iff_eq, bne_iff_ne, beq_eq_false_iff_ne, Int.ofNat_lt, Int.ofNat_le, Int.ofNat_inj, ne_eq, gt_iff_lt, ge_iff_le] at hb1
      obtain ⟨y, hy⟩ := get_of_lt hb1
      rw [drop_get hy] at hdd
      refine WC_skip ?_
      refine KSeq_n ?_
      refine WC_seq ?_
      refine WC_block ?_
      refine WC_seq ?_
      refine WC_region ?_
      refine WO_step rfl (S_pure rfl ?_)
      refine WO_step rfl (S_pure rfl ?_)
      refine WO_step rfl (S_pure rfl ?_)
      refine WO_step rfl (S_idx rfl rfl (by repeat (first | assumption | exact RD.head | exact RD.nil | apply RD.tail)) (by first | rfl | assumption | (symm; assumption)) (by rfl) (by first | assumption | omega | exact lt_of_get (by assumption) | (simp only [List.length_set]; first | assumption | omega | exact lt_of_get (by assumption))) fun hp21 => ?_)
      refine WO_step rfl (S_loadE rfl (by repeat (first | assumption | exact RD.head | exact RD.nil | apply RD.tail)) (by first | rfl | assumption | (symm; assumption)) (by first | rfl | assumption | (symm; assumption)) (by first | rfl | assumption | (symm; assumption)) (by assumption) ?_)
      refine WO_step rfl (S_pure rfl ?_)
      refine WO_step rfl (S_pure rfl ?_)
      first | refine WO_step rfl (S_subN (b := 1) rfl rfl (by omega) ?_) | refine WO_step rfl (S_pure rfl ?_)
      refine WO_step rfl (S_idx rfl rfl (by repeat (first | assumption | exact RD.head | exact RD.nil | apply RD.tail)) (by first | rfl | assumption | (symm; assumption)) (by rfl) (by first | assumption | omega | exact lt_of_get (by assumption) | (simp only [List.length_set]; first | assumption | omega | exact lt_of_get (by assumption))) fun hp26 => ?_)
      refine WO_step rfl (S_loadE rfl (by repeat (first | assumption | exact RD.head | exact RD.nil | apply RD.tail)) (by first | rfl | assumption | (symm; assumption)) (by first | rfl | assumption | (symm; assumption)) (by first | rfl | assumption | (symm; assumption)) (by assumption) ?_)
      refine WO_call rfl rfl rfl ?_
      refine (hc _ _ _).mono ?_
      rintro _ _ ⟨rfl, rfl⟩
      refine WO_nil ?_
      refine KSeq_n ?_
      refine WC_cond rfl (fun hb2 => ?_) (fun hb2 => ?_)
      ·
        try simp only [decide_eq_true_eq, decide_eq_false_iff_not, Bool.not_eq_true', Bool.not_eq_false', beq_iff_eq, bne_iff_ne, beq_eq_false_iff_ne, Int.ofNat_lt, Int.ofNat_le, Int.ofNat_inj, ne_eq, gt_iff_lt, ge_iff_le] at hb2
        refine WC_seq ?_
        refine WC_region ?_
        refine WO_step rfl (S_pure rfl ?_)
        refine WO_step rfl (S_pure rfl ?_)
        refine WO_step rfl (S_cut rfl (by repeat (first | assumption | exact RD.head | exact RD.nil | apply RD.tail)) (by rfl) (LB.mk rfl rfl) LB.dflt LB.dflt (by omega) (by omega) (by omega) ?_)
        refine WO_step rfl (S_pure rfl ?_)
        refine WO_nil ?_
        refine KSeq_n ?_
        refine WC_seq ?_
        refine WC_seq ?_
        refine WC_region ?_
        refine WO_step rfl (S_pure rfl ?_)
        refine WO_nil ?_
        refine KSeq_n ?_
        refine WC_block ?_
        rw [ddpFrom, if_pos hb2] at hdd
        refine WC_post (WC_weak (lp_Cmp1 hc (s := s) (xs := xs) (k0 := k) hk1 hn hb1 (xs.length - (k + 1)) 1 k xs rfl (by omega) (by omega) (by omega) (by omega) rfl rfl ⟨y, by rw [Nat.add_sub_cancel]; exact hy, by rw [hdd, ← hb2]⟩) (by repeat (first | exact SubE.nil | apply SubE.cons rfl)) (by repeat (first | exact HSub.refl | refine HSub.pick (by repeat (first | exact Pick.head | apply Pick.tail)) ?_ | apply HSub.drop))) ?_
        rintro z l' H' ⟨k1, cur, rfl, rfl, rfl, h1, h2, h3⟩
        refine KBlock_h ?_
        refine KSeq_n ?_
        refine WC_seq ?_
        refine WC_region ?_
        refine WO_step rfl (S_pure rfl ?_)
        refine WO_step rfl (S_pure rfl ?_)
        refine WO_step rfl (S_cut rfl RD.head (by rfl) (LB.mk rfl rfl) LB.dflt LB.dflt (by omega) (by omega) (by omega) ?_)
        -- op (.clear [(.string ⟨#[]⟩), (.bool false), (.int .i64 0), (.int .i64 0), (.string ⟨#[]⟩)] (.tmp 61))
        refine WO_step rfl (S_clearD (z := rec0) (T := TRec) (s := s.toV) (lo := k1) (m := cur.length - k1) rfl Pick.head (SV.sub_toV _ _ _ _) (by omega) (by rfl) ?_)
        refine WO_nil ?_
        refine KSeq_n ?_
        refine WC_seq ?_
        refine WC_region ?_
        refine WO_step rfl (S_pure rfl ?_)
        refine WO_step rfl (S_pure rfl ?_)
        refine WO_step rfl (S_cut (a := 0) (b := k1) rfl RD.head (by rfl) LB.dflt (LB.mk rfl rfl) LB.dflt (by omega) (by simp only [List.length_append, List.length_take, List.length_drop, List.length_replicate]; omega) (by omega) ?_)
        refine WO_step rfl (S_pure rfl ?_)
        refine WO_nil ?_
        refine KSeq_n ?_
        refine WC_ret ?_
        refine KBlock_r ?_
        refine KSeq_r ?_
        refine KLoop_r ?_
        refine KPost_i (l' := [(4, (s.sub 5 0 (k1 - 0)).toV)]) (by repeat (first | exact SubE.nil | apply SubE.cons rfl)) (by repeat (first | exact HSub.refl | refine HSub.pick (by repeat (first | exact Pick.head | apply Pick.tail)) ?_ | apply HSub.drop)) (.inr ⟨_, _, rfl, rfl, rfl, fun h hh => ?_⟩)
        have := hh.recutSL (es := 5) (lo := 0) (n := k1) rfl (by simp; omega)
        rw [List.drop_zero, List.append_assoc, List.take_append_of_le_length (by simp; omega), List.take_take, Nat.min_self, ← h3] at this
        exact this
      ·
        try simp only [decide_eq_true_eq, decide_eq_false_iff_not, Bool.not_eq_true', Bool.not_eq_false', beq_iff_eq, bne_iff_ne, beq_eq_false_iff_ne, Int.ofNat_lt, Int.ofNat_le, Int.ofNat_inj, ne_eq, gt_iff_lt, ge_iff_le] at hb2
        refine WC_skip ?_
        refine KBlock_n ?_
        refine KSeq_n ?_
        refine WC_region ?_
        refine WO_step rfl (S_pure rfl ?_)
        first | refine WO_step rfl (S_addN (b := 1) rfl rfl (by omega) ?_) | refine WO_step rfl (S_pure rfl ?_)
        refine WO_step rfl (S_pure rfl ?_)
        refine WO_nil ?_
        refine KLoop_n ?_
        rw [ddpFrom, if_neg hb2] at hdd
        refine WC_weak (ih (xs.length - (k + 1)) (by omega) (k + 1) rfl (by omega) (by omega) ⟨y, by rw [Nat.add_sub_cancel]; exact hy, ?_⟩) (by repeat (first | exact SubE.nil | apply SubE.cons rfl)) (by repeat (first | exact HSub.refl | refine HSub.pick (by repeat (first | exact Pick.head | apply Pick.tail)) ?_ | apply HSub.drop))
        rw [List.take_add_one, hy, hdd, List.append_assoc]; rfl
    ·
      try simp only [decide_eq_true_eq, decide_eq_false_iff_not, Bool.not_eq_true', Bool.not_eq_false', beq_iff_eq, bne_iff_ne, beq_eq_false_iff_ne, Int.ofNat_lt, Int.ofNat_le, Int.ofNat_inj, ne_eq, gt_iff_lt, ge_iff_le] at hb1
      refine WC_exit ?_
      refine KSeq_x ?_
      refine KLoop_x ?_
      have e : k = xs.length := by omega
      refine KPost_i (l' := [(0, s.toV)]) (by repeat (first | exact SubE.nil | apply SubE.cons rfl)) (by repeat (first | exact HSub.refl | refine HSub.pick (by repeat (first | exact Pick.head | apply Pick.tail)) ?_ | apply HSub.drop)) (.inl ⟨rfl, rfl, rfl, ?_⟩)
      rw [hdd, e, List.take_length, List.drop_length]; simp [ddpFrom]
theorem sp_Compact {g : FuncId} (hc : ∀ (H : SH) (a b : Rec), WF F X g [TRec.val a, TRec.val b] H (fun r H' => H' = H ∧ r = .bool (decide (a.key = b.key)))) {H : SH} {s : SV} {xs : List Rec} (hn : xs.length ≤ 1000000) : WF F X f_slices_CompactFunc_api_Rec [s.toV, fv g] (SL s.toV TRec xs :: H) (fun r H' => ∃ w : SV, H' = SL w.toV TRec (ddp xs) :: H ∧ r = w.toV) := by
  refine WF_view ?_
  refine WF_fn F_slices_CompactFunc_api_Rec ?_
  refine WC_seq ?_
  refine WC_region ?_
  refine WO_step rfl (S_pure rfl ?_)
  refine WO_nil ?_
  refine KSeq_n ?_
  refine WC_seq ?_
  refine WC_seq ?_
  refine WC_region ?_
  refine WO_step rfl (S_pure rfl ?_)
  first | refine WO_step rfl (S_pure rfl ?_) | refine WO_step rfl (S_lenS rfl (by repeat (first | assumption | exact RD.head | exact RD.nil | apply RD.tail)) ?_)
  refine WO_step rfl (S_pure rfl ?_)
  refine WO_nil ?_
  refine KSeq_n ?_
  refine WC_cond rfl (fun hb1 => ?_) (fun hb1 => ?_)
  ·
    try simp only [decide_eq_true_eq, decide_eq_false_iff_not, Bool.not_eq_true', Bool.not_eq_false', beq_iff_eq, bne_iff_ne, beq_eq_false_iff_ne, Int.ofNat_lt, Int.ofNat_le, Int.ofNat_inj, ne_eq, gt_iff_lt, ge_iff_le] at hb1
    refine WC_seq ?_
    refine WC_region ?_
    refine WO_step rfl (S_pure rfl ?_)
    refine WO_step rfl (S_pure rfl ?_)
    refine WO_nil ?_
    refine KSeq_n ?_
    refine WC_ret ?_
    refine KSeq_r ?_
    refine KFn_r (ResL.tmp rfl ResL.nil) ?_
    have hd : ddp xs = xs := by
      cases xs with
      | nil => rfl
      | cons x xs =>
        have : xs = [] := nil_of (by simp at hb1; omega)
        subst this; rfl
    exact ⟨_, (by repeat (first | exact HSub.refl | refine HSub.pick (by repeat (first | exact Pick.head | apply Pick.tail)) ?_ | apply HSub.drop)), _, fun h hh => hh, s, by rw [hd], rfl⟩
  ·
    try simp only [decide_eq_true_eq, decide_eq_false_iff_not, Bool.not_eq_true', Bool.not_eq_false', beq_iff_eq, bne_iff_ne, beq_eq_false_iff_ne, Int.ofNat_lt, Int.ofNat_le, Int.ofNat_inj, ne_eq, gt_iff_lt, ge_iff_le] at hb1
    obtain ⟨p, xs', hxs⟩ := cons_of (l := xs) (by omega)
    refine WC_skip ?_
    refine KSeq_n ?_
    refine WC_seq ?_
    refine WC_seq ?_
    refine WC_region ?_
    refine WO_step rfl (S_pure rfl ?_)
    refine WO_nil ?_
    refine KSeq_n ?_
    refine WC_block ?_
    --out x0 r
    refine WC_post (WC_weak (lp_Cmp0 hc hn (xs.length - 1) 1 rfl (by omega) (by omega) ⟨p, by rw [hxs]; rfl, by rw [hxs]; rfl⟩) (by repeat (first | exact SubE.nil | apply SubE.cons rfl)) (by repeat (first | exact HSub.refl | refine HSub.pick (by repeat (first | exact Pick.head | apply Pick.tail)) ?_ | apply HSub.drop))) ?_
    rintro z l' H' (⟨rfl, rfl, rfl, h4⟩ | ⟨r, H'', rfl, rfl, rfl, h4⟩)
    ·
      refine KBlock_h ?_
      refine KSeq_n ?_
      refine WC_seq ?_
      refine WC_region ?_
      refine WO_step rfl (S_pure rfl ?_)
      refine WO_step rfl (S_pure rfl ?_)
      refine WO_nil ?_
      refine KSeq_n ?_
      refine WC_ret ?_
      refine KFn_r (ResL.tmp rfl ResL.nil) ?_
      exact ⟨_, (by repeat (first | exact HSub.refl | refine HSub.pick (by repeat (first | exact Pick.head | apply Pick.tail)) ?_ | apply HSub.drop)), _, fun h hh => hh, s, by rw [h4], rfl⟩
    ·
      refine KBlock_r ?_
      refine KSeq_r ?_
      refine KFn_r (ResL.tmp rfl ResL.nil) ?_
      exact ⟨_, HSub.refl, _, h4, r, rfl, rfl⟩
end Go.Proofs.Ytdpiggphcohmmaa.AM
