/- Walks: what the functions compute. -/
import Derived.Test.YtdpiggphcohmmaaM14
namespace Go.Proofs.Ytdpiggphcohmmaa.AM
open Go
set_option linter.unusedSimpArgs false
set_option linter.unusedVariables false
set_option maxRecDepth 4000

/-! ### The law MergeOne -/
theorem Rds.cut {H : SH} {w : SV} {svs : List SV} {E : Ty Rec} {ls : List (List Rec)} (h : Rds H w.toV svs TRecs E ls) {lo n : Nat} (hl : lo + n ≤ ls.length) : Rds H (w.sub 1 lo n).toV ((svs.drop lo).take n) TRecs E ((ls.drop lo).take n) := by
  refine ⟨h.out.sub' rfl (by rw [h.len]; exact hl), by simp only [List.length_take, List.length_drop, h.len], fun i sv l h1 h2 => ?_⟩
  rw [List.getElem?_take] at h1 h2
  split at h1
  · rename_i hi
    rw [if_pos hi] at h2
    rw [List.getElem?_drop] at h1 h2
    exact h.ins _ sv l h1 h2
  · cases h1
theorem Rds.cons {H : SH} {v : Value} {svs : List SV} {E : Ty Rec} {ls : List (List Rec)} {w u : SV} {l : List Rec} (h : Rds H v svs TRecs E ls) (hu : RD H u.toV E l) (ho : RD H w.toV TRecs (u :: svs)) : Rds H w.toV (u :: svs) TRecs E (l :: ls) := by
  refine ⟨ho, by simp [h.len], fun i sv l' h1 h2 => ?_⟩
  cases i with
  | zero => simp at h1 h2; subst h1 h2; exact hu
  | succ i => rw [List.getElem?_cons_succ] at h1 h2; exact h.ins i sv l' h1 h2
theorem short_mono {a b : List Rec} (h : short b) (hs : ∀ x ∈ a, x ∈ b) : short a := fun x hx => h x (hs x hx)
theorem ddp_mem {x : Rec} : ∀ {k : ByteArray} {l : List Rec}, x ∈ ddpFrom k l → x ∈ l
  | _, [], h => by simp [ddpFrom] at h
  | k, y :: l, h => by
    unfold ddpFrom at h
    split at h
    · exact List.mem_cons_of_mem _ (ddp_mem h)
    · rcases List.mem_cons.1 h with rfl | h
      · exact List.mem_cons_self ..
      · exact List.mem_cons_of_mem _ (ddp_mem h)
theorem mrgd_mem {x : Rec} {l : List Rec} (h : x ∈ mrgd l) : x ∈ l := by
  unfold mrgd at h
  refine (isort_perm (leOf ltR) l).mem_iff.1 ?_
  generalize isort (leOf ltR) l = S at h
  cases S with
  | nil => simp [ddp] at h
  | cons y S =>
    rcases List.mem_cons.1 h with rfl | h
    · exact List.mem_cons_self ..
    · exact List.mem_cons_of_mem _ (ddp_mem h)
theorem mrgd_app (a b : List Rec) : mrgd (mrgd a ++ b) = mrgd (a ++ b) :=
  Str.uniq (mrgd_spec _).1 (mrgd_spec _).1 fun k => by rw [(mrgd_spec _).2, (mrgd_spec _).2, fnd_app, fnd_app, (mrgd_spec _).2]
theorem lp_MO_end {H : SH} {m i : Nat} {v v1 : Value} {w u : SV} {P : List Rec} (hi : i < 200) :
    WC F X (.loop L_loesslaw23_MergeOne_0) [(9, .int .i64 i), (8, .pointer (some ⟨m, 0, none⟩)), (7, w.toV), (6, v), (1, v1)] (SL w.toV TRec P :: MOB m u :: SL u.toV TRec [] :: H)
      (KPost fun x l' H' => ∃ w : SV, x = .exit 0 ∧ l' = [(7, w.toV), (6, v), (1, v1)] ∧ H' = SL w.toV TRec P :: H) := by
  refine WC_loop ?_
  refine WC_seq ?_
  refine WC_seq ?_
  refine WC_region ?_
  refine WO_step rfl (S_pure rfl ?_)
  refine WO_step rfl (S_pure rfl ?_)
  refine WO_nil ?_
  refine KSeq_n ?_
  refine WC_cond rfl (fun hb1 => ?_) (fun hb1 => ?_)
  ·
    try simp only [decide_eq_true_eq, decide_eq_false_iff_not, Bool.not_eq_true', Bool.not_eq_false', beq_iff_eq, bne_iff_ne, beq_eq_false_iff_ne, Int.ofNat_lt, Int.ofNat_le, Int.ofNat_inj, ne_eq, gt_iff_lt, ge_iff_le] at hb1
    refine WC_skip ?_
    refine KSeq_n ?_
    refine WC_seq ?_
    refine WC_block ?_
    refine WC_seq ?_
    refine WC_region ?_
    refine WO_step rfl (S_pure rfl ?_)
    refine WO_call rfl rfl rfl ?_
    refine WF.weak (H1 := MOB m u :: SL u.toV TRec [] :: SL w.toV TRec P :: H) ?_ (by repeat (first | exact HSub.refl | refine HSub.pick (by repeat (first | exact Pick.head | apply Pick.tail)) ?_ | apply HSub.drop))
    refine (sp_NextEnd (w := u)).mono ?_
    rintro _ _ ⟨rfl, rfl⟩
    refine WO_step rfl (S_pure rfl ?_)
    refine WO_step rfl (S_pure rfl ?_)
    refine WO_step rfl (S_pure rfl ?_)
    refine WO_step rfl (S_new fun i10 => ?_)
    first | refine WO_step rfl (S_storeT rfl rfl (by repeat (first | exact Pick.head | apply Pick.tail)) (by rfl) (by rfl) ?_) | refine WO_step rfl (S_storeO rfl rfl (by repeat (first | exact Pick.head | apply Pick.tail)) (by first | rfl | exact SV.cells1 _) (by rfl) (by first | rfl | exact SV.ones _) ?_)
    refine WO_step rfl (S_pure rfl ?_)
    refine WO_nil ?_
    refine KSeq_n ?_
    refine WC_seq ?_
    refine WC_seq ?_
    refine WC_region ?_
    refine WO_step rfl (S_pure rfl ?_)
    refine WO_step rfl (S_pure rfl ?_)
    refine WO_nil ?_
    refine KSeq_n ?_
    refine WC_cond rfl (fun hb2 => ?_) (fun hb2 => ?_)
    ·
      try simp only [decide_eq_true_eq, decide_eq_false_iff_not, Bool.not_eq_true', Bool.not_eq_false', beq_iff_eq, bne_iff_ne, beq_eq_false_iff_ne, Int.ofNat_lt, Int.ofNat_le, Int.ofNat_inj, ne_eq, gt_iff_lt, ge_iff_le] at hb2
      refine WC_exit ?_
      refine KSeq_x ?_
      refine KBlock_x (by decide) ?_
      refine KSeq_x ?_
      refine KLoop_x ?_
      exact KPost_i (l' := [(7, w.toV), (6, v), (1, v1)]) (H' := SL w.toV TRec P :: H) (by repeat (first | exact SubE.nil | apply SubE.cons rfl)) (by repeat (first | exact HSub.refl | refine HSub.pick (by repeat (first | exact Pick.head | apply Pick.tail)) ?_ | apply HSub.drop)) ⟨w, rfl, rfl, rfl⟩
    ·
      try simp only [decide_eq_true_eq, decide_eq_false_iff_not, Bool.not_eq_true', Bool.not_eq_false', beq_iff_eq, bne_iff_ne, beq_eq_false_iff_ne, Int.ofNat_lt, Int.ofNat_le, Int.ofNat_inj, ne_eq, gt_iff_lt, ge_iff_le] at hb2
      exact absurd hb2 (by simp)
      --stop
  ·
    try simp only [decide_eq_true_eq, decide_eq_false_iff_not, Bool.not_eq_true', Bool.not_eq_false', beq_iff_eq, bne_iff_ne, beq_eq_false_iff_ne, Int.ofNat_lt, Int.ofNat_le, Int.ofNat_inj, ne_eq, gt_iff_lt, ge_iff_le] at hb1
    exfalso; omega
    --stop
theorem lp_MO_next {H : SH} {m i : Nat} {v v1 : Value} {L : List Rec} {w u : SV} {x : Rec} {R : List Rec} (hL : L.length ≤ 100) (hi : i < L.length) (htk : L.take (i + 1) = L.take i ++ [x])
    (hk : ∀ w u : SV, WC F X (.loop L_loesslaw23_MergeOne_0) [(9, .int .i64 ((i + 1 : Nat) : Int)), (8, .pointer (some ⟨m, 0, none⟩)), (7, w.toV), (6, v), (1, v1)] (SL w.toV TRec (L.take (i + 1)) :: MOB m u :: SL u.toV TRec R :: H)
      (KPost fun x l' H' => ∃ w : SV, x = .exit 0 ∧ l' = [(7, w.toV), (6, v), (1, v1)] ∧ H' = SL w.toV TRec L :: H)) :
    WC F X (.loop L_loesslaw23_MergeOne_0) [(9, .int .i64 i), (8, .pointer (some ⟨m, 0, none⟩)), (7, w.toV), (6, v), (1, v1)] (SL w.toV TRec (L.take i) :: MOB m u :: SL u.toV TRec (x :: R) :: H)
      (KPost fun x l' H' => ∃ w : SV, x = .exit 0 ∧ l' = [(7, w.toV), (6, v), (1, v1)] ∧ H' = SL w.toV TRec L :: H) := by
  have htl : (L.take i).length ≤ 100 := by rw [List.length_take]; omega
  refine WC_loop ?_
  refine WC_seq ?_
  refine WC_seq ?_
  refine WC_region ?_
  refine WO_step rfl (S_pure rfl ?_)
  refine WO_step rfl (S_pure rfl ?_)
  refine WO_nil ?_
  refine KSeq_n ?_
  refine WC_cond rfl (fun hb1 => ?_) (fun hb1 => ?_)
  ·
    try simp only [decide_eq_true_eq, decide_eq_false_iff_not, Bool.not_eq_true', Bool.not_eq_false', beq_iff_eq, bne_iff_ne, beq_eq_false_iff_ne, Int.ofNat_lt, Int.ofNat_le, Int.ofNat_inj, ne_eq, gt_iff_lt, ge_iff_le] at hb1
    refine WC_skip ?_
    refine KSeq_n ?_
    refine WC_seq ?_
    refine WC_block ?_
    refine WC_seq ?_
    refine WC_region ?_
    refine WO_step rfl (S_pure rfl ?_)
    refine WO_call rfl rfl rfl ?_
    refine WF.weak (H1 := MOB m u :: SL u.toV TRec (x :: R) :: SL w.toV TRec (L.take i) :: H) ?_ (by repeat (first | exact HSub.refl | refine HSub.pick (by repeat (first | exact Pick.head | apply Pick.tail)) ?_ | apply HSub.drop))
    refine (sp_Next (w := u)).mono ?_
    rintro _ _ ⟨u', rfl, rfl⟩
    refine WO_step rfl (S_pure rfl ?_)
    refine WO_step rfl (S_pure rfl ?_)
    refine WO_step rfl (S_pure rfl ?_)
    refine WO_step rfl (S_new fun i10 => ?_)
    first | refine WO_step rfl (S_storeT rfl rfl (by repeat (first | exact Pick.head | apply Pick.tail)) (by rfl) (by rfl) ?_) | refine WO_step rfl (S_storeO rfl rfl (by repeat (first | exact Pick.head | apply Pick.tail)) (by first | rfl | exact SV.cells1 _) (by rfl) (by first | rfl | exact SV.ones _) ?_)
    refine WO_step rfl (S_pure rfl ?_)
    refine WO_nil ?_
    refine KSeq_n ?_
    refine WC_seq ?_
    refine WC_seq ?_
    refine WC_region ?_
    refine WO_step rfl (S_pure rfl ?_)
    refine WO_step rfl (S_pure rfl ?_)
    refine WO_nil ?_
    refine KSeq_n ?_
    refine WC_cond rfl (fun hb2 => ?_) (fun hb2 => ?_)
    ·
      try simp only [decide_eq_true_eq, decide_eq_false_iff_not, Bool.not_eq_true', Bool.not_eq_false', beq_iff_eq, bne_iff_ne, beq_eq_false_iff_ne, Int.ofNat_lt, Int.ofNat_le, Int.ofNat_inj, ne_eq, gt_iff_lt, ge_iff_le] at hb2
      exact absurd hb2 (by simp)
      --stop
    ·
      try simp only [decide_eq_true_eq, decide_eq_false_iff_not, Bool.not_eq_true', Bool.not_eq_false', beq_iff_eq, bne_iff_ne, beq_eq_false_iff_ne, Int.ofNat_lt, Int.ofNat_le, Int.ofNat_inj, ne_eq, gt_iff_lt, ge_iff_le] at hb2
      refine WC_skip ?_
      refine KSeq_n ?_
      refine WC_region ?_
      refine WO_step rfl (S_pure rfl ?_)
      first | refine WO_step rfl (S_loadT rfl (by repeat (first | exact Pick.head | apply Pick.tail)) (by rfl) (by rfl) ?_) | refine WO_step rfl (S_loadO rfl (by repeat (first | exact Pick.head | apply Pick.tail)) (by rfl) (by rfl) ?_)
      refine WO_step rfl (S_lit1 (T := TRec) rfl rfl rfl rfl fun w43 => ?_)
      refine WO_step rfl (S_app rfl rfl (by repeat (first | exact Pick.head | apply Pick.tail)) (by first | exact SRC.str rfl rfl | (apply RD.src; repeat (first | assumption | exact RD.head | exact RD.nil | apply RD.tail))) (by rfl) (by rfl) (by (try simp only [List.length_append, List.length_cons, List.length_nil]); omega) fun w44 => ?_)
      refine WO_step rfl (S_pure rfl ?_)
      refine WO_nil ?_
      refine KBlock_n ?_
      refine KSeq_n ?_
      refine WC_region ?_
      refine WO_step rfl (S_pure rfl ?_)
      first | refine WO_step rfl (S_addN (b := 1) rfl rfl (by omega) ?_) | refine WO_step rfl (S_pure rfl ?_)
      refine WO_step rfl (S_pure rfl ?_)
      refine WO_nil ?_
      refine KLoop_n ?_
      exact WC_weak (hk w44 u') (by repeat (first | exact SubE.nil | apply SubE.cons rfl)) (by rw [htk]; exact (by repeat (first | exact HSub.refl | refine HSub.pick (by repeat (first | exact Pick.head | apply Pick.tail)) ?_ | apply HSub.drop)))
  ·
    try simp only [decide_eq_true_eq, decide_eq_false_iff_not, Bool.not_eq_true', Bool.not_eq_false', beq_iff_eq, bne_iff_ne, beq_eq_false_iff_ne, Int.ofNat_lt, Int.ofNat_le, Int.ofNat_inj, ne_eq, gt_iff_lt, ge_iff_le] at hb1
    exfalso; omega
    --stop
theorem lp_MO {H : SH} {m : Nat} {v v1 : Value} {L : List Rec} (hL : L.length ≤ 100) : ∀ (n i : Nat) (w u : SV), L.length - i = n → i ≤ L.length →
    WC F X (.loop L_loesslaw23_MergeOne_0) [(9, .int .i64 i), (8, .pointer (some ⟨m, 0, none⟩)), (7, w.toV), (6, v), (1, v1)] (SL w.toV TRec (L.take i) :: MOB m u :: SL u.toV TRec (L.drop i) :: H)
      (KPost fun x l' H' => ∃ w : SV, x = .exit 0 ∧ l' = [(7, w.toV), (6, v), (1, v1)] ∧ H' = SL w.toV TRec L :: H) := by
  intro n
  induction n using Nat.strongRecOn with
  | _ n ih =>
    intro i w u hn hi
    by_cases hlt : i < L.length
    · obtain ⟨x, hx⟩ := get_of_lt hlt
      have htk : L.take (i + 1) = L.take i ++ [x] := by rw [List.take_add_one, hx]; rfl
      rw [drop_get hx]
      exact lp_MO_next hL hlt htk (fun w u => ih (L.length - (i + 1)) (by omega) (i + 1) w u rfl (by omega))
    · have e : i = L.length := by omega
      subst e
      rw [List.drop_length, List.take_length]
      exact lp_MO_end (by omega)
theorem walk_MergeOne {H : SH} {v : Value} {svs : List SV} {ls : List (List Rec)} {at' : Int} (hv : Rds H v svs TRecs TRec ls) (hok : ∀ l ∈ ls, ∀ x ∈ l, okRec x) (hwf : (Lit.int .i64 at').wf = true) : WF F X f_loesslaw23_MergeOne [v, .int .i64 at'] H (fun r _ => r = .bool true) := by
  refine WF_fn F_loesslaw23_MergeOne ?_
  refine WC_seq ?_
  refine WC_region ?_
  refine WO_step rfl (S_pure rfl ?_)
  refine WO_nil ?_
  refine KSeq_n ?_
  refine WC_seq ?_
  refine WC_region ?_
  refine WO_call rfl rfl rfl ?_
  refine sp_begun.mono ?_
  rintro _ _ ⟨rfl, rfl⟩
  refine WO_step rfl (S_pure rfl ?_)
  refine WO_nil ?_
  refine KSeq_n ?_
  refine WC_seq ?_
  refine WC_seq ?_
  refine WC_region ?_
  refine WO_step rfl (S_pure rfl ?_)
  refine WO_step rfl (S_pure rfl ?_)
  refine WO_nil ?_
  refine KSeq_n ?_
  refine WC_cond rfl (fun hb1 => ?_) (fun hb1 => ?_)
  ·
    try simp only [decide_eq_true_eq, decide_eq_false_iff_not, Bool.not_eq_true', Bool.not_eq_false', beq_iff_eq, bne_iff_ne, beq_eq_false_iff_ne, Int.ofNat_lt, Int.ofNat_le, Int.ofNat_inj, ne_eq, gt_iff_lt, ge_iff_le] at hb1
    exact absurd hb1 (by decide)
    --stop
  ·
    try simp only [decide_eq_true_eq, decide_eq_false_iff_not, Bool.not_eq_true', Bool.not_eq_false', beq_iff_eq, bne_iff_ne, beq_eq_false_iff_ne, Int.ofNat_lt, Int.ofNat_le, Int.ofNat_inj, ne_eq, gt_iff_lt, ge_iff_le] at hb1
    refine WC_skip ?_
    refine KSeq_n ?_
    refine WC_seq ?_
    refine WC_region ?_
    refine WO_step rfl (S_pure rfl ?_)
    refine WO_call rfl rfl rfl ?_
    refine (sp_sources hv).mono ?_
    rintro _ _ ⟨w4, us, B, rfl, hB, hR, rfl⟩
    obtain ⟨hf1, hf2, hf3, hf4⟩ := srcs_facts ls
    generalize srcsOf ls = L at *
    refine WO_step rfl (S_pure rfl ?_)
    refine WO_nil ?_
    refine KSeq_n ?_
    refine WC_seq ?_
    refine WC_seq ?_
    refine WC_region ?_
    refine WO_step rfl (S_pure rfl ?_)
    refine WO_step rfl (S_pure rfl ?_)
    refine WO_step rfl (S_pure rfl ?_)
    refine WO_cases (t := 20) rfl (fun hg1 => ?_) (fun hg1 => ?_)
    ·
      try simp only [decide_eq_true_eq, decide_eq_false_iff_not, Bool.not_eq_true', Bool.not_eq_false', beq_iff_eq, bne_iff_ne, beq_eq_false_iff_ne, Int.ofNat_lt, Int.ofNat_le, Int.ofNat_inj, ne_eq, gt_iff_lt, ge_iff_le] at hg1
      refine WO_off rfl ?_
      refine WO_off rfl ?_
      refine WO_off rfl ?_
      refine WO_off rfl ?_
      refine WO_step rfl (S_pure rfl ?_)
      refine WO_nil ?_
      refine KSeq_n ?_
      refine WC_cond rfl (fun _ => ?_) (fun h => ?_)
      rotate_left
      · exact absurd h (by decide)
      refine WC_seq ?_
      refine WC_region ?_
      refine WO_step rfl (S_pure rfl ?_)
      refine WO_nil ?_
      refine KSeq_n ?_
      refine WC_ret ?_
      refine KSeq_r ?_
      refine KFn_r (ResL.tmp rfl ResL.nil) ?_
      exact ⟨_, HSub.refl, rfl⟩
    ·
      try simp only [decide_eq_true_eq, decide_eq_false_iff_not, Bool.not_eq_true', Bool.not_eq_false', beq_iff_eq, bne_iff_ne, beq_eq_false_iff_ne, Int.ofNat_lt, Int.ofNat_le, Int.ofNat_inj, ne_eq, gt_iff_lt, ge_iff_le] at hg1
      refine WO_step rfl (S_pure rfl ?_)
      refine WO_step rfl (S_pure rfl ?_)
      refine WO_step rfl (S_lenS rfl hR.out ?_)
      rw [hR.len]
      refine WO_step rfl (S_pure rfl ?_)
      refine WO_step rfl (S_pure rfl ?_)
      refine WO_nil ?_
      refine KSeq_n ?_
      refine WC_cond rfl (fun hb2 => ?_) (fun hb2 => ?_)
      ·
        try simp only [decide_eq_true_eq, decide_eq_false_iff_not, Bool.not_eq_true', Bool.not_eq_false', beq_iff_eq, bne_iff_ne, beq_eq_false_iff_ne, Int.ofNat_lt, Int.ofNat_le, Int.ofNat_inj, ne_eq, gt_iff_lt, ge_iff_le] at hb2
        refine WC_seq ?_
        refine WC_region ?_
        refine WO_step rfl (S_pure rfl ?_)
        refine WO_nil ?_
        refine KSeq_n ?_
        refine WC_ret ?_
        refine KSeq_r ?_
        refine KFn_r (ResL.tmp rfl ResL.nil) ?_
        exact ⟨_, HSub.refl, rfl⟩
      ·
        try simp only [decide_eq_true_eq, decide_eq_false_iff_not, Bool.not_eq_true', Bool.not_eq_false', beq_iff_eq, bne_iff_ne, beq_eq_false_iff_ne, Int.ofNat_lt, Int.ofNat_le, Int.ofNat_inj, ne_eq, gt_iff_lt, ge_iff_le] at hb2
        obtain ⟨p, hp⟩ : ∃ p : Nat, at' = p := ⟨at'.toNat, by omega⟩
        subst hp
        have hpl : p ≤ L.length := by omega
        have hlen := hR.len
        have hcut := hR.cut (lo := 0) (n := p) (by omega)
        have hcut2 := hR.cut (lo := p) (n := L.length - p) (by omega)
        have htf : ((L.drop 0).take p).flatten.length ≤ 100 := by rw [List.drop_zero]; have := flat_take_le L p; omega
        have hsf : short ((L.drop 0).take p).flatten := short_mono hf3 (by
          intro x hx
          rw [List.drop_zero] at hx
          obtain ⟨l, hl, hxl⟩ := List.mem_flatten.1 hx
          exact List.mem_flatten.2 ⟨l, List.mem_of_mem_take hl, hxl⟩)
        have hml := mrgd_len ((L.drop 0).take p).flatten
        refine WC_skip ?_
        refine KSeq_n ?_
        refine WC_seq ?_
        refine WC_region ?_
        refine WO_step rfl (S_pure rfl ?_)
        refine WO_nil ?_
        refine KSeq_n ?_
        refine WC_seq ?_
        refine WC_region ?_
        refine WO_step rfl (S_pure rfl ?_)
        refine WO_step rfl (S_pure rfl ?_)
        refine WO_step rfl (S_cut (a := 0) (b := p) rfl hR.out (by rfl) LB.dflt (LB.mk rfl rfl) LB.dflt (by omega) (by omega) (by omega) ?_)
        rw [Nat.sub_zero]
        refine WO_call rfl rfl rfl ?_
        refine (sp_New hcut (by omega) (by simp; omega) hsf).mono ?_
        rintro _ _ ⟨mN, wN, rfl, rfl⟩
        refine WO_step rfl (S_pure rfl ?_)
        refine WO_nil ?_
        refine KSeq_n ?_
        refine WC_seq ?_
        refine WC_seq ?_
        refine WC_region ?_
        refine WO_step rfl (S_pure rfl ?_)
        refine WO_nil ?_
        refine KSeq_n ?_
        refine WC_block ?_
        refine WC_view (H' := SL (SV.toV .nil) TRec [] :: MOB mN wN :: SL wN.toV TRec (mrgd ((L.drop 0).take p).flatten) :: SL w4.toV TRecs us :: B) (fun h hh => (HAg.addNil hh)) ?_
        refine WC_post (WC_weak (lp_MO (H := SL w4.toV TRecs us :: B) (m := mN) (v := w4.toV) (v1 := .int .i64 p) (L := mrgd ((L.drop 0).take p).flatten) (by omega) (mrgd ((L.drop 0).take p).flatten).length 0 .nil wN (by omega) (by omega)) (by repeat (first | exact SubE.nil | apply SubE.cons rfl)) (by repeat (first | exact HSub.refl | refine HSub.pick (by repeat (first | exact Pick.head | apply Pick.tail)) ?_ | apply HSub.drop))) ?_
        rintro y l' H' ⟨w7, rfl, rfl, rfl⟩
        refine KBlock_h ?_
        refine KSeq_n ?_
        refine WC_seq ?_
        refine WC_region ?_
        refine WO_step rfl (S_pure rfl ?_)
        refine WO_step rfl (S_litSV (T := TRecs) (w := w7) rfl rfl rfl rfl fun w46 => ?_)
        refine WO_step rfl (S_pure rfl ?_)
        refine WO_step rfl (S_pure rfl ?_)
        refine WO_step rfl (S_cut (a := p) (b := us.length) rfl hR.out.tail.tail (by rfl) (LB.mk rfl rfl) LB.dflt LB.dflt (by omega) (by omega) (by omega) ?_)
        rw [hlen]
        refine WO_step rfl (S_app (xs := [w7]) (ys := (us.drop p).take (L.length - p)) rfl rfl Pick.head (RD.src hcut2.out.tail.tail) (by rfl) (by rfl) (by simp; omega) fun w50 => ?_)
        refine WO_step rfl (S_pure rfl ?_)
        refine WO_nil ?_
        refine KSeq_n ?_
        refine WC_seq ?_
        refine WC_region ?_
        refine WO_step rfl (S_pure rfl ?_)
        refine WO_call rfl rfl rfl ?_
        have hrest : Rds (SL w50.toV TRecs ([w7] ++ (us.drop p).take (L.length - p)) :: SL w7.toV TRec (mrgd ((L.drop 0).take p).flatten) :: SL w4.toV TRecs us :: B) w50.toV (w7 :: (us.drop p).take (L.length - p)) TRecs TRec (mrgd ((L.drop 0).take p).flatten :: (L.drop p).take (L.length - p)) :=
          (hcut2.sub HSub.refl.drop.drop).cons RD.head.tail RD.head
        have hfl : (mrgd ((L.drop 0).take p).flatten :: (L.drop p).take (L.length - p)).flatten.length ≤ 1000 := by
          have h1 : ((L.drop p).take (L.length - p)).flatten.length ≤ 100 := by
            have h2 : (L.take p).flatten.length + (L.drop p).flatten.length = L.flatten.length := by rw [← List.length_append, ← List.flatten_append, List.take_append_drop]
            rw [List.take_of_length_le (by simp)]; omega
          rw [List.flatten_cons, List.length_append]; omega
        have hsh : short (mrgd ((L.drop 0).take p).flatten :: (L.drop p).take (L.length - p)).flatten := by
          intro x hx
          rw [List.flatten_cons] at hx
          rcases List.mem_append.1 hx with hx | hx
          · exact hsf x (mrgd_mem hx)
          · rw [List.take_of_length_le (by simp)] at hx
            obtain ⟨l, hl, hxl⟩ := List.mem_flatten.1 hx
            exact hf3 x (List.mem_flatten.2 ⟨l, List.mem_of_mem_drop hl, hxl⟩)
        refine (sp_All hrest hfl (by simp; omega) hsh).mono ?_
        rintro _ _ ⟨wA, rfl, rfl⟩
        have heq : mrgd (mrgd ((L.drop 0).take p).flatten :: (L.drop p).take (L.length - p)).flatten = mrgd L.flatten := by
          rw [List.flatten_cons, mrgd_app, List.drop_zero, List.take_of_length_le (l := L.drop p) (by simp), ← List.flatten_append, List.take_append_drop]
        rw [heq]
        refine WO_step rfl (S_pure rfl ?_)
        refine WO_call rfl rfl rfl ?_
        refine (sp_All (hR.sub (by repeat (first | exact HSub.refl | refine HSub.pick (by repeat (first | exact Pick.head | apply Pick.tail)) ?_ | apply HSub.drop))) (by omega) (by omega) hf3).mono ?_
        rintro _ _ ⟨wA2, rfl, rfl⟩
        have hpl2 := pairsOf_len (mrgd L.flatten)
        have hml2 := mrgd_len L.flatten
        refine WO_call rfl rfl rfl ?_
        refine (sp_EqPairs (by repeat (first | assumption | exact RD.head | exact RD.nil | apply RD.tail)) (by repeat (first | assumption | exact RD.head | exact RD.nil | apply RD.tail)) (by omega)).mono ?_
        rintro _ _ ⟨rfl, rfl⟩
        refine WO_step rfl (S_pure rfl ?_)
        refine WO_nil ?_
        refine KSeq_n ?_
        refine WC_ret ?_
        refine KFn_r (ResL.tmp rfl ResL.nil) ?_
        refine ⟨_, HSub.refl, ?_⟩
        simp [resV]
end Go.Proofs.Ytdpiggphcohmmaa.AM
