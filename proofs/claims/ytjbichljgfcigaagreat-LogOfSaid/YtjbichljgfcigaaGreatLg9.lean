/- Walks: what the functions compute. -/
import Derived.Test.YtjbichljgfcigaaGreatLg8
namespace Go.Proofs.YtjbichljgfcigaaGreat.AM
open Go
set_option linter.unusedSimpArgs false
set_option linter.unusedVariables false
set_option maxRecDepth 4000

theorem sp_Near {H : SH} {a b : Nat} (ha : a < 18446744073709551616) (hb : b < 18446744073709551616) : WF F X f_loessref6_Near [.int .u64 (a : Int), .int .u64 (b : Int)] H (fun r H' => H' = H ∧ r = .bool (near a b)) := by
  have h1 := frst_lt b
  have h2 := tagOf_lt b
  refine WF_fn F_loessref6_Near ?_
  refine WC_seq ?_
  refine WC_region ?_
  refine WO_step rfl (S_pure rfl ?_)
  refine WO_nil ?_
  refine KSeq_n ?_
  refine WC_seq ?_
  refine WC_region ?_
  refine WO_step rfl (S_pure rfl ?_)
  refine WO_call rfl rfl rfl ?_
  refine (sp_rTag (by omega)).mono ?_
  rintro _ _ ⟨rfl, rfl⟩
  refine WO_step rfl (S_pure rfl ?_)
  refine WO_call rfl rfl rfl ?_
  refine (sp_rTag (by omega)).mono ?_
  rintro _ _ ⟨rfl, rfl⟩
  first | refine WO_step rfl (S_eqS rfl rfl ?_) | refine WO_step rfl (S_pure rfl ?_)
  refine WO_step rfl (S_pure rfl ?_)
  refine WO_cases (t := 10) rfl (fun hg1 => ?_) (fun hg1 => ?_)
  ·
    try simp only [decide_eq_true_eq, decide_eq_false_iff_not, Bool.not_eq_true', Bool.not_eq_false', beq_iff_eq, bne_iff_ne, beq_eq_false_iff_ne, Int.ofNat_lt, Int.ofNat_le, Int.ofNat_inj, ne_eq, gt_iff_lt, ge_iff_le] at hg1
    refine WO_step rfl (S_pure rfl ?_)
    refine WO_call rfl rfl rfl ?_
    refine (sp_rFirst (by omega)).mono ?_
    rintro _ _ ⟨rfl, rfl⟩
    refine WO_step rfl (S_pure rfl ?_)
    refine WO_call rfl rfl rfl ?_
    refine (sp_rFirst (by omega)).mono ?_
    rintro _ _ ⟨rfl, rfl⟩
    first | refine WO_step rfl (S_eqS rfl rfl ?_) | refine WO_step rfl (S_pure rfl ?_)
    refine WO_step rfl (S_pure rfl ?_)
    refine WO_cases (t := 16) rfl (fun hg2 => ?_) (fun hg2 => ?_)
    ·
      try simp only [decide_eq_true_eq, decide_eq_false_iff_not, Bool.not_eq_true', Bool.not_eq_false', beq_iff_eq, bne_iff_ne, beq_eq_false_iff_ne, Int.ofNat_lt, Int.ofNat_le, Int.ofNat_inj, ne_eq, gt_iff_lt, ge_iff_le] at hg2
      refine WO_off rfl ?_
      refine WO_off rfl ?_
      refine WO_off rfl ?_
      refine WO_off rfl ?_
      refine WO_off rfl ?_
      refine WO_off rfl ?_
      refine WO_off rfl ?_
      refine WO_off rfl ?_
      refine WO_step rfl (S_pure rfl ?_)
      refine WO_step rfl (S_pure rfl ?_)
      refine WO_step rfl (S_pure rfl ?_)
      refine WO_nil ?_
      refine KSeq_n ?_
      refine WC_ret ?_
      refine KFn_r (ResL.tmp rfl ResL.nil) ?_
      refine ⟨_, HSub.refl, rfl, ?_⟩
      unfold near
      simp only [resV]
      congr 1
      rw [Bool.eq_iff_iff]
      simp at *
      try simp [hg1]
      try omega
    ·
      try simp only [decide_eq_true_eq, decide_eq_false_iff_not, Bool.not_eq_true', Bool.not_eq_false', beq_iff_eq, bne_iff_ne, beq_eq_false_iff_ne, Int.ofNat_lt, Int.ofNat_le, Int.ofNat_inj, ne_eq, gt_iff_lt, ge_iff_le] at hg2
      refine WO_step rfl (S_pure rfl ?_)
      refine WO_call rfl rfl rfl ?_
      refine (sp_rFirst (by omega)).mono ?_
      rintro _ _ ⟨rfl, rfl⟩
      refine WO_step rfl (S_pure rfl ?_)
      refine WO_call rfl rfl rfl ?_
      refine (sp_rFirst (by omega)).mono ?_
      rintro _ _ ⟨rfl, rfl⟩
      refine WO_step rfl (S_pure rfl ?_)
      refine WO_call rfl rfl rfl ?_
      refine (sp_rTag (by omega)).mono ?_
      rintro _ _ ⟨rfl, rfl⟩
      refine WO_call rfl rfl rfl ?_
      refine (sp_rOther (by assumption) (by assumption)).mono ?_
      rintro _ _ ⟨rfl, rfl⟩
      first | refine WO_step rfl (S_eqS rfl rfl ?_) | refine WO_step rfl (S_pure rfl ?_)
      refine WO_step rfl (S_pure rfl ?_)
      refine WO_step rfl (S_pure rfl ?_)
      refine WO_step rfl (S_pure rfl ?_)
      refine WO_nil ?_
      refine KSeq_n ?_
      refine WC_ret ?_
      refine KFn_r (ResL.tmp rfl ResL.nil) ?_
      refine ⟨_, HSub.refl, rfl, ?_⟩
      unfold near
      simp only [resV]
      congr 1
      rw [Bool.eq_iff_iff]
      simp at *
      try simp [hg1]
      try omega
  ·
    try simp only [decide_eq_true_eq, decide_eq_false_iff_not, Bool.not_eq_true', Bool.not_eq_false', beq_iff_eq, bne_iff_ne, beq_eq_false_iff_ne, Int.ofNat_lt, Int.ofNat_le, Int.ofNat_inj, ne_eq, gt_iff_lt, ge_iff_le] at hg1
    refine WO_off rfl ?_
    refine WO_off rfl ?_
    refine WO_off rfl ?_
    refine WO_off rfl ?_
    refine WO_off rfl ?_
    refine WO_off rfl ?_
    refine WO_off rfl ?_
    refine WO_off rfl ?_
    refine WO_off rfl ?_
    refine WO_off rfl ?_
    refine WO_off rfl ?_
    refine WO_off rfl ?_
    refine WO_off rfl ?_
    refine WO_off rfl ?_
    refine WO_off rfl ?_
    refine WO_step rfl (S_pure rfl ?_)
    refine WO_step rfl (S_pure rfl ?_)
    refine WO_nil ?_
    refine KSeq_n ?_
    refine WC_ret ?_
    refine KFn_r (ResL.tmp rfl ResL.nil) ?_
    refine ⟨_, HSub.refl, rfl, ?_⟩
    unfold near
    simp only [resV]
    congr 1
    rw [Bool.eq_iff_iff]
    simp at *
    try simp [hg1]
    try omega
/-! ### The laws LogOf, LogAll -/
theorem lp_rRd {H : SH} {v : Value} {l : List Rec} {k : ByteArray} (hv : RD H v TRec l) (hL : l.length ≤ 1000) (hks : ∀ x ∈ l, x.key.size ≤ 1000000) (hk : k.size ≤ 1000000) : ∀ (n a : Nat), l.length - a = n → a ≤ l.length →
    WC F X (.loop L_loessref22_Reads_0) [(6, .int .i64 (a : Int)), (5, .int .i64 (((hsOf (l.take a)).countP (near (kH k)) : Nat) : Int)), (0, v), (1, .string k)] H (KPost fun x l' H' => x = .exit 0 ∧ l' = [(5, .int .i64 (((hsOf l).countP (near (kH k)) : Nat) : Int))] ∧ H' = H) := by
  intro n
  induction n using Nat.strongRecOn with
  | _ n ih =>
    intro a hn ha
    have hc : (hsOf (l.take a)).countP (near (kH k)) ≤ a := Nat.le_trans List.countP_le_length (by unfold hsOf; rw [List.length_map, List.length_take]; omega)
    refine WC_loop ?_
    refine WC_seq ?_
    refine WC_seq ?_
    refine WC_region ?_
    refine WO_step rfl (S_pure rfl ?_)
    refine WO_step rfl (S_pure rfl ?_)
    first | refine WO_step rfl (S_pure rfl ?_) | refine WO_step rfl (S_lenS rfl (by repeat (first | assumption | exact RD.head | exact RD.nil | apply RD.tail)) ?_)
    refine WO_step rfl (S_pure rfl ?_)
    refine WO_nil ?_
    refine KSeq_n ?_
    refine WC_cond rfl (fun hb1 => ?_) (fun hb1 => ?_)
    ·
      try simp only [decide_eq_true_eq, decide_eq_false_iff_not, Bool.not_eq_true', Bool.not_eq_false', beq_iff_eq, bne_iff_ne, beq_eq_false_iff_ne, Int.ofNat_lt, Int.ofNat_le, Int.ofNat_inj, ne_eq, gt_iff_lt, ge_iff_le] at hb1
      obtain ⟨q, hq⟩ := get_of_lt hb1
      have hqs := hks q (List.mem_of_getElem? hq)
      have htk : (hsOf (l.take (a + 1))).countP (near (kH k)) = (hsOf (l.take a)).countP (near (kH k)) + if near (kH k) (kH q.key) then 1 else 0 := by
        unfold hsOf
        rw [List.take_add_one, hq, List.map_append, List.countP_append]
        show _ + List.countP (near (kH k)) [kH q.key] = _
        rw [List.countP_singleton]
      have hk1 := kH_lt k
      have hk2 := kH_lt q.key
      refine WC_skip ?_
      refine KSeq_n ?_
      refine WC_seq ?_
      refine WC_block ?_
      refine WC_seq ?_
      refine WC_drawn ?_
      refine WD_step rfl (S_pure rfl ?_)
      refine WD_call rfl rfl rfl ?_
      refine (sp_RHash hk).mono ?_
      rintro _ _ ⟨rfl, rfl⟩
      rw [kH_eq]
      refine WD_step rfl (S_pure rfl ?_)
      refine WD_step rfl (S_pure rfl ?_)
      refine WD_step rfl (S_idx rfl rfl (by repeat (first | assumption | exact RD.head | exact RD.nil | apply RD.tail)) (by rfl) (by rfl) hb1 fun hp17 => ?_)
      refine WD_step rfl (S_fldE rfl (by repeat (first | assumption | apply IsP.padd)) ?_)
      refine WD_step rfl (S_loadF (x := q) rfl (by repeat (first | assumption | exact RD.head | exact RD.nil | apply RD.tail)) (by rfl) hq (by rfl) (by rfl) ?_)
      refine WD_call rfl rfl rfl ?_
      refine (sp_RHash hqs).mono ?_
      rintro _ _ ⟨rfl, rfl⟩
      rw [kH_eq]
      refine WD_call rfl rfl rfl ?_
      refine (sp_Near (by omega) (by omega)).mono ?_
      rintro _ _ ⟨rfl, rfl⟩
      refine WD_nil ?_
      refine ⟨?_, ?_⟩
      ·
        repeat' (first | exact trivial | apply And.intro)
        exact ObR.of_step rfl (S_loadF (x := q) rfl (by repeat (first | assumption | exact RD.head | exact RD.nil | apply RD.tail)) (by rfl) hq (by rfl) (by rfl) (by simp [eqV, eqV0]))
      ·
        refine KSeq_n ?_
        refine WC_cond rfl (fun hb2 => ?_) (fun hb2 => ?_)
        ·
          try simp only [decide_eq_true_eq, decide_eq_false_iff_not, Bool.not_eq_true', Bool.not_eq_false', beq_iff_eq, bne_iff_ne, beq_eq_false_iff_ne, Int.ofNat_lt, Int.ofNat_le, Int.ofNat_inj, ne_eq, gt_iff_lt, ge_iff_le] at hb2
          refine WC_region ?_
          refine WO_step rfl (S_pure rfl ?_)
          first | refine WO_step rfl (S_addN (b := 1) rfl rfl (by omega) ?_) | refine WO_step rfl (S_pure rfl ?_)
          refine WO_step rfl (S_pure rfl ?_)
          refine WO_nil ?_
          refine KBlock_n ?_
          refine KSeq_n ?_
          refine WC_region ?_
          refine WO_step rfl (S_pure rfl ?_)
          first | refine WO_step rfl (S_addN (b := 1) rfl rfl (by omega) ?_) | refine WO_step rfl (S_pure rfl ?_)
          refine WO_step rfl (S_pure rfl ?_)
          refine WO_nil ?_
          refine KLoop_n ?_
          rw [hb2, if_pos rfl] at htk
          refine WC_weak (ih (l.length - (a + 1)) (by omega) (a + 1) rfl (by omega)) ?_ (by repeat (first | exact HSub.refl | refine HSub.pick (by repeat (first | exact Pick.head | apply Pick.tail)) ?_ | apply HSub.drop))
          rw [htk]; exact (by repeat (first | exact SubE.nil | apply SubE.cons rfl))
        ·
          try simp only [decide_eq_true_eq, decide_eq_false_iff_not, Bool.not_eq_true', Bool.not_eq_false', beq_iff_eq, bne_iff_ne, beq_eq_false_iff_ne, Int.ofNat_lt, Int.ofNat_le, Int.ofNat_inj, ne_eq, gt_iff_lt, ge_iff_le] at hb2
          refine WC_skip ?_
          refine KBlock_n ?_
          refine KSeq_n ?_
          refine WC_region ?_
          refine WO_step rfl (S_pure rfl ?_)
          first | refine WO_step rfl (S_addN (b := 1) rfl rfl (by omega) ?_) | refine WO_step rfl (S_pure rfl ?_)
          refine WO_step rfl (S_pure rfl ?_)
          refine WO_nil ?_
          refine KLoop_n ?_
          rw [hb2] at htk
          simp only [Bool.false_eq_true, if_false, Nat.add_zero] at htk
          refine WC_weak (ih (l.length - (a + 1)) (by omega) (a + 1) rfl (by omega)) ?_ (by repeat (first | exact HSub.refl | refine HSub.pick (by repeat (first | exact Pick.head | apply Pick.tail)) ?_ | apply HSub.drop))
          rw [htk]; exact (by repeat (first | exact SubE.nil | apply SubE.cons rfl))
    ·
      try simp only [decide_eq_true_eq, decide_eq_false_iff_not, Bool.not_eq_true', Bool.not_eq_false', beq_iff_eq, bne_iff_ne, beq_eq_false_iff_ne, Int.ofNat_lt, Int.ofNat_le, Int.ofNat_inj, ne_eq, gt_iff_lt, ge_iff_le] at hb1
      refine WC_exit ?_
      refine KSeq_x ?_
      refine KLoop_x ?_
      refine KPost_i (l' := [(5, .int .i64 (((hsOf (l.take a)).countP (near (kH k)) : Nat) : Int))]) (by repeat (first | exact SubE.nil | apply SubE.cons rfl)) (by repeat (first | exact HSub.refl | refine HSub.pick (by repeat (first | exact Pick.head | apply Pick.tail)) ?_ | apply HSub.drop)) ⟨rfl, ?_, rfl⟩
      rw [List.take_of_length_le (by omega)]
theorem sp_rRd {H : SH} {v : Value} {l : List Rec} {k : ByteArray} (hv : RD H v TRec l) (hL : l.length ≤ 1000) (hks : ∀ x ∈ l, x.key.size ≤ 1000000) (hk : k.size ≤ 1000000) : WF F X f_loessref22_Reads [v, .string k] H (fun r H' => H' = H ∧ r = .int .i64 (((hsOf l).countP (near (kH k)) : Nat) : Int)) := by
  refine WF_fn F_loessref22_Reads ?_
  refine WC_seq ?_
  refine WC_region ?_
  refine WO_step rfl (S_pure rfl ?_)
  refine WO_nil ?_
  refine KSeq_n ?_
  refine WC_seq ?_
  refine WC_region ?_
  refine WO_step rfl (S_pure rfl ?_)
  refine WO_nil ?_
  refine KSeq_n ?_
  refine WC_seq ?_
  refine WC_seq ?_
  refine WC_region ?_
  refine WO_step rfl (S_pure rfl ?_)
  refine WO_nil ?_
  refine KSeq_n ?_
  refine WC_block ?_
  --out x0
  refine WC_post (WC_weak (lp_rRd hv hL hks hk l.length 0 (by omega) (by omega)) (by repeat (first | exact SubE.nil | apply SubE.cons rfl)) (by repeat (first | exact HSub.refl | refine HSub.pick (by repeat (first | exact Pick.head | apply Pick.tail)) ?_ | apply HSub.drop))) ?_
  rintro x l' _ ⟨rfl, rfl, rfl⟩
  refine KBlock_h ?_
  refine KSeq_n ?_
  refine WC_seq ?_
  refine WC_region ?_
  refine WO_step rfl (S_pure rfl ?_)
  refine WO_step rfl (S_pure rfl ?_)
  refine WO_nil ?_
  refine KSeq_n ?_
  refine WC_ret ?_
  refine KFn_r (ResL.tmp rfl ResL.nil) ?_
  exact ⟨_, HSub.refl, rfl, rfl⟩
theorem kvsF_count (p : Nat → Bool) : ∀ (a : Nat) (l : List Rec), ((kvsF a l).filter fun x => p x.h).length = (hsOf l).countP p
  | _, [] => rfl
  | a, r :: l => by
    have ih := kvsF_count p (a + 1) l
    rw [kvsF, List.filter_cons]
    unfold hsOf at ih ⊢
    rw [List.map_cons, List.countP_cons, ← ih]
    cases h : p (kH r.key) <;> simp
theorem reads_eq {l : List Rec} (h : (keysOf l).Nodup) (k : Nat) : (nearL (kvs l) k).length = (hsOf (newest l)).countP (near k) := by
  unfold nearL kvs
  rw [List.length_map, kvsF_count]
  exact (((newest_perm h).map _).countP_eq _).symm
theorem put_nd {l : List Rec} {r : Rec} (h : (keysOf l).Nodup) : (keysOf (putF l r).2).Nodup := by
  unfold putF
  split
  · exact h
  · split
    · rename_i hi
      rcases idxK_spec l r.key with ⟨i, q, h1, h2, h3⟩ | ⟨h1, _⟩
      · rw [h1, Int.toNat_natCast, keys_set h2 h3.symm]; exact h
      · rw [h1] at hi; exact absurd hi (by decide)
    · rename_i hi
      split
      · unfold keysOf
        rw [List.map_append, List.nodup_append]
        refine ⟨h, by simp, fun a ha b hb => ?_⟩
        simp at hb; subst hb
        obtain ⟨q, hq, rfl⟩ := List.mem_map.1 ha
        rcases idxK_spec l r.key with ⟨i, q', h1, _⟩ | ⟨_, h2⟩
        · rw [h1] at hi; exact absurd (Int.natCast_nonneg i) hi
        · exact h2 q hq
      · exact h
theorem put_len_le (l : List Rec) (r : Rec) : (putF l r).2.length ≤ l.length + 1 := by
  unfold putF
  split
  · exact Nat.le_succ _
  · split
    · simp
    · split
      · simp
      · exact Nat.le_succ _
theorem put_bad {l : List Rec} {r : Rec} (h : mayRec r = false) : (putF l r).1 = 1 := by unfold putF; rw [if_pos h]
theorem allmay_sz {l : List Rec} (h : AllMay l) : ∀ x ∈ l, x.key.size ≤ 1000000 := fun x hx => by have := may_key (h x hx); omega
theorem sp_lOf2 {H : SH} {v : Value} {N : List Rec} (hv : RD H v TRec N) (hN : N.length ≤ 1000) : WF F X f_logstore_Of [v] H (fun q H' => ∃ (p : Value) (R : SH), q = .tuple #[p, .int .i64 (ofF [] N).1] ∧ H' = R ++ H ∧ ((ofF [] N).1 = 0 → ∃ (j iD : Nat) (w : SV) (es : List Ent), p = .pointer (some ⟨j, 0, none⟩) ∧ R = [LO j iD w, SL w.toV TRec (ofF [] N).2, DO iD es (ofF [] N).2.length] ∧ LogI es (ofF [] N).2) ∧ ((ofF [] N).1 ≠ 0 → p = .pointer none ∧ R = [])) := by
  refine (sp_lOf hv hN).mono ?_
  rintro q H' (⟨j, iD, w, es, rfl, rfl, hg, h0⟩ | ⟨rfl, rfl, h0⟩)
  · exact ⟨_, [LO j iD w, SL w.toV TRec (ofF [] N).2, DO iD es (ofF [] N).2.length], by rw [h0], rfl, fun _ => ⟨j, iD, w, es, rfl, rfl, hg⟩, fun h => absurd h0 h⟩
  · exact ⟨_, [], rfl, rfl, fun h => absurd h h0, fun _ => ⟨rfl, rfl⟩⟩
theorem lp_LOf {H : SH} {v : Value} {N : List Rec} (hv : RD H v TRec N) (hN : N.length ≤ 100) : ∀ (m i : Nat) (u : SV) (l : List Rec) (c : Int), N.length - i = m → i ≤ N.length → (keysOf l).Nodup → AllMay l → l.length ≤ i → ((c = 0 ∧ ofF l (N.drop i) = ofF [] N) ∨ (c ≠ 0 ∧ c = (ofF [] N).1)) →
    WC F X (.loop L_loesslaw18_LogOf_0) [(6, .int .i64 (i : Int)), (0, v), (4, u.toV), (5, .int .i64 c)] (SL u.toV TRec (newest l) :: H)
      (KPost fun x l' H' => ∃ (u : SV) (W : List Rec), x = .exit 0 ∧ l' = [(0, v), (4, u.toV), (5, .int .i64 (ofF [] N).1)] ∧ H' = SL u.toV TRec W :: H ∧ ((ofF [] N).1 = 0 → W = newest (ofF [] N).2 ∧ AllMay (ofF [] N).2)) := by
  intro m
  induction m using Nat.strongRecOn with
  | _ m ih =>
    intro i u l c hm hi hnd hal hli hcc
    have hnl := newest_len l
    refine WC_loop ?_
    refine WC_seq ?_
    refine WC_seq ?_
    refine WC_region ?_
    refine WO_step rfl (S_pure rfl ?_)
    refine WO_step rfl (S_pure rfl ?_)
    first | refine WO_step rfl (S_pure rfl ?_) | refine WO_step rfl (S_lenS rfl (by repeat (first | assumption | exact RD.head | exact RD.nil | apply RD.tail)) ?_)
    refine WO_step rfl (S_pure rfl ?_)
    refine WO_step rfl (S_pure rfl ?_)
    refine WO_cases (t := 18) rfl (fun hg1 => ?_) (fun hg1 => ?_)
    ·
      try simp only [decide_eq_true_eq, decide_eq_false_iff_not, Bool.not_eq_true', Bool.not_eq_false', beq_iff_eq, bne_iff_ne, beq_eq_false_iff_ne, Int.ofNat_lt, Int.ofNat_le, Int.ofNat_inj, ne_eq, gt_iff_lt, ge_iff_le] at hg1
      refine WO_step rfl (S_pure rfl ?_)
      first | refine WO_step rfl (S_eqS rfl rfl ?_) | refine WO_step rfl (S_pure rfl ?_)
      refine WO_step rfl (S_pure rfl ?_)
      refine WO_nil ?_
      refine KSeq_n ?_
      refine WC_cond rfl (fun hb1 => ?_) (fun hb1 => ?_)
      ·
        try simp only [decide_eq_true_eq, decide_eq_false_iff_not, Bool.not_eq_true', Bool.not_eq_false', beq_iff_eq, bne_iff_ne, beq_eq_false_iff_ne, Int.ofNat_lt, Int.ofNat_le, Int.ofNat_inj, ne_eq, gt_iff_lt, ge_iff_le] at hb1
        have hc0 : c = 0 := by simpa using hb1
        subst hc0
        have hof : ofF l (N.drop i) = ofF [] N := by
          rcases hcc with ⟨_, h⟩ | ⟨h, _⟩
          · exact h
          · exact absurd rfl h
        obtain ⟨r, hr⟩ := get_of_lt hg1
        rw [drop_get hr, ofF] at hof
        have hpl := put_len_le l r
        refine WC_skip ?_
        refine KSeq_n ?_
        refine WC_seq ?_
        refine WC_block ?_
        refine WC_seq ?_
        refine WC_region ?_
        refine WO_step rfl (S_pure rfl ?_)
        refine WO_step rfl (S_pure rfl ?_)
        refine WO_step rfl (S_idx rfl rfl (by repeat (first | assumption | exact RD.head | exact RD.nil | apply RD.tail)) (by first | rfl | assumption | (symm; assumption)) (by rfl) (by first | assumption | omega | exact lt_of_get (by assumption) | (simp only [List.length_set]; first | assumption | omega | exact lt_of_get (by assumption))) fun hp26 => ?_)
        refine WO_step rfl (S_loadE rfl (by repeat (first | assumption | exact RD.head | exact RD.nil | apply RD.tail)) (by first | rfl | assumption | (symm; assumption)) (by first | rfl | assumption | (symm; assumption)) (by first | rfl | assumption | (symm; assumption)) (by assumption) ?_)
        refine WO_call rfl rfl rfl ?_
        refine (sp_May (r := r)).mono ?_
        rintro _ _ ⟨rfl, rfl⟩
        refine WO_step rfl (S_pure rfl ?_)
        refine WO_nil ?_
        refine KSeq_n ?_
        refine WC_cond rfl (fun hb2 => ?_) (fun hb2 => ?_)
        ·
          try simp only [decide_eq_true_eq, decide_eq_false_iff_not, Bool.not_eq_true', Bool.not_eq_false', beq_iff_eq, bne_iff_ne, beq_eq_false_iff_ne, Int.ofNat_lt, Int.ofNat_le, Int.ofNat_inj, ne_eq, gt_iff_lt, ge_iff_le] at hb2
          refine WC_region ?_
          refine WO_step rfl (S_pure rfl ?_)
          refine WO_nil ?_
          refine KBlock_n ?_
          refine KSeq_n ?_
          refine WC_region ?_
          refine WO_step rfl (S_pure rfl ?_)
          first | refine WO_step rfl (S_addN (b := 1) rfl rfl (by omega) ?_) | refine WO_step rfl (S_pure rfl ?_)
          refine WO_step rfl (S_pure rfl ?_)
          refine WO_nil ?_
          refine KLoop_n ?_
          have h1 := put_bad (l := l) (r := r) (by simpa using hb2)
          rw [if_neg (by rw [h1]; decide)] at hof
          exact WC_weak (ih (N.length - (i + 1)) (by omega) (i + 1) u l 1 rfl (by omega) hnd hal (by omega) (.inr ⟨by decide, by rw [← hof, h1]⟩)) (by repeat (first | exact SubE.nil | apply SubE.cons rfl)) (by repeat (first | exact HSub.refl | refine HSub.pick (by repeat (first | exact Pick.head | apply Pick.tail)) ?_ | apply HSub.drop))
        ·
          try simp only [decide_eq_true_eq, decide_eq_false_iff_not, Bool.not_eq_true', Bool.not_eq_false', beq_iff_eq, bne_iff_ne, beq_eq_false_iff_ne, Int.ofNat_lt, Int.ofNat_le, Int.ofNat_inj, ne_eq, gt_iff_lt, ge_iff_le] at hb2
          have hmr : mayRec r = true := by simpa using hb2
          have hks := may_key hmr
          have hcode := put_code (l := l) hmr
          refine WC_seq ?_
          refine WC_region ?_
          refine WO_step rfl (S_pure rfl ?_)
          refine WO_step rfl (S_pure rfl ?_)
          refine WO_step rfl (S_pure rfl ?_)
          refine WO_step rfl (S_idx rfl rfl (by repeat (first | assumption | exact RD.head | exact RD.nil | apply RD.tail)) (by first | rfl | assumption | (symm; assumption)) (by rfl) (by first | assumption | omega | exact lt_of_get (by assumption) | (simp only [List.length_set]; first | assumption | omega | exact lt_of_get (by assumption))) fun hp33 => ?_)
          refine WO_step rfl (S_fldE rfl (by repeat (first | assumption | apply IsP.padd)) ?_)
          refine WO_step rfl (S_loadF rfl (by repeat (first | assumption | exact RD.head | exact RD.nil | apply RD.tail)) (by rfl) (by assumption) (by rfl) (by rfl) ?_)
          refine WO_call rfl rfl rfl ?_
          refine (sp_r22 (l := newest l) (k := r.key) (by repeat (first | assumption | exact RD.head | exact RD.nil | apply RD.tail)) (by omega) (fun x hx => allmay_sz hal x (newest_mem hx)) (by omega)).mono ?_
          rintro _ _ ⟨rfl, rfl⟩
          rw [roomK_newest hnd]
          refine WO_step rfl (S_pure rfl ?_)
          refine WO_nil ?_
          refine KSeq_n ?_
          refine WC_cond rfl (fun hb3 => ?_) (fun hb3 => ?_)
          ·
            try simp only [decide_eq_true_eq, decide_eq_false_iff_not, Bool.not_eq_true', Bool.not_eq_false', beq_iff_eq, bne_iff_ne, beq_eq_false_iff_ne, Int.ofNat_lt, Int.ofNat_le, Int.ofNat_inj, ne_eq, gt_iff_lt, ge_iff_le] at hb3
            refine WC_region ?_
            refine WO_step rfl (S_pure rfl ?_)
            refine WO_nil ?_
            refine KBlock_n ?_
            refine KSeq_n ?_
            refine WC_region ?_
            refine WO_step rfl (S_pure rfl ?_)
            first | refine WO_step rfl (S_addN (b := 1) rfl rfl (by omega) ?_) | refine WO_step rfl (S_pure rfl ?_)
            refine WO_step rfl (S_pure rfl ?_)
            refine WO_nil ?_
            refine KLoop_n ?_
            have hrm : roomK l r.key = false := by simpa using hb3
            rw [hrm] at hcode
            simp only [Bool.false_eq_true, if_false] at hcode
            rw [if_neg (by rw [hcode]; decide)] at hof
            exact WC_weak (ih (N.length - (i + 1)) (by omega) (i + 1) u l 5 rfl (by omega) hnd hal (by omega) (.inr ⟨by decide, by rw [← hof, hcode]⟩)) (by repeat (first | exact SubE.nil | apply SubE.cons rfl)) (by repeat (first | exact HSub.refl | refine HSub.pick (by repeat (first | exact Pick.head | apply Pick.tail)) ?_ | apply HSub.drop))
          ·
            try simp only [decide_eq_true_eq, decide_eq_false_iff_not, Bool.not_eq_true', Bool.not_eq_false', beq_iff_eq, bne_iff_ne, beq_eq_false_iff_ne, Int.ofNat_lt, Int.ofNat_le, Int.ofNat_inj, ne_eq, gt_iff_lt, ge_iff_le] at hb3
            refine WC_region ?_
            refine WO_step rfl (S_pure rfl ?_)
            refine WO_step rfl (S_pure rfl ?_)
            refine WO_step rfl (S_pure rfl ?_)
            refine WO_step rfl (S_idx rfl rfl (by repeat (first | assumption | exact RD.head | exact RD.nil | apply RD.tail)) (by first | rfl | assumption | (symm; assumption)) (by rfl) (by first | assumption | omega | exact lt_of_get (by assumption) | (simp only [List.length_set]; first | assumption | omega | exact lt_of_get (by assumption))) fun hp41 => ?_)
            refine WO_step rfl (S_loadE rfl (by repeat (first | assumption | exact RD.head | exact RD.nil | apply RD.tail)) (by first | rfl | assumption | (symm; assumption)) (by first | rfl | assumption | (symm; assumption)) (by first | rfl | assumption | (symm; assumption)) (by assumption) ?_)
            refine WO_call rfl rfl rfl ?_
            refine (sp_Set (l := newest l) (r := r) (by repeat (first | assumption | exact RD.head | exact RD.nil | apply RD.tail)) (by omega)).mono ?_
            rintro _ _ ⟨u2, rfl, rfl⟩
            refine WO_step rfl (S_pure rfl ?_)
            refine WO_nil ?_
            refine KBlock_n ?_
            refine KSeq_n ?_
            refine WC_region ?_
            refine WO_step rfl (S_pure rfl ?_)
            first | refine WO_step rfl (S_addN (b := 1) rfl rfl (by omega) ?_) | refine WO_step rfl (S_pure rfl ?_)
            refine WO_step rfl (S_pure rfl ?_)
            refine WO_nil ?_
            refine KLoop_n ?_
            have hrm : roomK l r.key = true := by simpa using hb3
            rw [hrm] at hcode
            simp only [if_true] at hcode
            rw [if_pos hcode] at hof
            have hnd' := put_nd (r := r) hnd
            have := ih (N.length - (i + 1)) (by omega) (i + 1) u2 (putF l r).2 0 rfl (by omega) hnd' hal.put (by omega) (.inl ⟨rfl, hof⟩)
            rw [newest_put hnd hnd' hcode] at this
            exact WC_weak this (by repeat (first | exact SubE.nil | apply SubE.cons rfl)) (by repeat (first | exact HSub.refl | refine HSub.pick (by repeat (first | exact Pick.head | apply Pick.tail)) ?_ | apply HSub.drop))
      ·
        try simp only [decide_eq_true_eq, decide_eq_false_iff_not, Bool.not_eq_true', Bool.not_eq_false', beq_iff_eq, bne_iff_ne, beq_eq_false_iff_ne, Int.ofNat_lt, Int.ofNat_le, Int.ofNat_inj, ne_eq, gt_iff_lt, ge_iff_le] at hb1
        refine WC_exit ?_
        refine KSeq_x ?_
        refine KLoop_x ?_
        have hc0 : c ≠ 0 := by simpa using hb1
        have hc1 : c = (ofF [] N).1 := by
          rcases hcc with ⟨h, _⟩ | ⟨_, h⟩
          · exact absurd h hc0
          · exact h
        refine KPost_i (l' := [(0, v), (4, u.toV), (5, .int .i64 c)]) (by repeat (first | exact SubE.nil | apply SubE.cons rfl)) (by repeat (first | exact HSub.refl | refine HSub.pick (by repeat (first | exact Pick.head | apply Pick.tail)) ?_ | apply HSub.drop)) ⟨u, newest l, rfl, by rw [← hc1], rfl, fun h0 => absurd (hc1.trans h0) hc0⟩
    ·
      try simp only [decide_eq_true_eq, decide_eq_false_iff_not, Bool.not_eq_true', Bool.not_eq_false', beq_iff_eq, bne_iff_ne, beq_eq_false_iff_ne, Int.ofNat_lt, Int.ofNat_le, Int.ofNat_inj, ne_eq, gt_iff_lt, ge_iff_le] at hg1
      refine WO_off rfl ?_
      refine WO_off rfl ?_
      refine WO_step rfl (S_pure rfl ?_)
      refine WO_nil ?_
      refine KSeq_n ?_
      refine WC_cond rfl (fun h => ?_) (fun _ => ?_)
      · exact absurd h (by decide)
      refine WC_exit ?_
      refine KSeq_x ?_
      refine KLoop_x ?_
      rcases hcc with ⟨rfl, hof⟩ | ⟨hc0, hc1⟩
      · rw [List.drop_of_length_le (by omega), ofF] at hof
        refine KPost_i (l' := [(0, v), (4, u.toV), (5, .int .i64 0)]) (by repeat (first | exact SubE.nil | apply SubE.cons rfl)) (by repeat (first | exact HSub.refl | refine HSub.pick (by repeat (first | exact Pick.head | apply Pick.tail)) ?_ | apply HSub.drop)) ⟨u, newest l, rfl, by rw [← hof], rfl, fun _ => by rw [← hof]; exact ⟨rfl, hal⟩⟩
      · refine KPost_i (l' := [(0, v), (4, u.toV), (5, .int .i64 c)]) (by repeat (first | exact SubE.nil | apply SubE.cons rfl)) (by repeat (first | exact HSub.refl | refine HSub.pick (by repeat (first | exact Pick.head | apply Pick.tail)) ?_ | apply HSub.drop)) ⟨u, newest l, rfl, by rw [← hc1], rfl, fun h0 => absurd (hc1.trans h0) hc0⟩
theorem law_LogOf {H : SH} {v0 : Value} {N0 : List Rec} (hv0 : RD H v0 TRec N0) (hok : ∀ x ∈ N0, okRec x) : WF F X f_loesslaw18_LogOf [v0] H (fun v _ => v = .bool true) := by
  refine WF_fn F_loesslaw18_LogOf ?_
  refine WC_seq ?_
  refine WC_region ?_
  refine WO_step rfl (S_pure rfl ?_)
  refine WO_nil ?_
  refine KSeq_n ?_
  refine WC_seq ?_
  refine WC_region ?_
  refine WO_call rfl rfl rfl ?_
  refine sp_begun.mono ?_
  rintro _ H1 ⟨rfl, rfl⟩
  refine WO_step rfl (S_pure rfl ?_)
  refine WO_nil ?_
  refine KSeq_n ?_
  refine WC_seq ?_
  refine WC_seq ?_
  refine WC_region ?_
  refine WO_step rfl (S_pure rfl ?_)
  refine WO_step rfl (S_pure rfl ?_)
  refine WO_nil ?_
  refine KSeq_n ?_
  refine WC_cond rfl (fun hb1 => ?_) (fun hb1 => ?_)
  ·
    try simp only [decide_eq_true_eq, decide_eq_false_iff_not, Bool.not_eq_true', Bool.not_eq_false', beq_iff_eq, bne_iff_ne, beq_eq_false_iff_ne, Int.ofNat_lt, Int.ofNat_le, Int.ofNat_inj, ne_eq, gt_iff_lt, ge_iff_le] at hb1
    exact absurd hb1 (by simp)
    --stop
  ·
    try simp only [decide_eq_true_eq, decide_eq_false_iff_not, Bool.not_eq_true', Bool.not_eq_false', beq_iff_eq, bne_iff_ne, beq_eq_false_iff_ne, Int.ofNat_lt, Int.ofNat_le, Int.ofNat_inj, ne_eq, gt_iff_lt, ge_iff_le] at hb1
    refine WC_skip ?_
    refine KSeq_n ?_
    refine WC_seq ?_
    refine WC_region ?_
    refine WO_step rfl (S_pure rfl ?_)
    refine WO_call rfl rfl rfl ?_
    refine (sp_Recs (m := 60) hv0 (by omega)).mono ?_
    rintro _ _ ⟨w0, rfl, rfl⟩
    obtain ⟨N, hN⟩ : ∃ N, (N0.take 60).map cutRec = N := ⟨_, rfl⟩
    have hNl : N.length ≤ 60 := by rw [← hN, List.length_map, List.length_take]; omega
    rw [hN]
    refine WO_step rfl (S_pure rfl ?_)
    refine WO_nil ?_
    refine KSeq_n ?_
    refine WC_seq ?_
    refine WC_region ?_
    refine WO_step rfl (S_pure rfl ?_)
    refine WO_nil ?_
    refine KSeq_n ?_
    refine WC_seq ?_
    refine WC_region ?_
    refine WO_step rfl (S_pure rfl ?_)
    refine WO_nil ?_
    refine KSeq_n ?_
    refine WC_seq ?_
    refine WC_seq ?_
    refine WC_region ?_
    refine WO_step rfl (S_pure rfl ?_)
    refine WO_nil ?_
    refine KSeq_n ?_
    refine WC_block ?_
    --out x0
    refine WC_view (H' := SL (SV.toV .nil) TRec (newest []) :: SL w0.toV TRec N :: H1) (fun h hh => HAg.addNil hh) ?_
    refine WC_post (WC_weak (lp_LOf (H := SL w0.toV TRec N :: H1) RD.head (by omega) N.length 0 .nil [] 0 (by omega) (by omega) List.nodup_nil (by intro r hr; simp at hr) (by simp) (.inl ⟨rfl, rfl⟩)) (by repeat (first | exact SubE.nil | apply SubE.cons rfl)) (by repeat (first | exact HSub.refl | refine HSub.pick (by repeat (first | exact Pick.head | apply Pick.tail)) ?_ | apply HSub.drop))) ?_
    rintro x l' _ ⟨u, W, rfl, rfl, rfl, hW⟩
    refine KBlock_h ?_
    refine KSeq_n ?_
    refine WC_seq ?_
    refine WC_region ?_
    refine WO_step rfl (S_pure rfl ?_)
    refine WO_call rfl rfl rfl ?_
    refine (WF.weak (sp_lOf2 (H := SL u.toV TRec W :: SL w0.toV TRec N :: H1) (N := N) (by repeat (first | assumption | exact RD.head | exact RD.nil | apply RD.tail)) (by omega)) (by repeat (first | exact HSub.refl | refine HSub.pick (by repeat (first | exact Pick.head | apply Pick.tail)) ?_ | apply HSub.drop))).mono ?_
    rintro _ _ ⟨p, R, rfl, rfl, hz, hnz⟩
    refine WO_step rfl (S_pure rfl ?_)
    refine WO_step rfl (S_pure rfl ?_)
    refine WO_step rfl (S_pure rfl ?_)
    refine WO_step rfl (S_pure rfl ?_)
    refine WO_step rfl (S_pure rfl ?_)
    refine WO_nil ?_
    refine KSeq_n ?_
    refine WC_seq ?_
    refine WC_seq ?_
    refine WC_region ?_
    refine WO_step rfl (S_pure rfl ?_)
    first | refine WO_step rfl (S_neS rfl rfl ?_) | refine WO_step rfl (S_pure rfl ?_)
    refine WO_nil ?_
    refine KSeq_n ?_
    refine WC_cond rfl (fun hb2 => ?_) (fun hb2 => ?_)
    ·
      try simp only [decide_eq_true_eq, decide_eq_false_iff_not, Bool.not_eq_true', Bool.not_eq_false', beq_iff_eq, bne_iff_ne, beq_eq_false_iff_ne, Int.ofNat_lt, Int.ofNat_le, Int.ofNat_inj, ne_eq, gt_iff_lt, ge_iff_le] at hb2
      have hne : (ofF [] N).1 ≠ 0 := by simpa using hb2
      obtain ⟨rfl, rfl⟩ := hnz hne
      refine WC_seq ?_
      refine WC_region ?_
      refine WO_step rfl (S_pure rfl ?_)
      refine WO_step rfl (S_pure rfl ?_)
      first | refine WO_step rfl (S_eqS rfl rfl ?_) | refine WO_step rfl (S_pure rfl ?_)
      refine WO_step rfl (S_pure rfl ?_)
      refine WO_cases (t := 54) rfl (fun hg1 => ?_) (fun hg1 => ?_)
      ·
        try simp only [decide_eq_true_eq, decide_eq_false_iff_not, Bool.not_eq_true', Bool.not_eq_false', beq_iff_eq, bne_iff_ne, beq_eq_false_iff_ne, Int.ofNat_lt, Int.ofNat_le, Int.ofNat_inj, ne_eq, gt_iff_lt, ge_iff_le] at hg1
        refine WO_step rfl (S_pure rfl ?_)
        refine WO_step rfl (S_pure rfl ?_)
        refine WO_step rfl (S_pure rfl ?_)
        refine WO_step rfl (S_pure rfl ?_)
        refine WO_nil ?_
        refine KSeq_n ?_
        refine WC_ret ?_
        refine KSeq_r ?_
        refine KFn_r (ResL.tmp rfl ResL.nil) ?_
        exact ⟨_, HSub.refl, by simp [resV]⟩
      ·
        try simp only [decide_eq_true_eq, decide_eq_false_iff_not, Bool.not_eq_true', Bool.not_eq_false', beq_iff_eq, bne_iff_ne, beq_eq_false_iff_ne, Int.ofNat_lt, Int.ofNat_le, Int.ofNat_inj, ne_eq, gt_iff_lt, ge_iff_le] at hg1
        refine WO_off rfl ?_
        refine WO_off rfl ?_
        refine WO_step rfl (S_pure rfl ?_)
        refine WO_step rfl (S_pure rfl ?_)
        refine WO_nil ?_
        refine KSeq_n ?_
        refine WC_ret ?_
        refine KSeq_r ?_
        refine KFn_r (ResL.tmp rfl ResL.nil) ?_
        exact absurd hg1 (by simp)
    ·
      try simp only [decide_eq_true_eq, decide_eq_false_iff_not, Bool.not_eq_true', Bool.not_eq_false', beq_iff_eq, bne_iff_ne, beq_eq_false_iff_ne, Int.ofNat_lt, Int.ofNat_le, Int.ofNat_inj, ne_eq, gt_iff_lt, ge_iff_le] at hb2
      have hz0 : (ofF [] N).1 = 0 := by simpa using hb2
      obtain ⟨j, iD, w, es, rfl, rfl, hg⟩ := hz hz0
      obtain ⟨rfl, hal⟩ := hW hz0
      refine WC_skip ?_
      refine KSeq_n ?_
      refine WC_seq ?_
      refine WC_region ?_
      refine WO_step rfl (S_pure rfl ?_)
      first | refine WO_step rfl (S_eqS rfl rfl ?_) | refine WO_step rfl (S_pure rfl ?_)
      refine WO_step rfl (S_pure rfl ?_)
      refine WO_cases (t := 60) rfl (fun hg2 => ?_) (fun hg2 => ?_)
      ·
        try simp only [decide_eq_true_eq, decide_eq_false_iff_not, Bool.not_eq_true', Bool.not_eq_false', beq_iff_eq, bne_iff_ne, beq_eq_false_iff_ne, Int.ofNat_lt, Int.ofNat_le, Int.ofNat_inj, ne_eq, gt_iff_lt, ge_iff_le] at hg2
        refine WO_step rfl (S_pure rfl ?_)
        refine WO_step rfl (S_pure rfl ?_)
        refine WO_call rfl rfl rfl ?_
        refine (sp_same (l := (ofF [] N).2) (m := newest (ofF [] N).2) hg hal (by repeat (first | assumption | exact RD.head | exact RD.nil | apply RD.tail)) rfl).mono ?_
        rintro _ _ rfl
        refine WO_step rfl (S_pure rfl ?_)
        refine WO_step rfl (S_pure rfl ?_)
        refine WO_nil ?_
        refine KSeq_n ?_
        refine WC_ret ?_
        refine KFn_r (ResL.tmp rfl ResL.nil) ?_
        exact ⟨_, HSub.refl, by simp [resV]⟩
      ·
        try simp only [decide_eq_true_eq, decide_eq_false_iff_not, Bool.not_eq_true', Bool.not_eq_false', beq_iff_eq, bne_iff_ne, beq_eq_false_iff_ne, Int.ofNat_lt, Int.ofNat_le, Int.ofNat_inj, ne_eq, gt_iff_lt, ge_iff_le] at hg2
        refine WO_off rfl ?_
        refine WO_off rfl ?_
        refine WO_off rfl ?_
        refine WO_step rfl (S_pure rfl ?_)
        refine WO_step rfl (S_pure rfl ?_)
        refine WO_nil ?_
        refine KSeq_n ?_
        refine WC_ret ?_
        refine KFn_r (ResL.tmp rfl ResL.nil) ?_
        exact absurd hg2 (by simp [hz0])
theorem put_stay {l : List Rec} {r : Rec} (h : (putF l r).1 ≠ 0) : (putF l r).2 = l := by
  unfold putF at *
  split at h
  · rename_i hm; rw [if_pos hm]
  · rename_i hm
    rw [if_neg hm]
    split at h
    · exact absurd rfl h
    · rename_i hi
      rw [if_neg hi]
      split at h
      · exact absurd rfl h
      · rename_i hr; rw [if_neg hr]
theorem keys_any {N : List Rec} (hN : ∀ x ∈ N, x.key.size ≤ 1000000) {i : Nat} {r : Rec} (h : N[i]? = some r) : r.key.size ≤ 1000000 := hN r (List.mem_of_getElem? h)
theorem lp_LAll {H : SH} {v : Value} {N : List Rec} {j iD : Nat} {ask : ByteArray} (hv : RD H v TRec N) (hN : N.length ≤ 100) (hNs : ∀ x ∈ N, x.key.size ≤ 1000000) : ∀ (m i : Nat) (u w : SV) (l : List Rec) (es : List Ent), N.length - i = m → i ≤ N.length → LogI es l → AllMay l →
    WC F X (.loop L_loesslaw18_LogAll_0) [(8, .int .i64 (i : Int)), (0, v), (1, .string ask), (6, .pointer (some ⟨j, 0, none⟩)), (7, u.toV)] (SL u.toV TRec (newest l) :: LO j iD w :: SL w.toV TRec l :: DO iD es l.length :: H)
      (KPost fun x l' H' => ∃ (u w : SV) (l : List Rec) (es : List Ent), x = .exit 0 ∧ l' = [(1, .string ask), (6, .pointer (some ⟨j, 0, none⟩)), (7, u.toV)] ∧ H' = SL u.toV TRec (newest l) :: LO j iD w :: SL w.toV TRec l :: DO iD es l.length :: H ∧ LogI es l ∧ AllMay l) := by
  intro m
  induction m using Nat.strongRecOn with
  | _ m ih =>
    intro i u w l es hm hi hg hal
    have hlen := hg.len
    have hnl : (newest l).length ≤ 32 := Nat.le_trans (newest_len l) hlen
    refine WC_loop ?_
    refine WC_seq ?_
    refine WC_seq ?_
    refine WC_region ?_
    refine WO_step rfl (S_pure rfl ?_)
    refine WO_step rfl (S_pure rfl ?_)
    first | refine WO_step rfl (S_pure rfl ?_) | refine WO_step rfl (S_lenS rfl (by repeat (first | assumption | exact RD.head | exact RD.nil | apply RD.tail)) ?_)
    refine WO_step rfl (S_pure rfl ?_)
    refine WO_nil ?_
    refine KSeq_n ?_
    refine WC_cond rfl (fun hb1 => ?_) (fun hb1 => ?_)
    ·
      try simp only [decide_eq_true_eq, decide_eq_false_iff_not, Bool.not_eq_true', Bool.not_eq_false', beq_iff_eq, bne_iff_ne, beq_eq_false_iff_ne, Int.ofNat_lt, Int.ofNat_le, Int.ofNat_inj, ne_eq, gt_iff_lt, ge_iff_le] at hb1
      obtain ⟨r, hr⟩ := get_of_lt hb1
      have hks := keys_any hNs hr
      refine WC_skip ?_
      refine KSeq_n ?_
      refine WC_seq ?_
      refine WC_block ?_
      refine WC_seq ?_
      refine WC_region ?_
      refine WO_step rfl (S_pure rfl ?_)
      refine WO_nil ?_
      refine KSeq_n ?_
      refine WC_seq ?_
      refine WC_post (P := fun x l' H' => ∃ c : Int, x = .normal ∧ l' = [(8, .int .i64 (i : Int)), (0, v), (1, .string ask), (6, .pointer (some ⟨j, 0, none⟩)), (7, u.toV), (9, .int .i64 c)] ∧ H' = SL u.toV TRec (newest l) :: LO j iD w :: SL w.toV TRec l :: DO iD es l.length :: H ∧ c = (putF l r).1) ?_ ?_
      ·
        refine WC_seq ?_
        refine WC_region ?_
        refine WO_step rfl (S_pure rfl ?_)
        refine WO_step rfl (S_pure rfl ?_)
        refine WO_step rfl (S_idx rfl rfl (by repeat (first | assumption | exact RD.head | exact RD.nil | apply RD.tail)) (by first | rfl | assumption | (symm; assumption)) (by rfl) (by first | assumption | omega | exact lt_of_get (by assumption) | (simp only [List.length_set]; first | assumption | omega | exact lt_of_get (by assumption))) fun hp34 => ?_)
        refine WO_step rfl (S_loadE rfl (by repeat (first | assumption | exact RD.head | exact RD.nil | apply RD.tail)) (by first | rfl | assumption | (symm; assumption)) (by first | rfl | assumption | (symm; assumption)) (by first | rfl | assumption | (symm; assumption)) (by assumption) ?_)
        refine WO_call rfl rfl rfl ?_
        refine (sp_May (r := r)).mono ?_
        rintro _ _ ⟨rfl, rfl⟩
        refine WO_step rfl (S_pure rfl ?_)
        refine WO_nil ?_
        refine KSeq_n ?_
        refine WC_cond rfl (fun hb2 => ?_) (fun hb2 => ?_)
        ·
          try simp only [decide_eq_true_eq, decide_eq_false_iff_not, Bool.not_eq_true', Bool.not_eq_false', beq_iff_eq, bne_iff_ne, beq_eq_false_iff_ne, Int.ofNat_lt, Int.ofNat_le, Int.ofNat_inj, ne_eq, gt_iff_lt, ge_iff_le] at hb2
          refine WC_region ?_
          refine WO_step rfl (S_pure rfl ?_)
          refine WO_nil ?_
          exact KPost_i (by repeat (first | exact SubE.nil | apply SubE.cons rfl)) (by repeat (first | exact HSub.refl | refine HSub.pick (by repeat (first | exact Pick.head | apply Pick.tail)) ?_ | apply HSub.drop)) ⟨1, rfl, rfl, rfl, (put_bad (by simpa using hb2)).symm⟩
        ·
          try simp only [decide_eq_true_eq, decide_eq_false_iff_not, Bool.not_eq_true', Bool.not_eq_false', beq_iff_eq, bne_iff_ne, beq_eq_false_iff_ne, Int.ofNat_lt, Int.ofNat_le, Int.ofNat_inj, ne_eq, gt_iff_lt, ge_iff_le] at hb2
          have hmr : mayRec r = true := by simpa using hb2
          have hcode := put_code (l := l) hmr
          refine WC_seq ?_
          refine WC_region ?_
          refine WO_step rfl (S_pure rfl ?_)
          refine WO_step rfl (S_pure rfl ?_)
          refine WO_step rfl (S_pure rfl ?_)
          refine WO_step rfl (S_idx rfl rfl (by repeat (first | assumption | exact RD.head | exact RD.nil | apply RD.tail)) (by first | rfl | assumption | (symm; assumption)) (by rfl) (by first | assumption | omega | exact lt_of_get (by assumption) | (simp only [List.length_set]; first | assumption | omega | exact lt_of_get (by assumption))) fun hp41 => ?_)
          refine WO_step rfl (S_fldE rfl (by repeat (first | assumption | apply IsP.padd)) ?_)
          refine WO_step rfl (S_loadF rfl (by repeat (first | assumption | exact RD.head | exact RD.nil | apply RD.tail)) (by rfl) (by assumption) (by rfl) (by rfl) ?_)
          refine WO_call rfl rfl rfl ?_
          refine (sp_r22 (l := newest l) (k := r.key) (by repeat (first | assumption | exact RD.head | exact RD.nil | apply RD.tail)) (by omega) (fun x hx => allmay_sz hal x (newest_mem hx)) (by omega)).mono ?_
          rintro _ _ ⟨rfl, rfl⟩
          rw [roomK_newest hg.nd]
          refine WO_step rfl (S_pure rfl ?_)
          refine WO_nil ?_
          refine KSeq_n ?_
          refine WC_cond rfl (fun hb3 => ?_) (fun hb3 => ?_)
          ·
            try simp only [decide_eq_true_eq, decide_eq_false_iff_not, Bool.not_eq_true', Bool.not_eq_false', beq_iff_eq, bne_iff_ne, beq_eq_false_iff_ne, Int.ofNat_lt, Int.ofNat_le, Int.ofNat_inj, ne_eq, gt_iff_lt, ge_iff_le] at hb3
            refine WC_region ?_
            refine WO_step rfl (S_pure rfl ?_)
            refine WO_nil ?_
            have hrm : roomK l r.key = false := by simpa using hb3
            rw [hrm] at hcode
            exact KPost_i (by repeat (first | exact SubE.nil | apply SubE.cons rfl)) (by repeat (first | exact HSub.refl | refine HSub.pick (by repeat (first | exact Pick.head | apply Pick.tail)) ?_ | apply HSub.drop)) ⟨5, rfl, rfl, rfl, hcode.symm⟩
          ·
            try simp only [decide_eq_true_eq, decide_eq_false_iff_not, Bool.not_eq_true', Bool.not_eq_false', beq_iff_eq, bne_iff_ne, beq_eq_false_iff_ne, Int.ofNat_lt, Int.ofNat_le, Int.ofNat_inj, ne_eq, gt_iff_lt, ge_iff_le] at hb3
            refine WC_skip ?_
            have hrm : roomK l r.key = true := by simpa using hb3
            rw [hrm] at hcode
            exact KPost_i (by repeat (first | exact SubE.nil | apply SubE.cons rfl)) (by repeat (first | exact HSub.refl | refine HSub.pick (by repeat (first | exact Pick.head | apply Pick.tail)) ?_ | apply HSub.drop)) ⟨0, rfl, rfl, rfl, hcode.symm⟩
      ·
        rintro x' l' _ ⟨c, rfl, rfl, rfl, hc⟩
        subst hc
        refine KSeq_n ?_
        refine WC_seq ?_
        refine WC_seq ?_
        refine WC_region ?_
        refine WO_step rfl (S_pure rfl ?_)
        refine WO_step rfl (S_pure rfl ?_)
        refine WO_step rfl (S_pure rfl ?_)
        refine WO_step rfl (S_idx rfl rfl (by repeat (first | assumption | exact RD.head | exact RD.nil | apply RD.tail)) (by first | rfl | assumption | (symm; assumption)) (by rfl) (by first | assumption | omega | exact lt_of_get (by assumption) | (simp only [List.length_set]; first | assumption | omega | exact lt_of_get (by assumption))) fun hp49 => ?_)
        refine WO_step rfl (S_loadE rfl (by repeat (first | assumption | exact RD.head | exact RD.nil | apply RD.tail)) (by first | rfl | assumption | (symm; assumption)) (by first | rfl | assumption | (symm; assumption)) (by first | rfl | assumption | (symm; assumption)) (by assumption) ?_)
        refine WO_call rfl rfl rfl ?_
        refine (WF.weak (sp_lPut (H := SL u.toV TRec (newest l) :: H) (w := w) (i := iD) (j := j) (r := r) hg) (by repeat (first | exact HSub.refl | refine HSub.pick (by repeat (first | exact Pick.head | apply Pick.tail)) ?_ | apply HSub.drop))).mono ?_
        rintro _ _ ⟨es', w', rfl, rfl, hg'⟩
        have hal' : AllMay (putF l r).2 := hal.put
        have hlen' := hg'.len
        refine WO_step rfl (S_pure rfl ?_)
        first | refine WO_step rfl (S_neS rfl rfl ?_) | refine WO_step rfl (S_pure rfl ?_)
        refine WO_nil ?_
        refine KSeq_n ?_
        refine WC_cond rfl (fun hb4 => ?_) (fun hb4 => ?_)
        ·
          try simp only [decide_eq_true_eq, decide_eq_false_iff_not, Bool.not_eq_true', Bool.not_eq_false', beq_iff_eq, bne_iff_ne, beq_eq_false_iff_ne, Int.ofNat_lt, Int.ofNat_le, Int.ofNat_inj, ne_eq, gt_iff_lt, ge_iff_le] at hb4
          refine WC_seq ?_
          refine WC_region ?_
          refine WO_step rfl (S_pure rfl ?_)
          refine WO_nil ?_
          refine KSeq_n ?_
          refine WC_ret ?_
          refine KSeq_r ?_
          refine KBlock_r ?_
          refine KSeq_r ?_
          refine KLoop_r ?_
          exact absurd hb4 (by simp)
        ·
          try simp only [decide_eq_true_eq, decide_eq_false_iff_not, Bool.not_eq_true', Bool.not_eq_false', beq_iff_eq, bne_iff_ne, beq_eq_false_iff_ne, Int.ofNat_lt, Int.ofNat_le, Int.ofNat_inj, ne_eq, gt_iff_lt, ge_iff_le] at hb4
          refine WC_skip ?_
          refine KSeq_n ?_
          refine WC_seq ?_
          refine WC_post (P := fun x l' H' => ∃ u2 : SV, x = .normal ∧ l' = [(8, .int .i64 (i : Int)), (0, v), (1, .string ask), (6, .pointer (some ⟨j, 0, none⟩)), (7, u2.toV)] ∧ H' = SL u2.toV TRec (newest (putF l r).2) :: LO j iD w' :: SL w'.toV TRec (putF l r).2 :: DO iD es' (putF l r).2.length :: H) ?_ ?_
          ·
            refine WC_seq ?_
            refine WC_region ?_
            refine WO_step rfl (S_pure rfl ?_)
            first | refine WO_step rfl (S_eqS rfl rfl ?_) | refine WO_step rfl (S_pure rfl ?_)
            refine WO_nil ?_
            refine KSeq_n ?_
            refine WC_cond rfl (fun hb5 => ?_) (fun hb5 => ?_)
            ·
              try simp only [decide_eq_true_eq, decide_eq_false_iff_not, Bool.not_eq_true', Bool.not_eq_false', beq_iff_eq, bne_iff_ne, beq_eq_false_iff_ne, Int.ofNat_lt, Int.ofNat_le, Int.ofNat_inj, ne_eq, gt_iff_lt, ge_iff_le] at hb5
              refine WC_region ?_
              refine WO_step rfl (S_pure rfl ?_)
              refine WO_step rfl (S_pure rfl ?_)
              refine WO_step rfl (S_pure rfl ?_)
              refine WO_step rfl (S_idx rfl rfl (by repeat (first | assumption | exact RD.head | exact RD.nil | apply RD.tail)) (by first | rfl | assumption | (symm; assumption)) (by rfl) (by first | assumption | omega | exact lt_of_get (by assumption) | (simp only [List.length_set]; first | assumption | omega | exact lt_of_get (by assumption))) fun hp59 => ?_)
              refine WO_step rfl (S_loadE rfl (by repeat (first | assumption | exact RD.head | exact RD.nil | apply RD.tail)) (by first | rfl | assumption | (symm; assumption)) (by first | rfl | assumption | (symm; assumption)) (by first | rfl | assumption | (symm; assumption)) (by assumption) ?_)
              refine WO_call rfl rfl rfl ?_
              refine (sp_Set (l := newest l) (r := r) (by repeat (first | assumption | exact RD.head | exact RD.nil | apply RD.tail)) (by omega)).mono ?_
              rintro _ _ ⟨u2, rfl, rfl⟩
              have h0 : (putF l r).1 = 0 := by simpa using hb5
              rw [← newest_put hg.nd hg'.nd h0]
              refine WO_step rfl (S_pure rfl ?_)
              refine WO_nil ?_
              exact KPost_i (by repeat (first | exact SubE.nil | apply SubE.cons rfl)) (by repeat (first | exact HSub.refl | refine HSub.pick (by repeat (first | exact Pick.head | apply Pick.tail)) ?_ | apply HSub.drop)) ⟨u2, rfl, rfl, rfl⟩
            ·
              try simp only [decide_eq_true_eq, decide_eq_false_iff_not, Bool.not_eq_true', Bool.not_eq_false', beq_iff_eq, bne_iff_ne, beq_eq_false_iff_ne, Int.ofNat_lt, Int.ofNat_le, Int.ofNat_inj, ne_eq, gt_iff_lt, ge_iff_le] at hb5
              refine WC_skip ?_
              have hne : (putF l r).1 ≠ 0 := by simpa using hb5
              refine KPost_i (by repeat (first | exact SubE.nil | apply SubE.cons rfl)) ?_ ⟨u, rfl, rfl, rfl⟩
              have e := put_stay hne
              rw [e]
              exact (by repeat (first | exact HSub.refl | refine HSub.pick (by repeat (first | exact Pick.head | apply Pick.tail)) ?_ | apply HSub.drop))
          ·
            rintro x' l' _ ⟨u2, rfl, rfl, rfl⟩
            obtain ⟨l2, hl2⟩ : ∃ l2, (putF l r).2 = l2 := ⟨_, rfl⟩
            rw [hl2] at hg' hal' hlen' ⊢
            have hnl2 : (newest l2).length ≤ 32 := Nat.le_trans (newest_len l2) hlen'
            have hfn := fnd_newest hg'.nd
            refine KSeq_n ?_
            refine WC_seq ?_
            refine WC_region ?_
            refine WO_step rfl (S_pure rfl ?_)
            refine WO_step rfl (S_pure rfl ?_)
            refine WO_step rfl (S_pure rfl ?_)
            refine WO_step rfl (S_idx rfl rfl (by repeat (first | assumption | exact RD.head | exact RD.nil | apply RD.tail)) (by first | rfl | assumption | (symm; assumption)) (by rfl) (by first | assumption | omega | exact lt_of_get (by assumption) | (simp only [List.length_set]; first | assumption | omega | exact lt_of_get (by assumption))) fun hp66 => ?_)
            refine WO_step rfl (S_fldE rfl (by repeat (first | assumption | apply IsP.padd)) ?_)
            refine WO_step rfl (S_loadF rfl (by repeat (first | assumption | exact RD.head | exact RD.nil | apply RD.tail)) (by rfl) (by assumption) (by rfl) (by rfl) ?_)
            refine WO_call rfl rfl rfl ?_
            refine (WF.weak (sp_lGet (H := SL u2.toV TRec (newest l2) :: H) (w := w') (i := iD) (j := j) (n := l2.length) (k := r.key) hg' hks) (by repeat (first | exact HSub.refl | refine HSub.pick (by repeat (first | exact Pick.head | apply Pick.tail)) ?_ | apply HSub.drop))).mono ?_
            rintro _ _ ⟨rfl, rfl⟩
            refine WO_step rfl (S_pure rfl ?_)
            refine WO_step rfl (S_pure rfl ?_)
            refine WO_step rfl (S_pure rfl ?_)
            refine WO_step rfl (S_newT TRec rec0 rfl rfl fun i10 => ?_)
            refine WO_step rfl (S_storeT (T := TRec) (y := (fnd l2 r.key).getD rec0) rfl rfl (by repeat (first | exact Pick.head | apply Pick.tail)) (by rfl) (by rfl) ?_)
            refine WO_step rfl (S_pure rfl ?_)
            refine WO_nil ?_
            refine KSeq_n ?_
            refine WC_seq ?_
            refine WC_region ?_
            refine WO_step rfl (S_pure rfl ?_)
            refine WO_step rfl (S_pure rfl ?_)
            refine WO_step rfl (S_pure rfl ?_)
            refine WO_step rfl (S_idx rfl rfl (by repeat (first | assumption | exact RD.head | exact RD.nil | apply RD.tail)) (by first | rfl | assumption | (symm; assumption)) (by rfl) (by first | assumption | omega | exact lt_of_get (by assumption) | (simp only [List.length_set]; first | assumption | omega | exact lt_of_get (by assumption))) fun hp76 => ?_)
            refine WO_step rfl (S_fldE rfl (by repeat (first | assumption | apply IsP.padd)) ?_)
            refine WO_step rfl (S_loadF rfl (by repeat (first | assumption | exact RD.head | exact RD.nil | apply RD.tail)) (by rfl) (by assumption) (by rfl) (by rfl) ?_)
            refine WO_call rfl rfl rfl ?_
            refine (sp_Find (l := newest l2) (k := r.key) (by repeat (first | assumption | exact RD.head | exact RD.nil | apply RD.tail)) (by omega)).mono ?_
            rintro _ _ ⟨rfl, rfl⟩
            rw [hfn]
            refine WO_step rfl (S_pure rfl ?_)
            refine WO_step rfl (S_pure rfl ?_)
            refine WO_step rfl (S_pure rfl ?_)
            refine WO_step rfl (S_newT TRec rec0 rfl rfl fun i12 => ?_)
            refine WO_step rfl (S_storeT (T := TRec) (y := (fnd l2 r.key).getD rec0) rfl rfl (by repeat (first | exact Pick.head | apply Pick.tail)) (by rfl) (by rfl) ?_)
            refine WO_step rfl (S_pure rfl ?_)
            refine WO_nil ?_
            refine KSeq_n ?_
            refine WC_seq ?_
            refine WC_region ?_
            refine WO_step rfl (S_pure rfl ?_)
            refine WO_step rfl (S_pure rfl ?_)
            refine WO_step rfl (S_pure rfl ?_)
            refine WO_step rfl (S_pure rfl ?_)
            refine WO_cases (t := 85) rfl (fun hg1 => ?_) (fun hg1 => ?_)
            ·
              try simp only [decide_eq_true_eq, decide_eq_false_iff_not, Bool.not_eq_true', Bool.not_eq_false', beq_iff_eq, bne_iff_ne, beq_eq_false_iff_ne, Int.ofNat_lt, Int.ofNat_le, Int.ofNat_inj, ne_eq, gt_iff_lt, ge_iff_le] at hg1
              refine WO_off rfl ?_
              refine WO_off rfl ?_
              refine WO_off rfl ?_
              refine WO_off rfl ?_
              refine WO_step rfl (S_pure rfl ?_)
              refine WO_nil ?_
              refine KSeq_n ?_
              refine WC_cond rfl (fun _ => ?_) (fun h => ?_)
              rotate_left
              · exact absurd h (by decide)
              refine WC_seq ?_
              refine WC_region ?_
              refine WO_step rfl (S_pure rfl ?_)
              refine WO_nil ?_
              refine KSeq_n ?_
              refine WC_ret ?_
              refine KBlock_r ?_
              refine KSeq_r ?_
              refine KLoop_r ?_
              exact absurd hg1 (by simp)
            ·
              try simp only [decide_eq_true_eq, decide_eq_false_iff_not, Bool.not_eq_true', Bool.not_eq_false', beq_iff_eq, bne_iff_ne, beq_eq_false_iff_ne, Int.ofNat_lt, Int.ofNat_le, Int.ofNat_inj, ne_eq, gt_iff_lt, ge_iff_le] at hg1
              refine WO_step rfl (S_loadO (v := TRec.val ((fnd l2 r.key).getD rec0)) rfl (by repeat (first | exact (Pick.head : Pick (OB i10 TRec ((fnd l2 r.key).getD rec0)) _ _) | apply Pick.tail)) (by rfl) (by rfl) ?_)
              refine WO_step rfl (S_loadO (v := TRec.val ((fnd l2 r.key).getD rec0)) rfl (by repeat (first | exact (Pick.head : Pick (OB i12 TRec ((fnd l2 r.key).getD rec0)) _ _) | apply Pick.tail)) (by rfl) (by rfl) ?_)
              refine WO_call rfl rfl rfl ?_
              refine (sp_Eq (a := (fnd l2 r.key).getD rec0) (b := (fnd l2 r.key).getD rec0)).mono ?_
              rintro _ _ ⟨rfl, rfl⟩
              refine WO_step rfl (S_pure rfl ?_)
              refine WO_step rfl (S_pure rfl ?_)
              refine WO_nil ?_
              refine KSeq_n ?_
              refine WC_cond rfl (fun hb6 => ?_) (fun hb6 => ?_)
              ·
                try simp only [decide_eq_true_eq, decide_eq_false_iff_not, Bool.not_eq_true', Bool.not_eq_false', beq_iff_eq, bne_iff_ne, beq_eq_false_iff_ne, Int.ofNat_lt, Int.ofNat_le, Int.ofNat_inj, ne_eq, gt_iff_lt, ge_iff_le] at hb6
                refine WC_seq ?_
                refine WC_region ?_
                refine WO_step rfl (S_pure rfl ?_)
                refine WO_nil ?_
                refine KSeq_n ?_
                refine WC_ret ?_
                refine KBlock_r ?_
                refine KSeq_r ?_
                refine KLoop_r ?_
                exact absurd hb6 (by simp)
              ·
                try simp only [decide_eq_true_eq, decide_eq_false_iff_not, Bool.not_eq_true', Bool.not_eq_false', beq_iff_eq, bne_iff_ne, beq_eq_false_iff_ne, Int.ofNat_lt, Int.ofNat_le, Int.ofNat_inj, ne_eq, gt_iff_lt, ge_iff_le] at hb6
                refine WC_skip ?_
                refine KBlock_n ?_
                refine KSeq_n ?_
                refine WC_region ?_
                refine WO_step rfl (S_pure rfl ?_)
                first | refine WO_step rfl (S_addN (b := 1) rfl rfl (by omega) ?_) | refine WO_step rfl (S_pure rfl ?_)
                refine WO_step rfl (S_pure rfl ?_)
                refine WO_nil ?_
                refine KLoop_n ?_
                exact WC_weak (ih (N.length - (i + 1)) (by omega) (i + 1) u2 w' l2 es' rfl (by omega) hg' hal') (by repeat (first | exact SubE.nil | apply SubE.cons rfl)) (by repeat (first | exact HSub.refl | refine HSub.pick (by repeat (first | exact Pick.head | apply Pick.tail)) ?_ | apply HSub.drop))
    ·
      try simp only [decide_eq_true_eq, decide_eq_false_iff_not, Bool.not_eq_true', Bool.not_eq_false', beq_iff_eq, bne_iff_ne, beq_eq_false_iff_ne, Int.ofNat_lt, Int.ofNat_le, Int.ofNat_inj, ne_eq, gt_iff_lt, ge_iff_le] at hb1
      refine WC_exit ?_
      refine KSeq_x ?_
      refine KLoop_x ?_
      exact KPost_i (by repeat (first | exact SubE.nil | apply SubE.cons rfl)) (by repeat (first | exact HSub.refl | refine HSub.pick (by repeat (first | exact Pick.head | apply Pick.tail)) ?_ | apply HSub.drop)) ⟨u, w, l, es, rfl, rfl, rfl, hg, hal⟩
theorem law_LogAll {H : SH} {v0 : Value} {N0 : List Rec} {ask0 : ByteArray} (hv0 : RD H v0 TRec N0) (hok : ∀ x ∈ N0, okRec x) (_ : ask0.size ≤ maxLen) : WF F X f_loesslaw18_LogAll [v0, .string ask0] H (fun v _ => v = .bool true) := by
  refine WF_fn F_loesslaw18_LogAll ?_
  refine WC_seq ?_
  refine WC_region ?_
  refine WO_step rfl (S_pure rfl ?_)
  refine WO_nil ?_
  refine KSeq_n ?_
  refine WC_seq ?_
  refine WC_region ?_
  refine WO_call rfl rfl rfl ?_
  refine sp_begun.mono ?_
  rintro _ H1 ⟨rfl, rfl⟩
  refine WO_step rfl (S_pure rfl ?_)
  refine WO_nil ?_
  refine KSeq_n ?_
  refine WC_seq ?_
  refine WC_seq ?_
  refine WC_region ?_
  refine WO_step rfl (S_pure rfl ?_)
  refine WO_step rfl (S_pure rfl ?_)
  refine WO_nil ?_
  refine KSeq_n ?_
  refine WC_cond rfl (fun hb1 => ?_) (fun hb1 => ?_)
  ·
    try simp only [decide_eq_true_eq, decide_eq_false_iff_not, Bool.not_eq_true', Bool.not_eq_false', beq_iff_eq, bne_iff_ne, beq_eq_false_iff_ne, Int.ofNat_lt, Int.ofNat_le, Int.ofNat_inj, ne_eq, gt_iff_lt, ge_iff_le] at hb1
    exact absurd hb1 (by simp)
    --stop
  ·
    try simp only [decide_eq_true_eq, decide_eq_false_iff_not, Bool.not_eq_true', Bool.not_eq_false', beq_iff_eq, bne_iff_ne, beq_eq_false_iff_ne, Int.ofNat_lt, Int.ofNat_le, Int.ofNat_inj, ne_eq, gt_iff_lt, ge_iff_le] at hb1
    refine WC_skip ?_
    refine KSeq_n ?_
    refine WC_seq ?_
    refine WC_region ?_
    refine WO_step rfl (S_pure rfl ?_)
    refine WO_call rfl rfl rfl ?_
    refine (sp_Recs (m := 60) hv0 (by omega)).mono ?_
    rintro _ _ ⟨w0, rfl, rfl⟩
    obtain ⟨N, hN⟩ : ∃ N, (N0.take 60).map cutRec = N := ⟨_, rfl⟩
    have hNl : N.length ≤ 60 := by rw [← hN, List.length_map, List.length_take]; omega
    have hNs : ∀ x ∈ N, x.key.size ≤ 1000000 := fun x hx => by
      rw [← hN] at hx
      obtain ⟨y, _, rfl⟩ := List.mem_map.1 hx
      have := cut_size y.key 20
      show (cut y.key 20).size ≤ _
      omega
    rw [hN]
    refine WO_step rfl (S_pure rfl ?_)
    refine WO_call rfl rfl rfl ?_
    refine (sp_Cut3 (n := 20)).mono ?_
    rintro _ _ ⟨rfl, rfl⟩
    obtain ⟨ask, hask⟩ : ∃ ask, cut ask0 20 = ask := ⟨_, rfl⟩
    have hasz : ask.size ≤ 1000000 := by have := cut_size ask0 20; rw [hask] at this; omega
    rw [hask]
    refine WO_step rfl (S_pure rfl ?_)
    refine WO_step rfl (S_pure rfl ?_)
    refine WO_nil ?_
    refine KSeq_n ?_
    refine WC_seq ?_
    refine WC_region ?_
    refine WO_call rfl rfl rfl ?_
    refine sp_lNew.mono ?_
    rintro _ _ ⟨jL, iL, rfl, rfl⟩
    refine WO_step rfl (S_pure rfl ?_)
    refine WO_nil ?_
    refine KSeq_n ?_
    refine WC_seq ?_
    refine WC_region ?_
    refine WO_step rfl (S_pure rfl ?_)
    refine WO_nil ?_
    refine KSeq_n ?_
    refine WC_seq ?_
    refine WC_seq ?_
    refine WC_region ?_
    refine WO_step rfl (S_pure rfl ?_)
    refine WO_nil ?_
    refine KSeq_n ?_
    refine WC_block ?_
    --out x0
    refine WC_view (H' := SL (SV.toV .nil) TRec (newest []) :: LO jL iL .nil :: SL (SV.toV .nil) TRec [] :: DO iL (List.replicate 32 ent0) 0 :: SL w0.toV TRec N :: H1) (fun h hh => HAg.addNil hh) ?_
    refine WC_post (WC_weak (lp_LAll (H := SL w0.toV TRec N :: H1) (N := N) (ask := ask) (j := jL) (iD := iL) RD.head (by omega) hNs N.length 0 .nil .nil [] _ (by omega) (by omega) LogI.new (by intro r hr; simp at hr)) (by repeat (first | exact SubE.nil | apply SubE.cons rfl)) (by repeat (first | exact HSub.refl | refine HSub.pick (by repeat (first | exact Pick.head | apply Pick.tail)) ?_ | apply HSub.drop))) ?_
    rintro x l' _ ⟨u, w, l, es, rfl, rfl, rfl, hg, hal⟩
    have hlen := hg.len
    have hnl : (newest l).length ≤ 32 := Nat.le_trans (newest_len l) hlen
    have hfn := fnd_newest hg.nd
    refine KBlock_h ?_
    refine KSeq_n ?_
    refine WC_seq ?_
    refine WC_region ?_
    refine WO_step rfl (S_pure rfl ?_)
    refine WO_step rfl (S_pure rfl ?_)
    refine WO_call rfl rfl rfl ?_
    refine (WF.weak (sp_lGet (H := SL u.toV TRec (newest l) :: SL w0.toV TRec N :: H1) (w := w) (i := iL) (j := jL) (n := l.length) (k := ask) hg hasz) (by repeat (first | exact HSub.refl | refine HSub.pick (by repeat (first | exact Pick.head | apply Pick.tail)) ?_ | apply HSub.drop))).mono ?_
    rintro _ _ ⟨rfl, rfl⟩
    refine WO_step rfl (S_pure rfl ?_)
    refine WO_step rfl (S_pure rfl ?_)
    refine WO_step rfl (S_pure rfl ?_)
    refine WO_step rfl (S_newT TRec rec0 rfl rfl fun i14 => ?_)
    refine WO_step rfl (S_storeT (T := TRec) (y := (fnd l ask).getD rec0) rfl rfl (by repeat (first | exact Pick.head | apply Pick.tail)) (by rfl) (by rfl) ?_)
    refine WO_step rfl (S_pure rfl ?_)
    refine WO_nil ?_
    refine KSeq_n ?_
    refine WC_seq ?_
    refine WC_region ?_
    refine WO_step rfl (S_pure rfl ?_)
    refine WO_step rfl (S_pure rfl ?_)
    refine WO_call rfl rfl rfl ?_
    refine (sp_Find (l := newest l) (k := ask) (by repeat (first | assumption | exact RD.head | exact RD.nil | apply RD.tail)) (by omega)).mono ?_
    rintro _ _ ⟨rfl, rfl⟩
    rw [hfn]
    refine WO_step rfl (S_pure rfl ?_)
    refine WO_step rfl (S_pure rfl ?_)
    refine WO_step rfl (S_pure rfl ?_)
    refine WO_step rfl (S_newT TRec rec0 rfl rfl fun i16 => ?_)
    refine WO_step rfl (S_storeT (T := TRec) (y := (fnd l ask).getD rec0) rfl rfl (by repeat (first | exact Pick.head | apply Pick.tail)) (by rfl) (by rfl) ?_)
    refine WO_step rfl (S_pure rfl ?_)
    refine WO_nil ?_
    refine KSeq_n ?_
    refine WC_seq ?_
    refine WC_region ?_
    refine WO_step rfl (S_pure rfl ?_)
    refine WO_step rfl (S_pure rfl ?_)
    refine WO_step rfl (S_pure rfl ?_)
    refine WO_step rfl (S_pure rfl ?_)
    refine WO_cases (t := 106) rfl (fun hg1 => ?_) (fun hg1 => ?_)
    ·
      try simp only [decide_eq_true_eq, decide_eq_false_iff_not, Bool.not_eq_true', Bool.not_eq_false', beq_iff_eq, bne_iff_ne, beq_eq_false_iff_ne, Int.ofNat_lt, Int.ofNat_le, Int.ofNat_inj, ne_eq, gt_iff_lt, ge_iff_le] at hg1
      refine WO_step rfl (S_loadO (v := TRec.val ((fnd l ask).getD rec0)) rfl (by repeat (first | exact (Pick.head : Pick (OB i14 TRec ((fnd l ask).getD rec0)) _ _) | apply Pick.tail)) (by rfl) (by rfl) ?_)
      refine WO_step rfl (S_loadO (v := TRec.val ((fnd l ask).getD rec0)) rfl (by repeat (first | exact (Pick.head : Pick (OB i16 TRec ((fnd l ask).getD rec0)) _ _) | apply Pick.tail)) (by rfl) (by rfl) ?_)
      refine WO_call rfl rfl rfl ?_
      refine (sp_Eq (a := (fnd l ask).getD rec0) (b := (fnd l ask).getD rec0)).mono ?_
      rintro _ _ ⟨rfl, rfl⟩
      refine WO_step rfl (S_pure rfl ?_)
      refine WO_step rfl (S_pure rfl ?_)
      refine WO_cases (t := 111) rfl (fun hg2 => ?_) (fun hg2 => ?_)
      ·
        try simp only [decide_eq_true_eq, decide_eq_false_iff_not, Bool.not_eq_true', Bool.not_eq_false', beq_iff_eq, bne_iff_ne, beq_eq_false_iff_ne, Int.ofNat_lt, Int.ofNat_le, Int.ofNat_inj, ne_eq, gt_iff_lt, ge_iff_le] at hg2
        refine WO_step rfl (S_pure rfl ?_)
        refine WO_step rfl (S_pure rfl ?_)
        refine WO_call rfl rfl rfl ?_
        refine (WF.weak (sp_lReads (H := SL u.toV TRec (newest l) :: SL w0.toV TRec N :: H1) (w := w) (i := iL) (j := jL) (n := l.length) (k := ask) hg hasz) (by repeat (first | exact HSub.refl | refine HSub.pick (by repeat (first | exact Pick.head | apply Pick.tail)) ?_ | apply HSub.drop))).mono ?_
        rintro _ _ ⟨rfl, rfl⟩
        rw [reads_eq hg.nd]
        refine WO_step rfl (S_pure rfl ?_)
        refine WO_step rfl (S_pure rfl ?_)
        refine WO_call rfl rfl rfl ?_
        refine (sp_rRd (l := newest l) (k := ask) (by repeat (first | assumption | exact RD.head | exact RD.nil | apply RD.tail)) (by omega) (fun x hx => allmay_sz hal x (newest_mem hx)) hasz).mono ?_
        rintro _ _ ⟨rfl, rfl⟩
        first | refine WO_step rfl (S_eqS rfl rfl ?_) | refine WO_step rfl (S_pure rfl ?_)
        refine WO_step rfl (S_pure rfl ?_)
        refine WO_step rfl (S_pure rfl ?_)
        refine WO_cases (t := 120) rfl (fun hg3 => ?_) (fun hg3 => ?_)
        ·
          try simp only [decide_eq_true_eq, decide_eq_false_iff_not, Bool.not_eq_true', Bool.not_eq_false', beq_iff_eq, bne_iff_ne, beq_eq_false_iff_ne, Int.ofNat_lt, Int.ofNat_le, Int.ofNat_inj, ne_eq, gt_iff_lt, ge_iff_le] at hg3
          refine WO_step rfl (S_pure rfl ?_)
          refine WO_step rfl (S_pure rfl ?_)
          refine WO_call rfl rfl rfl ?_
          refine (sp_same (l := l) (m := newest l) hg hal (by repeat (first | assumption | exact RD.head | exact RD.nil | apply RD.tail)) rfl).mono ?_
          rintro _ _ rfl
          refine WO_step rfl (S_pure rfl ?_)
          refine WO_step rfl (S_pure rfl ?_)
          refine WO_nil ?_
          refine KSeq_n ?_
          refine WC_ret ?_
          refine KFn_r (ResL.tmp rfl ResL.nil) ?_
          exact ⟨_, HSub.refl, by simp [resV]⟩
        ·
          try simp only [decide_eq_true_eq, decide_eq_false_iff_not, Bool.not_eq_true', Bool.not_eq_false', beq_iff_eq, bne_iff_ne, beq_eq_false_iff_ne, Int.ofNat_lt, Int.ofNat_le, Int.ofNat_inj, ne_eq, gt_iff_lt, ge_iff_le] at hg3
          refine WO_off rfl ?_
          refine WO_off rfl ?_
          refine WO_off rfl ?_
          refine WO_step rfl (S_pure rfl ?_)
          refine WO_step rfl (S_pure rfl ?_)
          refine WO_nil ?_
          refine KSeq_n ?_
          refine WC_ret ?_
          refine KFn_r (ResL.tmp rfl ResL.nil) ?_
          exact absurd hg3 (by simp)
      ·
        try simp only [decide_eq_true_eq, decide_eq_false_iff_not, Bool.not_eq_true', Bool.not_eq_false', beq_iff_eq, bne_iff_ne, beq_eq_false_iff_ne, Int.ofNat_lt, Int.ofNat_le, Int.ofNat_inj, ne_eq, gt_iff_lt, ge_iff_le] at hg2
        refine WO_off rfl ?_
        refine WO_off rfl ?_
        refine WO_off rfl ?_
        refine WO_off rfl ?_
        refine WO_off rfl ?_
        refine WO_off rfl ?_
        refine WO_off rfl ?_
        refine WO_step rfl (S_pure rfl ?_)
        refine WO_step rfl (S_pure rfl ?_)
        refine WO_off rfl ?_
        refine WO_off rfl ?_
        refine WO_off rfl ?_
        refine WO_step rfl (S_pure rfl ?_)
        refine WO_step rfl (S_pure rfl ?_)
        refine WO_nil ?_
        refine KSeq_n ?_
        refine WC_ret ?_
        refine KFn_r (ResL.tmp rfl ResL.nil) ?_
        exact absurd hg2 (by simp)
    ·
      try simp only [decide_eq_true_eq, decide_eq_false_iff_not, Bool.not_eq_true', Bool.not_eq_false', beq_iff_eq, bne_iff_ne, beq_eq_false_iff_ne, Int.ofNat_lt, Int.ofNat_le, Int.ofNat_inj, ne_eq, gt_iff_lt, ge_iff_le] at hg1
      refine WO_off rfl ?_
      refine WO_off rfl ?_
      refine WO_off rfl ?_
      refine WO_step rfl (S_pure rfl ?_)
      refine WO_step rfl (S_pure rfl ?_)
      refine WO_off rfl ?_
      refine WO_off rfl ?_
      refine WO_off rfl ?_
      refine WO_off rfl ?_
      refine WO_off rfl ?_
      refine WO_off rfl ?_
      refine WO_off rfl ?_
      refine WO_step rfl (S_pure rfl ?_)
      refine WO_step rfl (S_pure rfl ?_)
      refine WO_off rfl ?_
      refine WO_off rfl ?_
      refine WO_off rfl ?_
      refine WO_step rfl (S_pure rfl ?_)
      refine WO_step rfl (S_pure rfl ?_)
      refine WO_nil ?_
      refine KSeq_n ?_
      refine WC_ret ?_
      refine KFn_r (ResL.tmp rfl ResL.nil) ?_
      exact absurd hg1 (by simp)

end Go.Proofs.YtjbichljgfcigaaGreat.AM
