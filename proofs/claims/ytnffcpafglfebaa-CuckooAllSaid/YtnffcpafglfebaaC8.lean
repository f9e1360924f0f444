/- Walks: what the functions compute. -/
import Derived.Test.YtnffcpafglfebaaC7
namespace Go.Proofs.Ytnffcpafglfebaa.AM
open Go
set_option linter.unusedSimpArgs false
set_option linter.unusedVariables false
set_option maxRecDepth 4000

/-! ### Find, Set, At -/
def FindTr (es : List Ent) (st : SV × List Int) (k : Nat) (es1 : List Ent) (st1 : SV × List Int) (ok : Bool) : Prop := es1 = es ∧ st1.2 = st.2 ++ [(at' es k).id] ∧ ok = true
theorem find_each {h : Nat} : ∀ {ks : List Nat} {es : List Ent} {st : SV × List Int} {es' : List Ent} {st' : SV × List Int}, eachR FindTr h ks es st es' st' → es' = es ∧ st'.2 = st.2 ++ ((ks.filter (hit es h)).map fun k => (at' es k).id)
  | [], es, st, es', st', hr => by
    obtain ⟨rfl, rfl⟩ := hr
    exact ⟨rfl, by simp⟩
  | k :: ks, es, st, es', st', hr => by
    unfold eachR at hr
    split at hr
    · rename_i hh
      obtain ⟨es1, st1, ok, ⟨rfl, h2, rfl⟩, h4⟩ := hr
      rw [if_pos rfl] at h4
      obtain ⟨rfl, h5⟩ := find_each h4
      exact ⟨rfl, by rw [h5, h2, List.filter_cons, if_pos hh]; simp⟩
    · rename_i hh
      obtain ⟨rfl, h5⟩ := find_each hr
      exact ⟨rfl, by rw [h5, List.filter_cons, if_neg hh]⟩
theorem foundL_len (es : List Ent) (h : Nat) : (foundL es h).length ≤ 8 := by
  unfold foundL
  rw [List.length_map]
  exact Nat.le_trans (List.length_filter_le _ _) (by simp [slots])
theorem sp_find1 {H : SH} {i n k i5 : Nat} {es : List Ent} {w : SV} {l : List Int} (hl : es.length = 32) (hk : k < 32) (hb : l.length ≤ 100) : WF F X f_cuckoo_Dir_Find_1 [.pointer (some ⟨i, k * 3, none⟩), .pointer (some ⟨i5, 0, none⟩)] (DO i es n :: OB i5 TSV w :: SL w.toV TInt l :: H) (fun r H' => ∃ w', r = .bool true ∧ H' = DO i es n :: OB i5 TSV w' :: SL w'.toV TInt (l ++ [(at' es k).id]) :: H) := by
  refine WF_fn F_cuckoo_Dir_Find_1 ?_
  refine WC_seq ?_
  refine WC_region ?_
  refine WO_step rfl (S_pure rfl ?_)
  refine WO_nil ?_
  refine KSeq_n ?_
  refine WC_seq ?_
  refine WC_region ?_
  refine WO_step rfl (S_loadO rfl (by repeat (first | exact Pick.head | apply Pick.tail)) (by rfl) (by rfl) ?_)
  refine WO_step rfl (S_pure rfl ?_)
  refine WO_step rfl (S_pure rfl ?_)
  refine WO_step rfl (S_pure rfl ?_)
  refine WO_step rfl (S_loadD (k := k) (off := 1) hl rfl .head rfl hk rfl ?_)
  refine WO_step rfl (S_lit1 (T := TInt) rfl rfl rfl rfl fun w9 => ?_)
  refine WO_step rfl (S_app rfl rfl (by repeat (first | exact Pick.head | apply Pick.tail)) (by first | exact SRC.str rfl rfl | (apply RD.src; repeat (first | assumption | exact RD.head | exact RD.nil | apply RD.tail))) (by rfl) (by rfl) (by (try simp only [List.length_append, List.length_cons, List.length_nil]); omega) fun w10 => ?_)
  refine WO_step rfl (S_storeT (T := TSV) (y := w10) rfl rfl (by repeat (first | exact Pick.head | apply Pick.tail)) (by rfl) (by rfl) ?_)
  refine WO_nil ?_
  refine KSeq_n ?_
  refine WC_seq ?_
  refine WC_region ?_
  refine WO_step rfl (S_pure rfl ?_)
  refine WO_nil ?_
  refine KSeq_n ?_
  refine WC_ret ?_
  refine KFn_r (ResL.tmp rfl ResL.nil) ?_
  exact ⟨_, (by repeat (first | exact HSub.refl | refine HSub.pick (by repeat (first | exact Pick.head | apply Pick.tail)) ?_ | apply HSub.drop)), w10, rfl, rfl⟩
def FindIv (m : Nat) (st : SV × List Int) : Prop := st.2.length + m ≤ 8
theorem find_tell {H : SH} {i n h i5 : Nat} : TellOk i n h FindIv (fun st => OB i5 TSV st.1 :: SL st.1.toV TInt st.2 :: H) f_cuckoo_Dir_Find_1 #[.pointer (some ⟨i5, 0, none⟩)] FindTr := by
  refine ⟨fun m st h => by unfold FindIv at *; omega, fun es st k m hl hk hh hiv => ?_⟩
  obtain ⟨w, l⟩ := st
  unfold FindIv at hiv
  simp only at hiv
  refine (sp_find1 (i5 := i5) (w := w) (l := l) (H := H) (n := n) hl hk (by omega)).mono ?_
  rintro _ _ ⟨w', rfl, rfl⟩
  exact ⟨es, (w', l ++ [(at' es k).id]), true, ⟨rfl, rfl, rfl⟩, rfl, rfl, hl, by unfold FindIv; simp only [List.length_append, List.length_cons, List.length_nil]; omega⟩
theorem sp_DFind {H H0 : SH} {i n h : Nat} {es : List Ent} (hl : es.length = 32) (hp : Pick (DO i es n) H H0) (hh : h < 18446744073709551616) : WF F X f_cuckoo_Dir_Find [.pointer (some ⟨i, 0, none⟩), .int .u64 (h : Int)] H (fun r H' => ∃ (w : SV) (L : List Int), r = w.toV ∧ H' = SL w.toV TInt L :: DO i es n :: H0 ∧ ISor L ∧ L.Perm (foundL es h)) := by
  refine WF.weak ?_ hp.sub
  refine WF_fn F_cuckoo_Dir_Find ?_
  refine WC_seq ?_
  refine WC_region ?_
  refine WO_step rfl (S_pure rfl ?_)
  refine WO_nil ?_
  refine KSeq_n ?_
  refine WC_seq ?_
  refine WC_region ?_
  refine WO_step rfl (S_newT TSV .nil rfl rfl fun i5 => ?_)
  refine WO_nil ?_
  refine KSeq_n ?_
  refine WC_seq ?_
  refine WC_region ?_
  refine WO_step rfl (S_pure rfl ?_)
  refine WO_step rfl (S_pure rfl ?_)
  refine WO_step rfl (S_pure rfl ?_)
  refine WO_call rfl rfl rfl ?_
  refine WF_addNil (T := TInt) ?_
  refine (WF.weak (sp_each (i := i) (n := n) (h := h) (find_tell (H := H0) (i5 := i5)) hh (es := es) (st := (.nil, [])) hl (by unfold FindIv; simp)) (by repeat (first | exact HSub.refl | refine HSub.pick (by repeat (first | exact Pick.head | apply Pick.tail)) ?_ | apply HSub.drop))).mono ?_
  rintro _ _ ⟨es', st', rfl, hl', hr⟩
  obtain ⟨rfl, hL⟩ := find_each hr
  obtain ⟨w', L'⟩ := st'
  simp only [List.nil_append] at hL
  have hL8 := foundL_len es' h
  have hLe : L' = foundL es' h := hL
  subst hLe
  refine WO_nil ?_
  refine KSeq_n ?_
  refine WC_seq ?_
  refine WC_region ?_
  refine WO_step rfl (S_loadO rfl (by repeat (first | exact Pick.head | apply Pick.tail)) (by rfl) (by rfl) ?_)
  refine WO_call rfl rfl rfl ?_
  refine (sp_Sort (L := foundL es' h) (by repeat (first | exact Pick.head | apply Pick.tail)) (by omega)).mono ?_
  rintro _ _ ⟨L2, rfl, h1, h2⟩
  refine WO_nil ?_
  refine KSeq_n ?_
  refine WC_seq ?_
  refine WC_region ?_
  refine WO_step rfl (S_loadO rfl (by repeat (first | exact Pick.head | apply Pick.tail)) (by rfl) (by rfl) ?_)
  refine WO_step rfl (S_pure rfl ?_)
  refine WO_nil ?_
  refine KSeq_n ?_
  refine WC_ret ?_
  refine KFn_r (ResL.tmp rfl ResL.nil) ?_
  exact ⟨_, (by repeat (first | exact HSub.refl | refine HSub.pick (by repeat (first | exact Pick.head | apply Pick.tail)) ?_ | apply HSub.drop)), w', L2, rfl, rfl, h1, h2⟩
theorem sp_At {H H0 : SH} {i n b s : Nat} {es : List Ent} (hl : es.length = 32) (hp : Pick (DO i es n) H H0) (hb : b < 8) (hs : s < 4) : WF F X f_cuckoo_Dir_At [.pointer (some ⟨i, 0, none⟩), .int .i64 (b : Int), .int .i64 (s : Int)] H (fun r H' => H' = H ∧ r = .tuple #[.int .i64 (at' es (b * 4 + s)).id, .int .i64 ((at' es (b * 4 + s)).tag : Int), .bool (at' es (b * 4 + s)).has]) := by
  refine WF_fn F_cuckoo_Dir_At ?_
  refine WC_seq ?_
  refine WC_region ?_
  refine WO_step rfl (S_pure rfl ?_)
  refine WO_step rfl (S_pure rfl ?_)
  refine WO_step rfl (S_pure rfl ?_)
  refine WO_nil ?_
  refine KSeq_n ?_
  refine WC_seq ?_
  refine WC_seq ?_
  refine WC_region ?_
  refine WO_step rfl (S_pure rfl ?_)
  refine WO_step rfl (S_pure rfl ?_)
  refine WO_step rfl (S_pure rfl ?_)
  refine WO_cases (t := 12) rfl (fun hg1 => ?_) (fun hg1 => ?_)
  ·
    try simp only [decide_eq_true_eq, decide_eq_false_iff_not, Bool.not_eq_true', Bool.not_eq_false', beq_iff_eq, bne_iff_ne, beq_eq_false_iff_ne, Int.ofNat_lt, Int.ofNat_le, Int.ofNat_inj, ne_eq, gt_iff_lt, ge_iff_le] at hg1
    exact absurd hg1 (by simp)
    --stop
  ·
    try simp only [decide_eq_true_eq, decide_eq_false_iff_not, Bool.not_eq_true', Bool.not_eq_false', beq_iff_eq, bne_iff_ne, beq_eq_false_iff_ne, Int.ofNat_lt, Int.ofNat_le, Int.ofNat_inj, ne_eq, gt_iff_lt, ge_iff_le] at hg1
    refine WO_step rfl (S_pure rfl ?_)
    refine WO_step rfl (S_pure rfl ?_)
    refine WO_step rfl (S_pure rfl ?_)
    refine WO_step rfl (S_pure rfl ?_)
    refine WO_cases (t := 16) rfl (fun hg2 => ?_) (fun hg2 => ?_)
    ·
      try simp only [decide_eq_true_eq, decide_eq_false_iff_not, Bool.not_eq_true', Bool.not_eq_false', beq_iff_eq, bne_iff_ne, beq_eq_false_iff_ne, Int.ofNat_lt, Int.ofNat_le, Int.ofNat_inj, ne_eq, gt_iff_lt, ge_iff_le] at hg2
      exfalso; omega
      --stop
    ·
      try simp only [decide_eq_true_eq, decide_eq_false_iff_not, Bool.not_eq_true', Bool.not_eq_false', beq_iff_eq, bne_iff_ne, beq_eq_false_iff_ne, Int.ofNat_lt, Int.ofNat_le, Int.ofNat_inj, ne_eq, gt_iff_lt, ge_iff_le] at hg2
      refine WO_step rfl (S_pure rfl ?_)
      refine WO_step rfl (S_pure rfl ?_)
      refine WO_step rfl (S_pure rfl ?_)
      refine WO_step rfl (S_pure rfl ?_)
      refine WO_cases (t := 20) rfl (fun hg3 => ?_) (fun hg3 => ?_)
      ·
        try simp only [decide_eq_true_eq, decide_eq_false_iff_not, Bool.not_eq_true', Bool.not_eq_false', beq_iff_eq, bne_iff_ne, beq_eq_false_iff_ne, Int.ofNat_lt, Int.ofNat_le, Int.ofNat_inj, ne_eq, gt_iff_lt, ge_iff_le] at hg3
        exfalso; omega
        --stop
      ·
        try simp only [decide_eq_true_eq, decide_eq_false_iff_not, Bool.not_eq_true', Bool.not_eq_false', beq_iff_eq, bne_iff_ne, beq_eq_false_iff_ne, Int.ofNat_lt, Int.ofNat_le, Int.ofNat_inj, ne_eq, gt_iff_lt, ge_iff_le] at hg3
        refine WO_step rfl (S_pure rfl ?_)
        refine WO_step rfl (S_pure rfl ?_)
        refine WO_step rfl (S_pure rfl ?_)
        refine WO_step rfl (S_pure rfl ?_)
        refine WO_cases (t := 24) rfl (fun hg4 => ?_) (fun hg4 => ?_)
        ·
          try simp only [decide_eq_true_eq, decide_eq_false_iff_not, Bool.not_eq_true', Bool.not_eq_false', beq_iff_eq, bne_iff_ne, beq_eq_false_iff_ne, Int.ofNat_lt, Int.ofNat_le, Int.ofNat_inj, ne_eq, gt_iff_lt, ge_iff_le] at hg4
          exfalso; omega
          --stop
        ·
          try simp only [decide_eq_true_eq, decide_eq_false_iff_not, Bool.not_eq_true', Bool.not_eq_false', beq_iff_eq, bne_iff_ne, beq_eq_false_iff_ne, Int.ofNat_lt, Int.ofNat_le, Int.ofNat_inj, ne_eq, gt_iff_lt, ge_iff_le] at hg4
          refine WO_step rfl (S_pure rfl ?_)
          refine WO_step rfl (S_pure rfl ?_)
          refine WO_step rfl (S_pure rfl ?_)
          refine WO_nil ?_
          refine KSeq_n ?_
          refine WC_cond rfl (fun hb1 => ?_) (fun hb1 => ?_)
          ·
            try simp only [decide_eq_true_eq, decide_eq_false_iff_not, Bool.not_eq_true', Bool.not_eq_false', beq_iff_eq, bne_iff_ne, beq_eq_false_iff_ne, Int.ofNat_lt, Int.ofNat_le, Int.ofNat_inj, ne_eq, gt_iff_lt, ge_iff_le] at hb1
            exfalso; omega
            --stop
          ·
            try simp only [decide_eq_true_eq, decide_eq_false_iff_not, Bool.not_eq_true', Bool.not_eq_false', beq_iff_eq, bne_iff_ne, beq_eq_false_iff_ne, Int.ofNat_lt, Int.ofNat_le, Int.ofNat_inj, ne_eq, gt_iff_lt, ge_iff_le] at hb1
            refine WC_skip ?_
            refine KSeq_n ?_
            refine WC_seq ?_
            refine WC_region ?_
            refine WO_step rfl (S_pure rfl ?_)
            refine WO_step rfl (S_pure rfl ?_)
            refine WO_step rfl (S_pure rfl ?_)
            refine WO_step rfl (S_pure rfl ?_)
            refine WO_step rfl (S_pure rfl ?_)
            refine WO_step rfl (S_idxA rfl rfl rfl hb ?_)
            refine WO_step rfl (S_idxA rfl rfl rfl hs ?_)
            refine WO_step rfl (S_loadEnt (k := b * 4 + s) hl rfl hp (by omega) (by omega) ?_)
            refine WO_step rfl (S_newT TEnt ent0 rfl rfl fun i9 => ?_)
            refine WO_step rfl (S_storeO rfl rfl (by repeat (first | exact Pick.head | apply Pick.tail)) (by first | rfl | exact SV.cells1 _) (by rfl) (by first | rfl | exact SV.ones _) ?_)
            refine WO_nil ?_
            refine KSeq_n ?_
            refine WC_seq ?_
            refine WC_region ?_
            refine WO_step rfl (S_pure rfl ?_)
            refine WO_step rfl (S_loadO rfl (by repeat (first | exact Pick.head | apply Pick.tail)) (by rfl) (by rfl) ?_)
            refine WO_step rfl (S_pure rfl ?_)
            refine WO_step rfl (S_loadO rfl (by repeat (first | exact Pick.head | apply Pick.tail)) (by rfl) (by rfl) ?_)
            refine WO_step rfl (S_pure rfl ?_)
            refine WO_step rfl (S_loadO rfl (by repeat (first | exact Pick.head | apply Pick.tail)) (by rfl) (by rfl) ?_)
            refine WO_step rfl (S_pure rfl ?_)
            refine WO_step rfl (S_pure rfl ?_)
            refine WO_step rfl (S_pure rfl ?_)
            refine WO_nil ?_
            refine KSeq_n ?_
            refine WC_ret ?_
            refine KFn_r (ResL.tmp rfl (ResL.tmp rfl (ResL.tmp rfl ResL.nil))) ?_
            exact ⟨_, HSub.refl.drop, rfl, rfl⟩
theorem sp_AtNo {H : SH} {i b s : Nat} (h : 8 ≤ b ∨ 4 ≤ s) : WF F X f_cuckoo_Dir_At [.pointer (some ⟨i, 0, none⟩), .int .i64 (b : Int), .int .i64 (s : Int)] H (fun r H' => H' = H ∧ r = .tuple #[.int .i64 0, .int .i64 0, .bool false]) := by
  refine WF_fn F_cuckoo_Dir_At ?_
  refine WC_seq ?_
  refine WC_region ?_
  refine WO_step rfl (S_pure rfl ?_)
  refine WO_step rfl (S_pure rfl ?_)
  refine WO_step rfl (S_pure rfl ?_)
  refine WO_nil ?_
  refine KSeq_n ?_
  refine WC_seq ?_
  refine WC_seq ?_
  refine WC_region ?_
  refine WO_step rfl (S_pure rfl ?_)
  refine WO_step rfl (S_pure rfl ?_)
  refine WO_step rfl (S_pure rfl ?_)
  refine WO_cases (t := 12) rfl (fun hg1 => ?_) (fun hg1 => ?_)
  ·
    try simp only [decide_eq_true_eq, decide_eq_false_iff_not, Bool.not_eq_true', Bool.not_eq_false', beq_iff_eq, bne_iff_ne, beq_eq_false_iff_ne, Int.ofNat_lt, Int.ofNat_le, Int.ofNat_inj, ne_eq, gt_iff_lt, ge_iff_le] at hg1
    exact absurd hg1 (by simp)
    --stop
  ·
    try simp only [decide_eq_true_eq, decide_eq_false_iff_not, Bool.not_eq_true', Bool.not_eq_false', beq_iff_eq, bne_iff_ne, beq_eq_false_iff_ne, Int.ofNat_lt, Int.ofNat_le, Int.ofNat_inj, ne_eq, gt_iff_lt, ge_iff_le] at hg1
    refine WO_step rfl (S_pure rfl ?_)
    refine WO_step rfl (S_pure rfl ?_)
    refine WO_step rfl (S_pure rfl ?_)
    refine WO_step rfl (S_pure rfl ?_)
    refine WO_cases (t := 16) rfl (fun hg2 => ?_) (fun hg2 => ?_)
    ·
      try simp only [decide_eq_true_eq, decide_eq_false_iff_not, Bool.not_eq_true', Bool.not_eq_false', beq_iff_eq, bne_iff_ne, beq_eq_false_iff_ne, Int.ofNat_lt, Int.ofNat_le, Int.ofNat_inj, ne_eq, gt_iff_lt, ge_iff_le] at hg2
      refine WO_off rfl ?_
      refine WO_off rfl ?_
      refine WO_step rfl (S_pure rfl ?_)
      refine WO_step rfl (S_pure rfl ?_)
      refine WO_off rfl ?_
      refine WO_off rfl ?_
      refine WO_step rfl (S_pure rfl ?_)
      refine WO_step rfl (S_pure rfl ?_)
      refine WO_off rfl ?_
      refine WO_off rfl ?_
      refine WO_step rfl (S_pure rfl ?_)
      refine WO_nil ?_
      refine KSeq_n ?_
      refine WC_cond rfl (fun _ => ?_) (fun h => ?_)
      rotate_left
      · exact absurd h (by decide)
      refine WC_seq ?_
      refine WC_region ?_
      refine WO_step rfl (S_pure rfl ?_)
      refine WO_step rfl (S_pure rfl ?_)
      refine WO_step rfl (S_pure rfl ?_)
      refine WO_nil ?_
      refine KSeq_n ?_
      refine WC_ret ?_
      refine KSeq_r ?_
      refine KFn_r (ResL.tmp rfl (ResL.tmp rfl (ResL.tmp rfl ResL.nil))) ?_
      exact ⟨_, HSub.refl, rfl, rfl⟩
    ·
      try simp only [decide_eq_true_eq, decide_eq_false_iff_not, Bool.not_eq_true', Bool.not_eq_false', beq_iff_eq, bne_iff_ne, beq_eq_false_iff_ne, Int.ofNat_lt, Int.ofNat_le, Int.ofNat_inj, ne_eq, gt_iff_lt, ge_iff_le] at hg2
      refine WO_step rfl (S_pure rfl ?_)
      refine WO_step rfl (S_pure rfl ?_)
      refine WO_step rfl (S_pure rfl ?_)
      refine WO_step rfl (S_pure rfl ?_)
      refine WO_cases (t := 20) rfl (fun hg3 => ?_) (fun hg3 => ?_)
      ·
        try simp only [decide_eq_true_eq, decide_eq_false_iff_not, Bool.not_eq_true', Bool.not_eq_false', beq_iff_eq, bne_iff_ne, beq_eq_false_iff_ne, Int.ofNat_lt, Int.ofNat_le, Int.ofNat_inj, ne_eq, gt_iff_lt, ge_iff_le] at hg3
        refine WO_off rfl ?_
        refine WO_off rfl ?_
        refine WO_step rfl (S_pure rfl ?_)
        refine WO_step rfl (S_pure rfl ?_)
        refine WO_off rfl ?_
        refine WO_off rfl ?_
        refine WO_step rfl (S_pure rfl ?_)
        refine WO_nil ?_
        refine KSeq_n ?_
        refine WC_cond rfl (fun _ => ?_) (fun h => ?_)
        rotate_left
        · exact absurd h (by decide)
        refine WC_seq ?_
        refine WC_region ?_
        refine WO_step rfl (S_pure rfl ?_)
        refine WO_step rfl (S_pure rfl ?_)
        refine WO_step rfl (S_pure rfl ?_)
        refine WO_nil ?_
        refine KSeq_n ?_
        refine WC_ret ?_
        refine KSeq_r ?_
        refine KFn_r (ResL.tmp rfl (ResL.tmp rfl (ResL.tmp rfl ResL.nil))) ?_
        exact ⟨_, HSub.refl, rfl, rfl⟩
      ·
        try simp only [decide_eq_true_eq, decide_eq_false_iff_not, Bool.not_eq_true', Bool.not_eq_false', beq_iff_eq, bne_iff_ne, beq_eq_false_iff_ne, Int.ofNat_lt, Int.ofNat_le, Int.ofNat_inj, ne_eq, gt_iff_lt, ge_iff_le] at hg3
        refine WO_step rfl (S_pure rfl ?_)
        refine WO_step rfl (S_pure rfl ?_)
        refine WO_step rfl (S_pure rfl ?_)
        refine WO_step rfl (S_pure rfl ?_)
        refine WO_cases (t := 24) rfl (fun hg4 => ?_) (fun hg4 => ?_)
        ·
          try simp only [decide_eq_true_eq, decide_eq_false_iff_not, Bool.not_eq_true', Bool.not_eq_false', beq_iff_eq, bne_iff_ne, beq_eq_false_iff_ne, Int.ofNat_lt, Int.ofNat_le, Int.ofNat_inj, ne_eq, gt_iff_lt, ge_iff_le] at hg4
          refine WO_off rfl ?_
          refine WO_off rfl ?_
          refine WO_step rfl (S_pure rfl ?_)
          refine WO_nil ?_
          refine KSeq_n ?_
          refine WC_cond rfl (fun _ => ?_) (fun h => ?_)
          rotate_left
          · exact absurd h (by decide)
          refine WC_seq ?_
          refine WC_region ?_
          refine WO_step rfl (S_pure rfl ?_)
          refine WO_step rfl (S_pure rfl ?_)
          refine WO_step rfl (S_pure rfl ?_)
          refine WO_nil ?_
          refine KSeq_n ?_
          refine WC_ret ?_
          refine KSeq_r ?_
          refine KFn_r (ResL.tmp rfl (ResL.tmp rfl (ResL.tmp rfl ResL.nil))) ?_
          exact ⟨_, HSub.refl, rfl, rfl⟩
        ·
          try simp only [decide_eq_true_eq, decide_eq_false_iff_not, Bool.not_eq_true', Bool.not_eq_false', beq_iff_eq, bne_iff_ne, beq_eq_false_iff_ne, Int.ofNat_lt, Int.ofNat_le, Int.ofNat_inj, ne_eq, gt_iff_lt, ge_iff_le] at hg4
          refine WO_step rfl (S_pure rfl ?_)
          refine WO_step rfl (S_pure rfl ?_)
          refine WO_step rfl (S_pure rfl ?_)
          refine WO_nil ?_
          refine KSeq_n ?_
          refine WC_cond rfl (fun hb1 => ?_) (fun hb1 => ?_)
          ·
            try simp only [decide_eq_true_eq, decide_eq_false_iff_not, Bool.not_eq_true', Bool.not_eq_false', beq_iff_eq, bne_iff_ne, beq_eq_false_iff_ne, Int.ofNat_lt, Int.ofNat_le, Int.ofNat_inj, ne_eq, gt_iff_lt, ge_iff_le] at hb1
            refine WC_seq ?_
            refine WC_region ?_
            refine WO_step rfl (S_pure rfl ?_)
            refine WO_step rfl (S_pure rfl ?_)
            refine WO_step rfl (S_pure rfl ?_)
            refine WO_nil ?_
            refine KSeq_n ?_
            refine WC_ret ?_
            refine KSeq_r ?_
            refine KFn_r (ResL.tmp rfl (ResL.tmp rfl (ResL.tmp rfl ResL.nil))) ?_
            exact ⟨_, HSub.refl, rfl, rfl⟩
          ·
            try simp only [decide_eq_true_eq, decide_eq_false_iff_not, Bool.not_eq_true', Bool.not_eq_false', beq_iff_eq, bne_iff_ne, beq_eq_false_iff_ne, Int.ofNat_lt, Int.ofNat_le, Int.ofNat_inj, ne_eq, gt_iff_lt, ge_iff_le] at hb1
            exfalso; omega
            --stop
end Go.Proofs.Ytnffcpafglfebaa.AM
