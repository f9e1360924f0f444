/- Walks: what the functions compute. -/
import Derived.Test.YtmibhdoegcgfmaaDoorMp
namespace Go.Proofs.YtmibhdoegcgfmaaDoor.AM
open Go
set_option linter.unusedSimpArgs false
set_option linter.unusedVariables false
set_option maxRecDepth 4000

/-! ### The law ManifestOwn -/
def fb (b : ByteArray) : Option UInt8 := b.data.toList.head?
theorem fb_nm (k n : Nat) : fb (nmS k n) = some (UInt8.ofNat k) := by simp [fb, nm]
theorem names_nodup {f s : Int} {xs : List Int} (hx : ∀ x ∈ xs, 0 ≤ x) (hn : xs.Nodup) : (names3 f s xs).Nodup := by
  have b1 : ∀ z ∈ names1 f, fb z = some 108 ∨ fb z = some 109 ∨ fb z = some 102 := by
    intro z hz
    unfold names1 at hz
    rcases List.mem_append.1 hz with hz | hz
    · simp at hz; rcases hz with rfl | rfl
      · exact .inl rfl
      · exact .inr (.inl rfl)
    · split at hz
      · simp at hz
      · simp at hz; subst hz; exact .inr (.inr (fb_nm _ _))
  have n1 : (names1 f).Nodup := by
    unfold names1
    refine List.nodup_append.2 ⟨by decide, by split <;> simp, fun a ha c hc e => ?_⟩
    split at hc
    · simp at hc
    · simp at hc; subst hc; subst e
      have := fb_nm 102 f.toNat
      simp at ha
      rcases ha with ha | ha <;> rw [ha] at this <;> exact absurd this (by decide)
  have b2 : ∀ z ∈ xs.map (fun x => nmS 104 x.toNat), fb z = some 104 := by
    intro z hz
    obtain ⟨x, _, rfl⟩ := List.mem_map.1 hz
    exact fb_nm _ _
  have n2 : (xs.map fun x => nmS 104 x.toNat).Nodup := by
    refine List.pairwise_map.2 (hn.imp_of_mem fun {a c} ha hc hne e => hne ?_)
    have := (nm_inj (by omega) (by omega) (bA_inj e)).2
    have h1 := hx a ha
    have h2 := hx c hc
    omega
  have n12 : (names2 f xs).Nodup := by
    unfold names2
    refine List.nodup_append.2 ⟨n1, n2, fun a ha c hc e => ?_⟩
    subst e
    have := b2 a hc
    rcases b1 a ha with h | h | h <;> rw [h] at this <;> exact absurd this (by decide)
  unfold names3
  refine List.nodup_append.2 ⟨n12, by split <;> simp, fun a ha c hc e => ?_⟩
  split at hc
  · simp at hc
  · simp at hc; subst hc; subst e
    have h3 := fb_nm 115 s.toNat
    unfold names2 at ha
    rcases List.mem_append.1 ha with ha | ha
    · rcases b1 _ ha with h | h | h <;> rw [h] at h3 <;> exact absurd h3 (by decide)
    · rw [b2 _ ha] at h3; exact absurd h3 (by decide)
theorem ssor_strict {l : List ByteArray} (hs : SSor l) (hn : l.Nodup) {i : Nat} {x y : ByteArray} (h0 : 0 < i) (hy : l[i - 1]? = some y) (hx : l[i]? = some x) : sltB y x = true := by
  obtain ⟨hlt, rfl⟩ := List.getElem?_eq_some_iff.1 hx
  obtain ⟨hlt2, rfl⟩ := List.getElem?_eq_some_iff.1 hy
  have h1 := List.pairwise_iff_getElem.1 hs (i - 1) i hlt2 hlt (by omega)
  have h2 := List.pairwise_iff_getElem.1 hn (i - 1) i hlt2 hlt (by omega)
  rcases slt_tri l[i - 1] l[i] with h | h | h
  · exact h
  · exact absurd h h2
  · unfold sle at h1; rw [h1] at h; cases h
theorem S_leqS {l : SE} {H : SH} {K : Value → SH → Prop} {x y : Opd} {a b : ByteArray} (hx : x.lv l = some (.string a)) (hy : y.lv l = some (.string b)) (hlt : sltB b a = true) (k : K (.bool false) H) : Step (.bin .leq x y) l H K :=
  S_pureE (v := .bool (Op.bytesLess a.toList b.toList || a.toList == b.toList)) (by simp only [pev, hx, hy, binV, strBin]) (by
    have h1 : Op.bytesLess a.toList b.toList = false := sle_of_lt hlt
    have h2 : (a.toList == b.toList) = false := by
      rw [str_eql]
      by_cases e : a = b
      · subst e; rw [slt_irrefl] at hlt; cases hlt
      · simp [e]
    rw [h1, h2]; rfl) k
theorem may_ok {n f s : Int} {xs : List Int} (h : MayP n f s xs) : okN f ∧ okN s ∧ (∀ x ∈ xs, okN x) ∧ xs.Nodup ∧ xs.length ≤ 3 := by
  obtain ⟨h1, h2, h3, h4, h5, h6, h7⟩ := h
  have key : ∀ x ∈ all0 f s xs, okN x := fun x hx => by have := h6 x hx; unfold okN; omega
  refine ⟨?_, ?_, fun x hx => key x (by simp [all0, hx]), ?_, h3⟩
  · by_cases hf : f = 0
    · subst hf; unfold okN; omega
    · exact key f (by simp [all0, hf])
  · by_cases hs : s = 0
    · subst hs; unfold okN; omega
    · exact key s (by simp [all0, hs])
  · unfold all0 at h7
    exact (List.nodup_append.1 h7).2.1
theorem orph_nil {own fs L : List ByteArray} (h1 : own.Perm L) (h2 : fs.Perm L) : fs.filter (fun y => !inB own y) = [] := by
  rw [List.filter_eq_nil_iff]
  intro y hy
  have : y ∈ own := h1.mem_iff.2 (h2.mem_iff.1 hy)
  simp [inB_iff.2 this]
theorem names3_leq (f s : Int) (xs : List Int) : (names3 f s xs).length = 2 + xs.length + (if f = 0 then (0 : Nat) else 1) + (if s = 0 then (0 : Nat) else 1) := by
  unfold names3 names2 names1
  split <;> split <;> simp <;> omega
theorem lp_Own {H : SH} {w : SV} {L : List ByteArray} {v1 v5 : Value} (hv : RD H w.toV TS L) (hs : SSor L) (hn : L.Nodup) (hL : L.length ≤ 1000) : ∀ (m i : Nat), L.length - i = m → 1 ≤ i → i ≤ L.length →
    WC F X (.loop L_loesslaw24_ManifestOwn_0) [(6, .int .i64 (i : Int)), (4, w.toV), (1, v1), (5, v5)] H (KPost fun y l' H' => y = .exit 0 ∧ l' = [(4, w.toV), (1, v1), (5, v5)] ∧ H' = H) := by
  intro m
  induction m using Nat.strongRecOn with
  | _ m ih =>
    intro i hm h1 hi
    refine WC_loop ?_
    refine WC_seq ?_
    refine WC_seq ?_
    refine WC_region ?_
    refine WO_step rfl (S_pure rfl ?_)
    refine WO_step rfl (S_pure rfl ?_)
    first | refine WO_step rfl (S_pure rfl ?_) | refine WO_step rfl (S_lenS rfl (by repeat (first | assumption | exact RD.head | exact RD.nil | apply RD.tail)) ?_)
    refine WO_step rfl (S_pure rfl ?_)
    refine WO_nil ?_
    refine KSeq_n ?_
    refine WC_cond rfl (fun hb1 => ?_) (fun hb1 => ?_)
    ·
      try simp only [decide_eq_true_eq, decide_eq_false_iff_not, Bool.not_eq_true', Bool.not_eq_false', beq_iff_eq, bne_iff_ne, beq_eq_false_iff_ne, Int.ofNat_lt, Int.ofNat_le, Int.ofNat_inj, ne_eq, gt_iff_lt, ge_iff_le] at hb1
      obtain ⟨x, hx⟩ := get_of_lt hb1
      obtain ⟨y, hy⟩ := get_of_lt (l := L) (a := i - 1) (by omega)
      have hlt := ssor_strict hs hn (by omega) hy hx
      refine WC_skip ?_
      refine KSeq_n ?_
      refine WC_seq ?_
      refine WC_block ?_
      refine WC_seq ?_
      refine WC_region ?_
      refine WO_step rfl (S_pure rfl ?_)
      refine WO_step rfl (S_pure rfl ?_)
      refine WO_step rfl (S_idx rfl rfl (by repeat (first | assumption | exact RD.head | exact RD.nil | apply RD.tail)) (by first | rfl | assumption | (symm; assumption)) (by rfl) (by first | assumption | omega | exact lt_of_get (by assumption) | (simp only [List.length_set]; first | assumption | omega | exact lt_of_get (by assumption))) fun hp44 => ?_)
      refine WO_step rfl (S_loadE rfl (by repeat (first | assumption | exact RD.head | exact RD.nil | apply RD.tail)) (by first | rfl | assumption | (symm; assumption)) (by first | rfl | assumption | (symm; assumption)) (by first | rfl | assumption | (symm; assumption)) (by assumption) ?_)
      refine WO_step rfl (S_pure rfl ?_)
      refine WO_step rfl (S_pure rfl ?_)
      first | refine WO_step rfl (S_subN (b := 1) rfl rfl (by omega) ?_) | refine WO_step rfl (S_pure rfl ?_)
      refine WO_step rfl (S_idx rfl rfl (by repeat (first | assumption | exact RD.head | exact RD.nil | apply RD.tail)) (by first | rfl | assumption | (symm; assumption)) (by rfl) (by first | assumption | omega | exact lt_of_get (by assumption) | (simp only [List.length_set]; first | assumption | omega | exact lt_of_get (by assumption))) fun hp49 => ?_)
      refine WO_step rfl (S_loadE rfl (by repeat (first | assumption | exact RD.head | exact RD.nil | apply RD.tail)) (by first | rfl | assumption | (symm; assumption)) (by first | rfl | assumption | (symm; assumption)) (by first | rfl | assumption | (symm; assumption)) (by assumption) ?_)
      refine WO_step rfl (S_leqS rfl rfl hlt ?_)
      refine WO_nil ?_
      refine KSeq_n ?_
      refine WC_cond rfl (fun hb2 => ?_) (fun hb2 => ?_)
      ·
        try simp only [decide_eq_true_eq, decide_eq_false_iff_not, Bool.not_eq_true', Bool.not_eq_false', beq_iff_eq, bne_iff_ne, beq_eq_false_iff_ne, Int.ofNat_lt, Int.ofNat_le, Int.ofNat_inj, ne_eq, gt_iff_lt, ge_iff_le] at hb2
        refine WC_seq ?_
        refine WC_region ?_
        refine WO_step rfl (S_pure rfl ?_)
        refine WO_nil ?_
        refine KSeq_n ?_
        refine WC_ret ?_
        refine KBlock_r ?_
        refine KSeq_r ?_
        refine KLoop_r ?_
        exact absurd hb2 (by simp)
      ·
        try simp only [decide_eq_true_eq, decide_eq_false_iff_not, Bool.not_eq_true', Bool.not_eq_false', beq_iff_eq, bne_iff_ne, beq_eq_false_iff_ne, Int.ofNat_lt, Int.ofNat_le, Int.ofNat_inj, ne_eq, gt_iff_lt, ge_iff_le] at hb2
        refine WC_skip ?_
        refine KBlock_n ?_
        refine KSeq_n ?_
        refine WC_region ?_
        refine WO_step rfl (S_pure rfl ?_)
        first | refine WO_step rfl (S_addN (b := 1) rfl rfl (by omega) ?_) | refine WO_step rfl (S_pure rfl ?_)
        refine WO_step rfl (S_pure rfl ?_)
        refine WO_nil ?_
        refine KLoop_n ?_
        exact WC_weak (ih (L.length - (i + 1)) (by omega) (i + 1) rfl (by omega) (by omega)) (by repeat (first | exact SubE.nil | apply SubE.cons rfl)) (by repeat (first | exact HSub.refl | refine HSub.pick (by repeat (first | exact Pick.head | apply Pick.tail)) ?_ | apply HSub.drop))
    ·
      try simp only [decide_eq_true_eq, decide_eq_false_iff_not, Bool.not_eq_true', Bool.not_eq_false', beq_iff_eq, bne_iff_ne, beq_eq_false_iff_ne, Int.ofNat_lt, Int.ofNat_le, Int.ofNat_inj, ne_eq, gt_iff_lt, ge_iff_le] at hb1
      refine WC_exit ?_
      refine KSeq_x ?_
      refine KLoop_x ?_
      exact KPost_i (by repeat (first | exact SubE.nil | apply SubE.cons rfl)) (by repeat (first | exact HSub.refl | refine HSub.pick (by repeat (first | exact Pick.head | apply Pick.tail)) ?_ | apply HSub.drop)) ⟨rfl, rfl, rfl⟩
theorem law_ManifestOwn {H : SH} {n f s : Int} {h : SV} {xs : List Int} (hv : RD H h.toV TI64 xs) : WF F X f_loesslaw24_ManifestOwn [mfV n f s h] H (fun v _ => v = .bool true) := by
  refine WF_fn F_loesslaw24_ManifestOwn ?_
  refine WC_seq ?_
  refine WC_region ?_
  refine WO_step rfl (S_box rfl (by cases h <;> rfl) fun i1 => ?_)
  refine WO_step rfl (S_pure rfl ?_)
  refine WO_nil ?_
  refine KSeq_n ?_
  refine WC_seq ?_
  refine WC_region ?_
  refine WO_call rfl rfl rfl ?_
  refine sp_begun.mono ?_
  rintro _ _ ⟨rfl, rfl⟩
  refine WO_step rfl (S_pure rfl ?_)
  refine WO_nil ?_
  refine KSeq_n ?_
  refine WC_seq ?_
  refine WC_seq ?_
  refine WC_region ?_
  refine WO_step rfl (S_pure rfl ?_)
  refine WO_step rfl (S_pure rfl ?_)
  refine WO_nil ?_
  refine KSeq_n ?_
  refine WC_cond rfl (fun hb1 => ?_) (fun hb1 => ?_)
  ·
    try simp only [decide_eq_true_eq, decide_eq_false_iff_not, Bool.not_eq_true', Bool.not_eq_false', beq_iff_eq, bne_iff_ne, beq_eq_false_iff_ne, Int.ofNat_lt, Int.ofNat_le, Int.ofNat_inj, ne_eq, gt_iff_lt, ge_iff_le] at hb1
    exact absurd hb1 (by simp)
    --stop
  ·
    try simp only [decide_eq_true_eq, decide_eq_false_iff_not, Bool.not_eq_true', Bool.not_eq_false', beq_iff_eq, bne_iff_ne, beq_eq_false_iff_ne, Int.ofNat_lt, Int.ofNat_le, Int.ofNat_inj, ne_eq, gt_iff_lt, ge_iff_le] at hb1
    refine WC_skip ?_
    refine KSeq_n ?_
    refine WC_seq ?_
    refine WC_seq ?_
    refine WC_region ?_
    refine WO_step rfl (S_pure rfl ?_)
    refine WO_step rfl (S_loadO rfl (by repeat (first | exact Pick.head | apply Pick.tail)) (by rfl) (by rfl) ?_)
    first | refine WO_step rfl (S_pure rfl ?_) | refine WO_step rfl (S_lenS rfl (by repeat (first | assumption | exact RD.head | exact RD.nil | apply RD.tail)) ?_)
    refine WO_step rfl (S_pure rfl ?_)
    refine WO_step rfl (S_pure rfl ?_)
    refine WO_cases (t := 14) rfl (fun hg1 => ?_) (fun hg1 => ?_)
    ·
      try simp only [decide_eq_true_eq, decide_eq_false_iff_not, Bool.not_eq_true', Bool.not_eq_false', beq_iff_eq, bne_iff_ne, beq_eq_false_iff_ne, Int.ofNat_lt, Int.ofNat_le, Int.ofNat_inj, ne_eq, gt_iff_lt, ge_iff_le] at hg1
      refine WO_off rfl ?_
      refine WO_off rfl ?_
      refine WO_off rfl ?_
      refine WO_step rfl (S_pure rfl ?_)
      refine WO_nil ?_
      refine KSeq_n ?_
      refine WC_cond rfl (fun _ => ?_) (fun h => ?_)
      rotate_left
      · exact absurd h (by decide)
      refine WC_seq ?_
      refine WC_region ?_
      refine WO_step rfl (S_pure rfl ?_)
      refine WO_nil ?_
      refine KSeq_n ?_
      refine WC_ret ?_
      refine KSeq_r ?_
      refine KFn_r (ResL.tmp rfl ResL.nil) ?_
      exact ⟨_, HSub.refl, rfl⟩
    ·
      try simp only [decide_eq_true_eq, decide_eq_false_iff_not, Bool.not_eq_true', Bool.not_eq_false', beq_iff_eq, bne_iff_ne, beq_eq_false_iff_ne, Int.ofNat_lt, Int.ofNat_le, Int.ofNat_inj, ne_eq, gt_iff_lt, ge_iff_le] at hg1
      refine WO_step rfl (S_loadO rfl (by repeat (first | exact Pick.head | apply Pick.tail)) (by rfl) (by rfl) ?_)
      refine WO_call rfl rfl rfl ?_
      refine (sp_MayM (by repeat (first | assumption | exact RD.head | exact RD.nil | apply RD.tail)) (by omega)).mono ?_
      rintro _ _ ⟨rfl, b16, rfl, hb16⟩
      refine WO_step rfl (S_pure rfl ?_)
      refine WO_step rfl (S_pure rfl ?_)
      refine WO_nil ?_
      refine KSeq_n ?_
      refine WC_cond rfl (fun hb2 => ?_) (fun hb2 => ?_)
      ·
        try simp only [decide_eq_true_eq, decide_eq_false_iff_not, Bool.not_eq_true', Bool.not_eq_false', beq_iff_eq, bne_iff_ne, beq_eq_false_iff_ne, Int.ofNat_lt, Int.ofNat_le, Int.ofNat_inj, ne_eq, gt_iff_lt, ge_iff_le] at hb2
        refine WC_seq ?_
        refine WC_region ?_
        refine WO_step rfl (S_pure rfl ?_)
        refine WO_nil ?_
        refine KSeq_n ?_
        refine WC_ret ?_
        refine KSeq_r ?_
        refine KFn_r (ResL.tmp rfl ResL.nil) ?_
        exact ⟨_, HSub.refl, rfl⟩
      ·
        try simp only [decide_eq_true_eq, decide_eq_false_iff_not, Bool.not_eq_true', Bool.not_eq_false', beq_iff_eq, bne_iff_ne, beq_eq_false_iff_ne, Int.ofNat_lt, Int.ofNat_le, Int.ofNat_inj, ne_eq, gt_iff_lt, ge_iff_le] at hb2
        obtain ⟨kf, ks, kx, knd, kl⟩ := may_ok (hb16.1 (by simpa using hb2))
        refine WC_skip ?_
        refine KSeq_n ?_
        refine WC_seq ?_
        refine WC_region ?_
        refine WO_step rfl (S_loadO rfl (by repeat (first | exact Pick.head | apply Pick.tail)) (by rfl) (by rfl) ?_)
        refine WO_call rfl rfl rfl ?_
        refine sp_Of.mono ?_
        rintro _ _ ⟨rfl, rfl⟩
        refine WO_call rfl rfl rfl ?_
        refine (sp_Names (xs := xs) (by repeat (first | assumption | exact RD.head | exact RD.nil | apply RD.tail)) kf ks kx (by omega)).mono ?_
        rintro _ _ ⟨w4, L', rfl, rfl, hso, hpe⟩
        have hnd := hpe.nodup_iff.2 (names_nodup (fun x hx => (kx x hx).1) knd)
        have hll := hpe.length_eq
        rw [names3_leq] at hll
        refine WO_step rfl (S_pure rfl ?_)
        refine WO_nil ?_
        refine KSeq_n ?_
        refine WC_seq ?_
        refine WC_region ?_
        refine WO_step rfl (S_pure rfl ?_)
        refine WO_step rfl (S_loadO rfl (by repeat (first | exact Pick.head | apply Pick.tail)) (by rfl) (by rfl) ?_)
        first | refine WO_step rfl (S_pure rfl ?_) | refine WO_step rfl (S_lenS rfl (by repeat (first | assumption | exact RD.head | exact RD.nil | apply RD.tail)) ?_)
        first | refine WO_step rfl (S_addN (a := 2) rfl rfl (by omega) ?_) | refine WO_step rfl (S_pure rfl ?_)
        refine WO_step rfl (S_pure rfl ?_)
        refine WO_nil ?_
        refine KSeq_n ?_
        refine WC_seq ?_
        refine WC_post (P := fun x l' H' => x = .normal ∧ l' = [(1, .pointer (some ⟨i1, 0, none⟩)), (4, w4.toV), (5, .int .i64 ((2 + xs.length + (if f = 0 then (0 : Nat) else 1) : Nat) : Int))] ∧ H' = SL w4.toV TS L' :: MO i1 24 n f s h :: H) ?_ ?_
        ·
          refine WC_seq ?_
          refine WC_region ?_
          refine WO_step rfl (S_pure rfl ?_)
          refine WO_step rfl (S_loadO rfl (by repeat (first | exact Pick.head | apply Pick.tail)) (by rfl) (by rfl) ?_)
          first | refine WO_step rfl (S_neS rfl rfl ?_) | refine WO_step rfl (S_pure rfl ?_)
          refine WO_nil ?_
          refine KSeq_n ?_
          refine WC_cond rfl (fun hb3 => ?_) (fun hb3 => ?_)
          ·
            try simp only [decide_eq_true_eq, decide_eq_false_iff_not, Bool.not_eq_true', Bool.not_eq_false', beq_iff_eq, bne_iff_ne, beq_eq_false_iff_ne, Int.ofNat_lt, Int.ofNat_le, Int.ofNat_inj, ne_eq, gt_iff_lt, ge_iff_le] at hb3
            refine WC_region ?_
            refine WO_step rfl (S_pure rfl ?_)
            first | refine WO_step rfl (S_addN (b := 1) rfl rfl (by omega) ?_) | refine WO_step rfl (S_pure rfl ?_)
            refine WO_step rfl (S_pure rfl ?_)
            refine WO_nil ?_
            rw [show (if f = 0 then (0 : Nat) else 1) = 1 from if_neg hb3]
            exact KPost_i (by repeat (first | exact SubE.nil | apply SubE.cons rfl)) (by repeat (first | exact HSub.refl | refine HSub.pick (by repeat (first | exact Pick.head | apply Pick.tail)) ?_ | apply HSub.drop)) ⟨rfl, rfl, rfl⟩
          ·
            try simp only [decide_eq_true_eq, decide_eq_false_iff_not, Bool.not_eq_true', Bool.not_eq_false', beq_iff_eq, bne_iff_ne, beq_eq_false_iff_ne, Int.ofNat_lt, Int.ofNat_le, Int.ofNat_inj, ne_eq, gt_iff_lt, ge_iff_le] at hb3
            refine WC_skip ?_
            rw [show (if f = 0 then (0 : Nat) else 1) = 0 from if_pos (by simpa using hb3)]
            exact KPost_i (by repeat (first | exact SubE.nil | apply SubE.cons rfl)) (by repeat (first | exact HSub.refl | refine HSub.pick (by repeat (first | exact Pick.head | apply Pick.tail)) ?_ | apply HSub.drop)) ⟨rfl, rfl, rfl⟩
        ·
          rintro x l' _ ⟨rfl, rfl, rfl⟩
          have hfl : (if f = 0 then (0 : Nat) else 1) ≤ 1 := by split <;> omega
          have hsl : (if s = 0 then (0 : Nat) else 1) ≤ 1 := by split <;> omega
          refine KSeq_n ?_
          refine WC_seq ?_
          refine WC_post (P := fun x l' H' => x = .normal ∧ l' = [(1, .pointer (some ⟨i1, 0, none⟩)), (4, w4.toV), (5, .int .i64 ((L'.length : Nat) : Int))] ∧ H' = SL w4.toV TS L' :: MO i1 24 n f s h :: H) ?_ ?_
          ·
            refine WC_seq ?_
            refine WC_region ?_
            refine WO_step rfl (S_pure rfl ?_)
            refine WO_step rfl (S_loadO rfl (by repeat (first | exact Pick.head | apply Pick.tail)) (by rfl) (by rfl) ?_)
            first | refine WO_step rfl (S_neS rfl rfl ?_) | refine WO_step rfl (S_pure rfl ?_)
            refine WO_nil ?_
            refine KSeq_n ?_
            refine WC_cond rfl (fun hb4 => ?_) (fun hb4 => ?_)
            ·
              try simp only [decide_eq_true_eq, decide_eq_false_iff_not, Bool.not_eq_true', Bool.not_eq_false', beq_iff_eq, bne_iff_ne, beq_eq_false_iff_ne, Int.ofNat_lt, Int.ofNat_le, Int.ofNat_inj, ne_eq, gt_iff_lt, ge_iff_le] at hb4
              refine WC_region ?_
              refine WO_step rfl (S_pure rfl ?_)
              first | refine WO_step rfl (S_addN (b := 1) rfl rfl (by omega) ?_) | refine WO_step rfl (S_pure rfl ?_)
              refine WO_step rfl (S_pure rfl ?_)
              refine WO_nil ?_
              rw [show L'.length = 2 + xs.length + (if f = 0 then (0 : Nat) else 1) + 1 by rw [hll, if_neg hb4]]
              exact KPost_i (by repeat (first | exact SubE.nil | apply SubE.cons rfl)) (by repeat (first | exact HSub.refl | refine HSub.pick (by repeat (first | exact Pick.head | apply Pick.tail)) ?_ | apply HSub.drop)) ⟨rfl, rfl, rfl⟩
            ·
              try simp only [decide_eq_true_eq, decide_eq_false_iff_not, Bool.not_eq_true', Bool.not_eq_false', beq_iff_eq, bne_iff_ne, beq_eq_false_iff_ne, Int.ofNat_lt, Int.ofNat_le, Int.ofNat_inj, ne_eq, gt_iff_lt, ge_iff_le] at hb4
              refine WC_skip ?_
              rw [show L'.length = 2 + xs.length + (if f = 0 then (0 : Nat) else 1) by rw [hll, show (if s = 0 then (0 : Nat) else 1) = 0 from if_pos (by simpa using hb4)]; rfl]
              exact KPost_i (by repeat (first | exact SubE.nil | apply SubE.cons rfl)) (by repeat (first | exact HSub.refl | refine HSub.pick (by repeat (first | exact Pick.head | apply Pick.tail)) ?_ | apply HSub.drop)) ⟨rfl, rfl, rfl⟩
          ·
            rintro x l' _ ⟨rfl, rfl, rfl⟩
            refine KSeq_n ?_
            refine WC_seq ?_
            refine WC_seq ?_
            refine WC_region ?_
            refine WO_step rfl (S_pure rfl ?_)
            refine WO_nil ?_
            refine KSeq_n ?_
            refine WC_block ?_
            --out x0
            refine WC_post (WC_weak (lp_Own (H := SL w4.toV TS L' :: MO i1 24 n f s h :: H) (w := w4) (L := L') (v1 := .pointer (some ⟨i1, 0, none⟩)) (v5 := .int .i64 ((L'.length : Nat) : Int)) .head hso hnd (by omega) (L'.length - 1) 1 rfl (by omega) (by omega)) (by repeat (first | exact SubE.nil | apply SubE.cons rfl)) (by repeat (first | exact HSub.refl | refine HSub.pick (by repeat (first | exact Pick.head | apply Pick.tail)) ?_ | apply HSub.drop))) ?_
            rintro x l' _ ⟨rfl, rfl, rfl⟩
            refine KBlock_h ?_
            refine KSeq_n ?_
            refine WC_seq ?_
            refine WC_region ?_
            refine WO_step rfl (S_pure rfl ?_)
            first | refine WO_step rfl (S_pure rfl ?_) | refine WO_step rfl (S_lenS rfl (by repeat (first | assumption | exact RD.head | exact RD.nil | apply RD.tail)) ?_)
            refine WO_step rfl (S_pure rfl ?_)
            first | refine WO_step rfl (S_eqS rfl rfl ?_) | refine WO_step rfl (S_pure rfl ?_)
            refine WO_step rfl (S_pure rfl ?_)
            refine WO_cases (t := 56) rfl (fun hg2 => ?_) (fun hg2 => ?_)
            ·
              try simp only [decide_eq_true_eq, decide_eq_false_iff_not, Bool.not_eq_true', Bool.not_eq_false', beq_iff_eq, bne_iff_ne, beq_eq_false_iff_ne, Int.ofNat_lt, Int.ofNat_le, Int.ofNat_inj, ne_eq, gt_iff_lt, ge_iff_le] at hg2
              refine WO_step rfl (S_loadO rfl (by repeat (first | exact Pick.head | apply Pick.tail)) (by rfl) (by rfl) ?_)
              refine WO_call rfl rfl rfl ?_
              refine sp_Of.mono ?_
              rintro _ _ ⟨rfl, rfl⟩
              refine WO_step rfl (S_pure rfl ?_)
              refine WO_call rfl rfl rfl ?_
              refine (sp_Orph (xs := xs) (fs := L') (by repeat (first | assumption | exact RD.head | exact RD.nil | apply RD.tail)) (by repeat (first | assumption | exact RD.head | exact RD.nil | apply RD.tail)) (by omega) kf ks kx (by omega)).mono ?_
              rintro _ _ ⟨w60, own, rfl, rfl, ho⟩
              rw [orph_nil ho hpe]
              first | refine WO_step rfl (S_pure rfl ?_) | refine WO_step rfl (S_lenS rfl (by repeat (first | assumption | exact RD.head | exact RD.nil | apply RD.tail)) ?_)
              first | refine WO_step rfl (S_eqS rfl rfl ?_) | refine WO_step rfl (S_pure rfl ?_)
              refine WO_step rfl (S_pure rfl ?_)
              refine WO_step rfl (S_pure rfl ?_)
              refine WO_cases (t := 64) rfl (fun hg3 => ?_) (fun hg3 => ?_)
              ·
                try simp only [decide_eq_true_eq, decide_eq_false_iff_not, Bool.not_eq_true', Bool.not_eq_false', beq_iff_eq, bne_iff_ne, beq_eq_false_iff_ne, Int.ofNat_lt, Int.ofNat_le, Int.ofNat_inj, ne_eq, gt_iff_lt, ge_iff_le] at hg3
                refine WO_step rfl (S_loadO rfl (by repeat (first | exact Pick.head | apply Pick.tail)) (by rfl) (by rfl) ?_)
                refine WO_call rfl rfl rfl ?_
                refine sp_Of.mono ?_
                rintro _ _ ⟨rfl, rfl⟩
                refine WO_call rfl rfl rfl ?_
                refine (sp_Orph (xs := xs) (fs := []) (by repeat (first | assumption | exact RD.head | exact RD.nil | apply RD.tail)) (by repeat (first | assumption | exact RD.head | exact RD.nil | apply RD.tail)) (by simp) kf ks kx (by omega)).mono ?_
                rintro _ _ ⟨w67, own2, rfl, rfl, ho2⟩
                first | refine WO_step rfl (S_pure rfl ?_) | refine WO_step rfl (S_lenS rfl (by repeat (first | assumption | exact RD.head | exact RD.nil | apply RD.tail)) ?_)
                first | refine WO_step rfl (S_eqS rfl rfl ?_) | refine WO_step rfl (S_pure rfl ?_)
                refine WO_step rfl (S_pure rfl ?_)
                refine WO_step rfl (S_pure rfl ?_)
                refine WO_nil ?_
                refine KSeq_n ?_
                refine WC_ret ?_
                refine KFn_r (ResL.tmp rfl ResL.nil) ?_
                exact ⟨_, HSub.refl, rfl⟩
              ·
                try simp only [decide_eq_true_eq, decide_eq_false_iff_not, Bool.not_eq_true', Bool.not_eq_false', beq_iff_eq, bne_iff_ne, beq_eq_false_iff_ne, Int.ofNat_lt, Int.ofNat_le, Int.ofNat_inj, ne_eq, gt_iff_lt, ge_iff_le] at hg3
                refine WO_off rfl ?_
                refine WO_off rfl ?_
                refine WO_off rfl ?_
                refine WO_off rfl ?_
                refine WO_off rfl ?_
                refine WO_step rfl (S_pure rfl ?_)
                refine WO_step rfl (S_pure rfl ?_)
                refine WO_nil ?_
                refine KSeq_n ?_
                refine WC_ret ?_
                refine KFn_r (ResL.tmp rfl ResL.nil) ?_
                exact absurd rfl hg3
            ·
              try simp only [decide_eq_true_eq, decide_eq_false_iff_not, Bool.not_eq_true', Bool.not_eq_false', beq_iff_eq, bne_iff_ne, beq_eq_false_iff_ne, Int.ofNat_lt, Int.ofNat_le, Int.ofNat_inj, ne_eq, gt_iff_lt, ge_iff_le] at hg2
              refine WO_off rfl ?_
              refine WO_off rfl ?_
              refine WO_off rfl ?_
              refine WO_off rfl ?_
              refine WO_off rfl ?_
              refine WO_off rfl ?_
              refine WO_step rfl (S_pure rfl ?_)
              refine WO_step rfl (S_pure rfl ?_)
              refine WO_off rfl ?_
              refine WO_off rfl ?_
              refine WO_off rfl ?_
              refine WO_off rfl ?_
              refine WO_off rfl ?_
              refine WO_step rfl (S_pure rfl ?_)
              refine WO_step rfl (S_pure rfl ?_)
              refine WO_nil ?_
              refine KSeq_n ?_
              refine WC_ret ?_
              refine KFn_r (ResL.tmp rfl ResL.nil) ?_
              exact absurd trivial hg2
/-! ### What comes in -/
theorem FI64 : Flat Tryd.prog 2 TI64 (fun a => (Lit.int .i64 a).wf = true) := by
  refine ⟨by kernel_rfl, by decide, ?_, fun _ => rfl⟩
  intro H enc W base spare held fuel cs x h
  obtain ⟨n, hn, hw⟩ := trod_int' Tryd.underlying2 h
  exact ⟨n, hn, hw⟩
theorem open_mf {W : World} {b : Bt} {h : AH} {H : SH} {H' : Type} {enc : TypeId × Value → H'} {base : Nat} {v : Value} {d : DataW H'} {p : List MemPlace} (S : St W b h H) (hv : Value.okWide Tryd.prog W .any base 24 v)
    (hd : DataW.Trod enc Tryd.prog W 0 (fun _ => true) true 24 v d p) : ∃ (n f s : Int) (u : Value) (sv : SV) (xs : List Int) (c : Bt) (h' : AH) (L : SH), v = .agg #[.int .i64 n, .int .i64 f, .int .i64 s, u] ∧ (∀ x ∈ xs, (Lit.int .i64 x).wf = true) ∧
      St W (b ++ c) h' (L ++ H) ∧ VR (b ++ c) W.shape? (mfV n f s sv) (.agg #[.int .i64 n, .int .i64 f, .int .i64 s, u]) ∧ RD (L ++ H) sv.toV TI64 xs := by
  unfold Value.okWide at hv
  rw [Tryd.underlying24] at hv
  obtain ⟨cs, rfl, _⟩ := hv
  obtain ⟨fuel, hf⟩ := hd
  obtain ⟨hl, n, hf⟩ := trod_struct' Tryd.underlying24 hf
  rw [show Tryd.prog.cellsOf 24 = 4 by kernel_rfl] at hl
  obtain ⟨y1, h1⟩ := hf { name := "Next", type := 2, offset := 0, embedded := false, tag := "", pkgPath := "", byteOffset := 0 } (by simp)
  obtain ⟨y2, h2⟩ := hf { name := "Frozen", type := 2, offset := 1, embedded := false, tag := "", pkgPath := "", byteOffset := 8 } (by simp)
  obtain ⟨y3, h3⟩ := hf { name := "Sorted", type := 2, offset := 2, embedded := false, tag := "", pkgPath := "", byteOffset := 16 } (by simp)
  obtain ⟨y4, h4⟩ := hf { name := "Hash", type := 22, offset := 3, embedded := false, tag := "", pkgPath := "", byteOffset := 24 } (by simp)
  simp only [show Tryd.prog.cellsOf 2 = 1 by kernel_rfl, show Tryd.prog.cellsOf 22 = 1 by kernel_rfl] at h1 h2 h3 h4
  obtain ⟨a1, e1, w1⟩ := trod_int' Tryd.underlying2 h1
  obtain ⟨a2, e2, w2⟩ := trod_int' Tryd.underlying2 h2
  obtain ⟨a3, e3, w3⟩ := trod_int' Tryd.underlying2 h3
  obtain ⟨u, sv, xs, c, h', L, e4, hok, S', hvr, hrd⟩ := S.slice FI64 Tryd.underlying22 h4
  obtain ⟨l⟩ := cs
  match l, hl with
  | [c1, c2, c3, c4], _ =>
    simp [Value.cells] at e1 e2 e3 e4
    subst e1 e2 e3 e4
    exact ⟨a1, a2, a3, _, sv, xs, c, h', L, rfl, hok, S', VR.of_lr_agg (LR.cons (.scal rfl) (LR.cons (.scal rfl) (LR.cons (.scal rfl) (LR.cons hvr LR.nil)))), hrd⟩

end Go.Proofs.YtmibhdoegcgfmaaDoor.AM
