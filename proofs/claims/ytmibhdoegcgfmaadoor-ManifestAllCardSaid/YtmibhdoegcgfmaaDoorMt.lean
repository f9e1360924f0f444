/- Walks: what the functions compute. -/
import Derived.Test.YtmibhdoegcgfmaaDoorMs
namespace Go.Proofs.YtmibhdoegcgfmaaDoor.AM
open Go
set_option linter.unusedSimpArgs false
set_option linter.unusedVariables false
set_option maxRecDepth 4000

/-! ### Manifests that are the same -/
theorem lp_eqM {H : SH} {i2 i3 : Nat} {n f s n2 f2 s2 : Int} {h h2 : SV} {xs ys : List Int} {t : TypeId} (hv : RD H h.toV TI64 xs) (hv2 : RD H h2.toV TI64 ys) (hl : xs.length = ys.length) (hL : xs.length ≤ 100000) : ∀ (m i : Nat), xs.length - i = m → i ≤ xs.length → xs.take i = ys.take i →
    WC F X (.loop L_loesslaw24_eq_0) [(5, .int .i64 (i : Int)), (2, .pointer (some ⟨i2, 0, none⟩)), (3, .pointer (some ⟨i3, 0, none⟩))] (MO i3 24 n2 f2 s2 h2 :: MO i2 24 n f s h :: H)
      (KPost fun y l' H' => H' = H ∧ ((y = .exit 0 ∧ l' = [] ∧ xs = ys) ∨ (y = .ret ∧ l' = [(4, .bool false)] ∧ xs ≠ ys))) := by
  intro m
  induction m using Nat.strongRecOn with
  | _ m ih =>
    intro i hm hi ht
    refine WC_loop ?_
    refine WC_seq ?_
    refine WC_seq ?_
    refine WC_region ?_
    refine WO_step rfl (S_pure rfl ?_)
    refine WO_step rfl (S_pure rfl ?_)
    refine WO_step rfl (S_loadO rfl (by repeat (first | exact Pick.head | apply Pick.tail)) (by rfl) (by rfl) ?_)
    first | refine WO_step rfl (S_pure rfl ?_) | refine WO_step rfl (S_lenS rfl (by repeat (first | assumption | exact RD.head | exact RD.nil | apply RD.tail)) ?_)
    refine WO_step rfl (S_pure rfl ?_)
    refine WO_nil ?_
    refine KSeq_n ?_
    refine WC_cond rfl (fun hb1 => ?_) (fun hb1 => ?_)
    ·
      try simp only [decide_eq_true_eq, decide_eq_false_iff_not, Bool.not_eq_true', Bool.not_eq_false', beq_iff_eq, bne_iff_ne, beq_eq_false_iff_ne, Int.ofNat_lt, Int.ofNat_le, Int.ofNat_inj, ne_eq, gt_iff_lt, ge_iff_le] at hb1
      obtain ⟨x, hx⟩ := get_of_lt hb1
      obtain ⟨y, hy⟩ := get_of_lt (l := ys) (a := i) (by omega)
      refine WC_skip ?_
      refine KSeq_n ?_
      refine WC_seq ?_
      refine WC_block ?_
      refine WC_seq ?_
      refine WC_region ?_
      refine WO_step rfl (S_pure rfl ?_)
      refine WO_step rfl (S_loadO rfl (by repeat (first | exact Pick.head | apply Pick.tail)) (by rfl) (by rfl) ?_)
      refine WO_step rfl (S_pure rfl ?_)
      refine WO_step rfl (S_idx rfl rfl (by repeat (first | assumption | exact RD.head | exact RD.nil | apply RD.tail)) (by first | rfl | assumption | (symm; assumption)) (by rfl) (by first | assumption | omega | exact lt_of_get (by assumption) | (simp only [List.length_set]; first | assumption | omega | exact lt_of_get (by assumption))) fun hp44 => ?_)
      refine WO_step rfl (S_loadE rfl (by repeat (first | assumption | exact RD.head | exact RD.nil | apply RD.tail)) (by first | rfl | assumption | (symm; assumption)) (by first | rfl | assumption | (symm; assumption)) (by first | rfl | assumption | (symm; assumption)) (by assumption) ?_)
      refine WO_step rfl (S_pure rfl ?_)
      refine WO_step rfl (S_loadO rfl (by repeat (first | exact Pick.head | apply Pick.tail)) (by rfl) (by rfl) ?_)
      refine WO_step rfl (S_pure rfl ?_)
      refine WO_step rfl (S_idx rfl rfl (by repeat (first | assumption | exact RD.head | exact RD.nil | apply RD.tail)) (by first | rfl | assumption | (symm; assumption)) (by rfl) (by first | assumption | omega | exact lt_of_get (by assumption) | (simp only [List.length_set]; first | assumption | omega | exact lt_of_get (by assumption))) fun hp49 => ?_)
      refine WO_step rfl (S_loadE rfl (by repeat (first | assumption | exact RD.head | exact RD.nil | apply RD.tail)) (by first | rfl | assumption | (symm; assumption)) (by first | rfl | assumption | (symm; assumption)) (by first | rfl | assumption | (symm; assumption)) (by assumption) ?_)
      first | refine WO_step rfl (S_neS rfl rfl ?_) | refine WO_step rfl (S_pure rfl ?_)
      refine WO_nil ?_
      refine KSeq_n ?_
      refine WC_cond rfl (fun hb2 => ?_) (fun hb2 => ?_)
      ·
        try simp only [decide_eq_true_eq, decide_eq_false_iff_not, Bool.not_eq_true', Bool.not_eq_false', beq_iff_eq, bne_iff_ne, beq_eq_false_iff_ne, Int.ofNat_lt, Int.ofNat_le, Int.ofNat_inj, ne_eq, gt_iff_lt, ge_iff_le] at hb2
        refine WC_seq ?_
        refine WC_region ?_
        refine WO_step rfl (S_pure rfl ?_)
        refine WO_nil ?_
        refine KSeq_n ?_
        refine WC_ret ?_
        refine KBlock_r ?_
        refine KSeq_r ?_
        refine KLoop_r ?_
        exact KPost_i (l' := [(4, .bool false)]) (by repeat (first | exact SubE.nil | apply SubE.cons rfl)) (by repeat (first | exact HSub.refl | refine HSub.pick (by repeat (first | exact Pick.head | apply Pick.tail)) ?_ | apply HSub.drop)) ⟨rfl, .inr ⟨rfl, rfl, fun e => by rw [e, hy] at hx; cases hx; exact hb2 rfl⟩⟩
      ·
        try simp only [decide_eq_true_eq, decide_eq_false_iff_not, Bool.not_eq_true', Bool.not_eq_false', beq_iff_eq, bne_iff_ne, beq_eq_false_iff_ne, Int.ofNat_lt, Int.ofNat_le, Int.ofNat_inj, ne_eq, gt_iff_lt, ge_iff_le] at hb2
        refine WC_skip ?_
        refine KBlock_n ?_
        refine KSeq_n ?_
        refine WC_region ?_
        refine WO_step rfl (S_pure rfl ?_)
        first | refine WO_step rfl (S_addN (b := 1) rfl rfl (by omega) ?_) | refine WO_step rfl (S_pure rfl ?_)
        refine WO_step rfl (S_pure rfl ?_)
        refine WO_nil ?_
        refine KLoop_n ?_
        refine WC_weak (ih (xs.length - (i + 1)) (by omega) (i + 1) rfl (by omega) ?_) (by repeat (first | exact SubE.nil | apply SubE.cons rfl)) (by repeat (first | exact HSub.refl | refine HSub.pick (by repeat (first | exact Pick.head | apply Pick.tail)) ?_ | apply HSub.drop))
        have e : x = y := by simpa using hb2
        rw [List.take_add_one, List.take_add_one, hx, hy, ht, e]
    ·
      try simp only [decide_eq_true_eq, decide_eq_false_iff_not, Bool.not_eq_true', Bool.not_eq_false', beq_iff_eq, bne_iff_ne, beq_eq_false_iff_ne, Int.ofNat_lt, Int.ofNat_le, Int.ofNat_inj, ne_eq, gt_iff_lt, ge_iff_le] at hb1
      refine WC_exit ?_
      refine KSeq_x ?_
      refine KLoop_x ?_
      have ei : i = xs.length := by omega
      subst ei
      exact KPost_i (l' := []) SubE.nil (by repeat (first | exact HSub.refl | refine HSub.pick (by repeat (first | exact Pick.head | apply Pick.tail)) ?_ | apply HSub.drop)) ⟨rfl, .inl ⟨rfl, rfl, by rw [List.take_length, hl, List.take_length] at ht; exact ht⟩⟩
theorem sp_eqM {H : SH} {n f s n2 f2 s2 : Int} {h h2 : SV} {xs ys : List Int} (hv : RD H h.toV TI64 xs) (hv2 : RD H h2.toV TI64 ys) (hL : xs.length ≤ 100000) : WF F X f_loesslaw24_eq [mfV n f s h, mfV n2 f2 s2 h2] H (fun r H' => H' = H ∧ ∃ b : Bool, r = .bool b ∧ (b = true ↔ n = n2 ∧ f = f2 ∧ s = s2 ∧ xs = ys)) := by
  refine WF_fn F_loesslaw24_eq ?_
  refine WC_seq ?_
  refine WC_region ?_
  refine WO_step rfl (S_box rfl (by cases h <;> rfl) fun i2 => ?_)
  refine WO_step rfl (S_box rfl (by cases h2 <;> rfl) fun i3 => ?_)
  refine WO_step rfl (S_pure rfl ?_)
  refine WO_nil ?_
  refine KSeq_n ?_
  refine WC_seq ?_
  refine WC_seq ?_
  refine WC_region ?_
  refine WO_step rfl (S_pure rfl ?_)
  refine WO_step rfl (S_loadO rfl (by repeat (first | exact Pick.head | apply Pick.tail)) (by rfl) (by rfl) ?_)
  refine WO_step rfl (S_pure rfl ?_)
  refine WO_step rfl (S_loadO rfl (by repeat (first | exact Pick.head | apply Pick.tail)) (by rfl) (by rfl) ?_)
  first | refine WO_step rfl (S_neS rfl rfl ?_) | refine WO_step rfl (S_pure rfl ?_)
  refine WO_step rfl (S_pure rfl ?_)
  refine WO_cases (t := 11) rfl (fun hg1 => ?_) (fun hg1 => ?_)
  ·
    try simp only [decide_eq_true_eq, decide_eq_false_iff_not, Bool.not_eq_true', Bool.not_eq_false', beq_iff_eq, bne_iff_ne, beq_eq_false_iff_ne, Int.ofNat_lt, Int.ofNat_le, Int.ofNat_inj, ne_eq, gt_iff_lt, ge_iff_le] at hg1
    refine WO_off rfl ?_
    refine WO_off rfl ?_
    refine WO_off rfl ?_
    refine WO_off rfl ?_
    refine WO_off rfl ?_
    refine WO_step rfl (S_pure rfl ?_)
    refine WO_step rfl (S_pure rfl ?_)
    refine WO_off rfl ?_
    refine WO_off rfl ?_
    refine WO_off rfl ?_
    refine WO_off rfl ?_
    refine WO_off rfl ?_
    refine WO_step rfl (S_pure rfl ?_)
    refine WO_step rfl (S_pure rfl ?_)
    refine WO_off rfl ?_
    refine WO_off rfl ?_
    refine WO_off rfl ?_
    refine WO_off rfl ?_
    refine WO_off rfl ?_
    refine WO_off rfl ?_
    refine WO_off rfl ?_
    refine WO_step rfl (S_pure rfl ?_)
    refine WO_nil ?_
    refine KSeq_n ?_
    refine WC_cond rfl (fun _ => ?_) (fun h => ?_)
    rotate_left
    · exact absurd h (by decide)
    refine WC_seq ?_
    refine WC_region ?_
    refine WO_step rfl (S_pure rfl ?_)
    refine WO_nil ?_
    refine KSeq_n ?_
    refine WC_ret ?_
    refine KSeq_r ?_
    refine KFn_r (ResL.tmp rfl ResL.nil) ?_
    exact ⟨_, (by repeat (first | exact HSub.refl | refine HSub.pick (by repeat (first | exact Pick.head | apply Pick.tail)) ?_ | apply HSub.drop)), rfl, false, rfl, ⟨fun e => (by cases e), fun e => absurd e.1 (by simpa using hg1)⟩⟩
  ·
    try simp only [decide_eq_true_eq, decide_eq_false_iff_not, Bool.not_eq_true', Bool.not_eq_false', beq_iff_eq, bne_iff_ne, beq_eq_false_iff_ne, Int.ofNat_lt, Int.ofNat_le, Int.ofNat_inj, ne_eq, gt_iff_lt, ge_iff_le] at hg1
    refine WO_step rfl (S_pure rfl ?_)
    refine WO_step rfl (S_loadO rfl (by repeat (first | exact Pick.head | apply Pick.tail)) (by rfl) (by rfl) ?_)
    refine WO_step rfl (S_pure rfl ?_)
    refine WO_step rfl (S_loadO rfl (by repeat (first | exact Pick.head | apply Pick.tail)) (by rfl) (by rfl) ?_)
    first | refine WO_step rfl (S_neS rfl rfl ?_) | refine WO_step rfl (S_pure rfl ?_)
    refine WO_step rfl (S_pure rfl ?_)
    refine WO_step rfl (S_pure rfl ?_)
    refine WO_cases (t := 18) rfl (fun hg2 => ?_) (fun hg2 => ?_)
    ·
      try simp only [decide_eq_true_eq, decide_eq_false_iff_not, Bool.not_eq_true', Bool.not_eq_false', beq_iff_eq, bne_iff_ne, beq_eq_false_iff_ne, Int.ofNat_lt, Int.ofNat_le, Int.ofNat_inj, ne_eq, gt_iff_lt, ge_iff_le] at hg2
      refine WO_off rfl ?_
      refine WO_off rfl ?_
      refine WO_off rfl ?_
      refine WO_off rfl ?_
      refine WO_off rfl ?_
      refine WO_step rfl (S_pure rfl ?_)
      refine WO_step rfl (S_pure rfl ?_)
      refine WO_off rfl ?_
      refine WO_off rfl ?_
      refine WO_off rfl ?_
      refine WO_off rfl ?_
      refine WO_off rfl ?_
      refine WO_off rfl ?_
      refine WO_off rfl ?_
      refine WO_step rfl (S_pure rfl ?_)
      refine WO_nil ?_
      refine KSeq_n ?_
      refine WC_cond rfl (fun _ => ?_) (fun h => ?_)
      rotate_left
      · exact absurd h (by decide)
      refine WC_seq ?_
      refine WC_region ?_
      refine WO_step rfl (S_pure rfl ?_)
      refine WO_nil ?_
      refine KSeq_n ?_
      refine WC_ret ?_
      refine KSeq_r ?_
      refine KFn_r (ResL.tmp rfl ResL.nil) ?_
      exact ⟨_, (by repeat (first | exact HSub.refl | refine HSub.pick (by repeat (first | exact Pick.head | apply Pick.tail)) ?_ | apply HSub.drop)), rfl, false, rfl, ⟨fun e => (by cases e), fun e => absurd e.2.1 (by simpa using hg2)⟩⟩
    ·
      try simp only [decide_eq_true_eq, decide_eq_false_iff_not, Bool.not_eq_true', Bool.not_eq_false', beq_iff_eq, bne_iff_ne, beq_eq_false_iff_ne, Int.ofNat_lt, Int.ofNat_le, Int.ofNat_inj, ne_eq, gt_iff_lt, ge_iff_le] at hg2
      refine WO_step rfl (S_pure rfl ?_)
      refine WO_step rfl (S_loadO rfl (by repeat (first | exact Pick.head | apply Pick.tail)) (by rfl) (by rfl) ?_)
      refine WO_step rfl (S_pure rfl ?_)
      refine WO_step rfl (S_loadO rfl (by repeat (first | exact Pick.head | apply Pick.tail)) (by rfl) (by rfl) ?_)
      first | refine WO_step rfl (S_neS rfl rfl ?_) | refine WO_step rfl (S_pure rfl ?_)
      refine WO_step rfl (S_pure rfl ?_)
      refine WO_step rfl (S_pure rfl ?_)
      refine WO_cases (t := 25) rfl (fun hg3 => ?_) (fun hg3 => ?_)
      ·
        try simp only [decide_eq_true_eq, decide_eq_false_iff_not, Bool.not_eq_true', Bool.not_eq_false', beq_iff_eq, bne_iff_ne, beq_eq_false_iff_ne, Int.ofNat_lt, Int.ofNat_le, Int.ofNat_inj, ne_eq, gt_iff_lt, ge_iff_le] at hg3
        refine WO_off rfl ?_
        refine WO_off rfl ?_
        refine WO_off rfl ?_
        refine WO_off rfl ?_
        refine WO_off rfl ?_
        refine WO_off rfl ?_
        refine WO_off rfl ?_
        refine WO_step rfl (S_pure rfl ?_)
        refine WO_nil ?_
        refine KSeq_n ?_
        refine WC_cond rfl (fun _ => ?_) (fun h => ?_)
        rotate_left
        · exact absurd h (by decide)
        refine WC_seq ?_
        refine WC_region ?_
        refine WO_step rfl (S_pure rfl ?_)
        refine WO_nil ?_
        refine KSeq_n ?_
        refine WC_ret ?_
        refine KSeq_r ?_
        refine KFn_r (ResL.tmp rfl ResL.nil) ?_
        exact ⟨_, (by repeat (first | exact HSub.refl | refine HSub.pick (by repeat (first | exact Pick.head | apply Pick.tail)) ?_ | apply HSub.drop)), rfl, false, rfl, ⟨fun e => (by cases e), fun e => absurd e.2.2.1 (by simpa using hg3)⟩⟩
      ·
        try simp only [decide_eq_true_eq, decide_eq_false_iff_not, Bool.not_eq_true', Bool.not_eq_false', beq_iff_eq, bne_iff_ne, beq_eq_false_iff_ne, Int.ofNat_lt, Int.ofNat_le, Int.ofNat_inj, ne_eq, gt_iff_lt, ge_iff_le] at hg3
        refine WO_step rfl (S_pure rfl ?_)
        refine WO_step rfl (S_loadO rfl (by repeat (first | exact Pick.head | apply Pick.tail)) (by rfl) (by rfl) ?_)
        first | refine WO_step rfl (S_pure rfl ?_) | refine WO_step rfl (S_lenS rfl (by repeat (first | assumption | exact RD.head | exact RD.nil | apply RD.tail)) ?_)
        refine WO_step rfl (S_pure rfl ?_)
        refine WO_step rfl (S_loadO rfl (by repeat (first | exact Pick.head | apply Pick.tail)) (by rfl) (by rfl) ?_)
        first | refine WO_step rfl (S_pure rfl ?_) | refine WO_step rfl (S_lenS rfl (by repeat (first | assumption | exact RD.head | exact RD.nil | apply RD.tail)) ?_)
        first | refine WO_step rfl (S_neS rfl rfl ?_) | refine WO_step rfl (S_pure rfl ?_)
        refine WO_step rfl (S_pure rfl ?_)
        refine WO_nil ?_
        refine KSeq_n ?_
        refine WC_cond rfl (fun hb1 => ?_) (fun hb1 => ?_)
        ·
          try simp only [decide_eq_true_eq, decide_eq_false_iff_not, Bool.not_eq_true', Bool.not_eq_false', beq_iff_eq, bne_iff_ne, beq_eq_false_iff_ne, Int.ofNat_lt, Int.ofNat_le, Int.ofNat_inj, ne_eq, gt_iff_lt, ge_iff_le] at hb1
          refine WC_seq ?_
          refine WC_region ?_
          refine WO_step rfl (S_pure rfl ?_)
          refine WO_nil ?_
          refine KSeq_n ?_
          refine WC_ret ?_
          refine KSeq_r ?_
          refine KFn_r (ResL.tmp rfl ResL.nil) ?_
          exact ⟨_, (by repeat (first | exact HSub.refl | refine HSub.pick (by repeat (first | exact Pick.head | apply Pick.tail)) ?_ | apply HSub.drop)), rfl, false, rfl, ⟨fun e => (by cases e), fun e => by have := e.2.2.2; subst this; exact absurd hb1 (by simp)⟩⟩
        ·
          try simp only [decide_eq_true_eq, decide_eq_false_iff_not, Bool.not_eq_true', Bool.not_eq_false', beq_iff_eq, bne_iff_ne, beq_eq_false_iff_ne, Int.ofNat_lt, Int.ofNat_le, Int.ofNat_inj, ne_eq, gt_iff_lt, ge_iff_le] at hb1
          have e1 : n = n2 := by simpa using hg1
          have e2 : f = f2 := by simpa using hg2
          have e3 : s = s2 := by simpa using hg3
          have e4 : xs.length = ys.length := by have := hb1; simp at this; omega
          refine WC_skip ?_
          refine KSeq_n ?_
          refine WC_seq ?_
          refine WC_seq ?_
          refine WC_region ?_
          refine WO_step rfl (S_pure rfl ?_)
          refine WO_nil ?_
          refine KSeq_n ?_
          refine WC_block ?_
          --out r x0
          refine WC_post (WC_weak (lp_eqM (H := H) (i2 := i2) (i3 := i3) (n := n) (f := f) (s := s) (n2 := n2) (f2 := f2) (s2 := s2) (t := 0) hv hv2 e4 hL xs.length 0 (by omega) (by omega) (by simp)) (by repeat (first | exact SubE.nil | apply SubE.cons rfl)) (by repeat (first | exact HSub.refl | refine HSub.pick (by repeat (first | exact Pick.head | apply Pick.tail)) ?_ | apply HSub.drop))) ?_
          rintro x l' _ ⟨rfl, ⟨rfl, rfl, ho⟩ | ⟨rfl, rfl, ho⟩⟩
          rotate_left
          ·
            refine KBlock_r ?_
            refine KSeq_r ?_
            refine KFn_r (ResL.tmp rfl ResL.nil) ?_
            exact ⟨_, (by repeat (first | exact HSub.refl | refine HSub.pick (by repeat (first | exact Pick.head | apply Pick.tail)) ?_ | apply HSub.drop)), rfl, false, rfl, ⟨fun e => (by cases e), fun e => absurd e.2.2.2 ho⟩⟩
          ·
            refine KBlock_h ?_
            refine KSeq_n ?_
            refine WC_seq ?_
            refine WC_region ?_
            refine WO_step rfl (S_pure rfl ?_)
            refine WO_nil ?_
            refine KSeq_n ?_
            refine WC_ret ?_
            refine KFn_r (ResL.tmp rfl ResL.nil) ?_
            exact ⟨_, (by repeat (first | exact HSub.refl | refine HSub.pick (by repeat (first | exact Pick.head | apply Pick.tail)) ?_ | apply HSub.drop)), rfl, true, rfl, ⟨fun _ => ⟨e1, e2, e3, ho⟩, fun _ => rfl⟩⟩
end Go.Proofs.YtmibhdoegcgfmaaDoor.AM
