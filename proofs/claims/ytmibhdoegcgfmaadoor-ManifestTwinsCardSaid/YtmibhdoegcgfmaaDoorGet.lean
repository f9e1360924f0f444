/- Walks: what the functions compute. -/
import Derived.Test.YtmibhdoegcgfmaaDoorNum
namespace Go.Proofs.YtmibhdoegcgfmaaDoor.AM
open Go
set_option linter.unusedSimpArgs false
set_option linter.unusedVariables false
set_option maxRecDepth 4000

/-! ### Numbers from bytes -/
theorem and127 : ∀ b : Fin 256, (BitVec.ofInt 8 ((b.val : Nat) : Int) &&& BitVec.ofInt 8 127).toNat = b.val % 128 := by decide
theorem S_and127 {l : SE} {H : SH} {K : Value → SH → Prop} {x : Opd} {a : Nat} (hx : x.lv l = some (.int .u8 (a : Int))) (ha : a < 256) (k : K (.int .u8 ((a % 128 : Nat) : Int)) H) : Step (.bin .and x (.const (.int .u8 127))) l H K :=
  S_pureE (v := .int .u8 (IntKind.wrap .u8 ((BitVec.ofInt 8 (a : Int) &&& BitVec.ofInt 8 127).toNat : Int))) (by
    have h2 : (Opd.const (.int .u8 127)).lv l = some (.int .u8 127) := rfl
    simp only [pev, hx, h2, binV, intBin, if_true]; rfl) (by
    rw [and127 ⟨a, ha⟩, wrap_u8 (by omega) (by simp only []; omega)]) k
def getR : List UInt8 → Nat → Nat → Int × Nat × Nat
  | [], _, _ => (0, 0, 2)
  | c :: L, i, u => if i = 9 ∧ 1 < c.toNat ∨ 0 < i ∧ c.toNat = 0 then (0, 0, 1) else if c.toNat < 128 then (unzz (u + c.toNat % 128 * 2 ^ (7 * i)), i + 1, 0) else getR L (i + 1) (u + c.toNat % 128 * 2 ^ (7 * i))
def get (bs : List UInt8) : Int × Nat × Nat := getR bs 0 0
def getV (p : Int × Nat × Nat) : Value := .tuple #[.int .i64 p.1, .int .i64 p.2.1, .int .i64 p.2.2]
theorem getV_mk (n : Int) (k e : Nat) : getV (n, k, e) = .tuple #[.int .i64 n, .int .i64 k, .int .i64 e] := rfl
theorem pow_top {i c : Nat} (hi : i ≤ 9) (hc : c < 128) (h9 : i = 9 → c ≤ 1) : c * 2 ^ (7 * i) + 2 ^ (7 * i) ≤ 18446744073709551616 := by
  have : i = 0 ∨ i = 1 ∨ i = 2 ∨ i = 3 ∨ i = 4 ∨ i = 5 ∨ i = 6 ∨ i = 7 ∨ i = 8 ∨ i = 9 := by omega
  rcases this with rfl | rfl | rfl | rfl | rfl | rfl | rfl | rfl | rfl | rfl <;> simp at h9 ⊢ <;> omega
theorem pow_next {i c : Nat} (hc : c < 128) : c * 2 ^ (7 * i) + 2 ^ (7 * i) ≤ 2 ^ (7 * (i + 1)) := by
  have h := Nat.mul_le_mul_right (2 ^ (7 * i)) (show c + 1 ≤ 128 by omega)
  rw [Nat.succ_mul] at h
  rw [show 7 * (i + 1) = 7 + 7 * i by omega, Nat.pow_add]
  exact h
theorem getR_le : ∀ (L : List UInt8) (i u : Nat), (getR L i u).2.1 ≤ i + L.length
  | [], i, u => by simp [getR]
  | c :: L, i, u => by
    unfold getR
    split
    · simp
    · split
      · simp
      · have := getR_le L (i + 1) (u + c.toNat % 128 * 2 ^ (7 * i)); simp only [List.length_cons]; omega
theorem get_le (bs : List UInt8) : (get bs).2.1 ≤ bs.length := by have := getR_le bs 0 0; unfold get; omega
theorem lp_nGet {H : SH} {v : Value} {bs : List UInt8} (hv : RD H v TByte bs) (hl : bs.length ≤ 1000000) : ∀ (n i u : Nat), bs.length - i = n → i ≤ bs.length → i ≤ 9 → u < 2 ^ (7 * i) → getR (bs.drop i) i u = get bs →
    WC F X (.loop L_num_Get_0) [(11, .int .i64 i), (10, .int .i64 bs.length), (9, v), (5, .int .u64 u)] H
      (KPost fun x l' H' => H' = H ∧ ((x = .ret ∧ l' = [(2, .int .i64 (get bs).1), (3, .int .i64 (get bs).2.1), (4, .int .i64 (get bs).2.2)]) ∨ (x = .exit 0 ∧ l' = [] ∧ get bs = (0, 0, 2)))) := by
  intro n
  induction n using Nat.strongRecOn with
  | _ n ih =>
    intro i u hn hi h9 hu ha
    refine WC_loop ?_
    refine WC_seq ?_
    refine WC_region ?_
    refine WO_step rfl (S_pure rfl ?_)
    refine WO_nil ?_
    refine KSeq_n ?_
    refine WC_seq ?_
    refine WC_cond rfl (fun hb1 => ?_) (fun hb1 => ?_)
    ·
      try simp only [decide_eq_true_eq, decide_eq_false_iff_not, Bool.not_eq_true', Bool.not_eq_false', beq_iff_eq, bne_iff_ne, beq_eq_false_iff_ne, Int.ofNat_lt, Int.ofNat_le, Int.ofNat_inj, ne_eq, gt_iff_lt, ge_iff_le] at hb1
      obtain ⟨b, hx⟩ := get_of_lt hb1
      have hb256 := UInt8.toNat_lt b
      have hnx := pow_next (i := i) (c := b.toNat % 128) (by omega)
      have htp := pow_top (i := i) (c := b.toNat % 128) h9 (by omega)
      obtain ⟨U, hU⟩ : ∃ U, U = u + b.toNat % 128 * 2 ^ (7 * i) := ⟨_, rfl⟩
      rw [drop_get hx] at ha
      simp only [getR, ← hU] at ha
      refine WC_skip ?_
      refine KSeq_n ?_
      refine WC_seq ?_
      refine WC_block ?_
      refine WC_seq ?_
      refine WC_region ?_
      refine WO_step rfl (S_pure rfl ?_)
      refine WO_step rfl (S_idx rfl rfl (by repeat (first | assumption | exact RD.head | exact RD.nil | apply RD.tail)) (by first | rfl | assumption | (symm; assumption)) (by rfl) (by first | assumption | omega | exact lt_of_get (by assumption) | (simp only [List.length_set]; first | assumption | omega | exact lt_of_get (by assumption))) fun hp14 => ?_)
      refine WO_step rfl (S_loadE rfl (by repeat (first | assumption | exact RD.head | exact RD.nil | apply RD.tail)) (by first | rfl | assumption | (symm; assumption)) (by first | rfl | assumption | (symm; assumption)) (by first | rfl | assumption | (symm; assumption)) (by assumption) ?_)
      refine WO_step rfl (S_pure rfl ?_)
      refine WO_step rfl (S_pure rfl ?_)
      refine WO_nil ?_
      refine KSeq_n ?_
      refine WC_seq ?_
      refine WC_seq ?_
      refine WC_region ?_
      refine WO_step rfl (S_pure rfl ?_)
      first | refine WO_step rfl (S_eqS rfl rfl ?_) | refine WO_step rfl (S_pure rfl ?_)
      refine WO_step rfl (S_pure rfl ?_)
      refine WO_cases (t := 18) rfl (fun hg1 => ?_) (fun hg1 => ?_)
      ·
        try simp only [decide_eq_true_eq, decide_eq_false_iff_not, Bool.not_eq_true', Bool.not_eq_false', beq_iff_eq, bne_iff_ne, beq_eq_false_iff_ne, Int.ofNat_lt, Int.ofNat_le, Int.ofNat_inj, ne_eq, gt_iff_lt, ge_iff_le] at hg1
        refine WO_step rfl (S_pure rfl ?_)
        refine WO_step rfl (S_pure rfl ?_)
        refine WO_step rfl (S_pure rfl ?_)
        refine WO_nil ?_
        refine KSeq_n ?_
        refine WC_cond rfl (fun hb2 => ?_) (fun hb2 => ?_)
        ·
          try simp only [decide_eq_true_eq, decide_eq_false_iff_not, Bool.not_eq_true', Bool.not_eq_false', beq_iff_eq, bne_iff_ne, beq_eq_false_iff_ne, Int.ofNat_lt, Int.ofNat_le, Int.ofNat_inj, ne_eq, gt_iff_lt, ge_iff_le] at hb2
          refine WC_seq ?_
          refine WC_region ?_
          refine WO_step rfl (S_pure rfl ?_)
          refine WO_step rfl (S_pure rfl ?_)
          refine WO_step rfl (S_pure rfl ?_)
          refine WO_nil ?_
          refine KSeq_n ?_
          refine WC_ret ?_
          refine KSeq_r ?_
          refine KBlock_r ?_
          refine KSeq_r ?_
          refine KLoop_r ?_
          first
            | (exfalso; omega)
            | (rw [if_pos (by omega)] at ha
               exact KPost_i (by rw [← ha]; exact (by repeat (first | exact SubE.nil | apply SubE.cons rfl))) (by repeat (first | exact HSub.refl | refine HSub.pick (by repeat (first | exact Pick.head | apply Pick.tail)) ?_ | apply HSub.drop)) ⟨rfl, .inl ⟨rfl, rfl⟩⟩)
            | (rw [if_neg (by omega), if_pos (by omega)] at ha
               exact KPost_i (by rw [← ha]; unfold unzz; first | (rw [if_pos (by omega)]; exact (by repeat (first | exact SubE.nil | apply SubE.cons rfl))) | (rw [if_neg (by omega)]; exact (by repeat (first | exact SubE.nil | apply SubE.cons rfl)))) (by repeat (first | exact HSub.refl | refine HSub.pick (by repeat (first | exact Pick.head | apply Pick.tail)) ?_ | apply HSub.drop)) ⟨rfl, .inl ⟨rfl, rfl⟩⟩)
            | (rw [List.drop_of_length_le (by omega)] at ha
               exact KPost_i (l' := []) (by repeat (first | exact SubE.nil | apply SubE.cons rfl)) (by repeat (first | exact HSub.refl | refine HSub.pick (by repeat (first | exact Pick.head | apply Pick.tail)) ?_ | apply HSub.drop)) ⟨rfl, .inr ⟨rfl, rfl, ha.symm⟩⟩)
        ·
          try simp only [decide_eq_true_eq, decide_eq_false_iff_not, Bool.not_eq_true', Bool.not_eq_false', beq_iff_eq, bne_iff_ne, beq_eq_false_iff_ne, Int.ofNat_lt, Int.ofNat_le, Int.ofNat_inj, ne_eq, gt_iff_lt, ge_iff_le] at hb2
          refine WC_skip ?_
          refine KSeq_n ?_
          refine WC_seq ?_
          refine WC_region ?_
          refine WO_step rfl (S_pure rfl ?_)
          refine WO_step rfl (S_pure rfl ?_)
          refine WO_step rfl (S_and127 rfl hb256 ?_)
          first | refine WO_step rfl (S_toU rfl (by omega) ?_) | refine WO_step rfl (S_pure rfl ?_)
          refine WO_step rfl (S_pure rfl ?_)
          first | refine WO_step rfl (S_mulN (a := 7) rfl rfl (by omega) ?_) | refine WO_step rfl (S_pure rfl ?_)
          refine WO_step rfl (S_shlU rfl rfl (by omega) (by have := htp (by omega); omega) ?_)
          refine WO_step rfl (S_orU rfl rfl hu hU (by have := htp (by omega); omega) ?_)
          have hU64 : U < 18446744073709551616 := by have := htp (by omega); omega
          refine WO_step rfl (S_pure rfl ?_)
          refine WO_nil ?_
          refine KSeq_n ?_
          refine WC_seq ?_
          refine WC_seq ?_
          refine WC_region ?_
          refine WO_step rfl (S_pure rfl ?_)
          refine WO_step rfl (S_pure rfl ?_)
          refine WO_nil ?_
          refine KSeq_n ?_
          refine WC_cond rfl (fun hb3 => ?_) (fun hb3 => ?_)
          ·
            try simp only [decide_eq_true_eq, decide_eq_false_iff_not, Bool.not_eq_true', Bool.not_eq_false', beq_iff_eq, bne_iff_ne, beq_eq_false_iff_ne, Int.ofNat_lt, Int.ofNat_le, Int.ofNat_inj, ne_eq, gt_iff_lt, ge_iff_le] at hb3
            refine WC_exit ?_
            refine KSeq_x ?_
            refine KBlock_h ?_
            refine KSeq_n ?_
            refine WC_region ?_
            first | refine WO_step rfl (S_addN (b := 1) rfl rfl (by omega) ?_) | refine WO_step rfl (S_pure rfl ?_)
            refine WO_step rfl (S_pure rfl ?_)
            refine WO_nil ?_
            refine KLoop_n ?_
            rw [if_neg (by omega), if_neg (by omega)] at ha
            exact WC_weak (ih (bs.length - (i + 1)) (by omega) (i + 1) U rfl (by omega) (by omega) (by omega) ha) (by repeat (first | exact SubE.nil | apply SubE.cons rfl)) (by repeat (first | exact HSub.refl | refine HSub.pick (by repeat (first | exact Pick.head | apply Pick.tail)) ?_ | apply HSub.drop))
          ·
            try simp only [decide_eq_true_eq, decide_eq_false_iff_not, Bool.not_eq_true', Bool.not_eq_false', beq_iff_eq, bne_iff_ne, beq_eq_false_iff_ne, Int.ofNat_lt, Int.ofNat_le, Int.ofNat_inj, ne_eq, gt_iff_lt, ge_iff_le] at hb3
            refine WC_skip ?_
            refine KSeq_n ?_
            refine WC_seq ?_
            refine WC_seq ?_
            refine WC_region ?_
            refine WO_step rfl (S_pure rfl ?_)
            refine WO_step rfl (S_pure rfl ?_)
            refine WO_step rfl (S_pure rfl ?_)
            refine WO_cases (t := 34) rfl (fun hg2 => ?_) (fun hg2 => ?_)
            ·
              try simp only [decide_eq_true_eq, decide_eq_false_iff_not, Bool.not_eq_true', Bool.not_eq_false', beq_iff_eq, bne_iff_ne, beq_eq_false_iff_ne, Int.ofNat_lt, Int.ofNat_le, Int.ofNat_inj, ne_eq, gt_iff_lt, ge_iff_le] at hg2
              refine WO_step rfl (S_pure rfl ?_)
              first | refine WO_step rfl (S_eqS rfl rfl ?_) | refine WO_step rfl (S_pure rfl ?_)
              refine WO_step rfl (S_pure rfl ?_)
              refine WO_nil ?_
              refine KSeq_n ?_
              refine WC_cond rfl (fun hb4 => ?_) (fun hb4 => ?_)
              ·
                try simp only [decide_eq_true_eq, decide_eq_false_iff_not, Bool.not_eq_true', Bool.not_eq_false', beq_iff_eq, bne_iff_ne, beq_eq_false_iff_ne, Int.ofNat_lt, Int.ofNat_le, Int.ofNat_inj, ne_eq, gt_iff_lt, ge_iff_le] at hb4
                refine WC_seq ?_
                refine WC_region ?_
                refine WO_step rfl (S_pure rfl ?_)
                refine WO_step rfl (S_pure rfl ?_)
                refine WO_step rfl (S_pure rfl ?_)
                refine WO_nil ?_
                refine KSeq_n ?_
                refine WC_ret ?_
                refine KSeq_r ?_
                refine KBlock_r ?_
                refine KSeq_r ?_
                refine KLoop_r ?_
                first
                  | (exfalso; omega)
                  | (rw [if_pos (by omega)] at ha
                     exact KPost_i (by rw [← ha]; exact (by repeat (first | exact SubE.nil | apply SubE.cons rfl))) (by repeat (first | exact HSub.refl | refine HSub.pick (by repeat (first | exact Pick.head | apply Pick.tail)) ?_ | apply HSub.drop)) ⟨rfl, .inl ⟨rfl, rfl⟩⟩)
                  | (rw [if_neg (by omega), if_pos (by omega)] at ha
                     exact KPost_i (by rw [← ha]; unfold unzz; first | (rw [if_pos (by omega)]; exact (by repeat (first | exact SubE.nil | apply SubE.cons rfl))) | (rw [if_neg (by omega)]; exact (by repeat (first | exact SubE.nil | apply SubE.cons rfl)))) (by repeat (first | exact HSub.refl | refine HSub.pick (by repeat (first | exact Pick.head | apply Pick.tail)) ?_ | apply HSub.drop)) ⟨rfl, .inl ⟨rfl, rfl⟩⟩)
                  | (rw [List.drop_of_length_le (by omega)] at ha
                     exact KPost_i (l' := []) (by repeat (first | exact SubE.nil | apply SubE.cons rfl)) (by repeat (first | exact HSub.refl | refine HSub.pick (by repeat (first | exact Pick.head | apply Pick.tail)) ?_ | apply HSub.drop)) ⟨rfl, .inr ⟨rfl, rfl, ha.symm⟩⟩)
              ·
                try simp only [decide_eq_true_eq, decide_eq_false_iff_not, Bool.not_eq_true', Bool.not_eq_false', beq_iff_eq, bne_iff_ne, beq_eq_false_iff_ne, Int.ofNat_lt, Int.ofNat_le, Int.ofNat_inj, ne_eq, gt_iff_lt, ge_iff_le] at hb4
                refine WC_skip ?_
                refine KSeq_n ?_
                refine WC_seq ?_
                refine WC_region ?_
                refine WO_step rfl (S_pure rfl ?_)
                first | refine WO_step rfl (S_half rfl (by omega) ?_) | refine WO_step rfl (S_pure rfl ?_)
                first | refine WO_step rfl (S_toI rfl (by omega) ?_) | refine WO_step rfl (S_pure rfl ?_)
                refine WO_step rfl (S_pure rfl ?_)
                refine WO_nil ?_
                refine KSeq_n ?_
                refine WC_seq ?_
                refine WC_seq ?_
                refine WC_region ?_
                refine WO_step rfl (S_pure rfl ?_)
                refine WO_step rfl (S_and1 rfl hU64 ?_)
                first | refine WO_step rfl (S_eqS rfl rfl ?_) | refine WO_step rfl (S_pure rfl ?_)
                refine WO_nil ?_
                refine KSeq_n ?_
                refine WC_cond rfl (fun hb5 => ?_) (fun hb5 => ?_)
                ·
                  try simp only [decide_eq_true_eq, decide_eq_false_iff_not, Bool.not_eq_true', Bool.not_eq_false', beq_iff_eq, bne_iff_ne, beq_eq_false_iff_ne, Int.ofNat_lt, Int.ofNat_le, Int.ofNat_inj, ne_eq, gt_iff_lt, ge_iff_le] at hb5
                  refine WC_region ?_
                  refine WO_step rfl (S_pure rfl ?_)
                  refine WO_step rfl (S_notI rfl (by omega) ?_)
                  refine WO_step rfl (S_pure rfl ?_)
                  refine WO_nil ?_
                  refine KSeq_n ?_
                  refine WC_seq ?_
                  refine WC_region ?_
                  refine WO_step rfl (S_pure rfl ?_)
                  refine WO_step rfl (S_pure rfl ?_)
                  first | refine WO_step rfl (S_addN (b := 1) rfl rfl (by omega) ?_) | refine WO_step rfl (S_pure rfl ?_)
                  refine WO_step rfl (S_pure rfl ?_)
                  refine WO_step rfl (S_pure rfl ?_)
                  refine WO_step rfl (S_pure rfl ?_)
                  refine WO_nil ?_
                  refine KSeq_n ?_
                  refine WC_ret ?_
                  refine KBlock_r ?_
                  refine KSeq_r ?_
                  refine KLoop_r ?_
                  first
                    | (exfalso; omega)
                    | (rw [if_pos (by omega)] at ha
                       exact KPost_i (by rw [← ha]; exact (by repeat (first | exact SubE.nil | apply SubE.cons rfl))) (by repeat (first | exact HSub.refl | refine HSub.pick (by repeat (first | exact Pick.head | apply Pick.tail)) ?_ | apply HSub.drop)) ⟨rfl, .inl ⟨rfl, rfl⟩⟩)
                    | (rw [if_neg (by omega), if_pos (by omega)] at ha
                       exact KPost_i (by rw [← ha]; unfold unzz; first | (rw [if_pos (by omega)]; exact (by repeat (first | exact SubE.nil | apply SubE.cons rfl))) | (rw [if_neg (by omega)]; exact (by repeat (first | exact SubE.nil | apply SubE.cons rfl)))) (by repeat (first | exact HSub.refl | refine HSub.pick (by repeat (first | exact Pick.head | apply Pick.tail)) ?_ | apply HSub.drop)) ⟨rfl, .inl ⟨rfl, rfl⟩⟩)
                    | (rw [List.drop_of_length_le (by omega)] at ha
                       exact KPost_i (l' := []) (by repeat (first | exact SubE.nil | apply SubE.cons rfl)) (by repeat (first | exact HSub.refl | refine HSub.pick (by repeat (first | exact Pick.head | apply Pick.tail)) ?_ | apply HSub.drop)) ⟨rfl, .inr ⟨rfl, rfl, ha.symm⟩⟩)
                ·
                  try simp only [decide_eq_true_eq, decide_eq_false_iff_not, Bool.not_eq_true', Bool.not_eq_false', beq_iff_eq, bne_iff_ne, beq_eq_false_iff_ne, Int.ofNat_lt, Int.ofNat_le, Int.ofNat_inj, ne_eq, gt_iff_lt, ge_iff_le] at hb5
                  refine WC_skip ?_
                  refine KSeq_n ?_
                  refine WC_seq ?_
                  refine WC_region ?_
                  refine WO_step rfl (S_pure rfl ?_)
                  refine WO_step rfl (S_pure rfl ?_)
                  first | refine WO_step rfl (S_addN (b := 1) rfl rfl (by omega) ?_) | refine WO_step rfl (S_pure rfl ?_)
                  refine WO_step rfl (S_pure rfl ?_)
                  refine WO_step rfl (S_pure rfl ?_)
                  refine WO_step rfl (S_pure rfl ?_)
                  refine WO_nil ?_
                  refine KSeq_n ?_
                  refine WC_ret ?_
                  refine KBlock_r ?_
                  refine KSeq_r ?_
                  refine KLoop_r ?_
                  first
                    | (exfalso; omega)
                    | (rw [if_pos (by omega)] at ha
                       exact KPost_i (by rw [← ha]; exact (by repeat (first | exact SubE.nil | apply SubE.cons rfl))) (by repeat (first | exact HSub.refl | refine HSub.pick (by repeat (first | exact Pick.head | apply Pick.tail)) ?_ | apply HSub.drop)) ⟨rfl, .inl ⟨rfl, rfl⟩⟩)
                    | (rw [if_neg (by omega), if_pos (by omega)] at ha
                       exact KPost_i (by rw [← ha]; unfold unzz; first | (rw [if_pos (by omega)]; exact (by repeat (first | exact SubE.nil | apply SubE.cons rfl))) | (rw [if_neg (by omega)]; exact (by repeat (first | exact SubE.nil | apply SubE.cons rfl)))) (by repeat (first | exact HSub.refl | refine HSub.pick (by repeat (first | exact Pick.head | apply Pick.tail)) ?_ | apply HSub.drop)) ⟨rfl, .inl ⟨rfl, rfl⟩⟩)
                    | (rw [List.drop_of_length_le (by omega)] at ha
                       exact KPost_i (l' := []) (by repeat (first | exact SubE.nil | apply SubE.cons rfl)) (by repeat (first | exact HSub.refl | refine HSub.pick (by repeat (first | exact Pick.head | apply Pick.tail)) ?_ | apply HSub.drop)) ⟨rfl, .inr ⟨rfl, rfl, ha.symm⟩⟩)
            ·
              try simp only [decide_eq_true_eq, decide_eq_false_iff_not, Bool.not_eq_true', Bool.not_eq_false', beq_iff_eq, bne_iff_ne, beq_eq_false_iff_ne, Int.ofNat_lt, Int.ofNat_le, Int.ofNat_inj, ne_eq, gt_iff_lt, ge_iff_le] at hg2
              refine WO_off rfl ?_
              refine WO_off rfl ?_
              refine WO_step rfl (S_pure rfl ?_)
              refine WO_nil ?_
              refine KSeq_n ?_
              refine WC_cond rfl (fun h => ?_) (fun _ => ?_)
              · exact absurd h (by decide)
              refine WC_skip ?_
              refine KSeq_n ?_
              refine WC_seq ?_
              refine WC_region ?_
              refine WO_step rfl (S_pure rfl ?_)
              first | refine WO_step rfl (S_half rfl (by omega) ?_) | refine WO_step rfl (S_pure rfl ?_)
              first | refine WO_step rfl (S_toI rfl (by omega) ?_) | refine WO_step rfl (S_pure rfl ?_)
              refine WO_step rfl (S_pure rfl ?_)
              refine WO_nil ?_
              refine KSeq_n ?_
              refine WC_seq ?_
              refine WC_seq ?_
              refine WC_region ?_
              refine WO_step rfl (S_pure rfl ?_)
              refine WO_step rfl (S_and1 rfl hU64 ?_)
              first | refine WO_step rfl (S_eqS rfl rfl ?_) | refine WO_step rfl (S_pure rfl ?_)
              refine WO_nil ?_
              refine KSeq_n ?_
              refine WC_cond rfl (fun hb6 => ?_) (fun hb6 => ?_)
              ·
                try simp only [decide_eq_true_eq, decide_eq_false_iff_not, Bool.not_eq_true', Bool.not_eq_false', beq_iff_eq, bne_iff_ne, beq_eq_false_iff_ne, Int.ofNat_lt, Int.ofNat_le, Int.ofNat_inj, ne_eq, gt_iff_lt, ge_iff_le] at hb6
                refine WC_region ?_
                refine WO_step rfl (S_pure rfl ?_)
                refine WO_step rfl (S_notI rfl (by omega) ?_)
                refine WO_step rfl (S_pure rfl ?_)
                refine WO_nil ?_
                refine KSeq_n ?_
                refine WC_seq ?_
                refine WC_region ?_
                refine WO_step rfl (S_pure rfl ?_)
                refine WO_step rfl (S_pure rfl ?_)
                first | refine WO_step rfl (S_addN (b := 1) rfl rfl (by omega) ?_) | refine WO_step rfl (S_pure rfl ?_)
                refine WO_step rfl (S_pure rfl ?_)
                refine WO_step rfl (S_pure rfl ?_)
                refine WO_step rfl (S_pure rfl ?_)
                refine WO_nil ?_
                refine KSeq_n ?_
                refine WC_ret ?_
                refine KBlock_r ?_
                refine KSeq_r ?_
                refine KLoop_r ?_
                first
                  | (exfalso; omega)
                  | (rw [if_pos (by omega)] at ha
                     exact KPost_i (by rw [← ha]; exact (by repeat (first | exact SubE.nil | apply SubE.cons rfl))) (by repeat (first | exact HSub.refl | refine HSub.pick (by repeat (first | exact Pick.head | apply Pick.tail)) ?_ | apply HSub.drop)) ⟨rfl, .inl ⟨rfl, rfl⟩⟩)
                  | (rw [if_neg (by omega), if_pos (by omega)] at ha
                     exact KPost_i (by rw [← ha]; unfold unzz; first | (rw [if_pos (by omega)]; exact (by repeat (first | exact SubE.nil | apply SubE.cons rfl))) | (rw [if_neg (by omega)]; exact (by repeat (first | exact SubE.nil | apply SubE.cons rfl)))) (by repeat (first | exact HSub.refl | refine HSub.pick (by repeat (first | exact Pick.head | apply Pick.tail)) ?_ | apply HSub.drop)) ⟨rfl, .inl ⟨rfl, rfl⟩⟩)
                  | (rw [List.drop_of_length_le (by omega)] at ha
                     exact KPost_i (l' := []) (by repeat (first | exact SubE.nil | apply SubE.cons rfl)) (by repeat (first | exact HSub.refl | refine HSub.pick (by repeat (first | exact Pick.head | apply Pick.tail)) ?_ | apply HSub.drop)) ⟨rfl, .inr ⟨rfl, rfl, ha.symm⟩⟩)
              ·
                try simp only [decide_eq_true_eq, decide_eq_false_iff_not, Bool.not_eq_true', Bool.not_eq_false', beq_iff_eq, bne_iff_ne, beq_eq_false_iff_ne, Int.ofNat_lt, Int.ofNat_le, Int.ofNat_inj, ne_eq, gt_iff_lt, ge_iff_le] at hb6
                refine WC_skip ?_
                refine KSeq_n ?_
                refine WC_seq ?_
                refine WC_region ?_
                refine WO_step rfl (S_pure rfl ?_)
                refine WO_step rfl (S_pure rfl ?_)
                first | refine WO_step rfl (S_addN (b := 1) rfl rfl (by omega) ?_) | refine WO_step rfl (S_pure rfl ?_)
                refine WO_step rfl (S_pure rfl ?_)
                refine WO_step rfl (S_pure rfl ?_)
                refine WO_step rfl (S_pure rfl ?_)
                refine WO_nil ?_
                refine KSeq_n ?_
                refine WC_ret ?_
                refine KBlock_r ?_
                refine KSeq_r ?_
                refine KLoop_r ?_
                first
                  | (exfalso; omega)
                  | (rw [if_pos (by omega)] at ha
                     exact KPost_i (by rw [← ha]; exact (by repeat (first | exact SubE.nil | apply SubE.cons rfl))) (by repeat (first | exact HSub.refl | refine HSub.pick (by repeat (first | exact Pick.head | apply Pick.tail)) ?_ | apply HSub.drop)) ⟨rfl, .inl ⟨rfl, rfl⟩⟩)
                  | (rw [if_neg (by omega), if_pos (by omega)] at ha
                     exact KPost_i (by rw [← ha]; unfold unzz; first | (rw [if_pos (by omega)]; exact (by repeat (first | exact SubE.nil | apply SubE.cons rfl))) | (rw [if_neg (by omega)]; exact (by repeat (first | exact SubE.nil | apply SubE.cons rfl)))) (by repeat (first | exact HSub.refl | refine HSub.pick (by repeat (first | exact Pick.head | apply Pick.tail)) ?_ | apply HSub.drop)) ⟨rfl, .inl ⟨rfl, rfl⟩⟩)
                  | (rw [List.drop_of_length_le (by omega)] at ha
                     exact KPost_i (l' := []) (by repeat (first | exact SubE.nil | apply SubE.cons rfl)) (by repeat (first | exact HSub.refl | refine HSub.pick (by repeat (first | exact Pick.head | apply Pick.tail)) ?_ | apply HSub.drop)) ⟨rfl, .inr ⟨rfl, rfl, ha.symm⟩⟩)
      ·
        try simp only [decide_eq_true_eq, decide_eq_false_iff_not, Bool.not_eq_true', Bool.not_eq_false', beq_iff_eq, bne_iff_ne, beq_eq_false_iff_ne, Int.ofNat_lt, Int.ofNat_le, Int.ofNat_inj, ne_eq, gt_iff_lt, ge_iff_le] at hg1
        refine WO_off rfl ?_
        refine WO_off rfl ?_
        refine WO_step rfl (S_pure rfl ?_)
        refine WO_nil ?_
        refine KSeq_n ?_
        refine WC_cond rfl (fun h => ?_) (fun _ => ?_)
        · exact absurd h (by decide)
        refine WC_skip ?_
        refine KSeq_n ?_
        refine WC_seq ?_
        refine WC_region ?_
        refine WO_step rfl (S_pure rfl ?_)
        refine WO_step rfl (S_pure rfl ?_)
        refine WO_step rfl (S_and127 rfl hb256 ?_)
        first | refine WO_step rfl (S_toU rfl (by omega) ?_) | refine WO_step rfl (S_pure rfl ?_)
        refine WO_step rfl (S_pure rfl ?_)
        first | refine WO_step rfl (S_mulN (a := 7) rfl rfl (by omega) ?_) | refine WO_step rfl (S_pure rfl ?_)
        refine WO_step rfl (S_shlU rfl rfl (by omega) (by have := htp (by omega); omega) ?_)
        refine WO_step rfl (S_orU rfl rfl hu hU (by have := htp (by omega); omega) ?_)
        have hU64 : U < 18446744073709551616 := by have := htp (by omega); omega
        refine WO_step rfl (S_pure rfl ?_)
        refine WO_nil ?_
        refine KSeq_n ?_
        refine WC_seq ?_
        refine WC_seq ?_
        refine WC_region ?_
        refine WO_step rfl (S_pure rfl ?_)
        refine WO_step rfl (S_pure rfl ?_)
        refine WO_nil ?_
        refine KSeq_n ?_
        refine WC_cond rfl (fun hb7 => ?_) (fun hb7 => ?_)
        ·
          try simp only [decide_eq_true_eq, decide_eq_false_iff_not, Bool.not_eq_true', Bool.not_eq_false', beq_iff_eq, bne_iff_ne, beq_eq_false_iff_ne, Int.ofNat_lt, Int.ofNat_le, Int.ofNat_inj, ne_eq, gt_iff_lt, ge_iff_le] at hb7
          refine WC_exit ?_
          refine KSeq_x ?_
          refine KBlock_h ?_
          refine KSeq_n ?_
          refine WC_region ?_
          first | refine WO_step rfl (S_addN (b := 1) rfl rfl (by omega) ?_) | refine WO_step rfl (S_pure rfl ?_)
          refine WO_step rfl (S_pure rfl ?_)
          refine WO_nil ?_
          refine KLoop_n ?_
          rw [if_neg (by omega), if_neg (by omega)] at ha
          exact WC_weak (ih (bs.length - (i + 1)) (by omega) (i + 1) U rfl (by omega) (by omega) (by omega) ha) (by repeat (first | exact SubE.nil | apply SubE.cons rfl)) (by repeat (first | exact HSub.refl | refine HSub.pick (by repeat (first | exact Pick.head | apply Pick.tail)) ?_ | apply HSub.drop))
        ·
          try simp only [decide_eq_true_eq, decide_eq_false_iff_not, Bool.not_eq_true', Bool.not_eq_false', beq_iff_eq, bne_iff_ne, beq_eq_false_iff_ne, Int.ofNat_lt, Int.ofNat_le, Int.ofNat_inj, ne_eq, gt_iff_lt, ge_iff_le] at hb7
          refine WC_skip ?_
          refine KSeq_n ?_
          refine WC_seq ?_
          refine WC_seq ?_
          refine WC_region ?_
          refine WO_step rfl (S_pure rfl ?_)
          refine WO_step rfl (S_pure rfl ?_)
          refine WO_step rfl (S_pure rfl ?_)
          refine WO_cases (t := 34) rfl (fun hg3 => ?_) (fun hg3 => ?_)
          ·
            try simp only [decide_eq_true_eq, decide_eq_false_iff_not, Bool.not_eq_true', Bool.not_eq_false', beq_iff_eq, bne_iff_ne, beq_eq_false_iff_ne, Int.ofNat_lt, Int.ofNat_le, Int.ofNat_inj, ne_eq, gt_iff_lt, ge_iff_le] at hg3
            refine WO_step rfl (S_pure rfl ?_)
            first | refine WO_step rfl (S_eqS rfl rfl ?_) | refine WO_step rfl (S_pure rfl ?_)
            refine WO_step rfl (S_pure rfl ?_)
            refine WO_nil ?_
            refine KSeq_n ?_
            refine WC_cond rfl (fun hb8 => ?_) (fun hb8 => ?_)
            ·
              try simp only [decide_eq_true_eq, decide_eq_false_iff_not, Bool.not_eq_true', Bool.not_eq_false', beq_iff_eq, bne_iff_ne, beq_eq_false_iff_ne, Int.ofNat_lt, Int.ofNat_le, Int.ofNat_inj, ne_eq, gt_iff_lt, ge_iff_le] at hb8
              refine WC_seq ?_
              refine WC_region ?_
              refine WO_step rfl (S_pure rfl ?_)
              refine WO_step rfl (S_pure rfl ?_)
              refine WO_step rfl (S_pure rfl ?_)
              refine WO_nil ?_
              refine KSeq_n ?_
              refine WC_ret ?_
              refine KSeq_r ?_
              refine KBlock_r ?_
              refine KSeq_r ?_
              refine KLoop_r ?_
              first
                | (exfalso; omega)
                | (rw [if_pos (by omega)] at ha
                   exact KPost_i (by rw [← ha]; exact (by repeat (first | exact SubE.nil | apply SubE.cons rfl))) (by repeat (first | exact HSub.refl | refine HSub.pick (by repeat (first | exact Pick.head | apply Pick.tail)) ?_ | apply HSub.drop)) ⟨rfl, .inl ⟨rfl, rfl⟩⟩)
                | (rw [if_neg (by omega), if_pos (by omega)] at ha
                   exact KPost_i (by rw [← ha]; unfold unzz; first | (rw [if_pos (by omega)]; exact (by repeat (first | exact SubE.nil | apply SubE.cons rfl))) | (rw [if_neg (by omega)]; exact (by repeat (first | exact SubE.nil | apply SubE.cons rfl)))) (by repeat (first | exact HSub.refl | refine HSub.pick (by repeat (first | exact Pick.head | apply Pick.tail)) ?_ | apply HSub.drop)) ⟨rfl, .inl ⟨rfl, rfl⟩⟩)
                | (rw [List.drop_of_length_le (by omega)] at ha
                   exact KPost_i (l' := []) (by repeat (first | exact SubE.nil | apply SubE.cons rfl)) (by repeat (first | exact HSub.refl | refine HSub.pick (by repeat (first | exact Pick.head | apply Pick.tail)) ?_ | apply HSub.drop)) ⟨rfl, .inr ⟨rfl, rfl, ha.symm⟩⟩)
            ·
              try simp only [decide_eq_true_eq, decide_eq_false_iff_not, Bool.not_eq_true', Bool.not_eq_false', beq_iff_eq, bne_iff_ne, beq_eq_false_iff_ne, Int.ofNat_lt, Int.ofNat_le, Int.ofNat_inj, ne_eq, gt_iff_lt, ge_iff_le] at hb8
              refine WC_skip ?_
              refine KSeq_n ?_
              refine WC_seq ?_
              refine WC_region ?_
              refine WO_step rfl (S_pure rfl ?_)
              first | refine WO_step rfl (S_half rfl (by omega) ?_) | refine WO_step rfl (S_pure rfl ?_)
              first | refine WO_step rfl (S_toI rfl (by omega) ?_) | refine WO_step rfl (S_pure rfl ?_)
              refine WO_step rfl (S_pure rfl ?_)
              refine WO_nil ?_
              refine KSeq_n ?_
              refine WC_seq ?_
              refine WC_seq ?_
              refine WC_region ?_
              refine WO_step rfl (S_pure rfl ?_)
              refine WO_step rfl (S_and1 rfl hU64 ?_)
              first | refine WO_step rfl (S_eqS rfl rfl ?_) | refine WO_step rfl (S_pure rfl ?_)
              refine WO_nil ?_
              refine KSeq_n ?_
              refine WC_cond rfl (fun hb9 => ?_) (fun hb9 => ?_)
              ·
                try simp only [decide_eq_true_eq, decide_eq_false_iff_not, Bool.not_eq_true', Bool.not_eq_false', beq_iff_eq, bne_iff_ne, beq_eq_false_iff_ne, Int.ofNat_lt, Int.ofNat_le, Int.ofNat_inj, ne_eq, gt_iff_lt, ge_iff_le] at hb9
                refine WC_region ?_
                refine WO_step rfl (S_pure rfl ?_)
                refine WO_step rfl (S_notI rfl (by omega) ?_)
                refine WO_step rfl (S_pure rfl ?_)
                refine WO_nil ?_
                refine KSeq_n ?_
                refine WC_seq ?_
                refine WC_region ?_
                refine WO_step rfl (S_pure rfl ?_)
                refine WO_step rfl (S_pure rfl ?_)
                first | refine WO_step rfl (S_addN (b := 1) rfl rfl (by omega) ?_) | refine WO_step rfl (S_pure rfl ?_)
                refine WO_step rfl (S_pure rfl ?_)
                refine WO_step rfl (S_pure rfl ?_)
                refine WO_step rfl (S_pure rfl ?_)
                refine WO_nil ?_
                refine KSeq_n ?_
                refine WC_ret ?_
                refine KBlock_r ?_
                refine KSeq_r ?_
                refine KLoop_r ?_
                first
                  | (exfalso; omega)
                  | (rw [if_pos (by omega)] at ha
                     exact KPost_i (by rw [← ha]; exact (by repeat (first | exact SubE.nil | apply SubE.cons rfl))) (by repeat (first | exact HSub.refl | refine HSub.pick (by repeat (first | exact Pick.head | apply Pick.tail)) ?_ | apply HSub.drop)) ⟨rfl, .inl ⟨rfl, rfl⟩⟩)
                  | (rw [if_neg (by omega), if_pos (by omega)] at ha
                     exact KPost_i (by rw [← ha]; unfold unzz; first | (rw [if_pos (by omega)]; exact (by repeat (first | exact SubE.nil | apply SubE.cons rfl))) | (rw [if_neg (by omega)]; exact (by repeat (first | exact SubE.nil | apply SubE.cons rfl)))) (by repeat (first | exact HSub.refl | refine HSub.pick (by repeat (first | exact Pick.head | apply Pick.tail)) ?_ | apply HSub.drop)) ⟨rfl, .inl ⟨rfl, rfl⟩⟩)
                  | (rw [List.drop_of_length_le (by omega)] at ha
                     exact KPost_i (l' := []) (by repeat (first | exact SubE.nil | apply SubE.cons rfl)) (by repeat (first | exact HSub.refl | refine HSub.pick (by repeat (first | exact Pick.head | apply Pick.tail)) ?_ | apply HSub.drop)) ⟨rfl, .inr ⟨rfl, rfl, ha.symm⟩⟩)
              ·
                try simp only [decide_eq_true_eq, decide_eq_false_iff_not, Bool.not_eq_true', Bool.not_eq_false', beq_iff_eq, bne_iff_ne, beq_eq_false_iff_ne, Int.ofNat_lt, Int.ofNat_le, Int.ofNat_inj, ne_eq, gt_iff_lt, ge_iff_le] at hb9
                refine WC_skip ?_
                refine KSeq_n ?_
                refine WC_seq ?_
                refine WC_region ?_
                refine WO_step rfl (S_pure rfl ?_)
                refine WO_step rfl (S_pure rfl ?_)
                first | refine WO_step rfl (S_addN (b := 1) rfl rfl (by omega) ?_) | refine WO_step rfl (S_pure rfl ?_)
                refine WO_step rfl (S_pure rfl ?_)
                refine WO_step rfl (S_pure rfl ?_)
                refine WO_step rfl (S_pure rfl ?_)
                refine WO_nil ?_
                refine KSeq_n ?_
                refine WC_ret ?_
                refine KBlock_r ?_
                refine KSeq_r ?_
                refine KLoop_r ?_
                first
                  | (exfalso; omega)
                  | (rw [if_pos (by omega)] at ha
                     exact KPost_i (by rw [← ha]; exact (by repeat (first | exact SubE.nil | apply SubE.cons rfl))) (by repeat (first | exact HSub.refl | refine HSub.pick (by repeat (first | exact Pick.head | apply Pick.tail)) ?_ | apply HSub.drop)) ⟨rfl, .inl ⟨rfl, rfl⟩⟩)
                  | (rw [if_neg (by omega), if_pos (by omega)] at ha
                     exact KPost_i (by rw [← ha]; unfold unzz; first | (rw [if_pos (by omega)]; exact (by repeat (first | exact SubE.nil | apply SubE.cons rfl))) | (rw [if_neg (by omega)]; exact (by repeat (first | exact SubE.nil | apply SubE.cons rfl)))) (by repeat (first | exact HSub.refl | refine HSub.pick (by repeat (first | exact Pick.head | apply Pick.tail)) ?_ | apply HSub.drop)) ⟨rfl, .inl ⟨rfl, rfl⟩⟩)
                  | (rw [List.drop_of_length_le (by omega)] at ha
                     exact KPost_i (l' := []) (by repeat (first | exact SubE.nil | apply SubE.cons rfl)) (by repeat (first | exact HSub.refl | refine HSub.pick (by repeat (first | exact Pick.head | apply Pick.tail)) ?_ | apply HSub.drop)) ⟨rfl, .inr ⟨rfl, rfl, ha.symm⟩⟩)
          ·
            try simp only [decide_eq_true_eq, decide_eq_false_iff_not, Bool.not_eq_true', Bool.not_eq_false', beq_iff_eq, bne_iff_ne, beq_eq_false_iff_ne, Int.ofNat_lt, Int.ofNat_le, Int.ofNat_inj, ne_eq, gt_iff_lt, ge_iff_le] at hg3
            refine WO_off rfl ?_
            refine WO_off rfl ?_
            refine WO_step rfl (S_pure rfl ?_)
            refine WO_nil ?_
            refine KSeq_n ?_
            refine WC_cond rfl (fun h => ?_) (fun _ => ?_)
            · exact absurd h (by decide)
            refine WC_skip ?_
            refine KSeq_n ?_
            refine WC_seq ?_
            refine WC_region ?_
            refine WO_step rfl (S_pure rfl ?_)
            first | refine WO_step rfl (S_half rfl (by omega) ?_) | refine WO_step rfl (S_pure rfl ?_)
            first | refine WO_step rfl (S_toI rfl (by omega) ?_) | refine WO_step rfl (S_pure rfl ?_)
            refine WO_step rfl (S_pure rfl ?_)
            refine WO_nil ?_
            refine KSeq_n ?_
            refine WC_seq ?_
            refine WC_seq ?_
            refine WC_region ?_
            refine WO_step rfl (S_pure rfl ?_)
            refine WO_step rfl (S_and1 rfl hU64 ?_)
            first | refine WO_step rfl (S_eqS rfl rfl ?_) | refine WO_step rfl (S_pure rfl ?_)
            refine WO_nil ?_
            refine KSeq_n ?_
            refine WC_cond rfl (fun hb10 => ?_) (fun hb10 => ?_)
            ·
              try simp only [decide_eq_true_eq, decide_eq_false_iff_not, Bool.not_eq_true', Bool.not_eq_false', beq_iff_eq, bne_iff_ne, beq_eq_false_iff_ne, Int.ofNat_lt, Int.ofNat_le, Int.ofNat_inj, ne_eq, gt_iff_lt, ge_iff_le] at hb10
              refine WC_region ?_
              refine WO_step rfl (S_pure rfl ?_)
              refine WO_step rfl (S_notI rfl (by omega) ?_)
              refine WO_step rfl (S_pure rfl ?_)
              refine WO_nil ?_
              refine KSeq_n ?_
              refine WC_seq ?_
              refine WC_region ?_
              refine WO_step rfl (S_pure rfl ?_)
              refine WO_step rfl (S_pure rfl ?_)
              first | refine WO_step rfl (S_addN (b := 1) rfl rfl (by omega) ?_) | refine WO_step rfl (S_pure rfl ?_)
              refine WO_step rfl (S_pure rfl ?_)
              refine WO_step rfl (S_pure rfl ?_)
              refine WO_step rfl (S_pure rfl ?_)
              refine WO_nil ?_
              refine KSeq_n ?_
              refine WC_ret ?_
              refine KBlock_r ?_
              refine KSeq_r ?_
              refine KLoop_r ?_
              first
                | (exfalso; omega)
                | (rw [if_pos (by omega)] at ha
                   exact KPost_i (by rw [← ha]; exact (by repeat (first | exact SubE.nil | apply SubE.cons rfl))) (by repeat (first | exact HSub.refl | refine HSub.pick (by repeat (first | exact Pick.head | apply Pick.tail)) ?_ | apply HSub.drop)) ⟨rfl, .inl ⟨rfl, rfl⟩⟩)
                | (rw [if_neg (by omega), if_pos (by omega)] at ha
                   exact KPost_i (by rw [← ha]; unfold unzz; first | (rw [if_pos (by omega)]; exact (by repeat (first | exact SubE.nil | apply SubE.cons rfl))) | (rw [if_neg (by omega)]; exact (by repeat (first | exact SubE.nil | apply SubE.cons rfl)))) (by repeat (first | exact HSub.refl | refine HSub.pick (by repeat (first | exact Pick.head | apply Pick.tail)) ?_ | apply HSub.drop)) ⟨rfl, .inl ⟨rfl, rfl⟩⟩)
                | (rw [List.drop_of_length_le (by omega)] at ha
                   exact KPost_i (l' := []) (by repeat (first | exact SubE.nil | apply SubE.cons rfl)) (by repeat (first | exact HSub.refl | refine HSub.pick (by repeat (first | exact Pick.head | apply Pick.tail)) ?_ | apply HSub.drop)) ⟨rfl, .inr ⟨rfl, rfl, ha.symm⟩⟩)
            ·
              try simp only [decide_eq_true_eq, decide_eq_false_iff_not, Bool.not_eq_true', Bool.not_eq_false', beq_iff_eq, bne_iff_ne, beq_eq_false_iff_ne, Int.ofNat_lt, Int.ofNat_le, Int.ofNat_inj, ne_eq, gt_iff_lt, ge_iff_le] at hb10
              refine WC_skip ?_
              refine KSeq_n ?_
              refine WC_seq ?_
              refine WC_region ?_
              refine WO_step rfl (S_pure rfl ?_)
              refine WO_step rfl (S_pure rfl ?_)
              first | refine WO_step rfl (S_addN (b := 1) rfl rfl (by omega) ?_) | refine WO_step rfl (S_pure rfl ?_)
              refine WO_step rfl (S_pure rfl ?_)
              refine WO_step rfl (S_pure rfl ?_)
              refine WO_step rfl (S_pure rfl ?_)
              refine WO_nil ?_
              refine KSeq_n ?_
              refine WC_ret ?_
              refine KBlock_r ?_
              refine KSeq_r ?_
              refine KLoop_r ?_
              first
                | (exfalso; omega)
                | (rw [if_pos (by omega)] at ha
                   exact KPost_i (by rw [← ha]; exact (by repeat (first | exact SubE.nil | apply SubE.cons rfl))) (by repeat (first | exact HSub.refl | refine HSub.pick (by repeat (first | exact Pick.head | apply Pick.tail)) ?_ | apply HSub.drop)) ⟨rfl, .inl ⟨rfl, rfl⟩⟩)
                | (rw [if_neg (by omega), if_pos (by omega)] at ha
                   exact KPost_i (by rw [← ha]; unfold unzz; first | (rw [if_pos (by omega)]; exact (by repeat (first | exact SubE.nil | apply SubE.cons rfl))) | (rw [if_neg (by omega)]; exact (by repeat (first | exact SubE.nil | apply SubE.cons rfl)))) (by repeat (first | exact HSub.refl | refine HSub.pick (by repeat (first | exact Pick.head | apply Pick.tail)) ?_ | apply HSub.drop)) ⟨rfl, .inl ⟨rfl, rfl⟩⟩)
                | (rw [List.drop_of_length_le (by omega)] at ha
                   exact KPost_i (l' := []) (by repeat (first | exact SubE.nil | apply SubE.cons rfl)) (by repeat (first | exact HSub.refl | refine HSub.pick (by repeat (first | exact Pick.head | apply Pick.tail)) ?_ | apply HSub.drop)) ⟨rfl, .inr ⟨rfl, rfl, ha.symm⟩⟩)
    ·
      try simp only [decide_eq_true_eq, decide_eq_false_iff_not, Bool.not_eq_true', Bool.not_eq_false', beq_iff_eq, bne_iff_ne, beq_eq_false_iff_ne, Int.ofNat_lt, Int.ofNat_le, Int.ofNat_inj, ne_eq, gt_iff_lt, ge_iff_le] at hb1
      refine WC_exit ?_
      refine KSeq_x ?_
      refine KLoop_x ?_
      first
        | (exfalso; omega)
        | (rw [if_pos (by omega)] at ha
           exact KPost_i (by rw [← ha]; exact (by repeat (first | exact SubE.nil | apply SubE.cons rfl))) (by repeat (first | exact HSub.refl | refine HSub.pick (by repeat (first | exact Pick.head | apply Pick.tail)) ?_ | apply HSub.drop)) ⟨rfl, .inl ⟨rfl, rfl⟩⟩)
        | (rw [if_neg (by omega), if_pos (by omega)] at ha
           exact KPost_i (by rw [← ha]; unfold unzz; first | (rw [if_pos (by omega)]; exact (by repeat (first | exact SubE.nil | apply SubE.cons rfl))) | (rw [if_neg (by omega)]; exact (by repeat (first | exact SubE.nil | apply SubE.cons rfl)))) (by repeat (first | exact HSub.refl | refine HSub.pick (by repeat (first | exact Pick.head | apply Pick.tail)) ?_ | apply HSub.drop)) ⟨rfl, .inl ⟨rfl, rfl⟩⟩)
        | (rw [List.drop_of_length_le (by omega)] at ha
           exact KPost_i (l' := []) (by repeat (first | exact SubE.nil | apply SubE.cons rfl)) (by repeat (first | exact HSub.refl | refine HSub.pick (by repeat (first | exact Pick.head | apply Pick.tail)) ?_ | apply HSub.drop)) ⟨rfl, .inr ⟨rfl, rfl, ha.symm⟩⟩)
theorem sp_nGet {H : SH} {v : Value} {bs : List UInt8} (hv : RD H v TByte bs) (hl : bs.length ≤ 1000000) : WF F X f_num_Get [v] H (fun r H' => H' = H ∧ r = getV (get bs)) := by
  refine WF_fn F_num_Get ?_
  refine WC_seq ?_
  refine WC_region ?_
  refine WO_step rfl (S_pure rfl ?_)
  refine WO_step rfl (S_pure rfl ?_)
  refine WO_step rfl (S_pure rfl ?_)
  refine WO_nil ?_
  refine KSeq_n ?_
  refine WC_seq ?_
  refine WC_region ?_
  refine WO_step rfl (S_pure rfl ?_)
  refine WO_nil ?_
  refine KSeq_n ?_
  refine WC_seq ?_
  refine WC_seq ?_
  refine WC_region ?_
  refine WO_step rfl (S_pure rfl ?_)
  first | refine WO_step rfl (S_pure rfl ?_) | refine WO_step rfl (S_lenS rfl (by repeat (first | assumption | exact RD.head | exact RD.nil | apply RD.tail)) ?_)
  refine WO_step rfl (S_pure rfl ?_)
  refine WO_nil ?_
  refine KSeq_n ?_
  refine WC_block ?_
  --out r x0
  refine WC_post (WC_weak (lp_nGet hv hl bs.length 0 0 (by omega) (by omega) (by omega) (by decide) rfl) (by repeat (first | exact SubE.nil | apply SubE.cons rfl)) HSub.refl) ?_
  rintro x l' H' ⟨rfl, ⟨rfl, rfl⟩ | ⟨rfl, rfl, h0⟩⟩
  ·
    refine KBlock_r ?_
    refine KSeq_r ?_
    refine KFn_r (ResL.tmp rfl (ResL.tmp rfl (ResL.tmp rfl ResL.nil))) ?_
    exact ⟨_, (by repeat (first | exact HSub.refl | refine HSub.pick (by repeat (first | exact Pick.head | apply Pick.tail)) ?_ | apply HSub.drop)), rfl, rfl⟩
  ·
    refine KBlock_h ?_
    refine KSeq_n ?_
    refine WC_seq ?_
    refine WC_region ?_
    refine WO_step rfl (S_pure rfl ?_)
    refine WO_step rfl (S_pure rfl ?_)
    refine WO_step rfl (S_pure rfl ?_)
    refine WO_nil ?_
    refine KSeq_n ?_
    refine WC_ret ?_
    refine KFn_r (ResL.tmp rfl (ResL.tmp rfl (ResL.tmp rfl ResL.nil))) ?_
    exact ⟨_, (by repeat (first | exact HSub.refl | refine HSub.pick (by repeat (first | exact Pick.head | apply Pick.tail)) ?_ | apply HSub.drop)), rfl, by rw [h0]; rfl⟩
end Go.Proofs.YtmibhdoegcgfmaaDoor.AM
