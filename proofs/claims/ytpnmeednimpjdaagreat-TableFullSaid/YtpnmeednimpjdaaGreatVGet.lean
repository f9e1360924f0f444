/- Walks: what the functions compute. -/
import Derived.Test.YtpnmeednimpjdaaGreatVal
namespace Go.Proofs.YtpnmeednimpjdaaGreat.AM
open Go
set_option linter.unusedSimpArgs false
set_option linter.unusedVariables false
set_option maxRecDepth 4000
set_option linter.unusedSectionVars false
variable {X : Exts} [HX X]

/-! ### Numbers from bytes -/
theorem and127 : ∀ b : Fin 256, (BitVec.ofInt 8 ((b.val : Nat) : Int) &&& BitVec.ofInt 8 127).toNat = b.val % 128 := by decide
theorem S_and127 {l : SE} {H : SH} {K : Value → SH → Prop} {x : Opd} {a : Nat} (hx : x.lv l = some (.int .u8 (a : Int))) (ha : a < 256) (k : K (.int .u8 ((a % 128 : Nat) : Int)) H) : Step (.bin .and x (.const (.int .u8 127))) l H K :=
  S_pureE (v := .int .u8 (IntKind.wrap .u8 ((BitVec.ofInt 8 (a : Int) &&& BitVec.ofInt 8 127).toNat : Int))) (by
    have h2 : (Opd.const (.int .u8 127)).lv l = some (.int .u8 127) := rfl
    simp only [pev, hx, h2, binV, intBin, if_true]; rfl) (by
    rw [and127 ⟨a, ha⟩, wrap_u8 (by omega) (by simp only []; omega)]) k
def getR : List UInt8 → Nat → Nat → Int × Nat × Nat
  | [], _, _ => (0, 0, 2)
  | c :: L, i, u => if i = 9 ∧ 1 < c.toNat ∨ 0 < i ∧ c.toNat = 0 then (0, 0, 1) else if c.toNat < 128 then (unzz (u + c.toNat % 128 * 2 ^ (7 * i)), i + 1, 0) else getR L (i + 1) (u + c.toNat % 128 * 2 ^ (7 * i))
def get (bs : List UInt8) : Int × Nat × Nat := getR bs 0 0
def getV (p : Int × Nat × Nat) : Value := .tuple #[.int .i64 p.1, .int .i64 p.2.1, .int .i64 p.2.2]
theorem getV_mk (n : Int) (k e : Nat) : getV (n, k, e) = .tuple #[.int .i64 n, .int .i64 k, .int .i64 e] := rfl
theorem pow_top {i c : Nat} (hi : i ≤ 9) (hc : c < 128) (h9 : i = 9 → c ≤ 1) : c * 2 ^ (7 * i) + 2 ^ (7 * i) ≤ 18446744073709551616 := by
  have : i = 0 ∨ i = 1 ∨ i = 2 ∨ i = 3 ∨ i = 4 ∨ i = 5 ∨ i = 6 ∨ i = 7 ∨ i = 8 ∨ i = 9 := by omega
  rcases this with rfl | rfl | rfl | rfl | rfl | rfl | rfl | rfl | rfl | rfl <;> simp at h9 ⊢ <;> omega
theorem pow_next {i c : Nat} (hc : c < 128) : c * 2 ^ (7 * i) + 2 ^ (7 * i) ≤ 2 ^ (7 * (i + 1)) := by
  have h := Nat.mul_le_mul_right (2 ^ (7 * i)) (show c + 1 ≤ 128 by omega)
  rw [Nat.succ_mul] at h
  rw [show 7 * (i + 1) = 7 + 7 * i by omega, Nat.pow_add]
  exact h
theorem getR_le : ∀ (L : List UInt8) (i u : Nat), (getR L i u).2.1 ≤ i + L.length
  | [], i, u => by simp [getR]
  | c :: L, i, u => by
    unfold getR
    split
    · simp
    · split
      · simp
      · have := getR_le L (i + 1) (u + c.toNat % 128 * 2 ^ (7 * i)); simp only [List.length_cons]; omega
theorem get_le (bs : List UInt8) : (get bs).2.1 ≤ bs.length := by have := getR_le bs 0 0; unfold get; omega
theorem lp_nGet {H : SH} {v : Value} {bs : List UInt8} (hv : RD H v TByte bs) (hl : bs.length ≤ 1000000) : ∀ (n i u : Nat), bs.length - i = n → i ≤ bs.length → i ≤ 9 → u < 2 ^ (7 * i) → getR (bs.drop i) i u = get bs →
    WC F X (.loop L_num_Get_0) [(11, .int .i64 i), (10, .int .i64 bs.length), (9, v), (5, .int .u64 u)] H
      (KPost fun x l' H' => H' = H ∧ ((x = .ret ∧ l' = [(2, .int .i64 (get bs).1), (3, .int .i64 (get bs).2.1), (4, .int .i64 (get bs).2.2)]) ∨ (x = .exit 0 ∧ l' = [] ∧ get bs = (0, 0, 2)))) := by
  intro n
  induction n using Nat.strongRecOn with
  | _ n ih =>
    intro i u hn hi h9 hu ha
    refine WC_loop (WC_seq (WC_region ?_))
    refine WO_step rfl (S_pure rfl ?_)
    refine WO_nil (KSeq_n (WC_seq ?_))
    refine WC_cond rfl (fun hb1 => ?_) (fun hb1 => ?_)
    ·
     try simp only [bsT] at hb1
     obtain ⟨b, hx⟩ := get_of_lt hb1
     have hb256 := UInt8.toNat_lt b
     have hnx := pow_next (i := i) (c := b.toNat % 128) (by omega)
     have htp := pow_top (i := i) (c := b.toNat % 128) h9 (by omega)
     obtain ⟨U, hU⟩ : ∃ U, U = u + b.toNat % 128 * 2 ^ (7 * i) := ⟨_, rfl⟩
     rw [drop_get hx] at ha
     simp only [getR, ← hU] at ha
     refine WC_skip (KSeq_n (WC_seq (WC_block (WC_seq (WC_region ?_)))))
     refine WO_step rfl (S_pure rfl ?_)
     refine WO_step rfl (S_idx rfl rfl rdA (by first | rfl | assumption | (symm; assumption)) (by rfl) (by first | assumption | omega | exact lt_of_get (by assumption) | (simp only [List.length_set]; first | assumption | omega | exact lt_of_get (by assumption))) fun hp14 => ?_)
     refine WO_step rfl (S_loadE rfl rdA (by first | rfl | assumption | (symm; assumption)) (by first | rfl | assumption | (symm; assumption)) (by first | rfl | assumption | (symm; assumption)) (by assumption) ?_)
     iterate 2 refine WO_step rfl (S_pure rfl ?_)
     refine WO_nil (KSeq_n (WC_seq (WC_seq (WC_region ?_))))
     refine WO_step rfl (S_pure rfl ?_)
     first | refine WO_step rfl (S_eqS rfl rfl ?_) | refine WO_step rfl (S_pure rfl ?_)
     refine WO_step rfl (S_pure rfl ?_)
     refine WO_cases (t := 18) rfl (fun hg1 => ?_) (fun hg1 => ?_)
     ·
      try simp only [bsT] at hg1
      iterate 3 refine WO_step rfl (S_pure rfl ?_)
      refine WO_nil (KSeq_n ?_)
      refine WC_cond rfl (fun hb2 => ?_) (fun hb2 => ?_)
      ·
       try simp only [bsT] at hb2
       refine WC_seq (WC_region ?_)
       iterate 3 refine WO_step rfl (S_pure rfl ?_)
       refine WO_nil (KSeq_n (WC_ret (KSeq_r (KBlock_r (KSeq_r (KLoop_r ?_))))))
       first
         | (exfalso; omega)
         | (rw [if_pos (by omega)] at ha
            exact KPost_i (by rw [← ha]; exact seA) hsA ⟨rfl, .inl ⟨rfl, rfl⟩⟩)
         | (rw [if_neg (by omega), if_pos (by omega)] at ha
            exact KPost_i (by rw [← ha]; unfold unzz; first | (rw [if_pos (by omega)]; exact seA) | (rw [if_neg (by omega)]; exact seA)) hsA ⟨rfl, .inl ⟨rfl, rfl⟩⟩)
         | (rw [List.drop_of_length_le (by omega)] at ha
            exact KPost_i (l' := []) seA hsA ⟨rfl, .inr ⟨rfl, rfl, ha.symm⟩⟩)
      ·
       try simp only [bsT] at hb2
       refine WC_skip (KSeq_n (WC_seq (WC_region ?_)))
       iterate 2 refine WO_step rfl (S_pure rfl ?_)
       refine WO_step rfl (S_and127 rfl hb256 ?_)
       first | refine WO_step rfl (S_toU rfl (by omega) ?_) | refine WO_step rfl (S_pure rfl ?_)
       refine WO_step rfl (S_pure rfl ?_)
       first | refine WO_step rfl (S_mulN (a := 7) rfl rfl (by omega) ?_) | refine WO_step rfl (S_pure rfl ?_)
       refine WO_step rfl (S_shlU rfl rfl (by omega) (by have := htp (by omega); omega) ?_)
       refine WO_step rfl (S_orU rfl rfl hu hU (by have := htp (by omega); omega) ?_)
       have hU64 : U < 18446744073709551616 := by have := htp (by omega); omega
       refine WO_step rfl (S_pure rfl ?_)
       refine WO_nil (KSeq_n (WC_seq (WC_seq (WC_region ?_))))
       iterate 2 refine WO_step rfl (S_pure rfl ?_)
       refine WO_nil (KSeq_n ?_)
       refine WC_cond rfl (fun hb3 => ?_) (fun hb3 => ?_)
       ·
        try simp only [bsT] at hb3
        refine WC_exit (KSeq_x (KBlock_h (KSeq_n (WC_region ?_))))
        first | refine WO_step rfl (S_addN (b := 1) rfl rfl (by omega) ?_) | refine WO_step rfl (S_pure rfl ?_)
        refine WO_step rfl (S_pure rfl ?_)
        refine WO_nil (KLoop_n ?_)
        rw [if_neg (by omega), if_neg (by omega)] at ha
        exact WC_weak (ih (bs.length - (i + 1)) (by omega) (i + 1) U rfl (by omega) (by omega) (by omega) ha) seA hsA
       ·
        try simp only [bsT] at hb3
        refine WC_skip (KSeq_n (WC_seq (WC_seq (WC_region ?_))))
        iterate 3 refine WO_step rfl (S_pure rfl ?_)
        refine WO_cases (t := 34) rfl (fun hg2 => ?_) (fun hg2 => ?_)
        ·
         try simp only [bsT] at hg2
         refine WO_step rfl (S_pure rfl ?_)
         first | refine WO_step rfl (S_eqS rfl rfl ?_) | refine WO_step rfl (S_pure rfl ?_)
         refine WO_step rfl (S_pure rfl ?_)
         refine WO_nil (KSeq_n ?_)
         refine WC_cond rfl (fun hb4 => ?_) (fun hb4 => ?_)
         ·
          try simp only [bsT] at hb4
          refine WC_seq (WC_region ?_)
          iterate 3 refine WO_step rfl (S_pure rfl ?_)
          refine WO_nil (KSeq_n (WC_ret (KSeq_r (KBlock_r (KSeq_r (KLoop_r ?_))))))
          first
            | (exfalso; omega)
            | (rw [if_pos (by omega)] at ha
               exact KPost_i (by rw [← ha]; exact seA) hsA ⟨rfl, .inl ⟨rfl, rfl⟩⟩)
            | (rw [if_neg (by omega), if_pos (by omega)] at ha
               exact KPost_i (by rw [← ha]; unfold unzz; first | (rw [if_pos (by omega)]; exact seA) | (rw [if_neg (by omega)]; exact seA)) hsA ⟨rfl, .inl ⟨rfl, rfl⟩⟩)
            | (rw [List.drop_of_length_le (by omega)] at ha
               exact KPost_i (l' := []) seA hsA ⟨rfl, .inr ⟨rfl, rfl, ha.symm⟩⟩)
         ·
          try simp only [bsT] at hb4
          refine WC_skip (KSeq_n (WC_seq (WC_region ?_)))
          refine WO_step rfl (S_pure rfl ?_)
          first | refine WO_step rfl (S_half rfl (by omega) ?_) | refine WO_step rfl (S_pure rfl ?_)
          first | refine WO_step rfl (S_toI rfl (by omega) ?_) | refine WO_step rfl (S_pure rfl ?_)
          refine WO_step rfl (S_pure rfl ?_)
          refine WO_nil (KSeq_n (WC_seq (WC_seq (WC_region ?_))))
          refine WO_step rfl (S_pure rfl ?_)
          refine WO_step rfl (S_and1 rfl hU64 ?_)
          first | refine WO_step rfl (S_eqS rfl rfl ?_) | refine WO_step rfl (S_pure rfl ?_)
          refine WO_nil (KSeq_n ?_)
          refine WC_cond rfl (fun hb5 => ?_) (fun hb5 => ?_)
          ·
           try simp only [bsT] at hb5
           refine WC_region ?_
           refine WO_step rfl (S_pure rfl ?_)
           refine WO_step rfl (S_notI rfl (by omega) ?_)
           refine WO_step rfl (S_pure rfl ?_)
           refine WO_nil (KSeq_n (WC_seq (WC_region ?_)))
           iterate 2 refine WO_step rfl (S_pure rfl ?_)
           first | refine WO_step rfl (S_addN (b := 1) rfl rfl (by omega) ?_) | refine WO_step rfl (S_pure rfl ?_)
           iterate 3 refine WO_step rfl (S_pure rfl ?_)
           refine WO_nil (KSeq_n (WC_ret (KBlock_r (KSeq_r (KLoop_r ?_)))))
           first
             | (exfalso; omega)
             | (rw [if_pos (by omega)] at ha
                exact KPost_i (by rw [← ha]; exact seA) hsA ⟨rfl, .inl ⟨rfl, rfl⟩⟩)
             | (rw [if_neg (by omega), if_pos (by omega)] at ha
                exact KPost_i (by rw [← ha]; unfold unzz; first | (rw [if_pos (by omega)]; exact seA) | (rw [if_neg (by omega)]; exact seA)) hsA ⟨rfl, .inl ⟨rfl, rfl⟩⟩)
             | (rw [List.drop_of_length_le (by omega)] at ha
                exact KPost_i (l' := []) seA hsA ⟨rfl, .inr ⟨rfl, rfl, ha.symm⟩⟩)
          ·
           try simp only [bsT] at hb5
           refine WC_skip (KSeq_n (WC_seq (WC_region ?_)))
           iterate 2 refine WO_step rfl (S_pure rfl ?_)
           first | refine WO_step rfl (S_addN (b := 1) rfl rfl (by omega) ?_) | refine WO_step rfl (S_pure rfl ?_)
           iterate 3 refine WO_step rfl (S_pure rfl ?_)
           refine WO_nil (KSeq_n (WC_ret (KBlock_r (KSeq_r (KLoop_r ?_)))))
           first
             | (exfalso; omega)
             | (rw [if_pos (by omega)] at ha
                exact KPost_i (by rw [← ha]; exact seA) hsA ⟨rfl, .inl ⟨rfl, rfl⟩⟩)
             | (rw [if_neg (by omega), if_pos (by omega)] at ha
                exact KPost_i (by rw [← ha]; unfold unzz; first | (rw [if_pos (by omega)]; exact seA) | (rw [if_neg (by omega)]; exact seA)) hsA ⟨rfl, .inl ⟨rfl, rfl⟩⟩)
             | (rw [List.drop_of_length_le (by omega)] at ha
                exact KPost_i (l' := []) seA hsA ⟨rfl, .inr ⟨rfl, rfl, ha.symm⟩⟩)
        ·
         try simp only [bsT] at hg2
         iterate 2 refine WO_off rfl ?_
         refine WO_step rfl (S_pure rfl ?_)
         refine WO_nil (KSeq_n ?_)
         refine WC_cond rfl (fun h => ?_) (fun _ => ?_)
         · exact absurd h (by decide)
         refine WC_skip (KSeq_n (WC_seq (WC_region ?_)))
         refine WO_step rfl (S_pure rfl ?_)
         first | refine WO_step rfl (S_half rfl (by omega) ?_) | refine WO_step rfl (S_pure rfl ?_)
         first | refine WO_step rfl (S_toI rfl (by omega) ?_) | refine WO_step rfl (S_pure rfl ?_)
         refine WO_step rfl (S_pure rfl ?_)
         refine WO_nil (KSeq_n (WC_seq (WC_seq (WC_region ?_))))
         refine WO_step rfl (S_pure rfl ?_)
         refine WO_step rfl (S_and1 rfl hU64 ?_)
         first | refine WO_step rfl (S_eqS rfl rfl ?_) | refine WO_step rfl (S_pure rfl ?_)
         refine WO_nil (KSeq_n ?_)
         refine WC_cond rfl (fun hb6 => ?_) (fun hb6 => ?_)
         ·
          try simp only [bsT] at hb6
          refine WC_region ?_
          refine WO_step rfl (S_pure rfl ?_)
          refine WO_step rfl (S_notI rfl (by omega) ?_)
          refine WO_step rfl (S_pure rfl ?_)
          refine WO_nil (KSeq_n (WC_seq (WC_region ?_)))
          iterate 2 refine WO_step rfl (S_pure rfl ?_)
          first | refine WO_step rfl (S_addN (b := 1) rfl rfl (by omega) ?_) | refine WO_step rfl (S_pure rfl ?_)
          iterate 3 refine WO_step rfl (S_pure rfl ?_)
          refine WO_nil (KSeq_n (WC_ret (KBlock_r (KSeq_r (KLoop_r ?_)))))
          first
            | (exfalso; omega)
            | (rw [if_pos (by omega)] at ha
               exact KPost_i (by rw [← ha]; exact seA) hsA ⟨rfl, .inl ⟨rfl, rfl⟩⟩)
            | (rw [if_neg (by omega), if_pos (by omega)] at ha
               exact KPost_i (by rw [← ha]; unfold unzz; first | (rw [if_pos (by omega)]; exact seA) | (rw [if_neg (by omega)]; exact seA)) hsA ⟨rfl, .inl ⟨rfl, rfl⟩⟩)
            | (rw [List.drop_of_length_le (by omega)] at ha
               exact KPost_i (l' := []) seA hsA ⟨rfl, .inr ⟨rfl, rfl, ha.symm⟩⟩)
         ·
          try simp only [bsT] at hb6
          refine WC_skip (KSeq_n (WC_seq (WC_region ?_)))
          iterate 2 refine WO_step rfl (S_pure rfl ?_)
          first | refine WO_step rfl (S_addN (b := 1) rfl rfl (by omega) ?_) | refine WO_step rfl (S_pure rfl ?_)
          iterate 3 refine WO_step rfl (S_pure rfl ?_)
          refine WO_nil (KSeq_n (WC_ret (KBlock_r (KSeq_r (KLoop_r ?_)))))
          first
            | (exfalso; omega)
            | (rw [if_pos (by omega)] at ha
               exact KPost_i (by rw [← ha]; exact seA) hsA ⟨rfl, .inl ⟨rfl, rfl⟩⟩)
            | (rw [if_neg (by omega), if_pos (by omega)] at ha
               exact KPost_i (by rw [← ha]; unfold unzz; first | (rw [if_pos (by omega)]; exact seA) | (rw [if_neg (by omega)]; exact seA)) hsA ⟨rfl, .inl ⟨rfl, rfl⟩⟩)
            | (rw [List.drop_of_length_le (by omega)] at ha
               exact KPost_i (l' := []) seA hsA ⟨rfl, .inr ⟨rfl, rfl, ha.symm⟩⟩)
     ·
      try simp only [bsT] at hg1
      iterate 2 refine WO_off rfl ?_
      refine WO_step rfl (S_pure rfl ?_)
      refine WO_nil (KSeq_n ?_)
      refine WC_cond rfl (fun h => ?_) (fun _ => ?_)
      · exact absurd h (by decide)
      refine WC_skip (KSeq_n (WC_seq (WC_region ?_)))
      iterate 2 refine WO_step rfl (S_pure rfl ?_)
      refine WO_step rfl (S_and127 rfl hb256 ?_)
      first | refine WO_step rfl (S_toU rfl (by omega) ?_) | refine WO_step rfl (S_pure rfl ?_)
      refine WO_step rfl (S_pure rfl ?_)
      first | refine WO_step rfl (S_mulN (a := 7) rfl rfl (by omega) ?_) | refine WO_step rfl (S_pure rfl ?_)
      refine WO_step rfl (S_shlU rfl rfl (by omega) (by have := htp (by omega); omega) ?_)
      refine WO_step rfl (S_orU rfl rfl hu hU (by have := htp (by omega); omega) ?_)
      have hU64 : U < 18446744073709551616 := by have := htp (by omega); omega
      refine WO_step rfl (S_pure rfl ?_)
      refine WO_nil (KSeq_n (WC_seq (WC_seq (WC_region ?_))))
      iterate 2 refine WO_step rfl (S_pure rfl ?_)
      refine WO_nil (KSeq_n ?_)
      refine WC_cond rfl (fun hb7 => ?_) (fun hb7 => ?_)
      ·
       try simp only [bsT] at hb7
       refine WC_exit (KSeq_x (KBlock_h (KSeq_n (WC_region ?_))))
       first | refine WO_step rfl (S_addN (b := 1) rfl rfl (by omega) ?_) | refine WO_step rfl (S_pure rfl ?_)
       refine WO_step rfl (S_pure rfl ?_)
       refine WO_nil (KLoop_n ?_)
       rw [if_neg (by omega), if_neg (by omega)] at ha
       exact WC_weak (ih (bs.length - (i + 1)) (by omega) (i + 1) U rfl (by omega) (by omega) (by omega) ha) seA hsA
      ·
       try simp only [bsT] at hb7
       refine WC_skip (KSeq_n (WC_seq (WC_seq (WC_region ?_))))
       iterate 3 refine WO_step rfl (S_pure rfl ?_)
       refine WO_cases (t := 34) rfl (fun hg3 => ?_) (fun hg3 => ?_)
       ·
        try simp only [bsT] at hg3
        refine WO_step rfl (S_pure rfl ?_)
        first | refine WO_step rfl (S_eqS rfl rfl ?_) | refine WO_step rfl (S_pure rfl ?_)
        refine WO_step rfl (S_pure rfl ?_)
        refine WO_nil (KSeq_n ?_)
        refine WC_cond rfl (fun hb8 => ?_) (fun hb8 => ?_)
        ·
         try simp only [bsT] at hb8
         refine WC_seq (WC_region ?_)
         iterate 3 refine WO_step rfl (S_pure rfl ?_)
         refine WO_nil (KSeq_n (WC_ret (KSeq_r (KBlock_r (KSeq_r (KLoop_r ?_))))))
         first
           | (exfalso; omega)
           | (rw [if_pos (by omega)] at ha
              exact KPost_i (by rw [← ha]; exact seA) hsA ⟨rfl, .inl ⟨rfl, rfl⟩⟩)
           | (rw [if_neg (by omega), if_pos (by omega)] at ha
              exact KPost_i (by rw [← ha]; unfold unzz; first | (rw [if_pos (by omega)]; exact seA) | (rw [if_neg (by omega)]; exact seA)) hsA ⟨rfl, .inl ⟨rfl, rfl⟩⟩)
           | (rw [List.drop_of_length_le (by omega)] at ha
              exact KPost_i (l' := []) seA hsA ⟨rfl, .inr ⟨rfl, rfl, ha.symm⟩⟩)
        ·
         try simp only [bsT] at hb8
         refine WC_skip (KSeq_n (WC_seq (WC_region ?_)))
         refine WO_step rfl (S_pure rfl ?_)
         first | refine WO_step rfl (S_half rfl (by omega) ?_) | refine WO_step rfl (S_pure rfl ?_)
         first | refine WO_step rfl (S_toI rfl (by omega) ?_) | refine WO_step rfl (S_pure rfl ?_)
         refine WO_step rfl (S_pure rfl ?_)
         refine WO_nil (KSeq_n (WC_seq (WC_seq (WC_region ?_))))
         refine WO_step rfl (S_pure rfl ?_)
         refine WO_step rfl (S_and1 rfl hU64 ?_)
         first | refine WO_step rfl (S_eqS rfl rfl ?_) | refine WO_step rfl (S_pure rfl ?_)
         refine WO_nil (KSeq_n ?_)
         refine WC_cond rfl (fun hb9 => ?_) (fun hb9 => ?_)
         ·
          try simp only [bsT] at hb9
          refine WC_region ?_
          refine WO_step rfl (S_pure rfl ?_)
          refine WO_step rfl (S_notI rfl (by omega) ?_)
          refine WO_step rfl (S_pure rfl ?_)
          refine WO_nil (KSeq_n (WC_seq (WC_region ?_)))
          iterate 2 refine WO_step rfl (S_pure rfl ?_)
          first | refine WO_step rfl (S_addN (b := 1) rfl rfl (by omega) ?_) | refine WO_step rfl (S_pure rfl ?_)
          iterate 3 refine WO_step rfl (S_pure rfl ?_)
          refine WO_nil (KSeq_n (WC_ret (KBlock_r (KSeq_r (KLoop_r ?_)))))
          first
            | (exfalso; omega)
            | (rw [if_pos (by omega)] at ha
               exact KPost_i (by rw [← ha]; exact seA) hsA ⟨rfl, .inl ⟨rfl, rfl⟩⟩)
            | (rw [if_neg (by omega), if_pos (by omega)] at ha
               exact KPost_i (by rw [← ha]; unfold unzz; first | (rw [if_pos (by omega)]; exact seA) | (rw [if_neg (by omega)]; exact seA)) hsA ⟨rfl, .inl ⟨rfl, rfl⟩⟩)
            | (rw [List.drop_of_length_le (by omega)] at ha
               exact KPost_i (l' := []) seA hsA ⟨rfl, .inr ⟨rfl, rfl, ha.symm⟩⟩)
         ·
          try simp only [bsT] at hb9
          refine WC_skip (KSeq_n (WC_seq (WC_region ?_)))
          iterate 2 refine WO_step rfl (S_pure rfl ?_)
          first | refine WO_step rfl (S_addN (b := 1) rfl rfl (by omega) ?_) | refine WO_step rfl (S_pure rfl ?_)
          iterate 3 refine WO_step rfl (S_pure rfl ?_)
          refine WO_nil (KSeq_n (WC_ret (KBlock_r (KSeq_r (KLoop_r ?_)))))
          first
            | (exfalso; omega)
            | (rw [if_pos (by omega)] at ha
               exact KPost_i (by rw [← ha]; exact seA) hsA ⟨rfl, .inl ⟨rfl, rfl⟩⟩)
            | (rw [if_neg (by omega), if_pos (by omega)] at ha
               exact KPost_i (by rw [← ha]; unfold unzz; first | (rw [if_pos (by omega)]; exact seA) | (rw [if_neg (by omega)]; exact seA)) hsA ⟨rfl, .inl ⟨rfl, rfl⟩⟩)
            | (rw [List.drop_of_length_le (by omega)] at ha
               exact KPost_i (l' := []) seA hsA ⟨rfl, .inr ⟨rfl, rfl, ha.symm⟩⟩)
       ·
        try simp only [bsT] at hg3
        iterate 2 refine WO_off rfl ?_
        refine WO_step rfl (S_pure rfl ?_)
        refine WO_nil (KSeq_n ?_)
        refine WC_cond rfl (fun h => ?_) (fun _ => ?_)
        · exact absurd h (by decide)
        refine WC_skip (KSeq_n (WC_seq (WC_region ?_)))
        refine WO_step rfl (S_pure rfl ?_)
        first | refine WO_step rfl (S_half rfl (by omega) ?_) | refine WO_step rfl (S_pure rfl ?_)
        first | refine WO_step rfl (S_toI rfl (by omega) ?_) | refine WO_step rfl (S_pure rfl ?_)
        refine WO_step rfl (S_pure rfl ?_)
        refine WO_nil (KSeq_n (WC_seq (WC_seq (WC_region ?_))))
        refine WO_step rfl (S_pure rfl ?_)
        refine WO_step rfl (S_and1 rfl hU64 ?_)
        first | refine WO_step rfl (S_eqS rfl rfl ?_) | refine WO_step rfl (S_pure rfl ?_)
        refine WO_nil (KSeq_n ?_)
        refine WC_cond rfl (fun hb10 => ?_) (fun hb10 => ?_)
        ·
         try simp only [bsT] at hb10
         refine WC_region ?_
         refine WO_step rfl (S_pure rfl ?_)
         refine WO_step rfl (S_notI rfl (by omega) ?_)
         refine WO_step rfl (S_pure rfl ?_)
         refine WO_nil (KSeq_n (WC_seq (WC_region ?_)))
         iterate 2 refine WO_step rfl (S_pure rfl ?_)
         first | refine WO_step rfl (S_addN (b := 1) rfl rfl (by omega) ?_) | refine WO_step rfl (S_pure rfl ?_)
         iterate 3 refine WO_step rfl (S_pure rfl ?_)
         refine WO_nil (KSeq_n (WC_ret (KBlock_r (KSeq_r (KLoop_r ?_)))))
         first
           | (exfalso; omega)
           | (rw [if_pos (by omega)] at ha
              exact KPost_i (by rw [← ha]; exact seA) hsA ⟨rfl, .inl ⟨rfl, rfl⟩⟩)
           | (rw [if_neg (by omega), if_pos (by omega)] at ha
              exact KPost_i (by rw [← ha]; unfold unzz; first | (rw [if_pos (by omega)]; exact seA) | (rw [if_neg (by omega)]; exact seA)) hsA ⟨rfl, .inl ⟨rfl, rfl⟩⟩)
           | (rw [List.drop_of_length_le (by omega)] at ha
              exact KPost_i (l' := []) seA hsA ⟨rfl, .inr ⟨rfl, rfl, ha.symm⟩⟩)
        ·
         try simp only [bsT] at hb10
         refine WC_skip (KSeq_n (WC_seq (WC_region ?_)))
         iterate 2 refine WO_step rfl (S_pure rfl ?_)
         first | refine WO_step rfl (S_addN (b := 1) rfl rfl (by omega) ?_) | refine WO_step rfl (S_pure rfl ?_)
         iterate 3 refine WO_step rfl (S_pure rfl ?_)
         refine WO_nil (KSeq_n (WC_ret (KBlock_r (KSeq_r (KLoop_r ?_)))))
         first
           | (exfalso; omega)
           | (rw [if_pos (by omega)] at ha
              exact KPost_i (by rw [← ha]; exact seA) hsA ⟨rfl, .inl ⟨rfl, rfl⟩⟩)
           | (rw [if_neg (by omega), if_pos (by omega)] at ha
              exact KPost_i (by rw [← ha]; unfold unzz; first | (rw [if_pos (by omega)]; exact seA) | (rw [if_neg (by omega)]; exact seA)) hsA ⟨rfl, .inl ⟨rfl, rfl⟩⟩)
           | (rw [List.drop_of_length_le (by omega)] at ha
              exact KPost_i (l' := []) seA hsA ⟨rfl, .inr ⟨rfl, rfl, ha.symm⟩⟩)
    ·
     try simp only [bsT] at hb1
     refine WC_exit (KSeq_x (KLoop_x ?_))
     first
       | (exfalso; omega)
       | (rw [if_pos (by omega)] at ha
          exact KPost_i (by rw [← ha]; exact seA) hsA ⟨rfl, .inl ⟨rfl, rfl⟩⟩)
       | (rw [if_neg (by omega), if_pos (by omega)] at ha
          exact KPost_i (by rw [← ha]; unfold unzz; first | (rw [if_pos (by omega)]; exact seA) | (rw [if_neg (by omega)]; exact seA)) hsA ⟨rfl, .inl ⟨rfl, rfl⟩⟩)
       | (rw [List.drop_of_length_le (by omega)] at ha
          exact KPost_i (l' := []) seA hsA ⟨rfl, .inr ⟨rfl, rfl, ha.symm⟩⟩)
theorem sp_nGet {H : SH} {v : Value} {bs : List UInt8} (hv : RD H v TByte bs) (hl : bs.length ≤ 1000000) : WF F X f_num_Get [v] H (fun r H' => H' = H ∧ r = getV (get bs)) := by
  refine WF_fn F_num_Get ?_
  refine WC_seq (WC_region ?_)
  iterate 3 refine WO_step rfl (S_pure rfl ?_)
  refine WO_nil (KSeq_n (WC_seq (WC_region ?_)))
  refine WO_step rfl (S_pure rfl ?_)
  refine WO_nil (KSeq_n (WC_seq (WC_seq (WC_region ?_))))
  refine WO_step rfl (S_pure rfl ?_)
  first | refine WO_step rfl (S_pure rfl ?_) | refine WO_step rfl (S_lenS rfl rdA ?_)
  refine WO_step rfl (S_pure rfl ?_)
  refine WO_nil (KSeq_n (WC_block ?_))
  --out r x0
  refine WC_post (WC_weak (lp_nGet hv hl bs.length 0 0 (by omega) (by omega) (by omega) (by decide) rfl) seA HSub.refl) ?_
  rintro x l' H' ⟨rfl, ⟨rfl, rfl⟩ | ⟨rfl, rfl, h0⟩⟩
  ·
   refine KBlock_r (KSeq_r ?_)
   refine KFn_r (ResL.tmp rfl (ResL.tmp rfl (ResL.tmp rfl ResL.nil))) ?_
   exact ⟨_, hsA, rfl, rfl⟩
  ·
   refine KBlock_h (KSeq_n (WC_seq (WC_region ?_)))
   iterate 3 refine WO_step rfl (S_pure rfl ?_)
   refine WO_nil (KSeq_n (WC_ret ?_))
   refine KFn_r (ResL.tmp rfl (ResL.tmp rfl (ResL.tmp rfl ResL.nil))) ?_
   exact ⟨_, hsA, rfl, by rw [h0]; rfl⟩
def getT (bs : List UInt8) : ByteArray × Nat × Nat := match get bs with
  | (n, k, e) => if e ≠ 0 then (es0, 0, e) else if n < 0 ∨ 65536 < n then (es0, 0, 1) else if ((bs.length : Int) - k) < n then (es0, 0, 2) else (⟨((bs.drop k).take n.toNat).toArray⟩, k + n.toNat, 0)
def getTV (p : ByteArray × Nat × Nat) : Value := .tuple #[.string p.1, .int .i64 p.2.1, .int .i64 p.2.2]
theorem sp_nGetText {H : SH} {v : Value} {bs : List UInt8} (hv : RD H v TByte bs) (hl : bs.length ≤ 1000000) : WF F X f_num_GetText [v] H (fun r H' => H' = H ∧ r = getTV (getT bs)) := by
  have hgl := get_le bs
  refine WF_fn F_num_GetText ?_
  refine WC_seq (WC_region ?_)
  iterate 3 refine WO_step rfl (S_pure rfl ?_)
  refine WO_nil (KSeq_n (WC_seq (WC_region ?_)))
  refine WO_step rfl (S_pure rfl ?_)
  refine WO_call rfl rfl rfl ?_
  refine (sp_nGet hv hl).mono ?_
  rintro _ _ ⟨rfl, rfl⟩
  have hT : getT bs = getT bs := rfl
  conv at hT => rhs; unfold getT
  generalize get bs = p at *
  obtain ⟨n, k, e⟩ := p
  rw [getV_mk]
  simp only [] at hT hgl
  iterate 7 refine WO_step rfl (S_pure rfl ?_)
  refine WO_nil (KSeq_n (WC_seq (WC_block (WC_seq (WC_region ?_)))))
  refine WO_step rfl (S_pure rfl ?_)
  first | refine WO_step rfl (S_neS rfl rfl ?_) | refine WO_step rfl (S_pure rfl ?_)
  refine WO_step rfl (S_pure rfl ?_)
  refine WO_nil (KSeq_n ?_)
  refine WC_cond rfl (fun hb1 => ?_) (fun hb1 => ?_)
  ·
   try simp only [bsT] at hb1
   refine WC_seq (WC_region ?_)
   iterate 4 refine WO_step rfl (S_pure rfl ?_)
   refine WO_nil (KSeq_n (WC_ret (KBlock_r (KSeq_r ?_))))
   refine KFn_r (ResL.tmp rfl (ResL.tmp rfl (ResL.tmp rfl ResL.nil))) ?_
   first
     | (exfalso; omega)
     | (rw [if_pos (by omega)] at hT
        exact ⟨_, hsA, rfl, by rw [hT]; rfl⟩)
     | (rw [if_neg (by omega), if_pos (by omega)] at hT
        exact ⟨_, hsA, rfl, by rw [hT]; rfl⟩)
     | (rw [if_neg (by omega), if_neg (by omega), if_pos (by omega)] at hT
        exact ⟨_, hsA, rfl, by rw [hT]; rfl⟩)
     | (rw [if_neg (by omega), if_neg (by omega), if_neg (by omega)] at hT
        exact ⟨_, hsA, rfl, by rw [hT, show k + m - k = m by omega]; rfl⟩)
  ·
   try simp only [bsT] at hb1
   have he0 : e = 0 := by simpa using hb1
   refine WC_seq (WC_region ?_)
   iterate 3 refine WO_step rfl (S_pure rfl ?_)
   refine WO_cases (t := 21) rfl (fun hg1 => ?_) (fun hg1 => ?_)
   ·
    try simp only [bsT] at hg1
    iterate 2 refine WO_off rfl ?_
    iterate 2 refine WO_step rfl (S_pure rfl ?_)
    refine WO_nil (KSeq_n ?_)
    refine WC_cond rfl (fun _ => ?_) (fun h => ?_)
    rotate_left
    · exact absurd h (by decide)
    refine WC_seq (WC_region ?_)
    iterate 3 refine WO_step rfl (S_pure rfl ?_)
    refine WO_nil (KSeq_n (WC_ret (KBlock_r (KSeq_r ?_))))
    refine KFn_r (ResL.tmp rfl (ResL.tmp rfl (ResL.tmp rfl ResL.nil))) ?_
    first
      | (exfalso; omega)
      | (rw [if_pos (by omega)] at hT
         exact ⟨_, hsA, rfl, by rw [hT]; rfl⟩)
      | (rw [if_neg (by omega), if_pos (by omega)] at hT
         exact ⟨_, hsA, rfl, by rw [hT]; rfl⟩)
      | (rw [if_neg (by omega), if_neg (by omega), if_pos (by omega)] at hT
         exact ⟨_, hsA, rfl, by rw [hT]; rfl⟩)
      | (rw [if_neg (by omega), if_neg (by omega), if_neg (by omega)] at hT
         exact ⟨_, hsA, rfl, by rw [hT, show k + m - k = m by omega]; rfl⟩)
   ·
    try simp only [bsT] at hg1
    iterate 4 refine WO_step rfl (S_pure rfl ?_)
    refine WO_nil (KSeq_n ?_)
    refine WC_cond rfl (fun hb2 => ?_) (fun hb2 => ?_)
    ·
     try simp only [bsT] at hb2
     refine WC_seq (WC_region ?_)
     iterate 3 refine WO_step rfl (S_pure rfl ?_)
     refine WO_nil (KSeq_n (WC_ret (KBlock_r (KSeq_r ?_))))
     refine KFn_r (ResL.tmp rfl (ResL.tmp rfl (ResL.tmp rfl ResL.nil))) ?_
     first
       | (exfalso; omega)
       | (rw [if_pos (by omega)] at hT
          exact ⟨_, hsA, rfl, by rw [hT]; rfl⟩)
       | (rw [if_neg (by omega), if_pos (by omega)] at hT
          exact ⟨_, hsA, rfl, by rw [hT]; rfl⟩)
       | (rw [if_neg (by omega), if_neg (by omega), if_pos (by omega)] at hT
          exact ⟨_, hsA, rfl, by rw [hT]; rfl⟩)
       | (rw [if_neg (by omega), if_neg (by omega), if_neg (by omega)] at hT
          exact ⟨_, hsA, rfl, by rw [hT, show k + m - k = m by omega]; rfl⟩)
    ·
     try simp only [bsT] at hb2
     refine WC_seq (WC_region ?_)
     iterate 2 refine WO_step rfl (S_pure rfl ?_)
     first | refine WO_step rfl (S_pure rfl ?_) | refine WO_step rfl (S_lenS rfl rdA ?_)
     refine WO_step rfl (S_pure rfl ?_)
     refine WO_step rfl (S_pureE rfl (v' := .int .i64 ((bs.length : Int) - k)) ?_ ?_)
     · rw [wrap_i64 (by omega) (by omega)]
     iterate 2 refine WO_step rfl (S_pure rfl ?_)
     refine WO_nil (KSeq_n ?_)
     refine WC_cond rfl (fun hb3 => ?_) (fun hb3 => ?_)
     ·
      try simp only [bsT] at hb3
      refine WC_seq (WC_region ?_)
      iterate 3 refine WO_step rfl (S_pure rfl ?_)
      refine WO_nil (KSeq_n (WC_ret (KBlock_r (KSeq_r ?_))))
      refine KFn_r (ResL.tmp rfl (ResL.tmp rfl (ResL.tmp rfl ResL.nil))) ?_
      first
        | (exfalso; omega)
        | (rw [if_pos (by omega)] at hT
           exact ⟨_, hsA, rfl, by rw [hT]; rfl⟩)
        | (rw [if_neg (by omega), if_pos (by omega)] at hT
           exact ⟨_, hsA, rfl, by rw [hT]; rfl⟩)
        | (rw [if_neg (by omega), if_neg (by omega), if_pos (by omega)] at hT
           exact ⟨_, hsA, rfl, by rw [hT]; rfl⟩)
        | (rw [if_neg (by omega), if_neg (by omega), if_neg (by omega)] at hT
           exact ⟨_, hsA, rfl, by rw [hT, show k + m - k = m by omega]; rfl⟩)
     ·
      try simp only [bsT] at hb3
      refine WC_skip (KBlock_n (KSeq_n (WC_seq (WC_region ?_))))
      iterate 4 refine WO_step rfl (S_pure rfl ?_)
      obtain ⟨m, rfl⟩ : ∃ m : Nat, n = (m : Int) := ⟨n.toNat, by omega⟩
      refine WO_step rfl (S_addN rfl rfl (by omega) ?_)
      have hv37 := hv.subSl (es := 1) (lo := k) (n := k + m - k) rfl (by omega)
      refine WO_step rfl (S_cutV (a := k) (b := k + m) rfl rdA (by rfl) (LB.mk rfl rfl) (LB.mk rfl rfl) LB.dflt (by omega) (by omega) (by omega) ?_)
      refine WO_step rfl (S_strOf rfl rdA (by rfl) (by rfl) ?_)
      iterate 2 refine WO_step rfl (S_pure rfl ?_)
      first | refine WO_step rfl (S_addN rfl rfl (by omega) ?_) | refine WO_step rfl (S_pure rfl ?_)
      iterate 3 refine WO_step rfl (S_pure rfl ?_)
      refine WO_nil (KSeq_n (WC_ret ?_))
      refine KFn_r (ResL.tmp rfl (ResL.tmp rfl (ResL.tmp rfl ResL.nil))) ?_
      first
        | (exfalso; omega)
        | (rw [if_pos (by omega)] at hT
           exact ⟨_, hsA, rfl, by rw [hT]; rfl⟩)
        | (rw [if_neg (by omega), if_pos (by omega)] at hT
           exact ⟨_, hsA, rfl, by rw [hT]; rfl⟩)
        | (rw [if_neg (by omega), if_neg (by omega), if_pos (by omega)] at hT
           exact ⟨_, hsA, rfl, by rw [hT]; rfl⟩)
        | (rw [if_neg (by omega), if_neg (by omega), if_neg (by omega)] at hT
           exact ⟨_, hsA, rfl, by rw [hT, show k + m - k = m by omega]; rfl⟩)
/-! ### Values, records from bytes -/
def getVal (bs : List UInt8) : Raw × Nat × Nat := match get bs with
  | (kd, k, e) => if e ≠ 0 then (raw0, 0, e) else
    if kd = 1 then (match get (bs.drop k) with | (n, m, f) => if f ≠ 0 then (raw0, 0, f) else (⟨1, n, es0⟩, k + m, 0))
    else if kd = 2 then (match getT (bs.drop k) with | (s, m, f) => if f ≠ 0 then (raw0, 0, f) else if mayRaw ⟨2, 0, s⟩ then (⟨2, 0, s⟩, k + m, 0) else (raw0, 0, 1))
    else (raw0, 0, 1)
def getRec (bs : List UInt8) : Rec × Nat × Nat := match getT bs with
  | (q, k, e) => if e ≠ 0 then (rec0, 0, e) else if mayKey q = false then (rec0, 0, 1) else match get (bs.drop k) with
    | (kd, m, f) => if f ≠ 0 then (rec0, 0, f) else if kd = 0 then (⟨q, true, raw0⟩, k + m, 0) else match getVal (bs.drop k) with
      | (v, m, f) => if f ≠ 0 then (rec0, 0, f) else (⟨q, false, v⟩, k + m, 0)
theorem getT_le (bs : List UInt8) : (getT bs).2.1 ≤ bs.length := by
  have h := get_le bs
  unfold getT
  generalize get bs = p at *
  obtain ⟨n, k, e⟩ := p
  simp only [] at *
  split
  · simp
  · split
    · simp
    · split
      · simp
      · simp only []; omega
theorem getVal_le (bs : List UInt8) : (getVal bs).2.1 ≤ bs.length := by
  have h := get_le bs
  unfold getVal
  generalize get bs = p at *
  obtain ⟨n, k, e⟩ := p
  have h1 := get_le (bs.drop k)
  have h2 := getT_le (bs.drop k)
  rw [List.length_drop] at h1 h2
  simp only [] at h ⊢
  revert h1 h2
  generalize get (bs.drop k) = p1
  generalize getT (bs.drop k) = p2
  intro h1 h2
  obtain ⟨n1, k1, e1⟩ := p1
  obtain ⟨n2, k2, e2⟩ := p2
  simp only [] at *
  repeat' split
  all_goals (simp only []; omega)
def getValV (p : Raw × Nat × Nat) : Value := .tuple #[TRaw.val p.1, .int .i64 p.2.1, .int .i64 p.2.2]
theorem getValV_mk (r : Raw) (k e : Nat) : getValV (r, k, e) = .tuple #[TRaw.val r, .int .i64 k, .int .i64 e] := rfl
theorem getTV_mk (r : ByteArray) (k e : Nat) : getTV (r, k, e) = .tuple #[.string r, .int .i64 k, .int .i64 e] := rfl
def getRecV (p : Rec × Nat × Nat) : Value := .tuple #[TRec.val p.1, .int .i64 p.2.1, .int .i64 p.2.2]
theorem getRecV_mk (r : Rec) (k e : Nat) : getRecV (r, k, e) = .tuple #[TRec.val r, .int .i64 k, .int .i64 e] := rfl
theorem sp_vGet {H : SH} {v : Value} {bs : List UInt8} (hv : RD H v TByte bs) (hl : bs.length ≤ 1000000) : WF F X f_value_Get [v] H (fun r H' => H' = H ∧ r = getValV (getVal bs)) := by
  have hgl := get_le bs
  refine WF_fn F_value_Get ?_
  refine WC_seq (WC_region ?_)
  refine WO_step rfl (S_new fun i2 => ?_)
  iterate 2 refine WO_step rfl (S_pure rfl ?_)
  refine WO_nil (KSeq_n (WC_seq (WC_region ?_)))
  refine WO_step rfl (S_pure rfl ?_)
  refine WO_call rfl rfl rfl ?_
  refine (sp_nGet rdA hl).mono ?_
  rintro _ _ ⟨rfl, rfl⟩
  have hT : getVal bs = getVal bs := rfl
  conv at hT => rhs; unfold getVal
  generalize get bs = p at *
  obtain ⟨kd, k, e⟩ := p
  rw [getV_mk]
  simp only [] at hT hgl
  have hvd := hv.tailSl (es := 1) (a := k) rfl hgl
  have hdl : (bs.drop k).length = bs.length - k := List.length_drop ..
  have hg2 := get_le (bs.drop k)
  have hg3 := getT_le (bs.drop k)
  iterate 7 refine WO_step rfl (S_pure rfl ?_)
  refine WO_nil (KSeq_n (WC_seq (WC_seq (WC_region ?_))))
  refine WO_step rfl (S_pure rfl ?_)
  first | refine WO_step rfl (S_neS rfl rfl ?_) | refine WO_step rfl (S_pure rfl ?_)
  refine WO_nil (KSeq_n ?_)
  refine WC_cond rfl (fun hb1 => ?_) (fun hb1 => ?_)
  ·
   try simp only [bsT] at hb1
   rw [if_pos (by omega)] at hT
   refine WC_seq (WC_region ?_)
   iterate 2 refine WO_step rfl (S_pure rfl ?_)
   first | refine WO_step rfl (S_storeT rfl rfl pkA (by rfl) (by rfl) ?_) | refine WO_step rfl (S_storeO rfl rfl pkA (by first | rfl | exact SV.cells1 _) (by rfl) (by first | rfl | exact SV.ones _) ?_)
   iterate 2 refine WO_step rfl (S_pure rfl ?_)
   refine WO_nil (KSeq_n (WC_ret (KSeq_r ?_)))
   refine KFn_r (ResL.cell rfl pkA (Nat.le_of_ble_eq_true rfl) rfl (ResL.tmp rfl (ResL.tmp rfl ResL.nil))) ?_
   first
     | (exfalso; simp_all; done)
     | (exfalso; omega)
     | (cases hm : mayRaw ⟨2, 0, s⟩
        · simp only [hm] at *; first | (exfalso; simp_all; done) | exact ⟨_, hsA, rfl, by rw [hT]; rfl⟩
        · simp only [hm] at *; first | (exfalso; simp_all; done) | exact ⟨_, hsA, rfl, by rw [hT]; rfl⟩)
     | exact ⟨_, hsA, rfl, by rw [hT]; rfl⟩
  ·
   try simp only [bsT] at hb1
   have he0 : e = 0 := by simpa using hb1
   rw [if_neg (by omega)] at hT
   refine WC_skip (KSeq_n (WC_seq (WC_region ?_)))
   iterate 2 refine WO_step rfl (S_pure rfl ?_)
   refine WO_step rfl (S_new fun i8 => ?_)
   first | refine WO_step rfl (S_storeT rfl rfl pkA (by rfl) (by rfl) ?_) | refine WO_step rfl (S_storeO rfl rfl pkA (by first | rfl | exact SV.cells1 _) (by rfl) (by first | rfl | exact SV.ones _) ?_)
   refine WO_nil (KSeq_n (WC_seq (WC_region ?_)))
   refine WO_step rfl (S_pure rfl ?_)
   refine WO_nil (KSeq_n (WC_seq (WC_seq (WC_region ?_))))
   refine WO_step rfl (S_pure rfl ?_)
   refine WO_nil (KSeq_n (WC_block (WC_seq (WC_region ?_))))
   first | refine WO_step rfl (S_eqS rfl rfl ?_) | refine WO_step rfl (S_pure rfl ?_)
   refine WO_step rfl (S_pure rfl ?_)
   refine WO_nil (KSeq_n ?_)
   refine WC_cond rfl (fun hb2 => ?_) (fun hb2 => ?_)
   ·
    try simp only [bsT] at hb2
    subst hb2
    rw [if_pos rfl] at hT
    refine WC_region ?_
    iterate 2 refine WO_step rfl (S_pure rfl ?_)
    refine WO_step rfl (S_cutV (a := k) (b := bs.length) rfl rdA (by rfl) (LB.mk rfl rfl) LB.dflt LB.dflt (by omega) (by omega) (by omega) ?_)
    refine WO_call rfl rfl rfl ?_
    refine (sp_nGet rdA (by omega)).mono ?_
    rintro _ _ ⟨rfl, rfl⟩
    generalize get (bs.drop k) = p at *
    obtain ⟨n, m, f⟩ := p
    rw [getV_mk]
    simp only [] at hT hg2
    iterate 5 refine WO_step rfl (S_pure rfl ?_)
    refine WO_step rfl (S_storeO rfl rfl pkA (by first | rfl | exact SV.cells1 _) (by rfl) (by first | rfl | exact SV.ones _) ?_)
    iterate 2 refine WO_step rfl (S_pure rfl ?_)
    refine WO_nil (KBlock_n (KSeq_n (WC_seq (WC_seq (WC_region ?_)))))
    refine WO_step rfl (S_pure rfl ?_)
    first | refine WO_step rfl (S_eqS rfl rfl ?_) | refine WO_step rfl (S_pure rfl ?_)
    refine WO_nil (KSeq_n ?_)
    refine WC_cond rfl (fun hb3 => ?_) (fun hb3 => ?_)
    ·
     try simp only [bsT] at hb3
     rw [if_neg (by omega)] at hT
     have hm : mayRaw ⟨1, n, es0⟩ = true := by simp [mayRaw]
     refine WC_region ?_
     first | refine WO_step rfl (S_loadT rfl pkA (by rfl) (by rfl) ?_) | refine WO_step rfl (S_loadO rfl pkA (by rfl) (by rfl) ?_)
     refine WO_call rfl rfl rfl ?_
     refine (sp_Of (r := ⟨1, n, es0⟩)).mono ?_
     rw [hm]
     rintro _ _ ⟨rfl, c, hc, rfl⟩
     iterate 4 refine WO_step rfl (S_pure rfl ?_)
     refine WO_nil (KSeq_n (WC_seq (WC_seq (WC_region ?_))))
     refine WO_step rfl (S_pure rfl ?_)
     first | refine WO_step rfl (S_neS rfl rfl ?_) | refine WO_step rfl (S_pure rfl ?_)
     refine WO_nil (KSeq_n ?_)
     refine WC_cond rfl (fun hb4 => ?_) (fun hb4 => ?_)
     ·
      try simp only [bsT] at hb4
      exact absurd hb4 (by decide)
      --stop
     ·
      try simp only [bsT] at hb4
      refine WC_skip (KSeq_n (WC_seq (WC_region ?_)))
      first | refine WO_step rfl (S_loadT rfl pkA (by rfl) (by rfl) ?_) | refine WO_step rfl (S_loadO rfl pkA (by rfl) (by rfl) ?_)
      iterate 2 refine WO_step rfl (S_pure rfl ?_)
      first | refine WO_step rfl (S_addN rfl rfl (by omega) ?_) | refine WO_step rfl (S_pure rfl ?_)
      first | refine WO_step rfl (S_storeT rfl rfl pkA (by rfl) (by rfl) ?_) | refine WO_step rfl (S_storeO rfl rfl pkA (by first | rfl | exact SV.cells1 _) (by rfl) (by first | rfl | exact SV.ones _) ?_)
      iterate 2 refine WO_step rfl (S_pure rfl ?_)
      refine WO_nil (KSeq_n (WC_ret ?_))
      refine KFn_r (ResL.cell rfl pkA (Nat.le_of_ble_eq_true rfl) rfl (ResL.tmp rfl (ResL.tmp rfl ResL.nil))) ?_
      first
        | (exfalso; simp_all; done)
        | (exfalso; omega)
        | (cases hm : mayRaw ⟨2, 0, s⟩
           · simp only [hm] at *; first | (exfalso; simp_all; done) | exact ⟨_, hsA, rfl, by rw [hT]; rfl⟩
           · simp only [hm] at *; first | (exfalso; simp_all; done) | exact ⟨_, hsA, rfl, by rw [hT]; rfl⟩)
        | exact ⟨_, hsA, rfl, by rw [hT]; rfl⟩
    ·
     try simp only [bsT] at hb3
     rw [if_pos (by omega)] at hT
     refine WC_skip (KSeq_n (WC_seq (WC_seq (WC_region ?_))))
     refine WO_step rfl (S_pure rfl ?_)
     first | refine WO_step rfl (S_neS rfl rfl ?_) | refine WO_step rfl (S_pure rfl ?_)
     refine WO_nil (KSeq_n ?_)
     refine WC_cond rfl (fun hb5 => ?_) (fun hb5 => ?_)
     ·
      try simp only [bsT] at hb5
      refine WC_seq (WC_region ?_)
      iterate 2 refine WO_step rfl (S_pure rfl ?_)
      first | refine WO_step rfl (S_storeT rfl rfl pkA (by rfl) (by rfl) ?_) | refine WO_step rfl (S_storeO rfl rfl pkA (by first | rfl | exact SV.cells1 _) (by rfl) (by first | rfl | exact SV.ones _) ?_)
      iterate 2 refine WO_step rfl (S_pure rfl ?_)
      refine WO_nil (KSeq_n (WC_ret (KSeq_r ?_)))
      refine KFn_r (ResL.cell rfl pkA (Nat.le_of_ble_eq_true rfl) rfl (ResL.tmp rfl (ResL.tmp rfl ResL.nil))) ?_
      first
        | (exfalso; simp_all; done)
        | (exfalso; omega)
        | (cases hm : mayRaw ⟨2, 0, s⟩
           · simp only [hm] at *; first | (exfalso; simp_all; done) | exact ⟨_, hsA, rfl, by rw [hT]; rfl⟩
           · simp only [hm] at *; first | (exfalso; simp_all; done) | exact ⟨_, hsA, rfl, by rw [hT]; rfl⟩)
        | exact ⟨_, hsA, rfl, by rw [hT]; rfl⟩
     ·
      try simp only [bsT] at hb5
      refine WC_skip (KSeq_n (WC_seq (WC_region ?_)))
      first | refine WO_step rfl (S_loadT rfl pkA (by rfl) (by rfl) ?_) | refine WO_step rfl (S_loadO rfl pkA (by rfl) (by rfl) ?_)
      iterate 2 refine WO_step rfl (S_pure rfl ?_)
      first | refine WO_step rfl (S_addN rfl rfl (by omega) ?_) | refine WO_step rfl (S_pure rfl ?_)
      first | refine WO_step rfl (S_storeT rfl rfl pkA (by rfl) (by rfl) ?_) | refine WO_step rfl (S_storeO rfl rfl pkA (by first | rfl | exact SV.cells1 _) (by rfl) (by first | rfl | exact SV.ones _) ?_)
      iterate 2 refine WO_step rfl (S_pure rfl ?_)
      refine WO_nil (KSeq_n (WC_ret ?_))
      refine KFn_r (ResL.cell rfl pkA (Nat.le_of_ble_eq_true rfl) rfl (ResL.tmp rfl (ResL.tmp rfl ResL.nil))) ?_
      first
        | (exfalso; simp_all; done)
        | (exfalso; omega)
        | (cases hm : mayRaw ⟨2, 0, s⟩
           · simp only [hm] at *; first | (exfalso; simp_all; done) | exact ⟨_, hsA, rfl, by rw [hT]; rfl⟩
           · simp only [hm] at *; first | (exfalso; simp_all; done) | exact ⟨_, hsA, rfl, by rw [hT]; rfl⟩)
        | exact ⟨_, hsA, rfl, by rw [hT]; rfl⟩
   ·
    try simp only [bsT] at hb2
    rw [if_neg hb2] at hT
    refine WC_seq (WC_region ?_)
    first | refine WO_step rfl (S_eqS rfl rfl ?_) | refine WO_step rfl (S_pure rfl ?_)
    refine WO_step rfl (S_pure rfl ?_)
    refine WO_nil (KSeq_n ?_)
    refine WC_cond rfl (fun hb6 => ?_) (fun hb6 => ?_)
    ·
     try simp only [bsT] at hb6
     subst hb6
     rw [if_pos rfl] at hT
     refine WC_region ?_
     iterate 2 refine WO_step rfl (S_pure rfl ?_)
     refine WO_step rfl (S_cutV (a := k) (b := bs.length) rfl rdA (by rfl) (LB.mk rfl rfl) LB.dflt LB.dflt (by omega) (by omega) (by omega) ?_)
     refine WO_call rfl rfl rfl ?_
     refine (sp_nGetText rdA (by omega)).mono ?_
     rintro _ _ ⟨rfl, rfl⟩
     generalize getT (bs.drop k) = p at *
     obtain ⟨s, m, f⟩ := p
     rw [getTV_mk]
     simp only [] at hT hg3
     iterate 5 refine WO_step rfl (S_pure rfl ?_)
     refine WO_step rfl (S_storeO rfl rfl pkA (by first | rfl | exact SV.cells1 _) (by rfl) (by first | rfl | exact SV.ones _) ?_)
     iterate 2 refine WO_step rfl (S_pure rfl ?_)
     refine WO_nil (KBlock_n (KSeq_n (WC_seq (WC_seq (WC_region ?_)))))
     refine WO_step rfl (S_pure rfl ?_)
     first | refine WO_step rfl (S_eqS rfl rfl ?_) | refine WO_step rfl (S_pure rfl ?_)
     refine WO_nil (KSeq_n ?_)
     refine WC_cond rfl (fun hb7 => ?_) (fun hb7 => ?_)
     ·
      try simp only [bsT] at hb7
      rw [if_neg (by omega)] at hT
      refine WC_region ?_
      first | refine WO_step rfl (S_loadT rfl pkA (by rfl) (by rfl) ?_) | refine WO_step rfl (S_loadO rfl pkA (by rfl) (by rfl) ?_)
      refine WO_call rfl rfl rfl ?_
      refine (sp_Of (r := ⟨2, 0, s⟩)).mono ?_
      rintro _ _ ⟨rfl, c, hc, rfl⟩
      iterate 4 refine WO_step rfl (S_pure rfl ?_)
      refine WO_nil (KSeq_n (WC_seq (WC_seq (WC_region ?_))))
      refine WO_step rfl (S_pure rfl ?_)
      first | refine WO_step rfl (S_neS rfl rfl ?_) | refine WO_step rfl (S_pure rfl ?_)
      refine WO_nil (KSeq_n ?_)
      refine WC_cond rfl (fun hb8 => ?_) (fun hb8 => ?_)
      ·
       try simp only [bsT] at hb8
       refine WC_seq (WC_region ?_)
       iterate 2 refine WO_step rfl (S_pure rfl ?_)
       first | refine WO_step rfl (S_storeT rfl rfl pkA (by rfl) (by rfl) ?_) | refine WO_step rfl (S_storeO rfl rfl pkA (by first | rfl | exact SV.cells1 _) (by rfl) (by first | rfl | exact SV.ones _) ?_)
       iterate 2 refine WO_step rfl (S_pure rfl ?_)
       refine WO_nil (KSeq_n (WC_ret (KSeq_r ?_)))
       refine KFn_r (ResL.cell rfl pkA (Nat.le_of_ble_eq_true rfl) rfl (ResL.tmp rfl (ResL.tmp rfl ResL.nil))) ?_
       first
         | (exfalso; simp_all; done)
         | (exfalso; omega)
         | (cases hm : mayRaw ⟨2, 0, s⟩
            · simp only [hm] at *; first | (exfalso; simp_all; done) | exact ⟨_, hsA, rfl, by rw [hT]; rfl⟩
            · simp only [hm] at *; first | (exfalso; simp_all; done) | exact ⟨_, hsA, rfl, by rw [hT]; rfl⟩)
         | exact ⟨_, hsA, rfl, by rw [hT]; rfl⟩
      ·
       try simp only [bsT] at hb8
       refine WC_skip (KSeq_n (WC_seq (WC_region ?_)))
       first | refine WO_step rfl (S_loadT rfl pkA (by rfl) (by rfl) ?_) | refine WO_step rfl (S_loadO rfl pkA (by rfl) (by rfl) ?_)
       iterate 2 refine WO_step rfl (S_pure rfl ?_)
       first | refine WO_step rfl (S_addN rfl rfl (by omega) ?_) | refine WO_step rfl (S_pure rfl ?_)
       first | refine WO_step rfl (S_storeT rfl rfl pkA (by rfl) (by rfl) ?_) | refine WO_step rfl (S_storeO rfl rfl pkA (by first | rfl | exact SV.cells1 _) (by rfl) (by first | rfl | exact SV.ones _) ?_)
       iterate 2 refine WO_step rfl (S_pure rfl ?_)
       refine WO_nil (KSeq_n (WC_ret ?_))
       refine KFn_r (ResL.cell rfl pkA (Nat.le_of_ble_eq_true rfl) rfl (ResL.tmp rfl (ResL.tmp rfl ResL.nil))) ?_
       first
         | (exfalso; simp_all; done)
         | (exfalso; omega)
         | (cases hm : mayRaw ⟨2, 0, s⟩
            · simp only [hm] at *; first | (exfalso; simp_all; done) | exact ⟨_, hsA, rfl, by rw [hT]; rfl⟩
            · simp only [hm] at *; first | (exfalso; simp_all; done) | exact ⟨_, hsA, rfl, by rw [hT]; rfl⟩)
         | exact ⟨_, hsA, rfl, by rw [hT]; rfl⟩
     ·
      try simp only [bsT] at hb7
      rw [if_pos (by omega)] at hT
      refine WC_skip (KSeq_n (WC_seq (WC_seq (WC_region ?_))))
      refine WO_step rfl (S_pure rfl ?_)
      first | refine WO_step rfl (S_neS rfl rfl ?_) | refine WO_step rfl (S_pure rfl ?_)
      refine WO_nil (KSeq_n ?_)
      refine WC_cond rfl (fun hb9 => ?_) (fun hb9 => ?_)
      ·
       try simp only [bsT] at hb9
       refine WC_seq (WC_region ?_)
       iterate 2 refine WO_step rfl (S_pure rfl ?_)
       first | refine WO_step rfl (S_storeT rfl rfl pkA (by rfl) (by rfl) ?_) | refine WO_step rfl (S_storeO rfl rfl pkA (by first | rfl | exact SV.cells1 _) (by rfl) (by first | rfl | exact SV.ones _) ?_)
       iterate 2 refine WO_step rfl (S_pure rfl ?_)
       refine WO_nil (KSeq_n (WC_ret (KSeq_r ?_)))
       refine KFn_r (ResL.cell rfl pkA (Nat.le_of_ble_eq_true rfl) rfl (ResL.tmp rfl (ResL.tmp rfl ResL.nil))) ?_
       first
         | (exfalso; simp_all; done)
         | (exfalso; omega)
         | (cases hm : mayRaw ⟨2, 0, s⟩
            · simp only [hm] at *; first | (exfalso; simp_all; done) | exact ⟨_, hsA, rfl, by rw [hT]; rfl⟩
            · simp only [hm] at *; first | (exfalso; simp_all; done) | exact ⟨_, hsA, rfl, by rw [hT]; rfl⟩)
         | exact ⟨_, hsA, rfl, by rw [hT]; rfl⟩
      ·
       try simp only [bsT] at hb9
       refine WC_skip (KSeq_n (WC_seq (WC_region ?_)))
       first | refine WO_step rfl (S_loadT rfl pkA (by rfl) (by rfl) ?_) | refine WO_step rfl (S_loadO rfl pkA (by rfl) (by rfl) ?_)
       iterate 2 refine WO_step rfl (S_pure rfl ?_)
       first | refine WO_step rfl (S_addN rfl rfl (by omega) ?_) | refine WO_step rfl (S_pure rfl ?_)
       first | refine WO_step rfl (S_storeT rfl rfl pkA (by rfl) (by rfl) ?_) | refine WO_step rfl (S_storeO rfl rfl pkA (by first | rfl | exact SV.cells1 _) (by rfl) (by first | rfl | exact SV.ones _) ?_)
       iterate 2 refine WO_step rfl (S_pure rfl ?_)
       refine WO_nil (KSeq_n (WC_ret ?_))
       refine KFn_r (ResL.cell rfl pkA (Nat.le_of_ble_eq_true rfl) rfl (ResL.tmp rfl (ResL.tmp rfl ResL.nil))) ?_
       first
         | (exfalso; simp_all; done)
         | (exfalso; omega)
         | (cases hm : mayRaw ⟨2, 0, s⟩
            · simp only [hm] at *; first | (exfalso; simp_all; done) | exact ⟨_, hsA, rfl, by rw [hT]; rfl⟩
            · simp only [hm] at *; first | (exfalso; simp_all; done) | exact ⟨_, hsA, rfl, by rw [hT]; rfl⟩)
         | exact ⟨_, hsA, rfl, by rw [hT]; rfl⟩
    ·
     try simp only [bsT] at hb6
     rw [if_neg hb6] at hT
     refine WC_region ?_
     refine WO_step rfl (S_pure rfl ?_)
     refine WO_nil (KBlock_n (KSeq_n (WC_seq (WC_seq (WC_region ?_)))))
     refine WO_step rfl (S_pure rfl ?_)
     first | refine WO_step rfl (S_eqS rfl rfl ?_) | refine WO_step rfl (S_pure rfl ?_)
     refine WO_nil (KSeq_n ?_)
     refine WC_cond rfl (fun hb10 => ?_) (fun hb10 => ?_)
     ·
      try simp only [bsT] at hb10
      exact absurd hb10 (by decide)
      --stop
     ·
      try simp only [bsT] at hb10
      refine WC_skip (KSeq_n (WC_seq (WC_seq (WC_region ?_))))
      refine WO_step rfl (S_pure rfl ?_)
      first | refine WO_step rfl (S_neS rfl rfl ?_) | refine WO_step rfl (S_pure rfl ?_)
      refine WO_nil (KSeq_n ?_)
      refine WC_cond rfl (fun hb11 => ?_) (fun hb11 => ?_)
      ·
       try simp only [bsT] at hb11
       refine WC_seq (WC_region ?_)
       iterate 2 refine WO_step rfl (S_pure rfl ?_)
       first | refine WO_step rfl (S_storeT rfl rfl pkA (by rfl) (by rfl) ?_) | refine WO_step rfl (S_storeO rfl rfl pkA (by first | rfl | exact SV.cells1 _) (by rfl) (by first | rfl | exact SV.ones _) ?_)
       iterate 2 refine WO_step rfl (S_pure rfl ?_)
       refine WO_nil (KSeq_n (WC_ret (KSeq_r ?_)))
       refine KFn_r (ResL.cell rfl pkA (Nat.le_of_ble_eq_true rfl) rfl (ResL.tmp rfl (ResL.tmp rfl ResL.nil))) ?_
       first
         | (exfalso; simp_all; done)
         | (exfalso; omega)
         | (cases hm : mayRaw ⟨2, 0, s⟩
            · simp only [hm] at *; first | (exfalso; simp_all; done) | exact ⟨_, hsA, rfl, by rw [hT]; rfl⟩
            · simp only [hm] at *; first | (exfalso; simp_all; done) | exact ⟨_, hsA, rfl, by rw [hT]; rfl⟩)
         | exact ⟨_, hsA, rfl, by rw [hT]; rfl⟩
      ·
       try simp only [bsT] at hb11
       refine WC_skip (KSeq_n (WC_seq (WC_region ?_)))
       first | refine WO_step rfl (S_loadT rfl pkA (by rfl) (by rfl) ?_) | refine WO_step rfl (S_loadO rfl pkA (by rfl) (by rfl) ?_)
       iterate 2 refine WO_step rfl (S_pure rfl ?_)
       first | refine WO_step rfl (S_addN rfl rfl (by omega) ?_) | refine WO_step rfl (S_pure rfl ?_)
       first | refine WO_step rfl (S_storeT rfl rfl pkA (by rfl) (by rfl) ?_) | refine WO_step rfl (S_storeO rfl rfl pkA (by first | rfl | exact SV.cells1 _) (by rfl) (by first | rfl | exact SV.ones _) ?_)
       iterate 2 refine WO_step rfl (S_pure rfl ?_)
       refine WO_nil (KSeq_n (WC_ret ?_))
       refine KFn_r (ResL.cell rfl pkA (Nat.le_of_ble_eq_true rfl) rfl (ResL.tmp rfl (ResL.tmp rfl ResL.nil))) ?_
       first
         | (exfalso; simp_all; done)
         | (exfalso; omega)
         | (cases hm : mayRaw ⟨2, 0, s⟩
            · simp only [hm] at *; first | (exfalso; simp_all; done) | exact ⟨_, hsA, rfl, by rw [hT]; rfl⟩
            · simp only [hm] at *; first | (exfalso; simp_all; done) | exact ⟨_, hsA, rfl, by rw [hT]; rfl⟩)
         | exact ⟨_, hsA, rfl, by rw [hT]; rfl⟩
theorem sp_rGet {H : SH} {v : Value} {bs : List UInt8} (hv : RD H v TByte bs) (hl : bs.length ≤ 1000000) : WF F X f_record_Get [v] H (fun r H' => H' = H ∧ r = getRecV (getRec bs)) := by
  have hgl := getT_le bs
  refine WF_fn F_record_Get ?_
  refine WC_seq (WC_region ?_)
  refine WO_step rfl (S_new fun i2 => ?_)
  iterate 2 refine WO_step rfl (S_pure rfl ?_)
  refine WO_nil (KSeq_n (WC_seq (WC_region ?_)))
  refine WO_step rfl (S_pure rfl ?_)
  refine WO_call rfl rfl rfl ?_
  refine (sp_nGetText rdA hl).mono ?_
  rintro _ _ ⟨rfl, rfl⟩
  have hT : getRec bs = getRec bs := rfl
  conv at hT => rhs; unfold getRec
  generalize getT bs = p at *
  obtain ⟨q, k, e⟩ := p
  rw [getTV_mk]
  simp only [] at hT hgl
  have hvd := hv.tailSl (es := 1) (a := k) rfl hgl
  have hdl : (bs.drop k).length = bs.length - k := List.length_drop ..
  have hg2 := get_le (bs.drop k)
  have hg3 := getVal_le (bs.drop k)
  iterate 7 refine WO_step rfl (S_pure rfl ?_)
  refine WO_nil (KSeq_n (WC_seq (WC_seq (WC_region ?_))))
  refine WO_step rfl (S_pure rfl ?_)
  first | refine WO_step rfl (S_eqS rfl rfl ?_) | refine WO_step rfl (S_pure rfl ?_)
  refine WO_step rfl (S_pure rfl ?_)
  refine WO_cases (t := 19) rfl (fun hg1 => ?_) (fun hg1 => ?_)
  ·
   try simp only [bsT] at hg1
   have he0 : e = 0 := by omega
   rw [if_neg (by omega)] at hT
   refine WO_step rfl (S_pure rfl ?_)
   refine WO_call rfl rfl rfl ?_
   refine sp_kMay.mono ?_
   rintro _ _ ⟨rfl, rfl⟩
   iterate 2 refine WO_step rfl (S_pure rfl ?_)
   refine WO_nil (KSeq_n ?_)
   refine WC_cond rfl (fun hb1 => ?_) (fun hb1 => ?_)
   ·
    try simp only [bsT] at hb1
    rw [if_pos hb1] at hT
    refine WC_region ?_
    refine WO_step rfl (S_pure rfl ?_)
    refine WO_nil (KSeq_n (WC_seq (WC_seq (WC_region ?_))))
    refine WO_step rfl (S_pure rfl ?_)
    first | refine WO_step rfl (S_neS rfl rfl ?_) | refine WO_step rfl (S_pure rfl ?_)
    refine WO_nil (KSeq_n ?_)
    refine WC_cond rfl (fun hb2 => ?_) (fun hb2 => ?_)
    ·
     try simp only [bsT] at hb2
     refine WC_seq (WC_region ?_)
     iterate 2 refine WO_step rfl (S_pure rfl ?_)
     first | refine WO_step rfl (S_storeT rfl rfl pkA (by rfl) (by rfl) ?_) | refine WO_step rfl (S_storeO rfl rfl pkA (by first | rfl | exact SV.cells1 _) (by rfl) (by first | rfl | exact SV.ones _) ?_)
     iterate 2 refine WO_step rfl (S_pure rfl ?_)
     refine WO_nil (KSeq_n (WC_ret (KSeq_r ?_)))
     refine KFn_r (ResL.cell rfl pkA (Nat.le_of_ble_eq_true rfl) rfl (ResL.tmp rfl (ResL.tmp rfl ResL.nil))) ?_
     exact ⟨_, hsA, rfl, by rw [hT]; rfl⟩
    ·
     try simp only [bsT] at hb2
     exact absurd hb2 (by decide)
     --stop
   ·
    try simp only [bsT] at hb1
    rw [if_neg (by simp [hb1])] at hT
    refine WC_skip (KSeq_n (WC_seq (WC_seq (WC_region ?_))))
    refine WO_step rfl (S_pure rfl ?_)
    first | refine WO_step rfl (S_neS rfl rfl ?_) | refine WO_step rfl (S_pure rfl ?_)
    refine WO_nil (KSeq_n ?_)
    refine WC_cond rfl (fun hb3 => ?_) (fun hb3 => ?_)
    ·
     try simp only [bsT] at hb3
     exact absurd hb3 (by omega)
     --stop
    ·
     try simp only [bsT] at hb3
     refine WC_skip (KSeq_n (WC_seq (WC_region ?_)))
     iterate 2 refine WO_step rfl (S_pure rfl ?_)
     refine WO_step rfl (S_new fun i8 => ?_)
     first | refine WO_step rfl (S_storeT rfl rfl pkA (by rfl) (by rfl) ?_) | refine WO_step rfl (S_storeO rfl rfl pkA (by first | rfl | exact SV.cells1 _) (by rfl) (by first | rfl | exact SV.ones _) ?_)
     refine WO_nil (KSeq_n (WC_seq (WC_region ?_)))
     iterate 2 refine WO_step rfl (S_pure rfl ?_)
     refine WO_step rfl (S_cutV (a := k) (b := bs.length) rfl rdA (by rfl) (LB.mk rfl rfl) LB.dflt LB.dflt (by omega) (by omega) (by omega) ?_)
     refine WO_call rfl rfl rfl ?_
     refine (sp_nGet rdA (by omega)).mono ?_
     rintro _ _ ⟨rfl, rfl⟩
     generalize get (bs.drop k) = p at *
     obtain ⟨kd, m, f⟩ := p
     rw [getV_mk]
     simp only [] at hT hg2
     iterate 7 refine WO_step rfl (S_pure rfl ?_)
     refine WO_nil (KSeq_n (WC_seq (WC_block (WC_seq (WC_region ?_)))))
     refine WO_step rfl (S_pure rfl ?_)
     first | refine WO_step rfl (S_neS rfl rfl ?_) | refine WO_step rfl (S_pure rfl ?_)
     refine WO_step rfl (S_pure rfl ?_)
     refine WO_nil (KSeq_n ?_)
     refine WC_cond rfl (fun hb4 => ?_) (fun hb4 => ?_)
     ·
      try simp only [bsT] at hb4
      rw [if_pos (by omega)] at hT
      refine WC_skip (KBlock_n (KSeq_n (WC_seq (WC_seq (WC_region ?_)))))
      refine WO_step rfl (S_pure rfl ?_)
      first | refine WO_step rfl (S_neS rfl rfl ?_) | refine WO_step rfl (S_pure rfl ?_)
      refine WO_nil (KSeq_n ?_)
      refine WC_cond rfl (fun hb5 => ?_) (fun hb5 => ?_)
      ·
       try simp only [bsT] at hb5
       refine WC_seq (WC_region ?_)
       iterate 2 refine WO_step rfl (S_pure rfl ?_)
       first | refine WO_step rfl (S_storeT rfl rfl pkA (by rfl) (by rfl) ?_) | refine WO_step rfl (S_storeO rfl rfl pkA (by first | rfl | exact SV.cells1 _) (by rfl) (by first | rfl | exact SV.ones _) ?_)
       iterate 2 refine WO_step rfl (S_pure rfl ?_)
       refine WO_nil (KSeq_n (WC_ret (KSeq_r ?_)))
       refine KFn_r (ResL.cell rfl pkA (Nat.le_of_ble_eq_true rfl) rfl (ResL.tmp rfl (ResL.tmp rfl ResL.nil))) ?_
       exact ⟨_, hsA, rfl, by rw [hT]; rfl⟩
      ·
       try simp only [bsT] at hb5
       exact absurd (by simpa using hb5) hb4
       --stop
     ·
      try simp only [bsT] at hb4
      have hf0 : f = 0 := by simpa using hb4
      rw [if_neg (by omega)] at hT
      refine WC_seq (WC_region ?_)
      refine WO_step rfl (S_pure rfl ?_)
      first | refine WO_step rfl (S_eqS rfl rfl ?_) | refine WO_step rfl (S_pure rfl ?_)
      refine WO_step rfl (S_pure rfl ?_)
      refine WO_nil (KSeq_n ?_)
      refine WC_cond rfl (fun hb6 => ?_) (fun hb6 => ?_)
      ·
       try simp only [bsT] at hb6
       rw [if_pos hb6] at hT
       refine WC_region ?_
       refine WO_step rfl (S_pure rfl ?_)
       refine WO_step rfl (S_storeO rfl rfl pkA (by first | rfl | exact SV.cells1 _) (by rfl) (by first | rfl | exact SV.ones _) ?_)
       refine WO_nil (KBlock_n (KSeq_n (WC_seq (WC_seq (WC_region ?_)))))
       refine WO_step rfl (S_pure rfl ?_)
       first | refine WO_step rfl (S_neS rfl rfl ?_) | refine WO_step rfl (S_pure rfl ?_)
       refine WO_nil (KSeq_n ?_)
       refine WC_cond rfl (fun hb7 => ?_) (fun hb7 => ?_)
       ·
        try simp only [bsT] at hb7
        exact absurd hb7 (by omega)
        --stop
       ·
        try simp only [bsT] at hb7
        refine WC_skip (KSeq_n (WC_seq (WC_region ?_)))
        first | refine WO_step rfl (S_loadT rfl pkA (by rfl) (by rfl) ?_) | refine WO_step rfl (S_loadO rfl pkA (by rfl) (by rfl) ?_)
        iterate 2 refine WO_step rfl (S_pure rfl ?_)
        first | refine WO_step rfl (S_addN rfl rfl (by omega) ?_) | refine WO_step rfl (S_pure rfl ?_)
        first | refine WO_step rfl (S_storeT rfl rfl pkA (by rfl) (by rfl) ?_) | refine WO_step rfl (S_storeO rfl rfl pkA (by first | rfl | exact SV.cells1 _) (by rfl) (by first | rfl | exact SV.ones _) ?_)
        iterate 2 refine WO_step rfl (S_pure rfl ?_)
        refine WO_nil (KSeq_n (WC_ret ?_))
        refine KFn_r (ResL.cell rfl pkA (Nat.le_of_ble_eq_true rfl) rfl (ResL.tmp rfl (ResL.tmp rfl ResL.nil))) ?_
        exact ⟨_, hsA, rfl, by rw [hT]; rfl⟩
      ·
       try simp only [bsT] at hb6
       rw [if_neg hb6] at hT
       refine WC_region ?_
       iterate 2 refine WO_step rfl (S_pure rfl ?_)
       refine WO_step rfl (S_cutV (a := k) (b := bs.length) rfl rdA (by rfl) (LB.mk rfl rfl) LB.dflt LB.dflt (by omega) (by omega) (by omega) ?_)
       refine WO_call rfl rfl rfl ?_
       refine (sp_vGet rdA (by omega)).mono ?_
       rintro _ _ ⟨rfl, rfl⟩
       generalize getVal (bs.drop k) = p at *
       obtain ⟨r, m2, f2⟩ := p
       rw [getValV_mk]
       simp only [] at hT hg3
       iterate 5 refine WO_step rfl (S_pure rfl ?_)
       refine WO_step rfl (S_storeO rfl rfl pkA (by first | rfl | exact SV.cells1 _) (by rfl) (by first | rfl | exact SV.ones _) ?_)
       iterate 2 refine WO_step rfl (S_pure rfl ?_)
       refine WO_nil (KBlock_n (KSeq_n (WC_seq (WC_seq (WC_region ?_)))))
       refine WO_step rfl (S_pure rfl ?_)
       first | refine WO_step rfl (S_neS rfl rfl ?_) | refine WO_step rfl (S_pure rfl ?_)
       refine WO_nil (KSeq_n ?_)
       refine WC_cond rfl (fun hb8 => ?_) (fun hb8 => ?_)
       ·
        try simp only [bsT] at hb8
        rw [if_pos (by omega)] at hT
        refine WC_seq (WC_region ?_)
        iterate 2 refine WO_step rfl (S_pure rfl ?_)
        first | refine WO_step rfl (S_storeT rfl rfl pkA (by rfl) (by rfl) ?_) | refine WO_step rfl (S_storeO rfl rfl pkA (by first | rfl | exact SV.cells1 _) (by rfl) (by first | rfl | exact SV.ones _) ?_)
        iterate 2 refine WO_step rfl (S_pure rfl ?_)
        refine WO_nil (KSeq_n (WC_ret (KSeq_r ?_)))
        refine KFn_r (ResL.cell rfl pkA (Nat.le_of_ble_eq_true rfl) rfl (ResL.tmp rfl (ResL.tmp rfl ResL.nil))) ?_
        exact ⟨_, hsA, rfl, by rw [hT]; rfl⟩
       ·
        try simp only [bsT] at hb8
        have hf20 : f2 = 0 := by simpa using hb8
        rw [if_neg (by omega)] at hT
        refine WC_skip (KSeq_n (WC_seq (WC_region ?_)))
        first | refine WO_step rfl (S_loadT rfl pkA (by rfl) (by rfl) ?_) | refine WO_step rfl (S_loadO rfl pkA (by rfl) (by rfl) ?_)
        iterate 2 refine WO_step rfl (S_pure rfl ?_)
        first | refine WO_step rfl (S_addN rfl rfl (by omega) ?_) | refine WO_step rfl (S_pure rfl ?_)
        first | refine WO_step rfl (S_storeT rfl rfl pkA (by rfl) (by rfl) ?_) | refine WO_step rfl (S_storeO rfl rfl pkA (by first | rfl | exact SV.cells1 _) (by rfl) (by first | rfl | exact SV.ones _) ?_)
        iterate 2 refine WO_step rfl (S_pure rfl ?_)
        refine WO_nil (KSeq_n (WC_ret ?_))
        refine KFn_r (ResL.cell rfl pkA (Nat.le_of_ble_eq_true rfl) rfl (ResL.tmp rfl (ResL.tmp rfl ResL.nil))) ?_
        exact ⟨_, hsA, rfl, by rw [hT]; rfl⟩
  ·
   try simp only [bsT] at hg1
   rw [if_pos (by omega)] at hT
   iterate 3 refine WO_off rfl ?_
   refine WO_step rfl (S_pure rfl ?_)
   refine WO_nil (KSeq_n ?_)
   refine WC_cond rfl (fun h => ?_) (fun _ => ?_)
   · exact absurd h (by decide)
   refine WC_skip (KSeq_n (WC_seq (WC_seq (WC_region ?_))))
   refine WO_step rfl (S_pure rfl ?_)
   first | refine WO_step rfl (S_neS rfl rfl ?_) | refine WO_step rfl (S_pure rfl ?_)
   refine WO_nil (KSeq_n ?_)
   refine WC_cond rfl (fun hb9 => ?_) (fun hb9 => ?_)
   ·
    try simp only [bsT] at hb9
    refine WC_seq (WC_region ?_)
    iterate 2 refine WO_step rfl (S_pure rfl ?_)
    first | refine WO_step rfl (S_storeT rfl rfl pkA (by rfl) (by rfl) ?_) | refine WO_step rfl (S_storeO rfl rfl pkA (by first | rfl | exact SV.cells1 _) (by rfl) (by first | rfl | exact SV.ones _) ?_)
    iterate 2 refine WO_step rfl (S_pure rfl ?_)
    refine WO_nil (KSeq_n (WC_ret (KSeq_r ?_)))
    refine KFn_r (ResL.cell rfl pkA (Nat.le_of_ble_eq_true rfl) rfl (ResL.tmp rfl (ResL.tmp rfl ResL.nil))) ?_
    exact ⟨_, hsA, rfl, by rw [hT]; rfl⟩
   ·
    try simp only [bsT] at hb9
    exact absurd (by simpa using hb9) hg1
    --stop

end Go.Proofs.YtpnmeednimpjdaaGreat.AM
