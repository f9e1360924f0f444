/- Walks: what the functions compute. -/
import Derived.Test.YtmibhdoegcgfmaaDoorM5
import Derived.Test.YtmibhdoegcgfmaaDoorArith
namespace Go.Proofs.YtmibhdoegcgfmaaDoor.AM
open Go
set_option linter.unusedSimpArgs false
set_option linter.unusedVariables false
set_option maxRecDepth 4000

/-! ### Numbers as bytes -/
def zz (n : Int) : Nat := if n < 0 then (-2 * n - 1).toNat else (2 * n).toNat
def unzz (u : Nat) : Int := if u % 2 = 1 then -((u / 2 : Nat) : Int) - 1 else ((u / 2 : Nat) : Int)
def encU (u : Nat) : List UInt8 := if u < 128 then [UInt8.ofNat u] else UInt8.ofNat (u % 128 + 128) :: encU (u / 128)
termination_by u
def put (n : Int) : List UInt8 := encU (zz n)
def putText (s : ByteArray) : List UInt8 := put s.size ++ s.data.toList
def putVal (r : Raw) : List UInt8 := put r.kind ++ if r.kind = 1 then put r.n else putText r.s
def putRec (r : Rec) : List UInt8 := putText r.key ++ if r.gone then put 0 else putVal r.val
theorem unzz_zz (n : Int) : unzz (zz n) = n := by
  unfold unzz zz; split <;> split <;> omega
theorem zz_lt {n : Int} (h1 : -9223372036854775808 ≤ n) (h2 : n < 9223372036854775808) : zz n < 18446744073709551616 := by
  unfold zz; split <;> omega
theorem encU_lt {u : Nat} (h : u < 128) : encU u = [UInt8.ofNat u] := by rw [encU, if_pos h]
theorem encU_ge {u : Nat} (h : 128 ≤ u) : encU u = UInt8.ofNat (u % 128 + 128) :: encU (u / 128) := by rw [encU, if_neg (by omega)]
theorem encU_len : ∀ (k u : Nat), u < 128 ^ (k + 1) → (encU u).length ≤ k + 1
  | 0, u, h => by rw [encU_lt (by simpa using h)]; simp
  | k + 1, u, h => by
    by_cases hu : u < 128
    · rw [encU_lt hu]; simp
    · rw [encU_ge (by omega), List.length_cons]
      have := encU_len k (u / 128) (by rw [Nat.pow_succ] at h; omega)
      omega
theorem encU_pos (u : Nat) : 1 ≤ (encU u).length := by rw [encU]; split <;> simp
theorem put_len {n : Int} (h1 : -9223372036854775808 ≤ n) (h2 : n < 9223372036854775808) : (put n).length ≤ 10 := encU_len 9 _ (Nat.lt_of_lt_of_le (zz_lt h1 h2) (by decide))
theorem put_pos (n : Int) : 1 ≤ (put n).length := encU_pos _
theorem enc_B {k : Nat} (h : k < 256) : Value.int .u8 (k : Int) = encByte (UInt8.ofNat k) := by
  unfold encByte; congr 1; rw [UInt8.toNat_ofNat_of_lt' h]
theorem S_lit1B {l : SE} {H : SH} {K : Value → SH → Prop} {x : Opd} {z : Value} {k : Nat} (hx : x.lv l = some (.int .u8 (k : Int))) (hk : k < 256) (kk : ∀ w : SV, K w.toV (SL w.toV TByte [UInt8.ofNat k] :: H)) : Step (.lit 5 1 1 [z] [(0, (1, x))]) l H K :=
  S_lit1 (T := TByte) (y := UInt8.ofNat k) (vs := [.int .u8 (k : Int)]) (by simp [lfill, hx, AM.cells, Value.cells]; rfl) (by rw [enc_B hk]; rfl) rfl rfl kk
theorem S_toB {l : SE} {H : SH} {K : Value → SH → Prop} {x : Opd} {a : Nat} {kd : IntKind} (hx : x.lv l = some (.int kd (a : Int))) (k : K (.int .u8 ((a % 256 : Nat) : Int)) H) : Step (.conv .u8 x) l H K :=
  S_pureE (v := .int .u8 (IntKind.wrap .u8 (a : Int))) (by simp only [pev, hx]) (by rw [wrapB]; rfl) k
theorem or128 : ∀ b : Fin 256, (BitVec.ofInt 8 ((b.val : Nat) : Int) ||| BitVec.ofInt 8 128).toNat = b.val % 128 + 128 := by decide
theorem S_or128 {l : SE} {H : SH} {K : Value → SH → Prop} {x : Opd} {a : Nat} (hx : x.lv l = some (.int .u8 (a : Int))) (ha : a < 256) (k : K (.int .u8 ((a % 128 + 128 : Nat) : Int)) H) : Step (.bin .or x (.const (.int .u8 128))) l H K :=
  S_pureE (v := .int .u8 (IntKind.wrap .u8 ((BitVec.ofInt 8 (a : Int) ||| BitVec.ofInt 8 128).toNat : Int))) (by
    have h2 : (Opd.const (.int .u8 128)).lv l = some (.int .u8 128) := rfl
    simp only [pev, hx, h2, binV, intBin, if_true]; rfl) (by
    rw [or128 ⟨a, ha⟩, wrap_u8 (by omega) (by simp only []; omega)]) k
theorem lp_nPut {H : SH} : ∀ (n u : Nat) (w : SV) (bs : List UInt8), u = n → u < 18446744073709551616 → (bs ++ encU u).length ≤ 1000000 →
    WC F X (.loop L_num_Put_0) [(0, w.toV), (5, .int .u64 u)] (SL w.toV TByte bs :: H)
      (KPost fun x l' H' => ∃ (w' : SV) (bs' : List UInt8) (u' : Nat), x = .exit 0 ∧ l' = [(0, w'.toV), (5, .int .u64 u')] ∧ H' = SL w'.toV TByte bs' :: H ∧ u' < 128 ∧ bs' ++ [UInt8.ofNat u'] = bs ++ encU u) := by
  intro n
  induction n using Nat.strongRecOn with
  | _ n ih =>
    intro u w bs hn hu hl
    refine WC_loop ?_
    refine WC_seq ?_
    refine WC_seq ?_
    refine WC_region ?_
    refine WO_step rfl (S_pure rfl ?_)
    refine WO_step rfl (S_pure rfl ?_)
    refine WO_nil ?_
    refine KSeq_n ?_
    refine WC_cond rfl (fun hb1 => ?_) (fun hb1 => ?_)
    ·
      try simp only [decide_eq_true_eq, decide_eq_false_iff_not, Bool.not_eq_true', Bool.not_eq_false', beq_iff_eq, bne_iff_ne, beq_eq_false_iff_ne, Int.ofNat_lt, Int.ofNat_le, Int.ofNat_inj, ne_eq, gt_iff_lt, ge_iff_le] at hb1
      have hge : 128 ≤ u := by omega
      rw [encU_ge hge] at hl
      simp only [List.length_append, List.length_cons] at hl
      refine WC_skip ?_
      refine KSeq_n ?_
      refine WC_block ?_
      refine WC_seq ?_
      refine WC_region ?_
      refine WO_step rfl (S_pure rfl ?_)
      refine WO_step rfl (S_pure rfl ?_)
      refine WO_step rfl (S_toB rfl ?_)
      refine WO_step rfl (S_or128 rfl (by omega) ?_)
      refine WO_step rfl (S_lit1B rfl (by omega) fun w19 => ?_)
      refine WO_step rfl (S_app rfl rfl (by repeat (first | exact Pick.head | apply Pick.tail)) (by first | exact SRC.str rfl rfl | (apply RD.src; repeat (first | assumption | exact RD.head | exact RD.nil | apply RD.tail))) (by rfl) (by rfl) (by (try simp only [List.length_append, List.length_cons, List.length_nil]); omega) fun w20 => ?_)
      refine WO_step rfl (S_pure rfl ?_)
      refine WO_nil ?_
      refine KSeq_n ?_
      refine WC_region ?_
      refine WO_step rfl (S_pure rfl ?_)
      refine WO_step rfl (S_shr7 rfl ?_)
      refine WO_step rfl (S_pure rfl ?_)
      refine WO_nil ?_
      refine KBlock_n ?_
      refine KLoop_n ?_
      rw [encU_ge hge, show u % 256 % 128 = u % 128 by omega]
      have := ih (u / 128) (by omega) (u / 128) w20 (bs ++ [UInt8.ofNat (u % 128 + 128)]) rfl (by omega) (by simp only [List.length_append, List.length_cons, List.length_nil]; omega)
      rw [List.append_assoc] at this
      exact WC_weak this (by repeat (first | exact SubE.nil | apply SubE.cons rfl)) (by repeat (first | exact HSub.refl | refine HSub.pick (by repeat (first | exact Pick.head | apply Pick.tail)) ?_ | apply HSub.drop))
    ·
      try simp only [decide_eq_true_eq, decide_eq_false_iff_not, Bool.not_eq_true', Bool.not_eq_false', beq_iff_eq, bne_iff_ne, beq_eq_false_iff_ne, Int.ofNat_lt, Int.ofNat_le, Int.ofNat_inj, ne_eq, gt_iff_lt, ge_iff_le] at hb1
      refine WC_exit ?_
      refine KSeq_x ?_
      refine KLoop_x ?_
      exact KPost_i (by repeat (first | exact SubE.nil | apply SubE.cons rfl)) (by repeat (first | exact HSub.refl | refine HSub.pick (by repeat (first | exact Pick.head | apply Pick.tail)) ?_ | apply HSub.drop)) ⟨w, bs, u, rfl, rfl, rfl, by omega, by rw [encU_lt (by omega)]⟩
theorem sp_nPut {H H0 : SH} {w : SV} {bs : List UInt8} {n : Int} (hp : Pick (SL w.toV TByte bs) H H0) (h1 : -9223372036854775808 ≤ n) (h2 : n < 9223372036854775808) (hl : bs.length ≤ 900000) : WF F X f_num_Put [w.toV, .int .i64 n] H (fun r H' => ∃ w' : SV, H' = SL w'.toV TByte (bs ++ put n) :: H0 ∧ r = w'.toV) := by
  refine WF.weak ?_ (HSub.ofPick hp)
  have hz := zz_lt h1 h2
  have hpl := put_len h1 h2
  refine WF_fn F_num_Put ?_
  refine WC_seq ?_
  refine WC_region ?_
  refine WO_step rfl (S_pure rfl ?_)
  refine WO_nil ?_
  refine KSeq_n ?_
  refine WC_seq ?_
  refine WC_region ?_
  refine WO_step rfl (S_pure rfl ?_)
  refine WO_step rfl (S_pureE rfl (v' := .int .u64 ((n % 18446744073709551616).toNat : Int)) ?_ ?_)
  · rw [wrapU]; congr 1; omega
  refine WO_step rfl (S_pureE rfl (v' := .int .u64 (((2 * n) % 18446744073709551616).toNat : Int)) ?_ ?_)
  · show Value.int .u64 (IntKind.wrap .u64 (_ * 2)) = _
    rw [wrapU]; congr 1; omega
  refine WO_step rfl (S_pure rfl ?_)
  refine WO_nil ?_
  refine KSeq_n ?_
  refine WC_seq ?_
  refine WC_post (P := fun x l' H' => x = .normal ∧ l' = [(0, w.toV), (5, .int .u64 (zz n))] ∧ H' = SL w.toV TByte bs :: H0) ?_ ?_
  ·
    refine WC_seq ?_
    refine WC_region ?_
    refine WO_step rfl (S_pure rfl ?_)
    refine WO_step rfl (S_pure rfl ?_)
    refine WO_nil ?_
    refine KSeq_n ?_
    refine WC_cond rfl (fun hb1 => ?_) (fun hb1 => ?_)
    ·
      try simp only [decide_eq_true_eq, decide_eq_false_iff_not, Bool.not_eq_true', Bool.not_eq_false', beq_iff_eq, bne_iff_ne, beq_eq_false_iff_ne, Int.ofNat_lt, Int.ofNat_le, Int.ofNat_inj, ne_eq, gt_iff_lt, ge_iff_le] at hb1
      refine WC_region ?_
      refine WO_step rfl (S_pure rfl ?_)
      refine WO_step rfl (S_xorU rfl (by omega) ?_)
      refine WO_step rfl (S_pure rfl ?_)
      refine WO_nil ?_
      refine KPost_i (l' := [(0, w.toV), (5, .int .u64 (zz n))]) (by
        refine SubE.cons rfl (SubE.consEq rfl ?_ SubE.nil)
        congr 2; unfold zz; split <;> omega) (by repeat (first | exact HSub.refl | refine HSub.pick (by repeat (first | exact Pick.head | apply Pick.tail)) ?_ | apply HSub.drop)) ⟨rfl, rfl, rfl⟩
    ·
      try simp only [decide_eq_true_eq, decide_eq_false_iff_not, Bool.not_eq_true', Bool.not_eq_false', beq_iff_eq, bne_iff_ne, beq_eq_false_iff_ne, Int.ofNat_lt, Int.ofNat_le, Int.ofNat_inj, ne_eq, gt_iff_lt, ge_iff_le] at hb1
      refine WC_skip ?_
      refine KPost_i (l' := [(0, w.toV), (5, .int .u64 (zz n))]) (by
        refine SubE.cons rfl (SubE.consEq rfl ?_ SubE.nil)
        congr 2; unfold zz; split <;> omega) (by repeat (first | exact HSub.refl | refine HSub.pick (by repeat (first | exact Pick.head | apply Pick.tail)) ?_ | apply HSub.drop)) ⟨rfl, rfl, rfl⟩
  ·
    rintro x l' H' ⟨rfl, rfl, rfl⟩
    refine KSeq_n ?_
    refine WC_seq ?_
    refine WC_block ?_
    refine WC_post (WC_weak (lp_nPut (zz n) (zz n) w bs rfl hz (by rw [List.length_append]; unfold put at hpl; omega)) (by repeat (first | exact SubE.nil | apply SubE.cons rfl)) (by repeat (first | exact HSub.refl | refine HSub.pick (by repeat (first | exact Pick.head | apply Pick.tail)) ?_ | apply HSub.drop))) ?_
    rintro x l' H' ⟨w', bs', u', rfl, rfl, rfl, hu', he⟩
    have hbl : bs'.length + 1 ≤ 1000000 := by
      have := congrArg List.length he
      rw [List.length_append, List.length_append] at this
      simp only [List.length_cons, List.length_nil] at this
      unfold put at hpl; omega
    refine KBlock_h ?_
    refine KSeq_n ?_
    refine WC_seq ?_
    refine WC_region ?_
    refine WO_step rfl (S_pure rfl ?_)
    refine WO_step rfl (S_pure rfl ?_)
    refine WO_step rfl (S_toB rfl ?_)
    refine WO_step rfl (S_lit1B rfl (by omega) fun w26 => ?_)
    refine WO_step rfl (S_app rfl rfl (by repeat (first | exact Pick.head | apply Pick.tail)) (by first | exact SRC.str rfl rfl | (apply RD.src; repeat (first | assumption | exact RD.head | exact RD.nil | apply RD.tail))) (by rfl) (by rfl) (by (try simp only [List.length_append, List.length_cons, List.length_nil]); omega) fun w27 => ?_)
    refine WO_step rfl (S_pure rfl ?_)
    refine WO_nil ?_
    refine KSeq_n ?_
    refine WC_ret ?_
    refine KFn_r (ResL.tmp rfl ResL.nil) ?_
    refine ⟨SL w27.toV TByte (bs' ++ [UInt8.ofNat (u' % 256)]) :: H0, (by repeat (first | exact HSub.refl | refine HSub.pick (by repeat (first | exact Pick.head | apply Pick.tail)) ?_ | apply HSub.drop)), w27, ?_, rfl⟩
    rw [show u' % 256 = u' by omega, he]; rfl
theorem lp_refPut {H : SH} : ∀ (n u : Nat) (w : SV) (bs : List UInt8), u = n → u < 18446744073709551616 → (bs ++ encU u).length ≤ 1000000 →
    WC F X (.loop L_loessref1_Put_0) [(4, w.toV), (3, .int .u64 u)] (SL w.toV TByte bs :: H)
      (KPost fun x l' H' => ∃ (w' : SV) (bs' : List UInt8) (u' : Nat), x = .exit 0 ∧ l' = [(4, w'.toV), (3, .int .u64 u')] ∧ H' = SL w'.toV TByte bs' :: H ∧ u' < 128 ∧ bs' ++ [UInt8.ofNat u'] = bs ++ encU u) := by
  intro n
  induction n using Nat.strongRecOn with
  | _ n ih =>
    intro u w bs hn hu hl
    refine WC_loop ?_
    refine WC_seq ?_
    refine WC_seq ?_
    refine WC_region ?_
    refine WO_step rfl (S_pure rfl ?_)
    refine WO_step rfl (S_pure rfl ?_)
    refine WO_nil ?_
    refine KSeq_n ?_
    refine WC_cond rfl (fun hb1 => ?_) (fun hb1 => ?_)
    ·
      try simp only [decide_eq_true_eq, decide_eq_false_iff_not, Bool.not_eq_true', Bool.not_eq_false', beq_iff_eq, bne_iff_ne, beq_eq_false_iff_ne, Int.ofNat_lt, Int.ofNat_le, Int.ofNat_inj, ne_eq, gt_iff_lt, ge_iff_le] at hb1
      have hge : 128 ≤ u := by omega
      rw [encU_ge hge] at hl
      simp only [List.length_append, List.length_cons] at hl
      refine WC_skip ?_
      refine KSeq_n ?_
      refine WC_block ?_
      refine WC_seq ?_
      refine WC_region ?_
      refine WO_step rfl (S_pure rfl ?_)
      refine WO_step rfl (S_pure rfl ?_)
      refine WO_step rfl (S_remU (m := 128) rfl rfl (by decide) ?_)
      refine WO_step rfl (S_pureE rfl (v' := .int .u64 ((u % 128 + 128 : Nat) : Int)) ?_ ?_)
      · rw [wrapU]; congr 1; omega
      refine WO_step rfl (S_toB rfl ?_)
      refine WO_step rfl (S_lit1B rfl (by omega) fun w19 => ?_)
      refine WO_step rfl (S_app rfl rfl (by repeat (first | exact Pick.head | apply Pick.tail)) (by first | exact SRC.str rfl rfl | (apply RD.src; repeat (first | assumption | exact RD.head | exact RD.nil | apply RD.tail))) (by rfl) (by rfl) (by (try simp only [List.length_append, List.length_cons, List.length_nil]); omega) fun w20 => ?_)
      refine WO_step rfl (S_pure rfl ?_)
      refine WO_nil ?_
      refine KSeq_n ?_
      refine WC_region ?_
      refine WO_step rfl (S_pure rfl ?_)
      refine WO_step rfl (S_quoU (m := 128) rfl rfl hu (by decide) ?_)
      refine WO_step rfl (S_pure rfl ?_)
      refine WO_nil ?_
      refine KBlock_n ?_
      refine KLoop_n ?_
      rw [encU_ge hge, show (u % 128 + 128) % 256 = u % 128 + 128 by omega]
      have := ih (u / 128) (by omega) (u / 128) w20 (bs ++ [UInt8.ofNat (u % 128 + 128)]) rfl (by omega) (by simp only [List.length_append, List.length_cons, List.length_nil]; omega)
      rw [List.append_assoc] at this
      exact WC_weak this (by repeat (first | exact SubE.nil | apply SubE.cons rfl)) (by repeat (first | exact HSub.refl | refine HSub.pick (by repeat (first | exact Pick.head | apply Pick.tail)) ?_ | apply HSub.drop))
    ·
      try simp only [decide_eq_true_eq, decide_eq_false_iff_not, Bool.not_eq_true', Bool.not_eq_false', beq_iff_eq, bne_iff_ne, beq_eq_false_iff_ne, Int.ofNat_lt, Int.ofNat_le, Int.ofNat_inj, ne_eq, gt_iff_lt, ge_iff_le] at hb1
      refine WC_exit ?_
      refine KSeq_x ?_
      refine KLoop_x ?_
      exact KPost_i (by repeat (first | exact SubE.nil | apply SubE.cons rfl)) (by repeat (first | exact HSub.refl | refine HSub.pick (by repeat (first | exact Pick.head | apply Pick.tail)) ?_ | apply HSub.drop)) ⟨w, bs, u, rfl, rfl, rfl, by omega, by rw [encU_lt (by omega)]⟩
theorem sp_refPut {H : SH} {n : Int} (h1 : -9223372036854775808 ≤ n) (h2 : n < 9223372036854775808) : WF F X f_loessref1_Put [.int .i64 n] H (fun r H' => ∃ w' : SV, H' = SL w'.toV TByte (put n) :: H ∧ r = w'.toV) := by
  have hz := zz_lt h1 h2
  have hpl := put_len h1 h2
  refine WF_fn F_loessref1_Put ?_
  refine WC_seq ?_
  refine WC_region ?_
  refine WO_step rfl (S_pure rfl ?_)
  refine WO_nil ?_
  refine KSeq_n ?_
  refine WC_seq ?_
  refine WC_region ?_
  refine WO_step rfl (S_pure rfl ?_)
  refine WO_step rfl (S_pureE rfl (v' := .int .u64 ((n % 18446744073709551616).toNat : Int)) ?_ ?_)
  · rw [wrapU]; congr 1; omega
  refine WO_step rfl (S_pureE rfl (v' := .int .u64 (((2 * n) % 18446744073709551616).toNat : Int)) ?_ ?_)
  · rw [wrapU]; congr 1; omega
  refine WO_step rfl (S_pure rfl ?_)
  refine WO_nil ?_
  refine KSeq_n ?_
  refine WC_seq ?_
  refine WC_post (P := fun x l' H' => x = .normal ∧ l' = [(3, .int .u64 (zz n))] ∧ H = H') ?_ ?_
  ·
    refine WC_seq ?_
    refine WC_region ?_
    refine WO_step rfl (S_pure rfl ?_)
    refine WO_step rfl (S_pure rfl ?_)
    refine WO_nil ?_
    refine KSeq_n ?_
    refine WC_cond rfl (fun hb1 => ?_) (fun hb1 => ?_)
    ·
      try simp only [decide_eq_true_eq, decide_eq_false_iff_not, Bool.not_eq_true', Bool.not_eq_false', beq_iff_eq, bne_iff_ne, beq_eq_false_iff_ne, Int.ofNat_lt, Int.ofNat_le, Int.ofNat_inj, ne_eq, gt_iff_lt, ge_iff_le] at hb1
      refine WC_region ?_
      refine WO_step rfl (S_pure rfl ?_)
      refine WO_step rfl (S_xorU rfl (by omega) ?_)
      refine WO_step rfl (S_pure rfl ?_)
      refine WO_nil ?_
      refine KPost_i (l' := [(3, .int .u64 (zz n))]) (by
        refine SubE.consEq rfl ?_ SubE.nil
        congr 2; unfold zz; split <;> omega) (by repeat (first | exact HSub.refl | refine HSub.pick (by repeat (first | exact Pick.head | apply Pick.tail)) ?_ | apply HSub.drop)) ⟨rfl, rfl, rfl⟩
    ·
      try simp only [decide_eq_true_eq, decide_eq_false_iff_not, Bool.not_eq_true', Bool.not_eq_false', beq_iff_eq, bne_iff_ne, beq_eq_false_iff_ne, Int.ofNat_lt, Int.ofNat_le, Int.ofNat_inj, ne_eq, gt_iff_lt, ge_iff_le] at hb1
      refine WC_skip ?_
      refine KPost_i (l' := [(3, .int .u64 (zz n))]) (by
        refine SubE.consEq rfl ?_ SubE.nil
        congr 2; unfold zz; split <;> omega) (by repeat (first | exact HSub.refl | refine HSub.pick (by repeat (first | exact Pick.head | apply Pick.tail)) ?_ | apply HSub.drop)) ⟨rfl, rfl, rfl⟩
  ·
    rintro x l' H' ⟨rfl, rfl, rfl⟩
    refine KSeq_n ?_
    refine WC_seq ?_
    refine WC_region ?_
    refine WO_step rfl (S_pure rfl ?_)
    refine WO_nil ?_
    refine KSeq_n ?_
    refine WC_seq ?_
    refine WC_block ?_
    refine WC_view (H' := SL (SV.toV .nil) TByte [] :: _) (fun h hh => (HAg.addNil hh)) ?_
    refine WC_post (WC_weak (lp_refPut (zz n) (zz n) .nil [] rfl hz (by rw [List.nil_append]; unfold put at hpl; omega)) (by repeat (first | exact SubE.nil | apply SubE.cons rfl)) (by repeat (first | exact HSub.refl | refine HSub.pick (by repeat (first | exact Pick.head | apply Pick.tail)) ?_ | apply HSub.drop))) ?_
    rintro x l' H' ⟨w', bs', u', rfl, rfl, rfl, hu', he⟩
    rw [List.nil_append] at he
    have hbl : bs'.length + 1 ≤ 1000000 := by
      have := congrArg List.length he
      rw [List.length_append] at this
      simp only [List.length_cons, List.length_nil] at this
      unfold put at hpl; omega
    refine KBlock_h ?_
    refine KSeq_n ?_
    refine WC_seq ?_
    refine WC_region ?_
    refine WO_step rfl (S_pure rfl ?_)
    refine WO_step rfl (S_pure rfl ?_)
    refine WO_step rfl (S_toB rfl ?_)
    refine WO_step rfl (S_lit1B rfl (by omega) fun w26 => ?_)
    refine WO_step rfl (S_app rfl rfl (by repeat (first | exact Pick.head | apply Pick.tail)) (by first | exact SRC.str rfl rfl | (apply RD.src; repeat (first | assumption | exact RD.head | exact RD.nil | apply RD.tail))) (by rfl) (by rfl) (by (try simp only [List.length_append, List.length_cons, List.length_nil]); omega) fun w27 => ?_)
    refine WO_step rfl (S_pure rfl ?_)
    refine WO_nil ?_
    refine KSeq_n ?_
    refine WC_ret ?_
    refine KFn_r (ResL.tmp rfl ResL.nil) ?_
    refine ⟨SL w27.toV TByte (bs' ++ [UInt8.ofNat (u' % 256)]) :: H, (by repeat (first | exact HSub.refl | refine HSub.pick (by repeat (first | exact Pick.head | apply Pick.tail)) ?_ | apply HSub.drop)), w27, ?_, rfl⟩
    rw [show u' % 256 = u' by omega, he]; rfl
end Go.Proofs.YtmibhdoegcgfmaaDoor.AM
