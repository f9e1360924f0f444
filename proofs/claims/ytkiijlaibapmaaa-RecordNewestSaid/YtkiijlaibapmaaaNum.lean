/- Walks: what the functions compute. -/
import Derived.Test.YtkiijlaibapmaaaM6
namespace Go.Proofs.Ytkiijlaibapmaaa.AM
open Go
set_option linter.unusedSimpArgs false
set_option linter.unusedVariables false
set_option maxRecDepth 4000

/-! ### Numbers as bytes -/
theorem lt_of_put {α : Type} {l : List α} {n : Nat} (h : l.length ≤ n) (m : Nat) (hm : n ≤ m) : l.length ≤ m := Nat.le_trans h hm
def zz (n : Int) : Nat := if n < 0 then (-2 * n - 1).toNat else (2 * n).toNat
def unzz (u : Nat) : Int := if u % 2 = 1 then -((u / 2 : Nat) : Int) - 1 else ((u / 2 : Nat) : Int)
def encU (u : Nat) : List UInt8 := if u < 128 then [UInt8.ofNat u] else UInt8.ofNat (u % 128 + 128) :: encU (u / 128)
termination_by u
def put (n : Int) : List UInt8 := encU (zz n)
def putText (s : ByteArray) : List UInt8 := put s.size ++ s.data.toList
def putVal (r : Raw) : List UInt8 := put r.kind ++ if r.kind = 1 then put r.n else putText r.s
def putRec (r : Rec) : List UInt8 := putText r.key ++ if r.gone then put 0 else putVal r.val
theorem unzz_zz (n : Int) : unzz (zz n) = n := by
  unfold unzz zz; split <;> split <;> omega
theorem zz_lt {n : Int} (h1 : -9223372036854775808 ≤ n) (h2 : n < 9223372036854775808) : zz n < 18446744073709551616 := by
  unfold zz; split <;> omega
theorem encU_lt {u : Nat} (h : u < 128) : encU u = [UInt8.ofNat u] := by rw [encU, if_pos h]
theorem encU_ge {u : Nat} (h : 128 ≤ u) : encU u = UInt8.ofNat (u % 128 + 128) :: encU (u / 128) := by rw [encU, if_neg (by omega)]
theorem encU_len : ∀ (k u : Nat), u < 128 ^ (k + 1) → (encU u).length ≤ k + 1
  | 0, u, h => by rw [encU_lt (by simpa using h)]; simp
  | k + 1, u, h => by
    by_cases hu : u < 128
    · rw [encU_lt hu]; simp
    · rw [encU_ge (by omega), List.length_cons]
      have := encU_len k (u / 128) (by rw [Nat.pow_succ] at h; omega)
      omega
theorem encU_pos (u : Nat) : 1 ≤ (encU u).length := by rw [encU]; split <;> simp
theorem put_len {n : Int} (h1 : -9223372036854775808 ≤ n) (h2 : n < 9223372036854775808) : (put n).length ≤ 10 := encU_len 9 _ (Nat.lt_of_lt_of_le (zz_lt h1 h2) (by decide))
theorem put_pos (n : Int) : 1 ≤ (put n).length := encU_pos _
theorem WF_addNil {f : FuncId} {vs : List Value} {H : SH} {Q : Value → SH → Prop} {α : Type} {T : Ty α} (h : WF F X f vs (SL (SV.toV .nil) T [] :: H) Q) : WF F X f vs H Q := fun a hH => h a (HAg.addNil hH)
theorem HSub.ofPick {r : Res} {H H0 : SH} (h : Pick r H H0) : HSub H (r :: H0) := HSub.pick h HSub.refl
theorem wrapU (m : Int) : IntKind.wrap .u64 m = m % 18446744073709551616 := by
  unfold IntKind.wrap
  simp only [IntKind.bits, IntKind.signed, Bool.false_and, if_false]
  simp
theorem wrapB (m : Int) : IntKind.wrap .u8 m = m % 256 := by
  unfold IntKind.wrap
  simp only [IntKind.bits, IntKind.signed, Bool.false_and, if_false]
  simp
theorem enc_B {k : Nat} (h : k < 256) : Value.int .u8 (k : Int) = encByte (UInt8.ofNat k) := by
  unfold encByte; congr 1; rw [UInt8.toNat_ofNat_of_lt' h]
theorem S_lit1B {l : SE} {H : SH} {K : Value → SH → Prop} {x : Opd} {z : Value} {k : Nat} (hx : x.lv l = some (.int .u8 (k : Int))) (hk : k < 256) (kk : ∀ w : SV, K w.toV (SL w.toV TByte [UInt8.ofNat k] :: H)) : Step (.lit 5 1 1 [z] [(0, (1, x))]) l H K :=
  S_lit1 (T := TByte) (y := UInt8.ofNat k) (vs := [.int .u8 (k : Int)]) (by simp [lfill, hx, AM.cells, Value.cells]; rfl) (by rw [enc_B hk]; rfl) rfl rfl kk
theorem S_toB {l : SE} {H : SH} {K : Value → SH → Prop} {x : Opd} {a : Nat} {kd : IntKind} (hx : x.lv l = some (.int kd (a : Int))) (k : K (.int .u8 ((a % 256 : Nat) : Int)) H) : Step (.conv .u8 x) l H K :=
  S_pureE (v := .int .u8 (IntKind.wrap .u8 (a : Int))) (by simp only [pev, hx]) (by rw [wrapB]; rfl) k
theorem or128 : ∀ b : Fin 256, (BitVec.ofInt 8 ((b.val : Nat) : Int) ||| BitVec.ofInt 8 128).toNat = b.val % 128 + 128 := by decide
theorem S_or128 {l : SE} {H : SH} {K : Value → SH → Prop} {x : Opd} {a : Nat} (hx : x.lv l = some (.int .u8 (a : Int))) (ha : a < 256) (k : K (.int .u8 ((a % 128 + 128 : Nat) : Int)) H) : Step (.bin .or x (.const (.int .u8 128))) l H K :=
  S_pureE (v := .int .u8 (IntKind.wrap .u8 ((BitVec.ofInt 8 (a : Int) ||| BitVec.ofInt 8 128).toNat : Int))) (by
    have h2 : (Opd.const (.int .u8 128)).lv l = some (.int .u8 128) := rfl
    simp only [pev, hx, h2, binV, intBin, if_true]; rfl) (by
    rw [or128 ⟨a, ha⟩, wrap_u8 (by omega) (by simp only []; omega)]) k
theorem S_shr7 {l : SE} {H : SH} {K : Value → SH → Prop} {x : Opd} {a : Nat} (hx : x.lv l = some (.int .u64 (a : Int))) (k : K (.int .u64 ((a / 128 : Nat) : Int)) H) : Step (.bin .shr x (.const (.int .u64 7))) l H K :=
  S_pureE (v := .int .u64 ((a : Int).fdiv (2 ^ min (Int.toNat 7) IntKind.u64.bits))) (by
    have h2 : (Opd.const (.int .u64 7)).lv l = some (.int .u64 7) := rfl
    simp only [pev, hx, h2, binV]; rfl) (by
    have e : (2 ^ min (Int.toNat 7) IntKind.u64.bits : Int) = 128 := rfl
    have e2 : (a : Int).fdiv 128 = ((a / 128 : Nat) : Int) := by rw [Int.fdiv_eq_ediv_of_nonneg _ (by omega)]; omega
    rw [e, e2]) k
theorem xorU {a : Nat} (ha : a < 18446744073709551616) : (BitVec.ofInt 64 18446744073709551615 ^^^ BitVec.ofInt 64 (a : Int)).toNat = 18446744073709551615 - a := by
  rw [show BitVec.ofInt 64 18446744073709551615 = BitVec.allOnes 64 by decide, BitVec.allOnes_xor, BitVec.toNat_not]
  have : (BitVec.ofInt 64 (a : Int)).toNat = a := by rw [BitVec.ofInt_natCast, BitVec.toNat_ofNat]; omega
  rw [this]
theorem S_xorU {l : SE} {H : SH} {K : Value → SH → Prop} {x : Opd} {a : Nat} (hx : x.lv l = some (.int .u64 (a : Int))) (ha : a < 18446744073709551616) (k : K (.int .u64 ((18446744073709551615 - a : Nat) : Int)) H) : Step (.un .xor x) l H K :=
  S_pureE (v := .int .u64 (IntKind.wrap .u64 ((BitVec.ofInt 64 18446744073709551615 ^^^ BitVec.ofInt 64 (a : Int)).toNat : Int))) (by simp only [pev, hx, unV]; rfl) (by rw [xorU ha, wrap_u64 (by omega) (by omega)]) k
theorem S_quoU {l : SE} {H : SH} {K : Value → SH → Prop} {x : Opd} {a m : Nat} {M : Int} (hx : x.lv l = some (.int .u64 (a : Int))) (hM : M = (m : Int)) (ha : a < 18446744073709551616) (hm : 0 < m) (k : K (.int .u64 ((a / m : Nat) : Int)) H) : Step (.bin .quo x (.const (.int .u64 M))) l H K :=
  S_pureE (v := .int .u64 (IntKind.wrap .u64 ((a : Int).tdiv M))) (by
    have h2 : (Opd.const (.int .u64 M)).lv l = some (.int .u64 M) := rfl
    simp only [pev, hx, h2, binV, intBin, if_true]; rw [if_neg (by omega)]) (by
    have h := Nat.div_le_self a m
    rw [hM, ← Int.ofNat_tdiv]
    generalize a / m = q at *
    rw [wrap_u64 (by omega) (by omega)]) k
theorem S_remU {l : SE} {H : SH} {K : Value → SH → Prop} {x : Opd} {a m : Nat} {M : Int} {kd : IntKind} (hx : x.lv l = some (.int kd (a : Int))) (hM : M = (m : Int)) (hm : 0 < m) (k : K (.int kd ((a % m : Nat) : Int)) H) : Step (.bin .rem x (.const (.int kd M))) l H K :=
  S_pureE (v := .int kd ((a : Int).tmod M)) (by
    have h2 : (Opd.const (.int kd M)).lv l = some (.int kd M) := rfl
    simp only [pev, hx, h2, binV, intBin, if_true]; rw [if_neg (by omega)]) (by
    rw [hM, ← Int.ofNat_tmod]) k
theorem lp_nPut {H : SH} : ∀ (n u : Nat) (w : SV) (bs : List UInt8), u = n → u < 18446744073709551616 → (bs ++ encU u).length ≤ 1000000 →
    WC F X (.loop L_num_Put_0) [(0, w.toV), (5, .int .u64 u)] (SL w.toV TByte bs :: H)
      (KPost fun x l' H' => ∃ (w' : SV) (bs' : List UInt8) (u' : Nat), x = .exit 0 ∧ l' = [(0, w'.toV), (5, .int .u64 u')] ∧ H' = SL w'.toV TByte bs' :: H ∧ u' < 128 ∧ bs' ++ [UInt8.ofNat u'] = bs ++ encU u) := by
  intro n
  induction n using Nat.strongRecOn with
  | _ n ih =>
    intro u w bs hn hu hl
    refine WC_loop ?_
    refine WC_seq ?_
    refine WC_seq ?_
    refine WC_region ?_
    refine WO_step rfl (S_pure rfl ?_)
    refine WO_step rfl (S_pure rfl ?_)
    refine WO_nil ?_
    refine KSeq_n ?_
    refine WC_cond rfl (fun hb1 => ?_) (fun hb1 => ?_)
    ·
      try simp only [decide_eq_true_eq, decide_eq_false_iff_not, Bool.not_eq_true', Bool.not_eq_false', beq_iff_eq, bne_iff_ne, beq_eq_false_iff_ne, Int.ofNat_lt, Int.ofNat_le, Int.ofNat_inj, ne_eq, gt_iff_lt, ge_iff_le] at hb1
      have hge : 128 ≤ u := by omega
      rw [encU_ge hge] at hl
      simp only [List.length_append, List.length_cons] at hl
      refine WC_skip ?_
      refine KSeq_n ?_
      refine WC_block ?_
      refine WC_seq ?_
      refine WC_region ?_
      refine WO_step rfl (S_pure rfl ?_)
      refine WO_step rfl (S_pure rfl ?_)
      refine WO_step rfl (S_toB rfl ?_)
      refine WO_step rfl (S_or128 rfl (by omega) ?_)
      refine WO_step rfl (S_lit1B rfl (by omega) fun w19 => ?_)
      refine WO_step rfl (S_app rfl rfl (by repeat (first | exact Pick.head | apply Pick.tail)) (by first | exact SRC.str rfl rfl | (apply RD.src; repeat (first | assumption | exact RD.head | exact RD.nil | apply RD.tail))) (by rfl) (by rfl) (by (try simp only [List.length_append, List.length_cons, List.length_nil]); omega) fun w20 => ?_)
      refine WO_step rfl (S_pure rfl ?_)
      refine WO_nil ?_
      refine KSeq_n ?_
      refine WC_region ?_
      refine WO_step rfl (S_pure rfl ?_)
      refine WO_step rfl (S_shr7 rfl ?_)
      refine WO_step rfl (S_pure rfl ?_)
      refine WO_nil ?_
      refine KBlock_n ?_
      refine KLoop_n ?_
      rw [encU_ge hge, show u % 256 % 128 = u % 128 by omega]
      have := ih (u / 128) (by omega) (u / 128) w20 (bs ++ [UInt8.ofNat (u % 128 + 128)]) rfl (by omega) (by simp only [List.length_append, List.length_cons, List.length_nil]; omega)
      rw [List.append_assoc] at this
      exact WC_weak this (by repeat (first | exact SubE.nil | apply SubE.cons rfl)) (by repeat (first | exact HSub.refl | refine HSub.pick (by repeat (first | exact Pick.head | apply Pick.tail)) ?_ | apply HSub.drop))
    ·
      try simp only [decide_eq_true_eq, decide_eq_false_iff_not, Bool.not_eq_true', Bool.not_eq_false', beq_iff_eq, bne_iff_ne, beq_eq_false_iff_ne, Int.ofNat_lt, Int.ofNat_le, Int.ofNat_inj, ne_eq, gt_iff_lt, ge_iff_le] at hb1
      refine WC_exit ?_
      refine KSeq_x ?_
      refine KLoop_x ?_
      exact KPost_i (by repeat (first | exact SubE.nil | apply SubE.cons rfl)) (by repeat (first | exact HSub.refl | refine HSub.pick (by repeat (first | exact Pick.head | apply Pick.tail)) ?_ | apply HSub.drop)) ⟨w, bs, u, rfl, rfl, rfl, by omega, by rw [encU_lt (by omega)]⟩
theorem sp_nPut {H H0 : SH} {w : SV} {bs : List UInt8} {n : Int} (hp : Pick (SL w.toV TByte bs) H H0) (h1 : -9223372036854775808 ≤ n) (h2 : n < 9223372036854775808) (hl : bs.length ≤ 900000) : WF F X f_num_Put [w.toV, .int .i64 n] H (fun r H' => ∃ w' : SV, H' = SL w'.toV TByte (bs ++ put n) :: H0 ∧ r = w'.toV) := by
  refine WF.weak ?_ (HSub.ofPick hp)
  have hz := zz_lt h1 h2
  have hpl := put_len h1 h2
  refine WF_fn F_num_Put ?_
  refine WC_seq ?_
  refine WC_region ?_
  refine WO_step rfl (S_pure rfl ?_)
  refine WO_nil ?_
  refine KSeq_n ?_
  refine WC_seq ?_
  refine WC_region ?_
  refine WO_step rfl (S_pure rfl ?_)
  refine WO_step rfl (S_pureE rfl (v' := .int .u64 ((n % 18446744073709551616).toNat : Int)) ?_ ?_)
  · rw [wrapU]; congr 1; omega
  refine WO_step rfl (S_pureE rfl (v' := .int .u64 (((2 * n) % 18446744073709551616).toNat : Int)) ?_ ?_)
  · show Value.int .u64 (IntKind.wrap .u64 (_ * 2)) = _
    rw [wrapU]; congr 1; omega
  refine WO_step rfl (S_pure rfl ?_)
  refine WO_nil ?_
  refine KSeq_n ?_
  refine WC_seq ?_
  refine WC_post (P := fun x l' H' => x = .normal ∧ l' = [(0, w.toV), (5, .int .u64 (zz n))] ∧ H' = SL w.toV TByte bs :: H0) ?_ ?_
  ·
    refine WC_seq ?_
    refine WC_region ?_
    refine WO_step rfl (S_pure rfl ?_)
    refine WO_step rfl (S_pure rfl ?_)
    refine WO_nil ?_
    refine KSeq_n ?_
    refine WC_cond rfl (fun hb1 => ?_) (fun hb1 => ?_)
    ·
      try simp only [decide_eq_true_eq, decide_eq_false_iff_not, Bool.not_eq_true', Bool.not_eq_false', beq_iff_eq, bne_iff_ne, beq_eq_false_iff_ne, Int.ofNat_lt, Int.ofNat_le, Int.ofNat_inj, ne_eq, gt_iff_lt, ge_iff_le] at hb1
      refine WC_region ?_
      refine WO_step rfl (S_pure rfl ?_)
      refine WO_step rfl (S_xorU rfl (by omega) ?_)
      refine WO_step rfl (S_pure rfl ?_)
      refine WO_nil ?_
      refine KPost_i (l' := [(0, w.toV), (5, .int .u64 (zz n))]) (by
        refine SubE.cons rfl (SubE.consEq rfl ?_ SubE.nil)
        congr 2; unfold zz; split <;> omega) (by repeat (first | exact HSub.refl | refine HSub.pick (by repeat (first | exact Pick.head | apply Pick.tail)) ?_ | apply HSub.drop)) ⟨rfl, rfl, rfl⟩
    ·
      try simp only [decide_eq_true_eq, decide_eq_false_iff_not, Bool.not_eq_true', Bool.not_eq_false', beq_iff_eq, bne_iff_ne, beq_eq_false_iff_ne, Int.ofNat_lt, Int.ofNat_le, Int.ofNat_inj, ne_eq, gt_iff_lt, ge_iff_le] at hb1
      refine WC_skip ?_
      refine KPost_i (l' := [(0, w.toV), (5, .int .u64 (zz n))]) (by
        refine SubE.cons rfl (SubE.consEq rfl ?_ SubE.nil)
        congr 2; unfold zz; split <;> omega) (by repeat (first | exact HSub.refl | refine HSub.pick (by repeat (first | exact Pick.head | apply Pick.tail)) ?_ | apply HSub.drop)) ⟨rfl, rfl, rfl⟩
  ·
    rintro x l' H' ⟨rfl, rfl, rfl⟩
    refine KSeq_n ?_
    refine WC_seq ?_
    refine WC_block ?_
    refine WC_post (WC_weak (lp_nPut (zz n) (zz n) w bs rfl hz (by rw [List.length_append]; unfold put at hpl; omega)) (by repeat (first | exact SubE.nil | apply SubE.cons rfl)) (by repeat (first | exact HSub.refl | refine HSub.pick (by repeat (first | exact Pick.head | apply Pick.tail)) ?_ | apply HSub.drop))) ?_
    rintro x l' H' ⟨w', bs', u', rfl, rfl, rfl, hu', he⟩
    have hbl : bs'.length + 1 ≤ 1000000 := by
      have := congrArg List.length he
      rw [List.length_append, List.length_append] at this
      simp only [List.length_cons, List.length_nil] at this
      unfold put at hpl; omega
    refine KBlock_h ?_
    refine KSeq_n ?_
    refine WC_seq ?_
    refine WC_region ?_
    refine WO_step rfl (S_pure rfl ?_)
    refine WO_step rfl (S_pure rfl ?_)
    refine WO_step rfl (S_toB rfl ?_)
    refine WO_step rfl (S_lit1B rfl (by omega) fun w26 => ?_)
    refine WO_step rfl (S_app rfl rfl (by repeat (first | exact Pick.head | apply Pick.tail)) (by first | exact SRC.str rfl rfl | (apply RD.src; repeat (first | assumption | exact RD.head | exact RD.nil | apply RD.tail))) (by rfl) (by rfl) (by (try simp only [List.length_append, List.length_cons, List.length_nil]); omega) fun w27 => ?_)
    refine WO_step rfl (S_pure rfl ?_)
    refine WO_nil ?_
    refine KSeq_n ?_
    refine WC_ret ?_
    refine KFn_r (ResL.tmp rfl ResL.nil) ?_
    refine ⟨SL w27.toV TByte (bs' ++ [UInt8.ofNat (u' % 256)]) :: H0, (by repeat (first | exact HSub.refl | refine HSub.pick (by repeat (first | exact Pick.head | apply Pick.tail)) ?_ | apply HSub.drop)), w27, ?_, rfl⟩
    rw [show u' % 256 = u' by omega, he]; rfl
theorem sp_nPutText {H H0 : SH} {w : SV} {bs : List UInt8} {s : ByteArray} (hp : Pick (SL w.toV TByte bs) H H0) (hs : s.size ≤ 100000) (hl : bs.length ≤ 800000) : WF F X f_num_PutText [w.toV, .string s] H (fun r H' => ∃ w' : SV, H' = SL w'.toV TByte (bs ++ putText s) :: H0 ∧ r = w'.toV) := by
  refine WF.weak ?_ (HSub.ofPick hp)
  have hpl := put_len (n := (s.size : Int)) (by omega) (by omega)
  have hsl : s.data.toList.length = s.size := Array.length_toList
  refine WF_fn F_num_PutText ?_
  refine WC_seq ?_
  refine WC_region ?_
  refine WO_step rfl (S_pure rfl ?_)
  refine WO_nil ?_
  refine KSeq_n ?_
  refine WC_seq ?_
  refine WC_region ?_
  refine WO_step rfl (S_pure rfl ?_)
  refine WO_step rfl (S_pure rfl ?_)
  refine WO_step rfl (S_pure rfl ?_)
  refine WO_call rfl rfl rfl ?_
  refine (sp_nPut (by repeat (first | exact Pick.head | apply Pick.tail)) (by omega) (by omega) (by first | omega | (simp only [List.length_append, List.length_nil]; omega))).mono ?_
  rintro _ _ ⟨w8, rfl, rfl⟩
  refine WO_step rfl (S_pure rfl ?_)
  refine WO_step rfl (S_app rfl rfl (by repeat (first | exact Pick.head | apply Pick.tail)) (by first | exact SRC.str rfl rfl | (apply RD.src; repeat (first | assumption | exact RD.head | exact RD.nil | apply RD.tail))) (by rfl) (by rfl) (by (try simp only [List.length_append, List.length_cons, List.length_nil]); omega) fun w10 => ?_)
  refine WO_step rfl (S_pure rfl ?_)
  refine WO_nil ?_
  refine KSeq_n ?_
  refine WC_ret ?_
  refine KFn_r (ResL.tmp rfl ResL.nil) ?_
  refine ⟨SL w10.toV TByte (bs ++ put s.size ++ s.data.toList) :: H0, (by repeat (first | exact HSub.refl | refine HSub.pick (by repeat (first | exact Pick.head | apply Pick.tail)) ?_ | apply HSub.drop)), w10, ?_, rfl⟩
  rw [List.append_assoc]; rfl
theorem sp_vPut {H H0 : SH} {w : SV} {bs : List UInt8} {r : Raw} (hp : Pick (SL w.toV TByte bs) H H0) (hk : -9223372036854775808 ≤ r.kind ∧ r.kind < 9223372036854775808) (hn : -9223372036854775808 ≤ r.n ∧ r.n < 9223372036854775808) (hs : r.s.size ≤ 100000) (hl : bs.length ≤ 700000) : WF F X f_value_Put [w.toV, TRaw.val r] H (fun v H' => ∃ w' : SV, H' = SL w'.toV TByte (bs ++ putVal r) :: H0 ∧ v = w'.toV) := by
  refine WF.weak ?_ (HSub.ofPick hp)
  have hpl := put_len hk.1 hk.2
  refine WF_fn F_value_Put ?_
  refine WC_seq ?_
  refine WC_region ?_
  refine WO_step rfl (S_box rfl rfl fun i3 => ?_)
  refine WO_step rfl (S_pure rfl ?_)
  refine WO_nil ?_
  refine KSeq_n ?_
  refine WC_seq ?_
  refine WC_region ?_
  refine WO_step rfl (S_pure rfl ?_)
  refine WO_step rfl (S_pure rfl ?_)
  refine WO_step rfl (S_loadO rfl (by repeat (first | exact Pick.head | apply Pick.tail)) (by rfl) (by rfl) ?_)
  refine WO_call rfl rfl rfl ?_
  refine (sp_nPut (by repeat (first | exact Pick.head | apply Pick.tail)) (by omega) (by omega) (by first | omega | (simp only [List.length_append, List.length_nil]; omega))).mono ?_
  rintro _ _ ⟨w8, rfl, rfl⟩
  refine WO_step rfl (S_pure rfl ?_)
  refine WO_nil ?_
  refine KSeq_n ?_
  refine WC_seq ?_
  refine WC_seq ?_
  refine WC_region ?_
  refine WO_step rfl (S_pure rfl ?_)
  refine WO_step rfl (S_loadO rfl (by repeat (first | exact Pick.head | apply Pick.tail)) (by rfl) (by rfl) ?_)
  first | refine WO_step rfl (S_eqS rfl rfl ?_) | refine WO_step rfl (S_pure rfl ?_)
  refine WO_nil ?_
  refine KSeq_n ?_
  refine WC_cond rfl (fun hb1 => ?_) (fun hb1 => ?_)
  ·
    try simp only [decide_eq_true_eq, decide_eq_false_iff_not, Bool.not_eq_true', Bool.not_eq_false', beq_iff_eq, bne_iff_ne, beq_eq_false_iff_ne, Int.ofNat_lt, Int.ofNat_le, Int.ofNat_inj, ne_eq, gt_iff_lt, ge_iff_le] at hb1
    refine WC_seq ?_
    refine WC_region ?_
    refine WO_step rfl (S_pure rfl ?_)
    refine WO_step rfl (S_pure rfl ?_)
    refine WO_step rfl (S_loadO rfl (by repeat (first | exact Pick.head | apply Pick.tail)) (by rfl) (by rfl) ?_)
    refine WO_call rfl rfl rfl ?_
    refine (sp_nPut (by repeat (first | exact Pick.head | apply Pick.tail)) (by omega) (by omega) (by first | omega | (simp only [List.length_append, List.length_nil]; omega))).mono ?_
    rintro _ _ ⟨w15, rfl, rfl⟩
    refine WO_step rfl (S_pure rfl ?_)
    refine WO_nil ?_
    refine KSeq_n ?_
    refine WC_ret ?_
    refine KSeq_r ?_
    refine KFn_r (ResL.tmp rfl ResL.nil) ?_
    have hb : r.kind = 1 := by simpa using hb1
    refine ⟨SL w15.toV TByte (bs ++ put r.kind ++ put r.n) :: H0, (by repeat (first | exact HSub.refl | refine HSub.pick (by repeat (first | exact Pick.head | apply Pick.tail)) ?_ | apply HSub.drop)), w15, ?_, rfl⟩
    unfold putVal; rw [if_pos hb, List.append_assoc]
  ·
    try simp only [decide_eq_true_eq, decide_eq_false_iff_not, Bool.not_eq_true', Bool.not_eq_false', beq_iff_eq, bne_iff_ne, beq_eq_false_iff_ne, Int.ofNat_lt, Int.ofNat_le, Int.ofNat_inj, ne_eq, gt_iff_lt, ge_iff_le] at hb1
    refine WC_skip ?_
    refine KSeq_n ?_
    refine WC_seq ?_
    refine WC_region ?_
    refine WO_step rfl (S_pure rfl ?_)
    refine WO_step rfl (S_pure rfl ?_)
    refine WO_step rfl (S_loadO rfl (by repeat (first | exact Pick.head | apply Pick.tail)) (by rfl) (by rfl) ?_)
    refine WO_call rfl rfl rfl ?_
    refine (sp_nPutText (by repeat (first | exact Pick.head | apply Pick.tail)) (by omega) (by first | omega | (simp only [List.length_append, List.length_nil]; omega))).mono ?_
    rintro _ _ ⟨w19, rfl, rfl⟩
    refine WO_step rfl (S_pure rfl ?_)
    refine WO_nil ?_
    refine KSeq_n ?_
    refine WC_ret ?_
    refine KFn_r (ResL.tmp rfl ResL.nil) ?_
    have hb : ¬ r.kind = 1 := by simpa using hb1
    refine ⟨SL w19.toV TByte (bs ++ put r.kind ++ putText r.s) :: H0, (by repeat (first | exact HSub.refl | refine HSub.pick (by repeat (first | exact Pick.head | apply Pick.tail)) ?_ | apply HSub.drop)), w19, ?_, rfl⟩
    unfold putVal; rw [if_neg hb, List.append_assoc]
def wfRec (r : Rec) : Prop := (-9223372036854775808 ≤ r.val.kind ∧ r.val.kind < 9223372036854775808) ∧ (-9223372036854775808 ≤ r.val.n ∧ r.val.n < 9223372036854775808) ∧ r.val.s.size ≤ 100000 ∧ r.key.size ≤ 100000
theorem sp_rPut {H H0 : SH} {w : SV} {bs : List UInt8} {r : Rec} (hp : Pick (SL w.toV TByte bs) H H0) (hr : wfRec r) (hl : bs.length ≤ 500000) : WF F X f_record_Put [w.toV, TRec.val r] H (fun v H' => ∃ w' : SV, H' = SL w'.toV TByte (bs ++ putRec r) :: H0 ∧ v = w'.toV) := by
  refine WF.weak ?_ (HSub.ofPick hp)
  obtain ⟨hk, hn, hs, hq⟩ := hr
  have hpl := put_len (n := (r.key.size : Int)) (by omega) (by omega)
  have hsl : r.key.data.toList.length = r.key.size := Array.length_toList
  have hpt : (putText r.key).length ≤ 100010 := by unfold putText; rw [List.length_append]; omega
  refine WF_fn F_record_Put ?_
  refine WC_seq ?_
  refine WC_region ?_
  refine WO_step rfl (S_box rfl rfl fun i3 => ?_)
  refine WO_step rfl (S_pure rfl ?_)
  refine WO_nil ?_
  refine KSeq_n ?_
  refine WC_seq ?_
  refine WC_region ?_
  refine WO_step rfl (S_pure rfl ?_)
  refine WO_step rfl (S_pure rfl ?_)
  refine WO_step rfl (S_loadO rfl (by repeat (first | exact Pick.head | apply Pick.tail)) (by rfl) (by rfl) ?_)
  refine WO_call rfl rfl rfl ?_
  refine (sp_nPutText (by repeat (first | exact Pick.head | apply Pick.tail)) (by omega) (by first | omega | (simp only [List.length_append, List.length_nil]; omega))).mono ?_
  rintro _ _ ⟨w8, rfl, rfl⟩
  refine WO_step rfl (S_pure rfl ?_)
  refine WO_nil ?_
  refine KSeq_n ?_
  refine WC_seq ?_
  refine WC_seq ?_
  refine WC_region ?_
  refine WO_step rfl (S_pure rfl ?_)
  refine WO_step rfl (S_loadO rfl (by repeat (first | exact Pick.head | apply Pick.tail)) (by rfl) (by rfl) ?_)
  refine WO_nil ?_
  refine KSeq_n ?_
  refine WC_cond rfl (fun hb1 => ?_) (fun hb1 => ?_)
  ·
    try simp only [decide_eq_true_eq, decide_eq_false_iff_not, Bool.not_eq_true', Bool.not_eq_false', beq_iff_eq, bne_iff_ne, beq_eq_false_iff_ne, Int.ofNat_lt, Int.ofNat_le, Int.ofNat_inj, ne_eq, gt_iff_lt, ge_iff_le] at hb1
    refine WC_seq ?_
    refine WC_region ?_
    refine WO_step rfl (S_pure rfl ?_)
    refine WO_call rfl rfl rfl ?_
    refine (sp_nPut (by repeat (first | exact Pick.head | apply Pick.tail)) (by omega) (by omega) (by first | omega | (simp only [List.length_append, List.length_nil]; omega))).mono ?_
    rintro _ _ ⟨w12, rfl, rfl⟩
    refine WO_step rfl (S_pure rfl ?_)
    refine WO_nil ?_
    refine KSeq_n ?_
    refine WC_ret ?_
    refine KSeq_r ?_
    refine KFn_r (ResL.tmp rfl ResL.nil) ?_
    refine ⟨SL w12.toV TByte (bs ++ putText r.key ++ put 0) :: H0, (by repeat (first | exact HSub.refl | refine HSub.pick (by repeat (first | exact Pick.head | apply Pick.tail)) ?_ | apply HSub.drop)), w12, ?_, rfl⟩
    unfold putRec; rw [if_pos hb1, List.append_assoc]
  ·
    try simp only [decide_eq_true_eq, decide_eq_false_iff_not, Bool.not_eq_true', Bool.not_eq_false', beq_iff_eq, bne_iff_ne, beq_eq_false_iff_ne, Int.ofNat_lt, Int.ofNat_le, Int.ofNat_inj, ne_eq, gt_iff_lt, ge_iff_le] at hb1
    refine WC_skip ?_
    refine KSeq_n ?_
    refine WC_seq ?_
    refine WC_region ?_
    refine WO_step rfl (S_pure rfl ?_)
    refine WO_step rfl (S_pure rfl ?_)
    refine WO_step rfl (S_loadO rfl (by repeat (first | exact Pick.head | apply Pick.tail)) (by rfl) (by rfl) ?_)
    refine WO_call rfl rfl rfl ?_
    refine (sp_vPut (by repeat (first | exact Pick.head | apply Pick.tail)) (by assumption) (by assumption) (by omega) (by first | omega | (simp only [List.length_append, List.length_nil]; omega))).mono ?_
    rintro _ _ ⟨w16, rfl, rfl⟩
    refine WO_step rfl (S_pure rfl ?_)
    refine WO_nil ?_
    refine KSeq_n ?_
    refine WC_ret ?_
    refine KFn_r (ResL.tmp rfl ResL.nil) ?_
    refine ⟨SL w16.toV TByte (bs ++ putText r.key ++ putVal r.val) :: H0, (by repeat (first | exact HSub.refl | refine HSub.pick (by repeat (first | exact Pick.head | apply Pick.tail)) ?_ | apply HSub.drop)), w16, ?_, rfl⟩
    unfold putRec; rw [if_neg (by simp [hb1]), List.append_assoc]
theorem lp_refPut {H : SH} : ∀ (n u : Nat) (w : SV) (bs : List UInt8), u = n → u < 18446744073709551616 → (bs ++ encU u).length ≤ 1000000 →
    WC F X (.loop L_loessref1_Put_0) [(4, w.toV), (3, .int .u64 u)] (SL w.toV TByte bs :: H)
      (KPost fun x l' H' => ∃ (w' : SV) (bs' : List UInt8) (u' : Nat), x = .exit 0 ∧ l' = [(4, w'.toV), (3, .int .u64 u')] ∧ H' = SL w'.toV TByte bs' :: H ∧ u' < 128 ∧ bs' ++ [UInt8.ofNat u'] = bs ++ encU u) := by
  intro n
  induction n using Nat.strongRecOn with
  | _ n ih =>
    intro u w bs hn hu hl
    refine WC_loop ?_
    refine WC_seq ?_
    refine WC_seq ?_
    refine WC_region ?_
    refine WO_step rfl (S_pure rfl ?_)
    refine WO_step rfl (S_pure rfl ?_)
    refine WO_nil ?_
    refine KSeq_n ?_
    refine WC_cond rfl (fun hb1 => ?_) (fun hb1 => ?_)
    ·
      try simp only [decide_eq_true_eq, decide_eq_false_iff_not, Bool.not_eq_true', Bool.not_eq_false', beq_iff_eq, bne_iff_ne, beq_eq_false_iff_ne, Int.ofNat_lt, Int.ofNat_le, Int.ofNat_inj, ne_eq, gt_iff_lt, ge_iff_le] at hb1
      have hge : 128 ≤ u := by omega
      rw [encU_ge hge] at hl
      simp only [List.length_append, List.length_cons] at hl
      refine WC_skip ?_
      refine KSeq_n ?_
      refine WC_block ?_
      refine WC_seq ?_
      refine WC_region ?_
      refine WO_step rfl (S_pure rfl ?_)
      refine WO_step rfl (S_pure rfl ?_)
      refine WO_step rfl (S_remU (m := 128) rfl rfl (by decide) ?_)
      refine WO_step rfl (S_pureE rfl (v' := .int .u64 ((u % 128 + 128 : Nat) : Int)) ?_ ?_)
      · rw [wrapU]; congr 1; omega
      refine WO_step rfl (S_toB rfl ?_)
      refine WO_step rfl (S_lit1B rfl (by omega) fun w19 => ?_)
      refine WO_step rfl (S_app rfl rfl (by repeat (first | exact Pick.head | apply Pick.tail)) (by first | exact SRC.str rfl rfl | (apply RD.src; repeat (first | assumption | exact RD.head | exact RD.nil | apply RD.tail))) (by rfl) (by rfl) (by (try simp only [List.length_append, List.length_cons, List.length_nil]); omega) fun w20 => ?_)
      refine WO_step rfl (S_pure rfl ?_)
      refine WO_nil ?_
      refine KSeq_n ?_
      refine WC_region ?_
      refine WO_step rfl (S_pure rfl ?_)
      refine WO_step rfl (S_quoU (m := 128) rfl rfl hu (by decide) ?_)
      refine WO_step rfl (S_pure rfl ?_)
      refine WO_nil ?_
      refine KBlock_n ?_
      refine KLoop_n ?_
      rw [encU_ge hge, show (u % 128 + 128) % 256 = u % 128 + 128 by omega]
      have := ih (u / 128) (by omega) (u / 128) w20 (bs ++ [UInt8.ofNat (u % 128 + 128)]) rfl (by omega) (by simp only [List.length_append, List.length_cons, List.length_nil]; omega)
      rw [List.append_assoc] at this
      exact WC_weak this (by repeat (first | exact SubE.nil | apply SubE.cons rfl)) (by repeat (first | exact HSub.refl | refine HSub.pick (by repeat (first | exact Pick.head | apply Pick.tail)) ?_ | apply HSub.drop))
    ·
      try simp only [decide_eq_true_eq, decide_eq_false_iff_not, Bool.not_eq_true', Bool.not_eq_false', beq_iff_eq, bne_iff_ne, beq_eq_false_iff_ne, Int.ofNat_lt, Int.ofNat_le, Int.ofNat_inj, ne_eq, gt_iff_lt, ge_iff_le] at hb1
      refine WC_exit ?_
      refine KSeq_x ?_
      refine KLoop_x ?_
      exact KPost_i (by repeat (first | exact SubE.nil | apply SubE.cons rfl)) (by repeat (first | exact HSub.refl | refine HSub.pick (by repeat (first | exact Pick.head | apply Pick.tail)) ?_ | apply HSub.drop)) ⟨w, bs, u, rfl, rfl, rfl, by omega, by rw [encU_lt (by omega)]⟩
theorem sp_refPut {H : SH} {n : Int} (h1 : -9223372036854775808 ≤ n) (h2 : n < 9223372036854775808) : WF F X f_loessref1_Put [.int .i64 n] H (fun r H' => ∃ w' : SV, H' = SL w'.toV TByte (put n) :: H ∧ r = w'.toV) := by
  have hz := zz_lt h1 h2
  have hpl := put_len h1 h2
  refine WF_fn F_loessref1_Put ?_
  refine WC_seq ?_
  refine WC_region ?_
  refine WO_step rfl (S_pure rfl ?_)
  refine WO_nil ?_
  refine KSeq_n ?_
  refine WC_seq ?_
  refine WC_region ?_
  refine WO_step rfl (S_pure rfl ?_)
  refine WO_step rfl (S_pureE rfl (v' := .int .u64 ((n % 18446744073709551616).toNat : Int)) ?_ ?_)
  · rw [wrapU]; congr 1; omega
  refine WO_step rfl (S_pureE rfl (v' := .int .u64 (((2 * n) % 18446744073709551616).toNat : Int)) ?_ ?_)
  · rw [wrapU]; congr 1; omega
  refine WO_step rfl (S_pure rfl ?_)
  refine WO_nil ?_
  refine KSeq_n ?_
  refine WC_seq ?_
  refine WC_post (P := fun x l' H' => x = .normal ∧ l' = [(3, .int .u64 (zz n))] ∧ H = H') ?_ ?_
  ·
    refine WC_seq ?_
    refine WC_region ?_
    refine WO_step rfl (S_pure rfl ?_)
    refine WO_step rfl (S_pure rfl ?_)
    refine WO_nil ?_
    refine KSeq_n ?_
    refine WC_cond rfl (fun hb1 => ?_) (fun hb1 => ?_)
    ·
      try simp only [decide_eq_true_eq, decide_eq_false_iff_not, Bool.not_eq_true', Bool.not_eq_false', beq_iff_eq, bne_iff_ne, beq_eq_false_iff_ne, Int.ofNat_lt, Int.ofNat_le, Int.ofNat_inj, ne_eq, gt_iff_lt, ge_iff_le] at hb1
      refine WC_region ?_
      refine WO_step rfl (S_pure rfl ?_)
      refine WO_step rfl (S_xorU rfl (by omega) ?_)
      refine WO_step rfl (S_pure rfl ?_)
      refine WO_nil ?_
      refine KPost_i (l' := [(3, .int .u64 (zz n))]) (by
        refine SubE.consEq rfl ?_ SubE.nil
        congr 2; unfold zz; split <;> omega) (by repeat (first | exact HSub.refl | refine HSub.pick (by repeat (first | exact Pick.head | apply Pick.tail)) ?_ | apply HSub.drop)) ⟨rfl, rfl, rfl⟩
    ·
      try simp only [decide_eq_true_eq, decide_eq_false_iff_not, Bool.not_eq_true', Bool.not_eq_false', beq_iff_eq, bne_iff_ne, beq_eq_false_iff_ne, Int.ofNat_lt, Int.ofNat_le, Int.ofNat_inj, ne_eq, gt_iff_lt, ge_iff_le] at hb1
      refine WC_skip ?_
      refine KPost_i (l' := [(3, .int .u64 (zz n))]) (by
        refine SubE.consEq rfl ?_ SubE.nil
        congr 2; unfold zz; split <;> omega) (by repeat (first | exact HSub.refl | refine HSub.pick (by repeat (first | exact Pick.head | apply Pick.tail)) ?_ | apply HSub.drop)) ⟨rfl, rfl, rfl⟩
  ·
    rintro x l' H' ⟨rfl, rfl, rfl⟩
    refine KSeq_n ?_
    refine WC_seq ?_
    refine WC_region ?_
    refine WO_step rfl (S_pure rfl ?_)
    refine WO_nil ?_
    refine KSeq_n ?_
    refine WC_seq ?_
    refine WC_block ?_
    refine WC_view (H' := SL (SV.toV .nil) TByte [] :: _) (fun h hh => (HAg.addNil hh)) ?_
    refine WC_post (WC_weak (lp_refPut (zz n) (zz n) .nil [] rfl hz (by rw [List.nil_append]; unfold put at hpl; omega)) (by repeat (first | exact SubE.nil | apply SubE.cons rfl)) (by repeat (first | exact HSub.refl | refine HSub.pick (by repeat (first | exact Pick.head | apply Pick.tail)) ?_ | apply HSub.drop))) ?_
    rintro x l' H' ⟨w', bs', u', rfl, rfl, rfl, hu', he⟩
    rw [List.nil_append] at he
    have hbl : bs'.length + 1 ≤ 1000000 := by
      have := congrArg List.length he
      rw [List.length_append] at this
      simp only [List.length_cons, List.length_nil] at this
      unfold put at hpl; omega
    refine KBlock_h ?_
    refine KSeq_n ?_
    refine WC_seq ?_
    refine WC_region ?_
    refine WO_step rfl (S_pure rfl ?_)
    refine WO_step rfl (S_pure rfl ?_)
    refine WO_step rfl (S_toB rfl ?_)
    refine WO_step rfl (S_lit1B rfl (by omega) fun w26 => ?_)
    refine WO_step rfl (S_app rfl rfl (by repeat (first | exact Pick.head | apply Pick.tail)) (by first | exact SRC.str rfl rfl | (apply RD.src; repeat (first | assumption | exact RD.head | exact RD.nil | apply RD.tail))) (by rfl) (by rfl) (by (try simp only [List.length_append, List.length_cons, List.length_nil]); omega) fun w27 => ?_)
    refine WO_step rfl (S_pure rfl ?_)
    refine WO_nil ?_
    refine KSeq_n ?_
    refine WC_ret ?_
    refine KFn_r (ResL.tmp rfl ResL.nil) ?_
    refine ⟨SL w27.toV TByte (bs' ++ [UInt8.ofNat (u' % 256)]) :: H, (by repeat (first | exact HSub.refl | refine HSub.pick (by repeat (first | exact Pick.head | apply Pick.tail)) ?_ | apply HSub.drop)), w27, ?_, rfl⟩
    rw [show u' % 256 = u' by omega, he]; rfl
theorem sp_refPutText {H : SH} {s : ByteArray} (hs : s.size ≤ 100000) : WF F X f_loessref1_PutText [.string s] H (fun r H' => ∃ w' : SV, H' = SL w'.toV TByte (putText s) :: H ∧ r = w'.toV) := by
  have hpl := put_len (n := (s.size : Int)) (by omega) (by omega)
  have hsl : s.data.toList.length = s.size := Array.length_toList
  refine WF_fn F_loessref1_PutText ?_
  refine WC_seq ?_
  refine WC_region ?_
  refine WO_step rfl (S_pure rfl ?_)
  refine WO_nil ?_
  refine KSeq_n ?_
  refine WC_seq ?_
  refine WC_region ?_
  refine WO_step rfl (S_pure rfl ?_)
  refine WO_step rfl (S_pure rfl ?_)
  refine WO_call rfl rfl rfl ?_
  refine (sp_refPut (by omega) (by omega)).mono ?_
  rintro _ _ ⟨w5, rfl, rfl⟩
  refine WO_step rfl (S_pure rfl ?_)
  refine WO_step rfl (S_app rfl rfl (by repeat (first | exact Pick.head | apply Pick.tail)) (by first | exact SRC.str rfl rfl | (apply RD.src; repeat (first | assumption | exact RD.head | exact RD.nil | apply RD.tail))) (by rfl) (by rfl) (by (try simp only [List.length_append, List.length_cons, List.length_nil]); omega) fun w7 => ?_)
  refine WO_step rfl (S_pure rfl ?_)
  refine WO_nil ?_
  refine KSeq_n ?_
  refine WC_ret ?_
  refine KFn_r (ResL.tmp rfl ResL.nil) ?_
  exact ⟨SL w7.toV TByte (put s.size ++ s.data.toList) :: H, (by repeat (first | exact HSub.refl | refine HSub.pick (by repeat (first | exact Pick.head | apply Pick.tail)) ?_ | apply HSub.drop)), w7, rfl, rfl⟩
theorem sp_refPutVal {H : SH} {r : Raw} (hk : -9223372036854775808 ≤ r.kind ∧ r.kind < 9223372036854775808) (hn : -9223372036854775808 ≤ r.n ∧ r.n < 9223372036854775808) (hs : r.s.size ≤ 100000) : WF F X f_loessref1_PutVal [TRaw.val r] H (fun v H' => ∃ w' : SV, H' = SL w'.toV TByte (putVal r) :: H ∧ v = w'.toV) := by
  have hpl := put_len hk.1 hk.2
  have hpl2 := put_len hn.1 hn.2
  have hpl3 := put_len (n := (r.s.size : Int)) (by omega) (by omega)
  have hsl : r.s.data.toList.length = r.s.size := Array.length_toList
  have hpt : (putText r.s).length ≤ 100010 := by unfold putText; rw [List.length_append]; omega
  refine WF_fn F_loessref1_PutVal ?_
  refine WC_seq ?_
  refine WC_region ?_
  refine WO_step rfl (S_box rfl rfl fun i1 => ?_)
  refine WO_step rfl (S_pure rfl ?_)
  refine WO_nil ?_
  refine KSeq_n ?_
  refine WC_seq ?_
  refine WC_region ?_
  refine WO_step rfl (S_pure rfl ?_)
  refine WO_step rfl (S_loadO rfl (by repeat (first | exact Pick.head | apply Pick.tail)) (by rfl) (by rfl) ?_)
  refine WO_call rfl rfl rfl ?_
  refine (sp_refPut (by omega) (by omega)).mono ?_
  rintro _ _ ⟨w6, rfl, rfl⟩
  refine WO_step rfl (S_pure rfl ?_)
  refine WO_nil ?_
  refine KSeq_n ?_
  refine WC_seq ?_
  refine WC_seq ?_
  refine WC_region ?_
  refine WO_step rfl (S_pure rfl ?_)
  refine WO_step rfl (S_loadO rfl (by repeat (first | exact Pick.head | apply Pick.tail)) (by rfl) (by rfl) ?_)
  first | refine WO_step rfl (S_eqS rfl rfl ?_) | refine WO_step rfl (S_pure rfl ?_)
  refine WO_nil ?_
  refine KSeq_n ?_
  refine WC_cond rfl (fun hb1 => ?_) (fun hb1 => ?_)
  ·
    try simp only [decide_eq_true_eq, decide_eq_false_iff_not, Bool.not_eq_true', Bool.not_eq_false', beq_iff_eq, bne_iff_ne, beq_eq_false_iff_ne, Int.ofNat_lt, Int.ofNat_le, Int.ofNat_inj, ne_eq, gt_iff_lt, ge_iff_le] at hb1
    refine WC_seq ?_
    refine WC_region ?_
    refine WO_step rfl (S_pure rfl ?_)
    refine WO_step rfl (S_pure rfl ?_)
    refine WO_step rfl (S_loadO rfl (by repeat (first | exact Pick.head | apply Pick.tail)) (by rfl) (by rfl) ?_)
    refine WO_call rfl rfl rfl ?_
    refine (sp_refPut (by omega) (by omega)).mono ?_
    rintro _ _ ⟨w13, rfl, rfl⟩
    refine WO_step rfl (S_app rfl rfl (by repeat (first | exact Pick.head | apply Pick.tail)) (by first | exact SRC.str rfl rfl | (apply RD.src; repeat (first | assumption | exact RD.head | exact RD.nil | apply RD.tail))) (by rfl) (by rfl) (by (try simp only [List.length_append, List.length_cons, List.length_nil]); omega) fun w14 => ?_)
    refine WO_step rfl (S_pure rfl ?_)
    refine WO_nil ?_
    refine KSeq_n ?_
    refine WC_ret ?_
    refine KSeq_r ?_
    refine KFn_r (ResL.tmp rfl ResL.nil) ?_
    have hb : r.kind = 1 := by simpa using hb1
    refine ⟨SL w14.toV TByte (put r.kind ++ put r.n) :: H, (by repeat (first | exact HSub.refl | refine HSub.pick (by repeat (first | exact Pick.head | apply Pick.tail)) ?_ | apply HSub.drop)), w14, ?_, rfl⟩
    unfold putVal; rw [if_pos hb]
  ·
    try simp only [decide_eq_true_eq, decide_eq_false_iff_not, Bool.not_eq_true', Bool.not_eq_false', beq_iff_eq, bne_iff_ne, beq_eq_false_iff_ne, Int.ofNat_lt, Int.ofNat_le, Int.ofNat_inj, ne_eq, gt_iff_lt, ge_iff_le] at hb1
    refine WC_skip ?_
    refine KSeq_n ?_
    refine WC_seq ?_
    refine WC_region ?_
    refine WO_step rfl (S_pure rfl ?_)
    refine WO_step rfl (S_pure rfl ?_)
    refine WO_step rfl (S_loadO rfl (by repeat (first | exact Pick.head | apply Pick.tail)) (by rfl) (by rfl) ?_)
    refine WO_call rfl rfl rfl ?_
    refine (sp_refPutText (by omega)).mono ?_
    rintro _ _ ⟨w18, rfl, rfl⟩
    refine WO_step rfl (S_app rfl rfl (by repeat (first | exact Pick.head | apply Pick.tail)) (by first | exact SRC.str rfl rfl | (apply RD.src; repeat (first | assumption | exact RD.head | exact RD.nil | apply RD.tail))) (by rfl) (by rfl) (by (try simp only [List.length_append, List.length_cons, List.length_nil]); omega) fun w19 => ?_)
    refine WO_step rfl (S_pure rfl ?_)
    refine WO_nil ?_
    refine KSeq_n ?_
    refine WC_ret ?_
    refine KFn_r (ResL.tmp rfl ResL.nil) ?_
    have hb : ¬ r.kind = 1 := by simpa using hb1
    refine ⟨SL w19.toV TByte (put r.kind ++ putText r.s) :: H, (by repeat (first | exact HSub.refl | refine HSub.pick (by repeat (first | exact Pick.head | apply Pick.tail)) ?_ | apply HSub.drop)), w19, ?_, rfl⟩
    unfold putVal; rw [if_neg hb]
theorem putVal_len {r : Raw} (hk : -9223372036854775808 ≤ r.kind ∧ r.kind < 9223372036854775808) (hn : -9223372036854775808 ≤ r.n ∧ r.n < 9223372036854775808) (hs : r.s.size ≤ 100000) : (putVal r).length ≤ 100020 := by
  have hpl := put_len hk.1 hk.2
  have hpl2 := put_len hn.1 hn.2
  have hpl3 := put_len (n := (r.s.size : Int)) (by omega) (by omega)
  have hsl : r.s.data.toList.length = r.s.size := Array.length_toList
  unfold putVal putText; rw [List.length_append]; split <;> (try rw [List.length_append]) <;> omega
theorem sp_Bytes {H : SH} {r : Rec} (hr : wfRec r) : WF F X f_loessref10_Bytes [TRec.val r] H (fun v H' => ∃ w' : SV, H' = SL w'.toV TByte (putRec r) :: H ∧ v = w'.toV) := by
  obtain ⟨hk, hn, hs, hq⟩ := hr
  have hpl := put_len (n := (r.key.size : Int)) (by omega) (by omega)
  have hpl0 := put_len (n := 0) (by omega) (by omega)
  have hsl : r.key.data.toList.length = r.key.size := Array.length_toList
  have hpt : (putText r.key).length ≤ 100010 := by unfold putText; rw [List.length_append]; omega
  have hvl := putVal_len hk hn hs
  refine WF_fn F_loessref10_Bytes ?_
  refine WC_seq ?_
  refine WC_region ?_
  refine WO_step rfl (S_box rfl rfl fun i1 => ?_)
  refine WO_step rfl (S_pure rfl ?_)
  refine WO_nil ?_
  refine KSeq_n ?_
  refine WC_seq ?_
  refine WC_region ?_
  refine WO_step rfl (S_pure rfl ?_)
  refine WO_step rfl (S_loadO rfl (by repeat (first | exact Pick.head | apply Pick.tail)) (by rfl) (by rfl) ?_)
  refine WO_call rfl rfl rfl ?_
  refine (sp_refPutText (by omega)).mono ?_
  rintro _ _ ⟨w6, rfl, rfl⟩
  refine WO_step rfl (S_pure rfl ?_)
  refine WO_nil ?_
  refine KSeq_n ?_
  refine WC_seq ?_
  refine WC_seq ?_
  refine WC_region ?_
  refine WO_step rfl (S_pure rfl ?_)
  refine WO_step rfl (S_loadO rfl (by repeat (first | exact Pick.head | apply Pick.tail)) (by rfl) (by rfl) ?_)
  refine WO_nil ?_
  refine KSeq_n ?_
  refine WC_cond rfl (fun hb1 => ?_) (fun hb1 => ?_)
  ·
    try simp only [decide_eq_true_eq, decide_eq_false_iff_not, Bool.not_eq_true', Bool.not_eq_false', beq_iff_eq, bne_iff_ne, beq_eq_false_iff_ne, Int.ofNat_lt, Int.ofNat_le, Int.ofNat_inj, ne_eq, gt_iff_lt, ge_iff_le] at hb1
    refine WC_seq ?_
    refine WC_region ?_
    refine WO_step rfl (S_pure rfl ?_)
    refine WO_call rfl rfl rfl ?_
    refine (sp_refPut (by omega) (by omega)).mono ?_
    rintro _ _ ⟨w10, rfl, rfl⟩
    refine WO_step rfl (S_app rfl rfl (by repeat (first | exact Pick.head | apply Pick.tail)) (by first | exact SRC.str rfl rfl | (apply RD.src; repeat (first | assumption | exact RD.head | exact RD.nil | apply RD.tail))) (by rfl) (by rfl) (by (try simp only [List.length_append, List.length_cons, List.length_nil]); omega) fun w11 => ?_)
    refine WO_step rfl (S_pure rfl ?_)
    refine WO_nil ?_
    refine KSeq_n ?_
    refine WC_ret ?_
    refine KSeq_r ?_
    refine KFn_r (ResL.tmp rfl ResL.nil) ?_
    refine ⟨SL w11.toV TByte (putText r.key ++ put 0) :: H, (by repeat (first | exact HSub.refl | refine HSub.pick (by repeat (first | exact Pick.head | apply Pick.tail)) ?_ | apply HSub.drop)), w11, ?_, rfl⟩
    unfold putRec; rw [if_pos hb1]
  ·
    try simp only [decide_eq_true_eq, decide_eq_false_iff_not, Bool.not_eq_true', Bool.not_eq_false', beq_iff_eq, bne_iff_ne, beq_eq_false_iff_ne, Int.ofNat_lt, Int.ofNat_le, Int.ofNat_inj, ne_eq, gt_iff_lt, ge_iff_le] at hb1
    refine WC_skip ?_
    refine KSeq_n ?_
    refine WC_seq ?_
    refine WC_region ?_
    refine WO_step rfl (S_pure rfl ?_)
    refine WO_step rfl (S_pure rfl ?_)
    refine WO_step rfl (S_loadO rfl (by repeat (first | exact Pick.head | apply Pick.tail)) (by rfl) (by rfl) ?_)
    refine WO_call rfl rfl rfl ?_
    refine (sp_refPutVal (by assumption) (by assumption) (by omega)).mono ?_
    rintro _ _ ⟨w15, rfl, rfl⟩
    refine WO_step rfl (S_app rfl rfl (by repeat (first | exact Pick.head | apply Pick.tail)) (by first | exact SRC.str rfl rfl | (apply RD.src; repeat (first | assumption | exact RD.head | exact RD.nil | apply RD.tail))) (by rfl) (by rfl) (by (try simp only [List.length_append, List.length_cons, List.length_nil]); omega) fun w16 => ?_)
    refine WO_step rfl (S_pure rfl ?_)
    refine WO_nil ?_
    refine KSeq_n ?_
    refine WC_ret ?_
    refine KFn_r (ResL.tmp rfl ResL.nil) ?_
    refine ⟨SL w16.toV TByte (putText r.key ++ putVal r.val) :: H, (by repeat (first | exact HSub.refl | refine HSub.pick (by repeat (first | exact Pick.head | apply Pick.tail)) ?_ | apply HSub.drop)), w16, ?_, rfl⟩
    unfold putRec; rw [if_neg (by simp [hb1])]
end Go.Proofs.Ytkiijlaibapmaaa.AM
