/- Texts of this repo, laid together. -/
import Derived.Test.YtpnmeednimpjdaaGreatPkTLa
import Derived.Test.YtpnmeednimpjdaaGreatShelf
import Derived.Test.YtpnmeednimpjdaaGreatPkTLb
import Derived.Test.YtpnmeednimpjdaaGreatPkTLc
import Derived.ChangeArms
import Derived.Carry
namespace Go.Proofs.YtpnmeednimpjdaaGreat.AM
open Go
set_option linter.unusedSimpArgs false
set_option linter.unusedVariables false
set_option maxRecDepth 4000
set_option linter.unusedSectionVars false
variable {X : Exts} [HX X]
def zz (n : Int) : Nat := if n < 0 then (-2 * n - 1).toNat else (2 * n).toNat
def unzz (u : Nat) : Int := if u % 2 = 1 then -((u / 2 : Nat) : Int) - 1 else ((u / 2 : Nat) : Int)
def encU (u : Nat) : List UInt8 := if u < 128 then [UInt8.ofNat u] else UInt8.ofNat (u % 128 + 128) :: encU (u / 128)
termination_by u
def put (n : Int) : List UInt8 := encU (zz n)
def putText (s : ByteArray) : List UInt8 := put s.size ++ s.data.toList
def putVal (r : Raw) : List UInt8 := put r.kind ++ if r.kind = 1 then put r.n else putText r.s
def putRec (r : Rec) : List UInt8 := putText r.key ++ if r.gone then put 0 else putVal r.val
theorem unzz_zz (n : Int) : unzz (zz n) = n := by
  unfold unzz zz; split <;> split <;> omega
theorem zz_lt {n : Int} (h1 : -9223372036854775808 ≤ n) (h2 : n < 9223372036854775808) : zz n < 18446744073709551616 := by
  unfold zz; split <;> omega
theorem encU_lt {u : Nat} (h : u < 128) : encU u = [UInt8.ofNat u] := by rw [encU, if_pos h]
theorem encU_ge {u : Nat} (h : 128 ≤ u) : encU u = UInt8.ofNat (u % 128 + 128) :: encU (u / 128) := by rw [encU, if_neg (by omega)]
theorem encU_len : ∀ (k u : Nat), u < 128 ^ (k + 1) → (encU u).length ≤ k + 1
  | 0, u, h => by rw [encU_lt (by simpa using h)]; simp
  | k + 1, u, h => by
    by_cases hu : u < 128
    · rw [encU_lt hu]; simp
    · rw [encU_ge (by omega), List.length_cons]
      have := encU_len k (u / 128) (by rw [Nat.pow_succ] at h; omega)
      omega
theorem put_len {n : Int} (h1 : -9223372036854775808 ≤ n) (h2 : n < 9223372036854775808) : (put n).length ≤ 10 := encU_len 9 _ (Nat.lt_of_lt_of_le (zz_lt h1 h2) (by decide))
theorem enc_B {k : Nat} (h : k < 256) : Value.int .u8 (k : Int) = encByte (UInt8.ofNat k) := by
  unfold encByte; congr 1; rw [UInt8.toNat_ofNat_of_lt' h]
theorem S_lit1B {l : SE} {H : SH} {K : Value → SH → Prop} {x : Opd} {z : Value} {k : Nat} (hx : x.lv l = some (.int .u8 (k : Int))) (hk : k < 256) (kk : ∀ w : SV, K w.toV (SL w.toV TByte [UInt8.ofNat k] :: H)) : Step (.lit 5 1 1 [z] [(0, (1, x))]) l H K :=
  S_lit1 (T := TByte) (y := UInt8.ofNat k) (vs := [.int .u8 (k : Int)]) (by simp [lfill, hx, AM.cells, Value.cells]; rfl) (by rw [enc_B hk]; rfl) rfl rfl kk
theorem S_toB {l : SE} {H : SH} {K : Value → SH → Prop} {x : Opd} {a : Nat} {kd : IntKind} (hx : x.lv l = some (.int kd (a : Int))) (k : K (.int .u8 ((a % 256 : Nat) : Int)) H) : Step (.conv .u8 x) l H K :=
  S_pureE (v := .int .u8 (IntKind.wrap .u8 (a : Int))) (by simp only [pev, hx]) (by rw [wrapB]; rfl) k
theorem or128 : ∀ b : Fin 256, (BitVec.ofInt 8 ((b.val : Nat) : Int) ||| BitVec.ofInt 8 128).toNat = b.val % 128 + 128 := by decide
theorem S_or128 {l : SE} {H : SH} {K : Value → SH → Prop} {x : Opd} {a : Nat} (hx : x.lv l = some (.int .u8 (a : Int))) (ha : a < 256) (k : K (.int .u8 ((a % 128 + 128 : Nat) : Int)) H) : Step (.bin .or x (.const (.int .u8 128))) l H K :=
  S_pureE (v := .int .u8 (IntKind.wrap .u8 ((BitVec.ofInt 8 (a : Int) ||| BitVec.ofInt 8 128).toNat : Int))) (by
    have h2 : (Opd.const (.int .u8 128)).lv l = some (.int .u8 128) := rfl
    simp only [pev, hx, h2, binV, intBin, if_true]; rfl) (by
    rw [or128 ⟨a, ha⟩, wrap_u8 (by omega) (by simp only []; omega)]) k
theorem lp_nPut {H : SH} : ∀ (n u : Nat) (w : SV) (bs : List UInt8), u = n → u < 18446744073709551616 → (bs ++ encU u).length ≤ 1000000 →
    WC F X (.loop L_num_Put_0) [(0, w.toV), (5, .int .u64 u)] (SL w.toV TByte bs :: H)
      (KPost fun x l' H' => ∃ (w' : SV) (bs' : List UInt8) (u' : Nat), x = .exit 0 ∧ l' = [(0, w'.toV), (5, .int .u64 u')] ∧ H' = SL w'.toV TByte bs' :: H ∧ u' < 128 ∧ bs' ++ [UInt8.ofNat u'] = bs ++ encU u) := by
  intro n
  induction n using Nat.strongRecOn with
  | _ n ih =>
    intro u w bs hn hu hl
    refine WC_loop (WC_seq (WC_seq (WC_region ?_)))
    iterate 2 refine WO_step rfl (S_pure rfl ?_)
    refine WO_nil (KSeq_n ?_)
    refine WC_cond rfl (fun hb1 => ?_) (fun hb1 => ?_)
    ·
     try simp only [bsT] at hb1
     have hge : 128 ≤ u := by omega
     rw [encU_ge hge] at hl
     simp only [List.length_append, List.length_cons] at hl
     refine WC_skip (KSeq_n (WC_block (WC_seq (WC_region ?_))))
     iterate 2 refine WO_step rfl (S_pure rfl ?_)
     refine WO_step rfl (S_toB rfl ?_)
     refine WO_step rfl (S_or128 rfl (by omega) ?_)
     refine WO_step rfl (S_lit1B rfl (by omega) fun w19 => ?_)
     refine WO_step rfl (S_app rfl rfl pkA (by first | exact SRC.str rfl rfl | (apply RD.src; repeat (first | assumption | exact RD.head | exact RD.nil | apply RD.tail))) (by rfl) (by rfl) (by (try simp only [List.length_append, List.length_cons, List.length_nil]); omega) fun w20 => ?_)
     refine WO_step rfl (S_pure rfl ?_)
     refine WO_nil (KSeq_n (WC_region ?_))
     refine WO_step rfl (S_pure rfl ?_)
     refine WO_step rfl (S_shr7 rfl ?_)
     refine WO_step rfl (S_pure rfl ?_)
     refine WO_nil (KBlock_n (KLoop_n ?_))
     rw [encU_ge hge, show u % 256 % 128 = u % 128 by omega]
     have := ih (u / 128) (by omega) (u / 128) w20 (bs ++ [UInt8.ofNat (u % 128 + 128)]) rfl (by omega) (by simp only [List.length_append, List.length_cons, List.length_nil]; omega)
     rw [List.append_assoc] at this
     exact WC_weak this seA hsA
    ·
     try simp only [bsT] at hb1
     refine WC_exit (KSeq_x (KLoop_x ?_))
     exact KPost_i seA hsA ⟨w, bs, u, rfl, rfl, rfl, by omega, by rw [encU_lt (by omega)]⟩
theorem sp_nPut {H H0 : SH} {w : SV} {bs : List UInt8} {n : Int} (hp : Pick (SL w.toV TByte bs) H H0) (h1 : -9223372036854775808 ≤ n) (h2 : n < 9223372036854775808) (hl : bs.length ≤ 900000) : WF F X f_num_Put [w.toV, .int .i64 n] H (fun r H' => ∃ w' : SV, H' = SL w'.toV TByte (bs ++ put n) :: H0 ∧ r = w'.toV) := by
  refine WF.weak ?_ (HSub.ofPick hp)
  have hz := zz_lt h1 h2
  have hpl := put_len h1 h2
  refine WF_fn F_num_Put ?_
  refine WC_seq (WC_region ?_)
  refine WO_step rfl (S_pure rfl ?_)
  refine WO_nil (KSeq_n (WC_seq (WC_region ?_)))
  refine WO_step rfl (S_pure rfl ?_)
  refine WO_step rfl (S_pureE rfl (v' := .int .u64 ((n % 18446744073709551616).toNat : Int)) ?_ ?_)
  · rw [wrapU]; congr 1; omega
  refine WO_step rfl (S_pureE rfl (v' := .int .u64 (((2 * n) % 18446744073709551616).toNat : Int)) ?_ ?_)
  · show Value.int .u64 (IntKind.wrap .u64 (_ * 2)) = _
    rw [wrapU]; congr 1; omega
  refine WO_step rfl (S_pure rfl ?_)
  refine WO_nil (KSeq_n (WC_seq ?_))
  refine WC_post (P := fun x l' H' => x = .normal ∧ l' = [(0, w.toV), (5, .int .u64 (zz n))] ∧ H' = SL w.toV TByte bs :: H0) ?_ ?_
  ·
   refine WC_seq (WC_region ?_)
   iterate 2 refine WO_step rfl (S_pure rfl ?_)
   refine WO_nil (KSeq_n ?_)
   refine WC_cond rfl (fun hb1 => ?_) (fun hb1 => ?_)
   ·
    try simp only [bsT] at hb1
    refine WC_region ?_
    refine WO_step rfl (S_pure rfl ?_)
    refine WO_step rfl (S_xorU rfl (by omega) ?_)
    refine WO_step rfl (S_pure rfl ?_)
    refine WO_nil ?_
    refine KPost_i (l' := [(0, w.toV), (5, .int .u64 (zz n))]) (by
      refine SubE.cons rfl (SubE.consEq rfl ?_ SubE.nil)
      congr 2; unfold zz; split <;> omega) hsA ⟨rfl, rfl, rfl⟩
   ·
    try simp only [bsT] at hb1
    refine WC_skip ?_
    refine KPost_i (l' := [(0, w.toV), (5, .int .u64 (zz n))]) (by
      refine SubE.cons rfl (SubE.consEq rfl ?_ SubE.nil)
      congr 2; unfold zz; split <;> omega) hsA ⟨rfl, rfl, rfl⟩
  ·
   rintro x l' H' ⟨rfl, rfl, rfl⟩
   refine KSeq_n (WC_seq (WC_block ?_))
   refine WC_post (WC_weak (lp_nPut (zz n) (zz n) w bs rfl hz (by rw [List.length_append]; unfold put at hpl; omega)) seA hsA) ?_
   rintro x l' H' ⟨w', bs', u', rfl, rfl, rfl, hu', he⟩
   have hbl : bs'.length + 1 ≤ 1000000 := by
     have := congrArg List.length he
     rw [List.length_append, List.length_append] at this
     simp only [List.length_cons, List.length_nil] at this
     unfold put at hpl; omega
   refine KBlock_h (KSeq_n (WC_seq (WC_region ?_)))
   iterate 2 refine WO_step rfl (S_pure rfl ?_)
   refine WO_step rfl (S_toB rfl ?_)
   refine WO_step rfl (S_lit1B rfl (by omega) fun w26 => ?_)
   refine WO_step rfl (S_app rfl rfl pkA (by first | exact SRC.str rfl rfl | (apply RD.src; repeat (first | assumption | exact RD.head | exact RD.nil | apply RD.tail))) (by rfl) (by rfl) (by (try simp only [List.length_append, List.length_cons, List.length_nil]); omega) fun w27 => ?_)
   refine WO_step rfl (S_pure rfl ?_)
   refine WO_nil (KSeq_n (WC_ret ?_))
   refine KFn_r (ResL.tmp rfl ResL.nil) ?_
   refine ⟨SL w27.toV TByte (bs' ++ [UInt8.ofNat (u' % 256)]) :: H0, hsA, w27, ?_, rfl⟩
   rw [show u' % 256 = u' by omega, he]; rfl
theorem sp_nPutText {H H0 : SH} {w : SV} {bs : List UInt8} {s : ByteArray} (hp : Pick (SL w.toV TByte bs) H H0) (hs : s.size ≤ 100000) (hl : bs.length ≤ 800000) : WF F X f_num_PutText [w.toV, .string s] H (fun r H' => ∃ w' : SV, H' = SL w'.toV TByte (bs ++ putText s) :: H0 ∧ r = w'.toV) := by
  refine WF.weak ?_ (HSub.ofPick hp)
  have hpl := put_len (n := (s.size : Int)) (by omega) (by omega)
  have hsl : s.data.toList.length = s.size := Array.length_toList
  refine WF_fn F_num_PutText ?_
  refine WC_seq (WC_region ?_)
  refine WO_step rfl (S_pure rfl ?_)
  refine WO_nil (KSeq_n (WC_seq (WC_region ?_)))
  iterate 3 refine WO_step rfl (S_pure rfl ?_)
  refine WO_call rfl rfl rfl ?_
  refine (sp_nPut pkA (by omega) (by omega) (by first | omega | (simp only [List.length_append, List.length_nil]; omega))).mono ?_
  rintro _ _ ⟨w8, rfl, rfl⟩
  refine WO_step rfl (S_pure rfl ?_)
  refine WO_step rfl (S_app rfl rfl pkA (by first | exact SRC.str rfl rfl | (apply RD.src; repeat (first | assumption | exact RD.head | exact RD.nil | apply RD.tail))) (by rfl) (by rfl) (by (try simp only [List.length_append, List.length_cons, List.length_nil]); omega) fun w10 => ?_)
  refine WO_step rfl (S_pure rfl ?_)
  refine WO_nil (KSeq_n (WC_ret ?_))
  refine KFn_r (ResL.tmp rfl ResL.nil) ?_
  refine ⟨SL w10.toV TByte (bs ++ put s.size ++ s.data.toList) :: H0, hsA, w10, ?_, rfl⟩
  rw [List.append_assoc]; rfl
theorem sp_vPut {H H0 : SH} {w : SV} {bs : List UInt8} {r : Raw} (hp : Pick (SL w.toV TByte bs) H H0) (hk : -9223372036854775808 ≤ r.kind ∧ r.kind < 9223372036854775808) (hn : -9223372036854775808 ≤ r.n ∧ r.n < 9223372036854775808) (hs : r.s.size ≤ 100000) (hl : bs.length ≤ 700000) : WF F X f_value_Put [w.toV, TRaw.val r] H (fun v H' => ∃ w' : SV, H' = SL w'.toV TByte (bs ++ putVal r) :: H0 ∧ v = w'.toV) := by
  refine WF.weak ?_ (HSub.ofPick hp)
  have hpl := put_len hk.1 hk.2
  refine WF_fn F_value_Put ?_
  refine WC_seq (WC_region ?_)
  refine WO_step rfl (S_box rfl rfl fun i3 => ?_)
  refine WO_step rfl (S_pure rfl ?_)
  refine WO_nil (KSeq_n (WC_seq (WC_region ?_)))
  iterate 2 refine WO_step rfl (S_pure rfl ?_)
  refine WO_step rfl (S_loadO rfl pkA (by rfl) (by rfl) ?_)
  refine WO_call rfl rfl rfl ?_
  refine (sp_nPut pkA (by omega) (by omega) (by first | omega | (simp only [List.length_append, List.length_nil]; omega))).mono ?_
  rintro _ _ ⟨w8, rfl, rfl⟩
  refine WO_step rfl (S_pure rfl ?_)
  refine WO_nil (KSeq_n (WC_seq (WC_seq (WC_region ?_))))
  refine WO_step rfl (S_pure rfl ?_)
  refine WO_step rfl (S_loadO rfl pkA (by rfl) (by rfl) ?_)
  first | refine WO_step rfl (S_eqS rfl rfl ?_) | refine WO_step rfl (S_pure rfl ?_)
  refine WO_nil (KSeq_n ?_)
  refine WC_cond rfl (fun hb1 => ?_) (fun hb1 => ?_)
  ·
   try simp only [bsT] at hb1
   refine WC_seq (WC_region ?_)
   iterate 2 refine WO_step rfl (S_pure rfl ?_)
   refine WO_step rfl (S_loadO rfl pkA (by rfl) (by rfl) ?_)
   refine WO_call rfl rfl rfl ?_
   refine (sp_nPut pkA (by omega) (by omega) (by first | omega | (simp only [List.length_append, List.length_nil]; omega))).mono ?_
   rintro _ _ ⟨w15, rfl, rfl⟩
   refine WO_step rfl (S_pure rfl ?_)
   refine WO_nil (KSeq_n (WC_ret (KSeq_r ?_)))
   refine KFn_r (ResL.tmp rfl ResL.nil) ?_
   have hb : r.kind = 1 := by simpa using hb1
   refine ⟨SL w15.toV TByte (bs ++ put r.kind ++ put r.n) :: H0, hsA, w15, ?_, rfl⟩
   unfold putVal; rw [if_pos hb, List.append_assoc]
  ·
   try simp only [bsT] at hb1
   refine WC_skip (KSeq_n (WC_seq (WC_region ?_)))
   iterate 2 refine WO_step rfl (S_pure rfl ?_)
   refine WO_step rfl (S_loadO rfl pkA (by rfl) (by rfl) ?_)
   refine WO_call rfl rfl rfl ?_
   refine (sp_nPutText pkA (by omega) (by first | omega | (simp only [List.length_append, List.length_nil]; omega))).mono ?_
   rintro _ _ ⟨w19, rfl, rfl⟩
   refine WO_step rfl (S_pure rfl ?_)
   refine WO_nil (KSeq_n (WC_ret ?_))
   refine KFn_r (ResL.tmp rfl ResL.nil) ?_
   have hb : ¬ r.kind = 1 := by simpa using hb1
   refine ⟨SL w19.toV TByte (bs ++ put r.kind ++ putText r.s) :: H0, hsA, w19, ?_, rfl⟩
   unfold putVal; rw [if_neg hb, List.append_assoc]
def wfRec (r : Rec) : Prop := (-9223372036854775808 ≤ r.val.kind ∧ r.val.kind < 9223372036854775808) ∧ (-9223372036854775808 ≤ r.val.n ∧ r.val.n < 9223372036854775808) ∧ r.val.s.size ≤ 100000 ∧ r.key.size ≤ 100000
theorem sp_rPut {H H0 : SH} {w : SV} {bs : List UInt8} {r : Rec} (hp : Pick (SL w.toV TByte bs) H H0) (hr : wfRec r) (hl : bs.length ≤ 500000) : WF F X f_record_Put [w.toV, TRec.val r] H (fun v H' => ∃ w' : SV, H' = SL w'.toV TByte (bs ++ putRec r) :: H0 ∧ v = w'.toV) := by
  refine WF.weak ?_ (HSub.ofPick hp)
  obtain ⟨hk, hn, hs, hq⟩ := hr
  have hpl := put_len (n := (r.key.size : Int)) (by omega) (by omega)
  have hsl : r.key.data.toList.length = r.key.size := Array.length_toList
  have hpt : (putText r.key).length ≤ 100010 := by unfold putText; rw [List.length_append]; omega
  refine WF_fn F_record_Put ?_
  refine WC_seq (WC_region ?_)
  refine WO_step rfl (S_box rfl rfl fun i3 => ?_)
  refine WO_step rfl (S_pure rfl ?_)
  refine WO_nil (KSeq_n (WC_seq (WC_region ?_)))
  iterate 2 refine WO_step rfl (S_pure rfl ?_)
  refine WO_step rfl (S_loadO rfl pkA (by rfl) (by rfl) ?_)
  refine WO_call rfl rfl rfl ?_
  refine (sp_nPutText pkA (by omega) (by first | omega | (simp only [List.length_append, List.length_nil]; omega))).mono ?_
  rintro _ _ ⟨w8, rfl, rfl⟩
  refine WO_step rfl (S_pure rfl ?_)
  refine WO_nil (KSeq_n (WC_seq (WC_seq (WC_region ?_))))
  refine WO_step rfl (S_pure rfl ?_)
  refine WO_step rfl (S_loadO rfl pkA (by rfl) (by rfl) ?_)
  refine WO_nil (KSeq_n ?_)
  refine WC_cond rfl (fun hb1 => ?_) (fun hb1 => ?_)
  ·
   try simp only [bsT] at hb1
   refine WC_seq (WC_region ?_)
   refine WO_step rfl (S_pure rfl ?_)
   refine WO_call rfl rfl rfl ?_
   refine (sp_nPut pkA (by omega) (by omega) (by first | omega | (simp only [List.length_append, List.length_nil]; omega))).mono ?_
   rintro _ _ ⟨w12, rfl, rfl⟩
   refine WO_step rfl (S_pure rfl ?_)
   refine WO_nil (KSeq_n (WC_ret (KSeq_r ?_)))
   refine KFn_r (ResL.tmp rfl ResL.nil) ?_
   refine ⟨SL w12.toV TByte (bs ++ putText r.key ++ put 0) :: H0, hsA, w12, ?_, rfl⟩
   unfold putRec; rw [if_pos hb1, List.append_assoc]
  ·
   try simp only [bsT] at hb1
   refine WC_skip (KSeq_n (WC_seq (WC_region ?_)))
   iterate 2 refine WO_step rfl (S_pure rfl ?_)
   refine WO_step rfl (S_loadO rfl pkA (by rfl) (by rfl) ?_)
   refine WO_call rfl rfl rfl ?_
   refine (sp_vPut pkA (by assumption) (by assumption) (by omega) (by first | omega | (simp only [List.length_append, List.length_nil]; omega))).mono ?_
   rintro _ _ ⟨w16, rfl, rfl⟩
   refine WO_step rfl (S_pure rfl ?_)
   refine WO_nil (KSeq_n (WC_ret ?_))
   refine KFn_r (ResL.tmp rfl ResL.nil) ?_
   refine ⟨SL w16.toV TByte (bs ++ putText r.key ++ putVal r.val) :: H0, hsA, w16, ?_, rfl⟩
   unfold putRec; rw [if_neg (by simp [hb1]), List.append_assoc]
theorem sp_kMay {H : SH} {s : ByteArray} : WF F X f_key_May [.string s] H (fun v H' => H' = H ∧ v = .bool (mayKey s)) := by
  refine WF_fn F_key_May ?_
  refine WC_seq (WC_region ?_)
  refine WO_step rfl (S_pure rfl ?_)
  refine WO_nil (KSeq_n (WC_seq (WC_region ?_)))
  refine WO_step rfl (S_pure rfl ?_)
  first | refine WO_step rfl (S_neS rfl rfl ?_) | refine WO_step rfl (S_pure rfl ?_)
  refine WO_step rfl (S_pure rfl ?_)
  refine WO_cases (t := 5) rfl (fun hg1 => ?_) (fun hg1 => ?_)
  ·
   try simp only [bsT] at hg1
   iterate 5 refine WO_step rfl (S_pure rfl ?_)
   refine WO_nil (KSeq_n (WC_ret ?_))
   refine KFn_r (ResL.tmp rfl ResL.nil) ?_
   refine ⟨_, hsA, rfl, ?_⟩
   have : 1 ≤ s.size := by
     rcases Nat.lt_or_ge 0 s.size with h | h
     · exact h
     · exact absurd (ba_ext (a := s) (b := ⟨#[]⟩) (by have : s.data.toList.length = 0 := by rw [Array.length_toList]; exact Nat.le_zero.1 h
                                                      rw [List.length_eq_zero_iff.1 this])) hg1
   simp only [resV, mayKey]
   congr 1; rw [Bool.eq_iff_iff]; simp; omega
  ·
   try simp only [bsT] at hg1
   iterate 3 refine WO_off rfl ?_
   iterate 2 refine WO_step rfl (S_pure rfl ?_)
   refine WO_nil (KSeq_n (WC_ret ?_))
   refine KFn_r (ResL.tmp rfl ResL.nil) ?_
   refine ⟨_, hsA, rfl, ?_⟩
   subst hg1; rfl
theorem ba_beq (a b : ByteArray) : (a == b) = decide (a = b) := by
  rw [Bool.eq_iff_iff, decide_eq_true_eq]
  cases a with
  | mk a => cases b with
    | mk b =>
      show (a == b) = true ↔ _
      rw [beq_iff_eq]; simp
theorem kEq_rec (a b : Rec) : kEq [.s, .b, .i, .i, .s] (cells (TRec.val a)) (cells (TRec.val b)) = some (decide (a = b)) := by
  have e : decide (a = b) = (decide (a.key = b.key) && ((a.gone == b.gone) && ((a.val.kind == b.val.kind) && ((a.val.n == b.val.n) && decide (a.val.s = b.val.s))))) := by
    rw [rec_ext, raw_ext, Bool.eq_iff_iff]; simp; constructor <;> (intro h; simp_all)
  rw [e]
  show kEq [.s, .b, .i, .i, .s] [.string a.key, .bool a.gone, .int .i64 a.val.kind, .int .i64 a.val.n, .string a.val.s] [.string b.key, .bool b.gone, .int .i64 b.val.kind, .int .i64 b.val.n, .string b.val.s] = _
  simp only [kEq, kEq1, ba_beq, if_true]
  cases decide (a.key = b.key) <;> cases a.gone == b.gone <;> cases a.val.kind == b.val.kind <;> cases a.val.n == b.val.n <;> cases decide (a.val.s = b.val.s) <;> rfl
theorem kEq_raw (a b : Raw) : kEq [.i, .i, .s] (cells (TRaw.val a)) (cells (TRaw.val b)) = some (decide (a = b)) := by
  have e : decide (a = b) = ((a.kind == b.kind) && ((a.n == b.n) && decide (a.s = b.s))) := by
    rw [raw_ext, Bool.eq_iff_iff]; simp; constructor <;> (intro h; simp_all)
  rw [e]
  show kEq [.i, .i, .s] [.int .i64 a.kind, .int .i64 a.n, .string a.s] [.int .i64 b.kind, .int .i64 b.n, .string b.s] = _
  simp only [kEq, kEq1, ba_beq, if_true]
  cases a.kind == b.kind <;> cases a.n == b.n <;> cases decide (a.s = b.s) <;> rfl
theorem S_eqA {l : SE} {H : SH} {K : Value → SH → Prop} {x y : Opd} {ks : List SK} {a b : Array Value} {r : Bool} (hx : x.lv l = some (.agg a)) (hy : y.lv l = some (.agg b)) (h1 : a.size = ks.length) (h2 : b.size = ks.length) (hk : kEq ks a.toList b.toList = some r) (k : K (.bool r) H) : Step (.eqA false ks x y) l H K :=
  S_pure (by simp only [pev, hx, hy, h1, h2, hk]; rfl) k
theorem dec_le (s : ByteArray) (pos : Nat) (h : pos < s.size) : pos + (Utf8.decode s pos).2 ≤ s.size := by
  have hl : s.data.toList.length = s.size := Array.length_toList
  rw [Lib.decode_N, hl]
  unfold Lib.decodeN
  repeat' split
  all_goals (simp only []; omega)
theorem lp_rValid {H : SH} {s : ByteArray} (hs : s.size ≤ 1000000) {i : Nat} : ∀ (f pos : Nat) (last : Int), s.size - pos ≤ f → pos ≤ s.size → (last = -1 ∨ ∃ j w : Nat, last = (j : Int) ∧ 1 ≤ w ∧ pos = j + w) →
   (vld s f pos && decide (¬ (0 ≤ last ∧ (pos : Int) = last + 1))) = valid s →
    WC F X (.loop L_runes_Valid_0) [(7, .pointer (some ⟨i, 0, none⟩)), (3, .int .i64 last), (0, .string s)] (.obj i (.iter s pos) :: H)
      (KPost fun x l' H' => H' = H ∧ (∃ last : Int, (-1 ≤ last ∧ last ≤ 1000000) ∧ ((x = .exit 0 ∧ l' = [(3, .int .i64 last), (0, .string s)] ∧ decide (last < 0 ∨ last + 1 < s.size) = valid s) ∨ (x = .ret ∧ l' = [(2, .bool false)] ∧ valid s = false)))) := by
  intro f
  induction f using Nat.strongRecOn with
  | _ f ih =>
    intro pos last hf hp hl ha
    have hlb : -1 ≤ last ∧ last ≤ pos := by rcases hl with rfl | ⟨j, w, rfl, _, rfl⟩ <;> omega
    have hw1 := Lib.width_pos s pos
    have hwd := dec_le s pos
    refine WC_loop (WC_seq (WC_region ?_))
    refine WO_step rfl (S_next rfl pkA (fun hn8 => ?_) (fun hn8 => ?_))
    ·
     obtain ⟨f', rfl⟩ : ∃ m', f = m' + 1 := ⟨f - 1, by omega⟩
     simp only [vld, if_pos hn8, decOk] at ha
     refine WO_step rfl (S_pure rfl ?_)
     refine WO_nil (KSeq_n (WC_seq ?_))
     refine WC_cond rfl (fun _ => ?_) (fun h => ?_)
     rotate_left
     · exact absurd h (by decide)
     refine WC_skip (KSeq_n (WC_block (WC_seq (WC_region ?_))))
     iterate 4 refine WO_step rfl (S_pure rfl ?_)
     refine WO_nil (KSeq_n (WC_seq (WC_seq (WC_region ?_))))
     iterate 3 refine WO_step rfl (S_pure rfl ?_)
     refine WO_cases (t := 14) rfl (fun hg1 => ?_) (fun hg1 => ?_)
     ·
      try simp only [bsT] at hg1
      iterate 2 refine WO_step rfl (S_pure rfl ?_)
      refine WO_step rfl (S_pureE rfl (v' := .int .i64 (last + 1)) ?_ ?_)
      · rw [wrap_i64 (by omega) (by omega)]
      first | refine WO_step rfl (S_eqS rfl rfl ?_) | refine WO_step rfl (S_pure rfl ?_)
      refine WO_step rfl (S_pure rfl ?_)
      refine WO_nil (KSeq_n ?_)
      refine WC_cond rfl (fun hb1 => ?_) (fun hb1 => ?_)
      ·
       try simp only [bsT] at hb1
       refine WC_seq (WC_region ?_)
       refine WO_step rfl (S_pure rfl ?_)
       refine WO_nil (KSeq_n (WC_ret (KSeq_r (KBlock_r (KLoop_r ?_)))))
       refine KPost_i (l' := [(2, .bool false)]) seA hsA ⟨rfl, last, by omega, .inr ⟨rfl, rfl, ?_⟩⟩
       rw [← ha]; simp [hg1, hb1]
      ·
       try simp only [bsT] at hb1
       refine WC_skip (KSeq_n (WC_seq (WC_region ?_)))
       refine WO_step rfl (S_pure rfl ?_)
       refine WO_nil (KSeq_n (WC_seq (WC_region ?_)))
       refine WO_step rfl (S_pure rfl ?_)
       first | refine WO_step rfl (S_eqS rfl rfl ?_) | refine WO_step rfl (S_pure rfl ?_)
       refine WO_nil (KSeq_n ?_)
       refine WC_cond rfl (fun hb2 => ?_) (fun hb2 => ?_)
       ·
        try simp only [bsT] at hb2
        refine WC_region ?_
        iterate 2 refine WO_step rfl (S_pure rfl ?_)
        refine WO_nil (KBlock_n (KLoop_n ?_))
        refine WC_weak (ih f' (by omega) (pos + (Utf8.decode s pos).2) pos (by omega) (by omega) (.inr ⟨pos, _, rfl, hw1, rfl⟩) ?_) seA hsA
        rw [← ha]
        have e : (Utf8.decode s pos).1 = 65533 := by omega
        rw [e, Bool.eq_iff_iff]; simp; constructor <;> (intro h; (try simp_all); (try omega))
       ·
        try simp only [bsT] at hb2
        refine WC_skip (KBlock_n (KLoop_n ?_))
        refine WC_weak (ih f' (by omega) (pos + (Utf8.decode s pos).2) (-1) (by omega) (by omega) (.inl rfl) ?_) seA hsA
        rw [← ha]
        have e : ¬ (Utf8.decode s pos).1 = 65533 := by omega
        rw [Bool.eq_iff_iff]; simp [e]; intro _; omega
     ·
      try simp only [bsT] at hg1
      iterate 4 refine WO_off rfl ?_
      refine WO_step rfl (S_pure rfl ?_)
      refine WO_nil (KSeq_n ?_)
      refine WC_cond rfl (fun h => ?_) (fun _ => ?_)
      · exact absurd h (by decide)
      refine WC_skip (KSeq_n (WC_seq (WC_region ?_)))
      refine WO_step rfl (S_pure rfl ?_)
      refine WO_nil (KSeq_n (WC_seq (WC_region ?_)))
      refine WO_step rfl (S_pure rfl ?_)
      first | refine WO_step rfl (S_eqS rfl rfl ?_) | refine WO_step rfl (S_pure rfl ?_)
      refine WO_nil (KSeq_n ?_)
      refine WC_cond rfl (fun hb3 => ?_) (fun hb3 => ?_)
      ·
       try simp only [bsT] at hb3
       refine WC_region ?_
       iterate 2 refine WO_step rfl (S_pure rfl ?_)
       refine WO_nil (KBlock_n (KLoop_n ?_))
       refine WC_weak (ih f' (by omega) (pos + (Utf8.decode s pos).2) pos (by omega) (by omega) (.inr ⟨pos, _, rfl, hw1, rfl⟩) ?_) seA hsA
       rw [← ha]
       have e : (Utf8.decode s pos).1 = 65533 := by omega
       rw [e, Bool.eq_iff_iff]; simp; constructor <;> (intro h; (try simp_all); (try omega))
      ·
       try simp only [bsT] at hb3
       refine WC_skip (KBlock_n (KLoop_n ?_))
       refine WC_weak (ih f' (by omega) (pos + (Utf8.decode s pos).2) (-1) (by omega) (by omega) (.inl rfl) ?_) seA hsA
       rw [← ha]
       have e : ¬ (Utf8.decode s pos).1 = 65533 := by omega
       rw [Bool.eq_iff_iff]; simp [e]; intro _; omega
    ·
     refine WO_step rfl (S_pure rfl ?_)
     refine WO_nil (KSeq_n (WC_seq ?_))
     refine WC_cond rfl (fun h => ?_) (fun _ => ?_)
     · exact absurd h (by decide)
     refine WC_exit (KSeq_x (KLoop_x ?_))
     refine KPost_i (l' := [(3, .int .i64 last), (0, .string s)]) (H' := H) seA hsA ⟨rfl, last, by omega, .inl ⟨rfl, rfl, ?_⟩⟩
     rw [← ha]
     have e : vld s f pos = true := by
       cases f with
       | zero => rfl
       | succ f => simp only [vld, if_neg hn8]
     rw [e, Bool.eq_iff_iff]
     simp
     rcases hl with rfl | ⟨j, w, rfl, _, rfl⟩ <;> omega
theorem sp_rValid {H : SH} {s : ByteArray} (hs : s.size ≤ 1000000) : WF F X f_runes_Valid [.string s] H (fun v H' => H' = H ∧ v = .bool (valid s)) := by
  refine WF_fn F_runes_Valid ?_
  refine WC_seq (WC_region ?_)
  refine WO_step rfl (S_pure rfl ?_)
  refine WO_nil (KSeq_n (WC_seq (WC_region ?_)))
  refine WO_step rfl (S_pure rfl ?_)
  refine WO_nil (KSeq_n (WC_seq (WC_seq (WC_region ?_))))
  refine WO_step rfl (S_pure rfl ?_)
  refine WO_step rfl (S_iter rfl fun i7 => ?_)
  refine WO_nil (KSeq_n (WC_block ?_))
  refine WC_post (WC_weak (lp_rValid hs s.size 0 (-1) (by omega) (by omega) (.inl rfl) (by simp [valid])) seA hsA) ?_
  rintro x l' H' ⟨rfl, last, hlast, ⟨rfl, rfl, h0⟩ | ⟨rfl, rfl, h0⟩⟩
  ·
   refine KBlock_h (KSeq_n (WC_seq (WC_region ?_)))
   iterate 3 refine WO_step rfl (S_pure rfl ?_)
   refine WO_cases (t := 25) rfl (fun hg1 => ?_) (fun hg1 => ?_)
   ·
    try simp only [bsT] at hg1
    iterate 5 refine WO_off rfl ?_
    iterate 2 refine WO_step rfl (S_pure rfl ?_)
    refine WO_nil (KSeq_n (WC_ret ?_))
    refine KFn_r (ResL.tmp rfl ResL.nil) ?_
    refine ⟨_, hsA, rfl, ?_⟩
    simp only [resV]; rw [← h0]
    congr 1; rw [Bool.eq_iff_iff]; simp; omega
   ·
    try simp only [bsT] at hg1
    iterate 3 refine WO_step rfl (S_pure rfl ?_)
    refine WO_step rfl (S_pureE rfl (v' := .int .i64 (last + 1)) ?_ ?_)
    · rw [wrap_i64 (by omega) (by omega)]
    iterate 3 refine WO_step rfl (S_pure rfl ?_)
    refine WO_nil (KSeq_n (WC_ret ?_))
    refine KFn_r (ResL.tmp rfl ResL.nil) ?_
    refine ⟨_, hsA, rfl, ?_⟩
    simp only [resV]; rw [← h0]
    congr 1; rw [Bool.eq_iff_iff]; simp; omega
  ·
   refine KBlock_r (KSeq_r ?_)
   refine KFn_r (ResL.tmp rfl ResL.nil) ?_
   refine ⟨_, hsA, rfl, ?_⟩
   rw [h0]; rfl
theorem sp_Of {H : SH} {r : Raw} : WF F X f_value_Of [TRaw.val r] H (fun v H' => H' = H ∧ ∃ c : Value, one c = true ∧ v = .tuple #[.agg #[c], .int .i64 (if mayRaw r then 0 else 1)]) := by
  refine WF_fn F_value_Of ?_
  refine WC_seq (WC_region ?_)
  refine WO_step rfl (S_box rfl rfl fun i1 => ?_)
  refine WO_step rfl (S_new fun i2 => ?_)
  refine WO_step rfl (S_pure rfl ?_)
  refine WO_nil (KSeq_n (WC_seq (WC_block (WC_seq (WC_region ?_)))))
  refine WO_step rfl (S_pure rfl ?_)
  refine WO_step rfl (S_loadO rfl pkA (by rfl) (by rfl) ?_)
  first | refine WO_step rfl (S_eqS rfl rfl ?_) | refine WO_step rfl (S_pure rfl ?_)
  refine WO_step rfl (S_pure rfl ?_)
  refine WO_cases (t := 8) rfl (fun hg1 => ?_) (fun hg1 => ?_)
  ·
   try simp only [bsT] at hg1
   refine WO_step rfl (S_pure rfl ?_)
   refine WO_step rfl (S_loadO rfl pkA (by rfl) (by rfl) ?_)
   first | refine WO_step rfl (S_eqS rfl rfl ?_) | refine WO_step rfl (S_pure rfl ?_)
   iterate 2 refine WO_step rfl (S_pure rfl ?_)
   refine WO_nil (KSeq_n ?_)
   refine WC_cond rfl (fun hb1 => ?_) (fun hb1 => ?_)
   ·
    try simp only [bsT] at hb1
    refine WC_seq (WC_region ?_)
    refine WO_step rfl (S_pure rfl ?_)
    refine WO_step rfl (S_loadO rfl pkA (by rfl) (by rfl) ?_)
    iterate 2 refine WO_step rfl (S_pure rfl ?_)
    first | refine WO_step rfl (S_storeT rfl rfl pkA (by rfl) (by rfl) ?_) | refine WO_step rfl (S_storeO rfl rfl pkA (by first | rfl | exact SV.cells1 _) (by rfl) (by first | rfl | exact SV.ones _) ?_)
    refine WO_step rfl (S_pure rfl ?_)
    refine WO_nil (KSeq_n (WC_ret (KBlock_r (KSeq_r ?_))))
    refine KFn_r (ResL.cell rfl pkA (Nat.le_of_ble_eq_true rfl) rfl (ResL.tmp rfl ResL.nil)) ?_
    refine ⟨_, hsA, rfl, .iface 2 (.int .i64 r.n), rfl, ?_⟩
    have : mayRaw r = true := by simp [mayRaw, hg1, hb1, es0]
    rw [this]; rfl
   ·
    try simp only [bsT] at hb1
    refine WC_seq (WC_region ?_)
    refine WO_step rfl (S_pure rfl ?_)
    refine WO_step rfl (S_loadO rfl pkA (by rfl) (by rfl) ?_)
    first | refine WO_step rfl (S_eqS rfl rfl ?_) | refine WO_step rfl (S_pure rfl ?_)
    refine WO_step rfl (S_pure rfl ?_)
    refine WO_cases (t := 21) rfl (fun hg2 => ?_) (fun hg2 => ?_)
    ·
     try simp only [bsT] at hg2
     refine WO_step rfl (S_pure rfl ?_)
     refine WO_step rfl (S_loadO rfl pkA (by rfl) (by rfl) ?_)
     first | refine WO_step rfl (S_eqS rfl rfl ?_) | refine WO_step rfl (S_pure rfl ?_)
     iterate 2 refine WO_step rfl (S_pure rfl ?_)
     refine WO_cases (t := 26) rfl (fun hg3 => ?_) (fun hg3 => ?_)
     ·
      try simp only [bsT] at hg3
      refine WO_step rfl (S_pure rfl ?_)
      refine WO_step rfl (S_loadO rfl pkA (by rfl) (by rfl) ?_)
      iterate 4 refine WO_step rfl (S_pure rfl ?_)
      refine WO_cases (t := 32) rfl (fun hg4 => ?_) (fun hg4 => ?_)
      ·
       try simp only [bsT] at hg4
       refine WO_step rfl (S_pure rfl ?_)
       refine WO_step rfl (S_loadO rfl pkA (by rfl) (by rfl) ?_)
       refine WO_call rfl rfl rfl ?_
       refine (sp_rValid (by omega)).mono ?_
       rintro _ _ ⟨rfl, rfl⟩
       iterate 2 refine WO_step rfl (S_pure rfl ?_)
       refine WO_nil (KSeq_n ?_)
       refine WC_cond rfl (fun hb2 => ?_) (fun hb2 => ?_)
       ·
        try simp only [bsT] at hb2
        refine WC_seq (WC_region ?_)
        refine WO_step rfl (S_pure rfl ?_)
        refine WO_step rfl (S_loadO rfl pkA (by rfl) (by rfl) ?_)
        iterate 2 refine WO_step rfl (S_pure rfl ?_)
        first | refine WO_step rfl (S_storeT rfl rfl pkA (by rfl) (by rfl) ?_) | refine WO_step rfl (S_storeO rfl rfl pkA (by first | rfl | exact SV.cells1 _) (by rfl) (by first | rfl | exact SV.ones _) ?_)
        refine WO_step rfl (S_pure rfl ?_)
        refine WO_nil (KSeq_n (WC_ret (KBlock_r (KSeq_r ?_))))
        refine KFn_r (ResL.cell rfl pkA (Nat.le_of_ble_eq_true rfl) rfl (ResL.tmp rfl ResL.nil)) ?_
        first
          | (refine ⟨_, hsA, rfl, .iface 169 (.string r.s), rfl, ?_⟩
             have : mayRaw r = true := by first | (simp_all [mayRaw, es0]; done) | (simp_all [mayRaw, es0]; omega)
             rw [this]; rfl)
          | (refine ⟨_, hsA, rfl, .nilIface, rfl, ?_⟩
             have : mayRaw r = false := by first | (simp_all [mayRaw, es0]; done) | (simp_all [mayRaw, es0]; omega)
             rw [this]; rfl)
       ·
        try simp only [bsT] at hb2
        refine WC_skip (KBlock_n (KSeq_n (WC_seq (WC_region ?_))))
        refine WO_step rfl (S_pure rfl ?_)
        first | refine WO_step rfl (S_storeT rfl rfl pkA (by rfl) (by rfl) ?_) | refine WO_step rfl (S_storeO rfl rfl pkA (by first | rfl | exact SV.cells1 _) (by rfl) (by first | rfl | exact SV.ones _) ?_)
        refine WO_step rfl (S_pure rfl ?_)
        refine WO_nil (KSeq_n (WC_ret ?_))
        refine KFn_r (ResL.cell rfl pkA (Nat.le_of_ble_eq_true rfl) rfl (ResL.tmp rfl ResL.nil)) ?_
        first
          | (refine ⟨_, hsA, rfl, .iface 169 (.string r.s), rfl, ?_⟩
             have : mayRaw r = true := by first | (simp_all [mayRaw, es0]; done) | (simp_all [mayRaw, es0]; omega)
             rw [this]; rfl)
          | (refine ⟨_, hsA, rfl, .nilIface, rfl, ?_⟩
             have : mayRaw r = false := by first | (simp_all [mayRaw, es0]; done) | (simp_all [mayRaw, es0]; omega)
             rw [this]; rfl)
      ·
       try simp only [bsT] at hg4
       iterate 3 refine WO_off rfl ?_
       iterate 2 refine WO_step rfl (S_pure rfl ?_)
       refine WO_nil (KSeq_n ?_)
       refine WC_cond rfl (fun h => ?_) (fun _ => ?_)
       · exact absurd h (by decide)
       refine WC_skip (KBlock_n (KSeq_n (WC_seq (WC_region ?_))))
       refine WO_step rfl (S_pure rfl ?_)
       first | refine WO_step rfl (S_storeT rfl rfl pkA (by rfl) (by rfl) ?_) | refine WO_step rfl (S_storeO rfl rfl pkA (by first | rfl | exact SV.cells1 _) (by rfl) (by first | rfl | exact SV.ones _) ?_)
       refine WO_step rfl (S_pure rfl ?_)
       refine WO_nil (KSeq_n (WC_ret ?_))
       refine KFn_r (ResL.cell rfl pkA (Nat.le_of_ble_eq_true rfl) rfl (ResL.tmp rfl ResL.nil)) ?_
       first
         | (refine ⟨_, hsA, rfl, .iface 169 (.string r.s), rfl, ?_⟩
            have : mayRaw r = true := by first | (simp_all [mayRaw, es0]; done) | (simp_all [mayRaw, es0]; omega)
            rw [this]; rfl)
         | (refine ⟨_, hsA, rfl, .nilIface, rfl, ?_⟩
            have : mayRaw r = false := by first | (simp_all [mayRaw, es0]; done) | (simp_all [mayRaw, es0]; omega)
            rw [this]; rfl)
     ·
      try simp only [bsT] at hg3
      iterate 4 refine WO_off rfl ?_
      iterate 2 refine WO_step rfl (S_pure rfl ?_)
      iterate 3 refine WO_off rfl ?_
      iterate 2 refine WO_step rfl (S_pure rfl ?_)
      refine WO_nil (KSeq_n ?_)
      refine WC_cond rfl (fun h => ?_) (fun _ => ?_)
      · exact absurd h (by decide)
      refine WC_skip (KBlock_n (KSeq_n (WC_seq (WC_region ?_))))
      refine WO_step rfl (S_pure rfl ?_)
      first | refine WO_step rfl (S_storeT rfl rfl pkA (by rfl) (by rfl) ?_) | refine WO_step rfl (S_storeO rfl rfl pkA (by first | rfl | exact SV.cells1 _) (by rfl) (by first | rfl | exact SV.ones _) ?_)
      refine WO_step rfl (S_pure rfl ?_)
      refine WO_nil (KSeq_n (WC_ret ?_))
      refine KFn_r (ResL.cell rfl pkA (Nat.le_of_ble_eq_true rfl) rfl (ResL.tmp rfl ResL.nil)) ?_
      first
        | (refine ⟨_, hsA, rfl, .iface 169 (.string r.s), rfl, ?_⟩
           have : mayRaw r = true := by first | (simp_all [mayRaw, es0]; done) | (simp_all [mayRaw, es0]; omega)
           rw [this]; rfl)
        | (refine ⟨_, hsA, rfl, .nilIface, rfl, ?_⟩
           have : mayRaw r = false := by first | (simp_all [mayRaw, es0]; done) | (simp_all [mayRaw, es0]; omega)
           rw [this]; rfl)
    ·
     try simp only [bsT] at hg2
     iterate 3 refine WO_off rfl ?_
     iterate 2 refine WO_step rfl (S_pure rfl ?_)
     iterate 4 refine WO_off rfl ?_
     iterate 2 refine WO_step rfl (S_pure rfl ?_)
     iterate 3 refine WO_off rfl ?_
     iterate 2 refine WO_step rfl (S_pure rfl ?_)
     refine WO_nil (KSeq_n ?_)
     refine WC_cond rfl (fun h => ?_) (fun _ => ?_)
     · exact absurd h (by decide)
     refine WC_skip (KBlock_n (KSeq_n (WC_seq (WC_region ?_))))
     refine WO_step rfl (S_pure rfl ?_)
     first | refine WO_step rfl (S_storeT rfl rfl pkA (by rfl) (by rfl) ?_) | refine WO_step rfl (S_storeO rfl rfl pkA (by first | rfl | exact SV.cells1 _) (by rfl) (by first | rfl | exact SV.ones _) ?_)
     refine WO_step rfl (S_pure rfl ?_)
     refine WO_nil (KSeq_n (WC_ret ?_))
     refine KFn_r (ResL.cell rfl pkA (Nat.le_of_ble_eq_true rfl) rfl (ResL.tmp rfl ResL.nil)) ?_
     first
       | (refine ⟨_, hsA, rfl, .iface 169 (.string r.s), rfl, ?_⟩
          have : mayRaw r = true := by first | (simp_all [mayRaw, es0]; done) | (simp_all [mayRaw, es0]; omega)
          rw [this]; rfl)
       | (refine ⟨_, hsA, rfl, .nilIface, rfl, ?_⟩
          have : mayRaw r = false := by first | (simp_all [mayRaw, es0]; done) | (simp_all [mayRaw, es0]; omega)
          rw [this]; rfl)
  ·
   try simp only [bsT] at hg1
   iterate 3 refine WO_off rfl ?_
   iterate 2 refine WO_step rfl (S_pure rfl ?_)
   refine WO_nil (KSeq_n ?_)
   refine WC_cond rfl (fun h => ?_) (fun _ => ?_)
   · exact absurd h (by decide)
   refine WC_seq (WC_region ?_)
   refine WO_step rfl (S_pure rfl ?_)
   refine WO_step rfl (S_loadO rfl pkA (by rfl) (by rfl) ?_)
   first | refine WO_step rfl (S_eqS rfl rfl ?_) | refine WO_step rfl (S_pure rfl ?_)
   refine WO_step rfl (S_pure rfl ?_)
   refine WO_cases (t := 21) rfl (fun hg5 => ?_) (fun hg5 => ?_)
   ·
    try simp only [bsT] at hg5
    refine WO_step rfl (S_pure rfl ?_)
    refine WO_step rfl (S_loadO rfl pkA (by rfl) (by rfl) ?_)
    first | refine WO_step rfl (S_eqS rfl rfl ?_) | refine WO_step rfl (S_pure rfl ?_)
    iterate 2 refine WO_step rfl (S_pure rfl ?_)
    refine WO_cases (t := 26) rfl (fun hg6 => ?_) (fun hg6 => ?_)
    ·
     try simp only [bsT] at hg6
     refine WO_step rfl (S_pure rfl ?_)
     refine WO_step rfl (S_loadO rfl pkA (by rfl) (by rfl) ?_)
     iterate 4 refine WO_step rfl (S_pure rfl ?_)
     refine WO_cases (t := 32) rfl (fun hg7 => ?_) (fun hg7 => ?_)
     ·
      try simp only [bsT] at hg7
      refine WO_step rfl (S_pure rfl ?_)
      refine WO_step rfl (S_loadO rfl pkA (by rfl) (by rfl) ?_)
      refine WO_call rfl rfl rfl ?_
      refine (sp_rValid (by omega)).mono ?_
      rintro _ _ ⟨rfl, rfl⟩
      iterate 2 refine WO_step rfl (S_pure rfl ?_)
      refine WO_nil (KSeq_n ?_)
      refine WC_cond rfl (fun hb3 => ?_) (fun hb3 => ?_)
      ·
       try simp only [bsT] at hb3
       refine WC_seq (WC_region ?_)
       refine WO_step rfl (S_pure rfl ?_)
       refine WO_step rfl (S_loadO rfl pkA (by rfl) (by rfl) ?_)
       iterate 2 refine WO_step rfl (S_pure rfl ?_)
       first | refine WO_step rfl (S_storeT rfl rfl pkA (by rfl) (by rfl) ?_) | refine WO_step rfl (S_storeO rfl rfl pkA (by first | rfl | exact SV.cells1 _) (by rfl) (by first | rfl | exact SV.ones _) ?_)
       refine WO_step rfl (S_pure rfl ?_)
       refine WO_nil (KSeq_n (WC_ret (KBlock_r (KSeq_r ?_))))
       refine KFn_r (ResL.cell rfl pkA (Nat.le_of_ble_eq_true rfl) rfl (ResL.tmp rfl ResL.nil)) ?_
       first
         | (refine ⟨_, hsA, rfl, .iface 169 (.string r.s), rfl, ?_⟩
            have : mayRaw r = true := by first | (simp_all [mayRaw, es0]; done) | (simp_all [mayRaw, es0]; omega)
            rw [this]; rfl)
         | (refine ⟨_, hsA, rfl, .nilIface, rfl, ?_⟩
            have : mayRaw r = false := by first | (simp_all [mayRaw, es0]; done) | (simp_all [mayRaw, es0]; omega)
            rw [this]; rfl)
      ·
       try simp only [bsT] at hb3
       refine WC_skip (KBlock_n (KSeq_n (WC_seq (WC_region ?_))))
       refine WO_step rfl (S_pure rfl ?_)
       first | refine WO_step rfl (S_storeT rfl rfl pkA (by rfl) (by rfl) ?_) | refine WO_step rfl (S_storeO rfl rfl pkA (by first | rfl | exact SV.cells1 _) (by rfl) (by first | rfl | exact SV.ones _) ?_)
       refine WO_step rfl (S_pure rfl ?_)
       refine WO_nil (KSeq_n (WC_ret ?_))
       refine KFn_r (ResL.cell rfl pkA (Nat.le_of_ble_eq_true rfl) rfl (ResL.tmp rfl ResL.nil)) ?_
       first
         | (refine ⟨_, hsA, rfl, .iface 169 (.string r.s), rfl, ?_⟩
            have : mayRaw r = true := by first | (simp_all [mayRaw, es0]; done) | (simp_all [mayRaw, es0]; omega)
            rw [this]; rfl)
         | (refine ⟨_, hsA, rfl, .nilIface, rfl, ?_⟩
            have : mayRaw r = false := by first | (simp_all [mayRaw, es0]; done) | (simp_all [mayRaw, es0]; omega)
            rw [this]; rfl)
     ·
      try simp only [bsT] at hg7
      iterate 3 refine WO_off rfl ?_
      iterate 2 refine WO_step rfl (S_pure rfl ?_)
      refine WO_nil (KSeq_n ?_)
      refine WC_cond rfl (fun h => ?_) (fun _ => ?_)
      · exact absurd h (by decide)
      refine WC_skip (KBlock_n (KSeq_n (WC_seq (WC_region ?_))))
      refine WO_step rfl (S_pure rfl ?_)
      first | refine WO_step rfl (S_storeT rfl rfl pkA (by rfl) (by rfl) ?_) | refine WO_step rfl (S_storeO rfl rfl pkA (by first | rfl | exact SV.cells1 _) (by rfl) (by first | rfl | exact SV.ones _) ?_)
      refine WO_step rfl (S_pure rfl ?_)
      refine WO_nil (KSeq_n (WC_ret ?_))
      refine KFn_r (ResL.cell rfl pkA (Nat.le_of_ble_eq_true rfl) rfl (ResL.tmp rfl ResL.nil)) ?_
      first
        | (refine ⟨_, hsA, rfl, .iface 169 (.string r.s), rfl, ?_⟩
           have : mayRaw r = true := by first | (simp_all [mayRaw, es0]; done) | (simp_all [mayRaw, es0]; omega)
           rw [this]; rfl)
        | (refine ⟨_, hsA, rfl, .nilIface, rfl, ?_⟩
           have : mayRaw r = false := by first | (simp_all [mayRaw, es0]; done) | (simp_all [mayRaw, es0]; omega)
           rw [this]; rfl)
    ·
     try simp only [bsT] at hg6
     iterate 4 refine WO_off rfl ?_
     iterate 2 refine WO_step rfl (S_pure rfl ?_)
     iterate 3 refine WO_off rfl ?_
     iterate 2 refine WO_step rfl (S_pure rfl ?_)
     refine WO_nil (KSeq_n ?_)
     refine WC_cond rfl (fun h => ?_) (fun _ => ?_)
     · exact absurd h (by decide)
     refine WC_skip (KBlock_n (KSeq_n (WC_seq (WC_region ?_))))
     refine WO_step rfl (S_pure rfl ?_)
     first | refine WO_step rfl (S_storeT rfl rfl pkA (by rfl) (by rfl) ?_) | refine WO_step rfl (S_storeO rfl rfl pkA (by first | rfl | exact SV.cells1 _) (by rfl) (by first | rfl | exact SV.ones _) ?_)
     refine WO_step rfl (S_pure rfl ?_)
     refine WO_nil (KSeq_n (WC_ret ?_))
     refine KFn_r (ResL.cell rfl pkA (Nat.le_of_ble_eq_true rfl) rfl (ResL.tmp rfl ResL.nil)) ?_
     first
       | (refine ⟨_, hsA, rfl, .iface 169 (.string r.s), rfl, ?_⟩
          have : mayRaw r = true := by first | (simp_all [mayRaw, es0]; done) | (simp_all [mayRaw, es0]; omega)
          rw [this]; rfl)
       | (refine ⟨_, hsA, rfl, .nilIface, rfl, ?_⟩
          have : mayRaw r = false := by first | (simp_all [mayRaw, es0]; done) | (simp_all [mayRaw, es0]; omega)
          rw [this]; rfl)
   ·
    try simp only [bsT] at hg5
    iterate 3 refine WO_off rfl ?_
    iterate 2 refine WO_step rfl (S_pure rfl ?_)
    iterate 4 refine WO_off rfl ?_
    iterate 2 refine WO_step rfl (S_pure rfl ?_)
    iterate 3 refine WO_off rfl ?_
    iterate 2 refine WO_step rfl (S_pure rfl ?_)
    refine WO_nil (KSeq_n ?_)
    refine WC_cond rfl (fun h => ?_) (fun _ => ?_)
    · exact absurd h (by decide)
    refine WC_skip (KBlock_n (KSeq_n (WC_seq (WC_region ?_))))
    refine WO_step rfl (S_pure rfl ?_)
    first | refine WO_step rfl (S_storeT rfl rfl pkA (by rfl) (by rfl) ?_) | refine WO_step rfl (S_storeO rfl rfl pkA (by first | rfl | exact SV.cells1 _) (by rfl) (by first | rfl | exact SV.ones _) ?_)
    refine WO_step rfl (S_pure rfl ?_)
    refine WO_nil (KSeq_n (WC_ret ?_))
    refine KFn_r (ResL.cell rfl pkA (Nat.le_of_ble_eq_true rfl) rfl (ResL.tmp rfl ResL.nil)) ?_
    first
      | (refine ⟨_, hsA, rfl, .iface 169 (.string r.s), rfl, ?_⟩
         have : mayRaw r = true := by first | (simp_all [mayRaw, es0]; done) | (simp_all [mayRaw, es0]; omega)
         rw [this]; rfl)
      | (refine ⟨_, hsA, rfl, .nilIface, rfl, ?_⟩
         have : mayRaw r = false := by first | (simp_all [mayRaw, es0]; done) | (simp_all [mayRaw, es0]; omega)
         rw [this]; rfl)
theorem sp_rMay {H : SH} {r : Rec} : WF F X f_record_May [TRec.val r] H (fun v H' => H' = H ∧ v = .bool (mayRec r)) := by
  refine WF_fn F_record_May ?_
  refine WC_seq (WC_region ?_)
  refine WO_step rfl (S_box rfl rfl fun i1 => ?_)
  refine WO_step rfl (S_pure rfl ?_)
  refine WO_nil (KSeq_n (WC_seq (WC_seq (WC_region ?_))))
  refine WO_step rfl (S_pure rfl ?_)
  refine WO_step rfl (S_loadO rfl pkA (by rfl) (by rfl) ?_)
  refine WO_call rfl rfl rfl ?_
  refine sp_kMay.mono ?_
  rintro _ _ ⟨rfl, rfl⟩
  refine WO_step rfl (S_pure rfl ?_)
  refine WO_nil (KSeq_n ?_)
  refine WC_cond rfl (fun hb1 => ?_) (fun hb1 => ?_)
  ·
   try simp only [bsT] at hb1
   refine WC_seq (WC_region ?_)
   refine WO_step rfl (S_pure rfl ?_)
   refine WO_nil (KSeq_n (WC_ret (KSeq_r ?_)))
   refine KFn_r (ResL.tmp rfl ResL.nil) ?_
   refine ⟨_, hsA, rfl, ?_⟩
   simp only [resV, mayRec]
   simp only [hb1]
   try simp only [hb2]
   try (cases mayRaw r.val)
   all_goals rfl
  ·
   try simp only [bsT] at hb1
   refine WC_skip (KSeq_n (WC_seq (WC_seq (WC_region ?_))))
   refine WO_step rfl (S_pure rfl ?_)
   refine WO_step rfl (S_loadO rfl pkA (by rfl) (by rfl) ?_)
   refine WO_nil (KSeq_n ?_)
   refine WC_cond rfl (fun hb2 => ?_) (fun hb2 => ?_)
   ·
    try simp only [bsT] at hb2
    refine WC_seq (WC_region ?_)
    refine WO_step rfl (S_pure rfl ?_)
    refine WO_step rfl (S_loadO rfl pkA (by rfl) (by rfl) ?_)
    refine WO_step rfl (S_pure rfl ?_)
    refine WO_step rfl (S_eqA rfl rfl rfl rfl (kEq_raw r.val raw0) ?_)
    refine WO_step rfl (S_pure rfl ?_)
    refine WO_nil (KSeq_n (WC_ret (KSeq_r ?_)))
    refine KFn_r (ResL.tmp rfl ResL.nil) ?_
    refine ⟨_, hsA, rfl, ?_⟩
    simp only [resV, mayRec]
    simp only [hb1]
    try simp only [hb2]
    try (cases mayRaw r.val)
    all_goals rfl
   ·
    try simp only [bsT] at hb2
    refine WC_skip (KSeq_n (WC_seq (WC_region ?_)))
    refine WO_step rfl (S_pure rfl ?_)
    refine WO_step rfl (S_loadO rfl pkA (by rfl) (by rfl) ?_)
    refine WO_call rfl rfl rfl ?_
    refine (sp_Of).mono ?_
    rintro _ _ ⟨rfl, c, hc, rfl⟩
    iterate 3 refine WO_step rfl (S_pure rfl ?_)
    refine WO_step rfl (S_new fun i3 => ?_)
    refine WO_step rfl (S_storeO rfl rfl pkA (by rfl) (by rfl) (by show (one c && true) = true; rw [hc]; rfl) ?_)
    refine WO_step rfl (S_pure rfl ?_)
    refine WO_nil (KSeq_n (WC_seq (WC_region ?_)))
    refine WO_step rfl (S_pure rfl ?_)
    first | refine WO_step rfl (S_eqS rfl rfl ?_) | refine WO_step rfl (S_pure rfl ?_)
    refine WO_step rfl (S_pure rfl ?_)
    refine WO_nil (KSeq_n (WC_ret ?_))
    refine KFn_r (ResL.tmp rfl ResL.nil) ?_
    refine ⟨_, hsA, rfl, ?_⟩
    simp only [resV, mayRec]
    simp only [hb1]
    try simp only [hb2]
    try (cases mayRaw r.val)
    all_goals rfl
end Go.Proofs.YtpnmeednimpjdaaGreat.AM
namespace Go.Proofs.YtpnmeednimpjdaaGreat.AM
open Go
set_option linter.unusedSimpArgs false
set_option linter.unusedVariables false
set_option maxRecDepth 4000
set_option linter.unusedSectionVars false
variable {X : Exts} [HX X]
def kl (r : Rec) : List UInt8 := r.key.data.toList
theorem kl_inj {a b : Rec} (h : kl a = kl b) : a.key = b.key := ba_ext h
def Inc (l : List Rec) : Prop := l.Pairwise (fun a b => kl a < kl b)
theorem fnd_none' {l : List Rec} {k : ByteArray} (h : ∀ y ∈ l, y.key ≠ k) : fnd l k = none := by
  induction l with
  | nil => rfl
  | cons x l ih =>
    show (if x.key = k then some x else fnd l k) = none
    rw [if_neg (h x (List.mem_cons_self ..)), ih (fun y hy => h y (List.mem_cons_of_mem _ hy))]
theorem fnd_mem' : ∀ {l : List Rec} {k : ByteArray} {r : Rec}, fnd l k = some r → r ∈ l ∧ r.key = k
  | x :: l, k, r, h => by
    unfold fnd at h; split at h
    · cases h; exact ⟨List.mem_cons_self .., by assumption⟩
    · have := fnd_mem' h; exact ⟨List.mem_cons_of_mem _ this.1, this.2⟩
theorem Inc.uniq : ∀ {a b : List Rec}, Inc a → Inc b → (∀ k, fnd a k = fnd b k) → a = b
  | [], [], _, _, _ => rfl
  | [], y :: b, _, _, h => by have := h y.key; simp [fnd] at this
  | x :: a, [], _, _, h => by have := h x.key; simp [fnd] at this
  | x :: a, y :: b, ha, hb, h => by
    have pa := List.pairwise_cons.1 ha
    have pb := List.pairwise_cons.1 hb
    have hxy : x = y := by
      have h1 := h x.key
      have h2 := h y.key
      simp only [fnd, if_true] at h1 h2
      by_cases e : x.key = y.key
      · rw [if_pos e.symm] at h1; exact Option.some.inj h1
      · rw [if_neg (Ne.symm e)] at h1
        rw [if_neg e] at h2
        have m1 := (fnd_mem' h1.symm).1
        have m2 := (fnd_mem' h2).1
        exact absurd (List.lt_trans (pb.1 x m1) (pa.1 y m2)) (List.lt_irrefl _)
    subst hxy
    congr 1
    refine Inc.uniq pa.2 pb.2 fun k => ?_
    by_cases e : x.key = k
    · rw [fnd_none' fun z hz hk => ?_, fnd_none' fun z hz hk => ?_]
      · have := pb.1 z hz; unfold kl at this; rw [hk, ← e] at this; exact absurd this (List.lt_irrefl _)
      · have := pa.1 z hz; unfold kl at this; rw [hk, ← e] at this; exact absurd this (List.lt_irrefl _)
    · have := h k
      simp only [fnd, if_neg e] at this
      exact this
def setR (r : Rec) : List Rec → Bool → List Rec
  | [], d => if d then [] else [r]
  | x :: l, d => (if d = false ∧ ¬ kl x < kl r then [r] else []) ++ ((if x.key = r.key then [] else [x]) ++ setR r l (d || !decide (kl x < kl r)))
theorem setR_true (r : Rec) : ∀ l, setR r l true = l.filter (fun x => !decide (x.key = r.key))
  | [] => rfl
  | x :: l => by
    simp only [setR, Bool.true_or, setR_true r l, List.filter_cons]
    by_cases e : x.key = r.key <;> simp [e]
theorem setR_mem {r y : Rec} : ∀ {l : List Rec} {d : Bool}, y ∈ setR r l d → y = r ∨ y ∈ l
  | [], d, h => by
    unfold setR at h; split at h
    · simp at h
    · simp at h; exact .inl h
  | x :: l, d, h => by
    unfold setR at h
    rcases List.mem_append.1 h with h | h
    · split at h
      · simp at h; exact .inl h
      · simp at h
    · rcases List.mem_append.1 h with h | h
      · split at h
        · simp at h
        · simp at h; exact .inr (by simp [h])
      · rcases setR_mem h with h | h
        · exact .inl h
        · exact .inr (List.mem_cons_of_mem _ h)
theorem fnd_filter (r : Rec) (k : ByteArray) (hk : k ≠ r.key) : ∀ l : List Rec, fnd (l.filter (fun x => !decide (x.key = r.key))) k = fnd l k
  | [] => rfl
  | x :: l => by
    rw [List.filter_cons]
    by_cases e : x.key = r.key
    · simp only [e, decide_true, Bool.not_true, Bool.false_eq_true, if_false]
      rw [fnd_filter r k hk l]; simp only [fnd]; rw [if_neg (by rw [e]; exact Ne.symm hk)]
    · simp only [e, decide_false, Bool.not_false, if_true]
      simp only [fnd, fnd_filter r k hk l]
theorem setR_spec (r : Rec) : ∀ l : List Rec, Inc l → Inc (setR r l false) ∧ ∀ k, fnd (setR r l false) k = if r.key = k then some r else fnd l k
  | [], _ => by
    simp only [setR, Bool.false_eq_true, if_false]
    exact ⟨List.pairwise_singleton _ _, fun k => rfl⟩
  | x :: l, h => by
    have p := List.pairwise_cons.1 h
    by_cases hx : kl x < kl r
    · have hne : x.key ≠ r.key := by intro e; unfold kl at hx; rw [e] at hx; exact absurd hx (List.lt_irrefl _)
      obtain ⟨h1, h2⟩ := setR_spec r l p.2
      have e : setR r (x :: l) false = x :: setR r l false := by simp [setR, hx, hne]
      rw [e]
      refine ⟨List.pairwise_cons.2 ⟨fun y hy => ?_, h1⟩, fun k => ?_⟩
      · rcases setR_mem hy with rfl | hy
        · exact hx
        · exact p.1 y hy
      · simp only [fnd, h2]
        by_cases e : r.key = k
        · rw [if_pos e, if_pos e, if_neg (by rw [← e]; exact hne)]
        · rw [if_neg e, if_neg e]
    · have hr : ∀ y ∈ l, kl r < kl y := fun y hy => by
        exact List.lt_of_le_of_lt (List.not_lt.1 hx) (p.1 y hy)
      have e : setR r (x :: l) false = r :: ((if x.key = r.key then [] else [x]) ++ l.filter (fun x => !decide (x.key = r.key))) := by simp [setR, hx, setR_true]
      rw [e]
      have hfl : Inc (l.filter (fun x => !decide (x.key = r.key))) := List.Pairwise.filter _ p.2
      by_cases ek : x.key = r.key
      · rw [if_pos ek, List.nil_append]
        refine ⟨List.pairwise_cons.2 ⟨fun y hy => hr y (List.mem_filter.1 hy).1, hfl⟩, fun k => ?_⟩
        by_cases e : r.key = k
        · rw [if_pos e]; simp only [fnd]; rw [if_pos e]
        · rw [if_neg e]; simp only [fnd]; rw [if_neg e, if_neg (by rw [ek]; exact e), fnd_filter r k (Ne.symm e)]
      · rw [if_neg ek]
        have hxr : kl r < kl x := by
          by_cases h' : kl r < kl x
          · exact h'
          · exact absurd (kl_inj (List.le_antisymm (List.not_lt.1 h') (List.not_lt.1 hx))) ek
        refine ⟨List.pairwise_cons.2 ⟨fun y hy => ?_, ?_⟩, fun k => ?_⟩
        · simp only [List.singleton_append, List.mem_cons] at hy
          rcases hy with rfl | hy
          · exact hxr
          · exact hr y (List.mem_filter.1 hy).1
        · exact List.pairwise_cons.2 ⟨fun y hy => p.1 y (List.mem_filter.1 hy).1, hfl⟩
        · by_cases e : r.key = k
          · rw [if_pos e]; simp only [fnd]; rw [if_pos e]
          · rw [if_neg e]; simp only [fnd, List.singleton_append]; rw [if_neg e, fnd_filter r k (Ne.symm e)]
def newest (l : List Rec) : List Rec := l.foldl (fun o r => setR r o false) []
theorem newest_snoc (l : List Rec) (x : Rec) : newest (l ++ [x]) = setR x (newest l) false := by simp [newest]
theorem newest_spec (l : List Rec) : Inc (newest l) ∧ ∀ k, fnd (newest l) k = fnd l.reverse k := by
  have : ∀ (n : Nat) (l : List Rec), l.length = n → Inc (newest l) ∧ ∀ k, fnd (newest l) k = fnd l.reverse k := by
    intro n
    induction n with
    | zero => intro l hl; rw [List.length_eq_zero_iff.1 hl]; exact ⟨List.Pairwise.nil, fun k => rfl⟩
    | succ n ih =>
      intro l hl
      obtain ⟨l', x, rfl⟩ : ∃ l' x, l = l' ++ [x] := ⟨l.dropLast, l.getLast (by intro h; rw [h] at hl; simp at hl), (List.dropLast_concat_getLast _).symm⟩
      obtain ⟨h1, h2⟩ := ih l' (by simpa using hl)
      rw [newest_snoc]
      obtain ⟨h3, h4⟩ := setR_spec x _ h1
      refine ⟨h3, fun k => ?_⟩
      rw [h4, h2, List.reverse_append]
      simp only [List.reverse_cons, List.reverse_nil, List.nil_append, List.singleton_append, fnd]
  exact this _ l rfl
def mGt {α : Type} (k : ByteArray) : List (ByteArray × α) → Option α
  | [] => none
  | (k', y) :: l => if k = k' then some y else mGt k l
def mSt {α : Type} (k : ByteArray) (x : α) : List (ByteArray × α) → List (ByteArray × α)
  | [] => [(k, x)]
  | (k', y) :: l => if k = k' then (k, x) :: l else (k', y) :: mSt k x l
theorem mGt_mSt {α : Type} (k k' : ByteArray) (x : α) : ∀ l, mGt k (mSt k' x l) = if k = k' then some x else mGt k l
  | [] => rfl
  | (k'', y) :: l => by
    simp only [mSt]
    by_cases e : k' = k''
    · rw [if_pos e]; simp only [mGt]; subst e; by_cases e2 : k = k' <;> simp [e2]
    · rw [if_neg e]; simp only [mGt, mGt_mSt k k' x l]
      by_cases e2 : k = k''
      · rw [if_pos e2, if_pos e2, if_neg (by rw [e2]; exact Ne.symm e)]
      · rw [if_neg e2, if_neg e2]
theorem mGt_some {α : Type} {k : ByteArray} : ∀ {l : List (ByteArray × α)}, k ∈ l.map (·.1) ↔ (mGt k l).isSome
  | [] => by simp [mGt]
  | (k', y) :: l => by
    simp only [List.map_cons, List.mem_cons, mGt]
    by_cases e : k = k'
    · simp [e]
    · simp only [e, false_or, if_false]; exact mGt_some
theorem mSt_keys {α : Type} (k : ByteArray) (x : α) : ∀ l, (mSt k x l).map (·.1) = if (mGt k l).isSome then l.map (·.1) else l.map (·.1) ++ [k]
  | [] => by simp [mSt, mGt]
  | (k', y) :: l => by
    simp only [mSt, mGt]
    by_cases e : k = k'
    · subst e; simp
    · simp only [e, if_false, List.map_cons, mSt_keys k x l]
      split <;> simp
theorem mSt_nd {α : Type} {k : ByteArray} {x : α} {l : List (ByteArray × α)} (h : (l.map (·.1)).Nodup) : ((mSt k x l).map (·.1)).Nodup := by
  rw [mSt_keys]
  split
  · exact h
  · rename_i hn
    exact List.nodup_append.2 ⟨h, by simp, fun a ha b hb => by simp at hb; subst hb; rintro rfl; exact hn (mGt_some.1 ha)⟩
theorem mSt_len {α : Type} (k : ByteArray) (x : α) (l : List (ByteArray × α)) : (mSt k x l).length ≤ l.length + 1 := by
  have := congrArg List.length (mSt_keys k x l)
  rw [List.length_map] at this
  rw [this]; split <;> simp
def mpOf (l : List Rec) : List (ByteArray × Rec) := l.foldl (fun mp r => mSt r.key r mp) []
theorem mpOf_snoc (l : List Rec) (x : Rec) : mpOf (l ++ [x]) = mSt x.key x (mpOf l) := by simp [mpOf]
theorem mpOf_spec (l : List Rec) : ((mpOf l).map (·.1)).Nodup ∧ (∀ k, mGt k (mpOf l) = fnd l.reverse k) ∧ (mpOf l).length ≤ l.length := by
  have : ∀ (n : Nat) (l : List Rec), l.length = n → ((mpOf l).map (·.1)).Nodup ∧ (∀ k, mGt k (mpOf l) = fnd l.reverse k) ∧ (mpOf l).length ≤ l.length := by
    intro n
    induction n with
    | zero => intro l hl; rw [List.length_eq_zero_iff.1 hl]; exact ⟨List.Pairwise.nil, fun k => rfl, by simp [mpOf]⟩
    | succ n ih =>
      intro l hl
      obtain ⟨l', x, rfl⟩ : ∃ l' x, l = l' ++ [x] := ⟨l.dropLast, l.getLast (by intro h; rw [h] at hl; simp at hl), (List.dropLast_concat_getLast _).symm⟩
      obtain ⟨h1, h2, h3⟩ := ih l' (by simpa using hl)
      rw [mpOf_snoc]
      refine ⟨mSt_nd h1, fun k => ?_, ?_⟩
      · rw [mGt_mSt, h2, List.reverse_append]
        simp only [List.reverse_cons, List.reverse_nil, List.nil_append, List.singleton_append, fnd, eq_comm (a := k)]
      · have := mSt_len x.key x (mpOf l'); simp; omega
  exact this _ l rfl
def mEnc {α : Type} (T : Ty α) (mp : List (ByteArray × α)) : List (Value × Value) := mp.map fun p => (Value.string p.1, T.val p.2)
theorem kEq1_s (a b : ByteArray) : kEq1 .s (.string a) (.string b) = some (decide (a = b)) := by simp only [kEq1, ba_beq]
theorem mFind_enc {α : Type} (T : Ty α) (k : ByteArray) : ∀ mp : List (ByteArray × α), mFind .s (.string k) (mEnc T mp) = some ((mGt k mp).map T.val)
  | [] => rfl
  | (k', y) :: l => by
    have ih := mFind_enc T k l
    unfold mEnc at ih ⊢
    simp only [List.map_cons, mFind, kEq1_s, mGt]
    by_cases e : k = k'
    · simp [e]
    · simp only [e, decide_false, if_false]; exact ih
theorem mSet_enc {α : Type} (T : Ty α) (k : ByteArray) (x : α) : ∀ mp : List (ByteArray × α), mSet .s (.string k) (T.val x) (mEnc T mp) = mEnc T (mSt k x mp)
  | [] => rfl
  | (k', y) :: l => by
    have ih := mSet_enc T k x l
    unfold mEnc at ih ⊢
    simp only [List.map_cons, mSet, kEq1_s, mSt]
    by_cases e : k = k'
    · simp [e]
    · simp only [e, decide_false, if_false, List.map_cons]; rw [ih]
def MP {α : Type} (i : Nat) (T : Ty α) (mp : List (ByteArray × α)) : Res := .obj i (.map (mEnc T mp))
theorem S_mkMap {α : Type} {l : SE} {H : SH} {K : Value → SH → Prop} (T : Ty α) (k : ∀ i, K (.map (some i)) (MP i T [] :: H)) : Step .mkMap l H K :=
  fun e h _ hH => ⟨_, _, _, rfl, hH.push rfl, k _⟩
theorem S_upd {α : Type} {l : SE} {H H0 : SH} {K : Value → SH → Prop} {m k x : Opd} {i : Nat} {s : ByteArray} {T : Ty α} {y : α} {mp : List (ByteArray × α)} (hm : m.lv l = some (.map (some i))) (hk : k.lv l = some (.string s)) (hx : x.lv l = some (T.val y)) (hp : Pick (MP i T mp) H H0) (kk : K undef (MP i T (mSt s y mp) :: H0)) : Step (.upd .s m k x) l H K :=
  fun e h hA hH => by
    have hH' := hH.perm hp.perm
    obtain ⟨h1, h2, h3⟩ := hH'.1 _ (List.mem_cons_self ..)
    have hm' : mapAt h i = some (mEnc T mp) := by unfold mapAt; rw [if_pos h1, h2]
    refine ⟨undef, h.put i (.map (mEnc T (mSt s y mp))), MP i T (mSt s y mp) :: H0, by simp only [ev, Opd.lv_ev hA hm, Opd.lv_ev hA hk, Opd.lv_ev hA hx, hm', kEq1_s, mFind_enc, mSet_enc], ?_, kk⟩
    exact hH'.write rfl h2 rfl rfl ⟨h1, AH.get_put_same _ _ _, rfl⟩
theorem S_look {α : Type} {l : SE} {H H0 : SH} {K : Value → SH → Prop} {z : Value} {m k : Opd} {i : Nat} {s : ByteArray} {T : Ty α} {mp : List (ByteArray × α)} {y : α} (hm : m.lv l = some (.map (some i))) (hk : k.lv l = some (.string s)) (hp : Pick (MP i T mp) H H0) (hy : mGt s mp = some y) (kk : K (T.val y) H) : Step (.look .s z false m k) l H K :=
  fun e h hA hH => by
    have hH' := hH.perm hp.perm
    obtain ⟨h1, h2, h3⟩ := hH'.1 _ (List.mem_cons_self ..)
    have hm' : mapAt h i = some (mEnc T mp) := by unfold mapAt; rw [if_pos h1, h2]
    exact ⟨_, h, _, by simp only [ev, Opd.lv_ev hA hm, Opd.lv_ev hA hk, hm', kEq1_s, mFind_enc, hy]; rfl, hH, kk⟩
def TStr : Ty ByteArray := Ty.ofOne 9 1 (fun s => .string s) (fun _ => rfl)
theorem keysL_enc {α : Type} (T : Ty α) : ∀ mp : List (ByteArray × α), (∀ p ∈ mp, p.1.size ≤ maxLen) → keysL (mEnc T mp) = some (mp.map fun p => p.1.data.toList)
  | [], _ => rfl
  | (k, y) :: l, h => by
    have ih := keysL_enc T l (fun p hp => h p (List.mem_cons_of_mem _ hp))
    unfold mEnc at ih ⊢
    simp only [List.map_cons, keysL]
    rw [if_pos (h _ (List.mem_cons_self ..)), ih]; rfl
def skeys {α : Type} (mp : List (ByteArray × α)) : List ByteArray := (sortB (mp.map fun p => p.1.data.toList)).map fun l => ⟨l.toArray⟩
theorem X_keys {g : FuncId} {vs : List Value} {h : AH} {r : Value × AH} (hg : pur.contains g = false) (hr : keysX 82 111 81 9 g vs h = some r) : X g vs h = some r := HX.keys hg hr
theorem sp_Keys {H : SH} {i : Nat} : WF F X 82 [.map (some i)] H (fun r H' => ∃ j, H' = .obj j (.seq (some i)) :: H ∧ r = .func (.func 111) #[] #[.pointer (some ⟨j, 0, none⟩)]) :=
  WF_ext fun a hH => ⟨_, _, _, X_keys rfl rfl, hH.push rfl, _, rfl, rfl⟩
theorem sp_Sorted {α : Type} {T : Ty α} {H H1 H2 : SH} {i j : Nat} {mp : List (ByteArray × α)} (h1 : Pick (.obj j (.seq (some i))) H H1) (h2 : Pick (MP i T mp) H H2) (hs : ∀ p ∈ mp, p.1.size ≤ maxLen) (hl : mp.length ≤ 1000000) : WF F X 81 [.func (.func 111) #[] #[.pointer (some ⟨j, 0, none⟩)]] H (fun r H' => ∃ w : SV, H' = SL w.toV TStr (skeys mp) :: H ∧ r = w.toV) :=
  WF_ext fun a hH => by
    obtain ⟨a1, a2, a3⟩ := (hH.perm h1.perm).1 _ (List.mem_cons_self ..)
    obtain ⟨b1, b2, b3⟩ := (hH.perm h2.perm).1 _ (List.mem_cons_self ..)
    have hm' : mapAt a i = some (mEnc T mp) := by unfold mapAt; rw [if_pos b1, b2]
    have hkk := keysL_enc T mp hs
    have hel : (mEnc T mp).length = mp.length := by simp [mEnc]
    by_cases he : mp = []
    · subst he
      refine ⟨.slice none 0 0, a, _, X_keys rfl ?_, hH.addNil, .nil, rfl, rfl⟩
      simp only [keysX]
      rw [if_neg (by decide), if_pos trivial, if_pos ⟨trivial, rfl⟩]
      simp only [a2, hm', hkk]
      rfl
    · obtain ⟨x, xs, hx⟩ : ∃ x xs, (mp.map fun p => p.1.data.toList) = x :: xs := by
        cases mp with
        | nil => exact absurd rfl he
        | cons p mp => exact ⟨_, _, rfl⟩
      have hlen : (x :: xs).length = mp.length := by rw [← hx]; simp
      refine ⟨.slice (some ⟨a.next, 0, none⟩) (x :: xs).length 1, a.push (.row false 9 ((sortB (x :: xs)).map encStr)), SL (SV.mk a.next 0 (x :: xs).length 1).toV TStr (skeys mp) :: H, X_keys rfl ?_, ?_, SV.mk a.next 0 (x :: xs).length 1, rfl, rfl⟩
      · simp only [keysX]
        rw [if_neg (by decide), if_pos trivial, if_pos ⟨trivial, rfl⟩]
        simp only [a2, hm', hkk, hx]
        rw [if_pos (by rw [hel]; omega)]
      · have hcl : ((sortB (x :: xs)).map encStr).length = (x :: xs).length * 1 := by rw [List.length_map, (sortB_perm _).length_eq, Nat.mul_one]
        have hsk : skeys mp = (sortB (x :: xs)).map fun l => ⟨l.toArray⟩ := by unfold skeys; rw [hx]
        have hc : TStr.cells (skeys mp) = (sortB (x :: xs)).map encStr := by
          rw [hsk]
          show List.flatMap (fun s => [Value.string s]) _ = _
          rw [flatMap_one, List.map_map]; rfl
        have hn : (skeys mp).length = (x :: xs).length := by rw [hsk, List.length_map, (sortB_perm _).length_eq]
        show HAg (.sl (SV.mk a.next 0 (x :: xs).length 1).toV TStr.t TStr.es (skeys mp).length (TStr.cells (skeys mp)) :: H) _
        rw [hc, hn]
        exact hH.add _ (r := .sl (.slice (some ⟨a.next, 0, none⟩) (x :: xs).length 1) 9 1 (x :: xs).length ((sortB (x :: xs)).map encStr)) ⟨hcl, .inr ⟨a.next, 0, _, rfl, Nat.lt_succ_self _, AH.get_push_same _ _, by rw [hcl]; omega, by rw [List.drop_zero, ← hcl, List.take_length]⟩⟩ rfl
def outM (mp : List (ByteArray × Rec)) : List Rec := (skeys mp).map fun k => (mGt k mp).getD rec0
theorem ba_back (k : ByteArray) : (⟨k.data.toList.toArray⟩ : ByteArray) = k := ba_ext (by simp)
theorem skeys_mem {α : Type} {mp : List (ByteArray × α)} {k : ByteArray} : k ∈ skeys mp ↔ k ∈ mp.map (·.1) := by
  unfold skeys
  constructor
  · intro h
    obtain ⟨l, hl, rfl⟩ := List.mem_map.1 h
    obtain ⟨p, hp, rfl⟩ := List.mem_map.1 ((sortB_perm _).mem_iff.1 hl)
    rw [ba_back]; exact List.mem_map.2 ⟨p, hp, rfl⟩
  · intro h
    obtain ⟨p, hp, rfl⟩ := List.mem_map.1 h
    exact List.mem_map.2 ⟨p.1.data.toList, (sortB_perm _).mem_iff.2 (List.mem_map.2 ⟨p, hp, rfl⟩), ba_back _⟩
theorem skeys_len {α : Type} (mp : List (ByteArray × α)) : (skeys mp).length = mp.length := by
  unfold skeys; rw [List.length_map, (sortB_perm _).length_eq, List.length_map]
theorem skeys_inc {α : Type} {mp : List (ByteArray × α)} (h : (mp.map (·.1)).Nodup) : (skeys mp).Pairwise (fun a b => a.data.toList < b.data.toList) := by
  unfold skeys
  rw [List.pairwise_map]
  have hnd : (sortB (mp.map fun p => p.1.data.toList)).Nodup := by
    refine (sortB_perm _).nodup_iff.2 ?_
    have e : (mp.map fun p => p.1.data.toList) = (mp.map (·.1)).map (fun k => k.data.toList) := by rw [List.map_map]; rfl
    rw [e]
    exact List.Pairwise.map _ (fun a b hab hh => hab (ba_ext hh)) h
  refine ((sortB_sorted _).and hnd).imp ?_
  rintro a b ⟨h1, h2⟩
  simp only [leB, decide_eq_true_eq] at h1
  simp only [List.toList_toArray]
  by_cases h3 : a < b
  · exact h3
  · exact absurd (List.le_antisymm h1 (List.not_lt.1 h3)) h2
theorem fnd_map {f : ByteArray → Rec} {k : ByteArray} : ∀ ks : List ByteArray, (∀ a ∈ ks, (f a).key = a) → (k ∈ ks → fnd (ks.map f) k = some (f k)) ∧ (k ∉ ks → fnd (ks.map f) k = none)
  | [], _ => ⟨fun h => by simp at h, fun _ => rfl⟩
  | a :: ks, h => by
    have ih := fnd_map (f := f) (k := k) ks (fun b hb => h b (List.mem_cons_of_mem _ hb))
    have ha := h a (List.mem_cons_self ..)
    constructor
    · intro hk
      by_cases e : a = k
      · subst e; exact if_pos ha
      · have h1 : fnd ((a :: ks).map f) k = fnd (ks.map f) k := if_neg (by rw [ha]; exact e)
        rw [h1]; exact ih.1 ((List.mem_cons.1 hk).resolve_left (Ne.symm e))
    · intro hk
      have h1 : fnd ((a :: ks).map f) k = fnd (ks.map f) k := if_neg (by rw [ha]; rintro rfl; exact hk (List.mem_cons_self ..))
      rw [h1]; exact ih.2 fun hh => hk (List.mem_cons_of_mem _ hh)
theorem outM_newest (l : List Rec) : outM (mpOf l) = newest l := by
  obtain ⟨h1, h2, _⟩ := mpOf_spec l
  obtain ⟨h3, h4⟩ := newest_spec l
  have hk : ∀ a ∈ skeys (mpOf l), ((mGt a (mpOf l)).getD rec0).key = a := by
    intro a ha
    have := mGt_some.1 (skeys_mem.1 ha)
    obtain ⟨r, hr⟩ := Option.isSome_iff_exists.1 this
    rw [hr]
    rw [h2] at hr
    exact (fnd_mem' hr).2
  refine Inc.uniq ?_ h3 fun k => ?_
  · unfold Inc outM
    rw [List.pairwise_map]
    refine List.Pairwise.imp_of_mem ?_ (skeys_inc h1)
    intro a b ha hb hab
    unfold kl
    rw [hk a ha, hk b hb]; exact hab
  · rw [h4, ← h2]
    have hf := fnd_map (f := fun k => (mGt k (mpOf l)).getD rec0) (k := k) (skeys (mpOf l)) hk
    cases hg : mGt k (mpOf l) with
    | none =>
      refine hf.2 fun hm => ?_
      have := mGt_some.1 (skeys_mem.1 hm); rw [hg] at this; cases this
    | some r =>
      have hm : k ∈ skeys (mpOf l) := skeys_mem.2 (mGt_some.2 (by rw [hg]; rfl))
      have := hf.1 hm
      simp only [hg, Option.getD_some] at this
      exact this
theorem newest_len (l : List Rec) : (newest l).length ≤ l.length := by
  rw [← outM_newest]; unfold outM; rw [List.length_map, skeys_len]; exact (mpOf_spec l).2.2
theorem mpOf_key {l : List Rec} {p : ByteArray × Rec} (h : p.1 ∈ (mpOf l).map (·.1)) : ∃ r ∈ l, r.key = p.1 := by
  obtain ⟨h1, h2, _⟩ := mpOf_spec l
  obtain ⟨r, hr⟩ := Option.isSome_iff_exists.1 (mGt_some.1 h)
  rw [h2] at hr
  exact ⟨r, List.mem_reverse.1 (fnd_mem' hr).1, (fnd_mem' hr).2⟩
theorem lp_rN0 {H : SH} {v : Value} {l : List Rec} (hv : RD H v TRec l) (hl : l.length ≤ 1000000) {m : Nat} : ∀ (n a : Nat), l.length - a = n → a ≤ l.length →
    WC F X (.loop L_record_Newest_0) [(12, .int .i64 a), (11, .int .i64 l.length), (10, v), (3, .map (some m))] (MP m TRec (mpOf (l.take a)) :: H)
      (KPost fun x l' H' => x = .exit 0 ∧ l' = [(3, .map (some m))] ∧ H' = MP m TRec (mpOf l) :: H) := by
  intro n
  induction n using Nat.strongRecOn with
  | _ n ih =>
    intro a hn ha
    refine WC_loop (WC_seq (WC_region ?_))
    refine WO_step rfl (S_pure rfl ?_)
    refine WO_nil (KSeq_n (WC_seq ?_))
    refine WC_cond rfl (fun hb1 => ?_) (fun hb1 => ?_)
    ·
     try simp only [bsT] at hb1
     obtain ⟨x, hx⟩ := get_of_lt hb1
     have htk : mpOf (l.take (a + 1)) = mSt x.key x (mpOf (l.take a)) := by rw [List.take_add_one, hx]; exact mpOf_snoc _ _
     refine WC_skip (KSeq_n (WC_seq (WC_block (WC_seq (WC_region ?_)))))
     refine WO_step rfl (S_idx rfl rfl rdA (by first | rfl | assumption | (symm; assumption)) (by rfl) (by first | assumption | omega | exact lt_of_get (by assumption) | (simp only [List.length_set]; first | assumption | omega | exact lt_of_get (by assumption))) fun hp14 => ?_)
     refine WO_step rfl (S_loadE rfl rdA (by first | rfl | assumption | (symm; assumption)) (by first | rfl | assumption | (symm; assumption)) (by first | rfl | assumption | (symm; assumption)) (by assumption) ?_)
     refine WO_step rfl (S_new fun i5 => ?_)
     first | refine WO_step rfl (S_storeT rfl rfl pkA (by rfl) (by rfl) ?_) | refine WO_step rfl (S_storeO rfl rfl pkA (by first | rfl | exact SV.cells1 _) (by rfl) (by first | rfl | exact SV.ones _) ?_)
     refine WO_nil (KSeq_n (WC_region ?_))
     iterate 2 refine WO_step rfl (S_pure rfl ?_)
     refine WO_step rfl (S_loadO rfl pkA (by rfl) (by rfl) ?_)
     first | refine WO_step rfl (S_loadT rfl pkA (by rfl) (by rfl) ?_) | refine WO_step rfl (S_loadO rfl pkA (by rfl) (by rfl) ?_)
     refine WO_step rfl (S_upd (T := TRec) (y := x) (mp := mpOf (l.take a)) rfl rfl rfl pkA ?_)
     refine WO_nil (KBlock_n (KSeq_n (WC_region ?_)))
     first | refine WO_step rfl (S_addN (b := 1) rfl rfl (by omega) ?_) | refine WO_step rfl (S_pure rfl ?_)
     refine WO_step rfl (S_pure rfl ?_)
     refine WO_nil (KLoop_n ?_)
     have := ih (l.length - (a + 1)) (by omega) (a + 1) rfl (by omega)
     rw [htk] at this
     exact WC_weak this seA hsA
    ·
     try simp only [bsT] at hb1
     refine WC_exit (KSeq_x (KLoop_x ?_))
     have e : l.take a = l := List.take_of_length_le (by omega)
     rw [e]
     exact KPost_i seA hsA ⟨rfl, rfl, rfl⟩
theorem lp_rN1 {B B0 : SH} {w : SV} {m : Nat} {mp : List (ByteArray × Rec)} (hw : RD B w.toV TStr (skeys mp)) (hp : Pick (MP m TRec mp) B B0) (hl : mp.length ≤ 1000000) : ∀ (n a : Nat) (u : SV), (skeys mp).length - a = n → a ≤ (skeys mp).length →
    WC F X (.loop L_record_Newest_1) [(25, .int .i64 a), (24, .int .i64 (skeys mp).length), (23, w.toV), (3, .map (some m)), (6, u.toV)] (SL u.toV TRec ((outM mp).take a) :: B)
      (KPost fun x l' H' => ∃ u : SV, x = .exit 2 ∧ l' = [(6, u.toV)] ∧ H' = SL u.toV TRec (outM mp) :: B) := by
  intro n
  induction n using Nat.strongRecOn with
  | _ n ih =>
    intro a u hn ha
    have hol : (outM mp).length = (skeys mp).length := by unfold outM; rw [List.length_map]
    have hsl := skeys_len mp
    refine WC_loop (WC_seq (WC_region ?_))
    refine WO_step rfl (S_pure rfl ?_)
    refine WO_nil (KSeq_n (WC_seq ?_))
    refine WC_cond rfl (fun hb1 => ?_) (fun hb1 => ?_)
    ·
     try simp only [bsT] at hb1
     obtain ⟨k, hk⟩ := get_of_lt hb1
     obtain ⟨y, hy⟩ := Option.isSome_iff_exists.1 (mGt_some.1 (skeys_mem.1 (List.mem_of_getElem? hk)))
     have htk : (outM mp).take (a + 1) = (outM mp).take a ++ [y] := by
       rw [List.take_add_one]
       unfold outM
       rw [List.getElem?_map, hk]
       simp [hy]
     have htl : ((outM mp).take a).length = a := by rw [List.length_take]; omega
     refine WC_skip (KSeq_n (WC_seq (WC_block (WC_seq (WC_region ?_)))))
     refine WO_step rfl (S_idx rfl rfl rdA (by first | rfl | assumption | (symm; assumption)) (by rfl) (by first | assumption | omega | exact lt_of_get (by assumption) | (simp only [List.length_set]; first | assumption | omega | exact lt_of_get (by assumption))) fun hp27 => ?_)
     refine WO_step rfl (S_loadE rfl rdA (by first | rfl | assumption | (symm; assumption)) (by first | rfl | assumption | (symm; assumption)) (by first | rfl | assumption | (symm; assumption)) (by assumption) ?_)
     refine WO_step rfl (S_pure rfl ?_)
     refine WO_nil (KSeq_n (WC_region ?_))
     iterate 3 refine WO_step rfl (S_pure rfl ?_)
     refine WO_step rfl (S_look (T := TRec) (mp := mp) (y := y) rfl rfl (Pick.tail hp) hy ?_)
     refine WO_step rfl (S_lit1 (T := TRec) rfl rfl rfl rfl fun w33 => ?_)
     refine WO_step rfl (S_app rfl rfl pkA (by first | exact SRC.str rfl rfl | (apply RD.src; repeat (first | assumption | exact RD.head | exact RD.nil | apply RD.tail))) (by rfl) (by rfl) (by (try simp only [List.length_append, List.length_cons, List.length_nil]); omega) fun w34 => ?_)
     refine WO_step rfl (S_pure rfl ?_)
     refine WO_nil (KBlock_n (KSeq_n (WC_region ?_)))
     first | refine WO_step rfl (S_addN (b := 1) rfl rfl (by omega) ?_) | refine WO_step rfl (S_pure rfl ?_)
     refine WO_step rfl (S_pure rfl ?_)
     refine WO_nil (KLoop_n ?_)
     have := ih ((skeys mp).length - (a + 1)) (by omega) (a + 1) w34 rfl (by omega)
     rw [htk] at this
     exact WC_weak this seA hsA
    ·
     try simp only [bsT] at hb1
     refine WC_exit (KSeq_x (KLoop_x ?_))
     have e : (outM mp).take a = outM mp := List.take_of_length_le (by omega)
     rw [e]
     exact KPost_i seA hsA ⟨u, rfl, rfl, rfl⟩
theorem sp_rNewest {H : SH} {v : Value} {l : List Rec} (hv : RD H v TRec l) (hl : l.length ≤ 1000000) (hk : ∀ x ∈ l, x.key.size ≤ maxLen) : WF F X f_record_Newest [v] H (fun r H' => ∃ u : SV, H' = SL u.toV TRec (newest l) :: H ∧ r = u.toV) := by
  have hml : (mpOf l).length ≤ 1000000 := Nat.le_trans (mpOf_spec l).2.2 hl
  have hmk : ∀ p ∈ mpOf l, p.1.size ≤ maxLen := by
    intro p hp
    obtain ⟨r, hr, he⟩ := mpOf_key (List.mem_map.2 ⟨p, hp, rfl⟩)
    rw [← he]; exact hk r hr
  refine WF_fn F_record_Newest ?_
  refine WC_seq (WC_region ?_)
  refine WO_step rfl (S_pure rfl ?_)
  refine WO_nil (KSeq_n (WC_seq (WC_region ?_)))
  refine WO_step rfl (S_mkMap TRec fun m => ?_)
  refine WO_step rfl (S_pure rfl ?_)
  refine WO_nil (KSeq_n (WC_seq (WC_seq (WC_region ?_))))
  refine WO_step rfl (S_pure rfl ?_)
  first | refine WO_step rfl (S_pure rfl ?_) | refine WO_step rfl (S_lenS rfl rdA ?_)
  refine WO_step rfl (S_pure rfl ?_)
  refine WO_nil (KSeq_n (WC_block ?_))
  refine WC_post (WC_weak (lp_rN0 (m := m) hv hl l.length 0 (by omega) (by omega)) seA hsA) ?_
  rintro x l' H' ⟨rfl, rfl, rfl⟩
  refine KBlock_h (KSeq_n (WC_seq (WC_region ?_)))
  refine WO_step rfl (S_pure rfl ?_)
  refine WO_nil (KSeq_n (WC_seq (WC_seq (WC_region ?_))))
  refine WO_step rfl (S_pure rfl ?_)
  refine WO_call rfl rfl rfl ?_
  refine sp_Keys.mono ?_
  rintro _ _ ⟨j, rfl, rfl⟩
  refine WO_call rfl rfl rfl ?_
  refine (sp_Sorted (T := TRec) (mp := mpOf l) (i := m) (j := j) pkA pkA hmk hml).mono ?_
  rintro _ _ ⟨w23, rfl, rfl⟩
  first | refine WO_step rfl (S_pure rfl ?_) | refine WO_step rfl (S_lenS rfl rdA ?_)
  refine WO_step rfl (S_pure rfl ?_)
  refine WO_nil (KSeq_n (WC_block ?_))
  refine WC_view (H' := SL (SV.toV .nil) TRec [] :: _) (fun h hh => HAg.addNil hh) ?_
  refine WC_post (WC_weak (lp_rN1 (m := m) (mp := mpOf l) (w := w23) RD.head pkA hml (skeys (mpOf l)).length 0 .nil (by omega) (by omega)) seA HSub.refl) ?_
  rintro x l' H' ⟨u, rfl, rfl, rfl⟩
  rw [outM_newest]
  refine KBlock_h (KSeq_n (WC_seq (WC_region ?_)))
  iterate 2 refine WO_step rfl (S_pure rfl ?_)
  refine WO_nil (KSeq_n (WC_ret ?_))
  refine KFn_r (ResL.tmp rfl ResL.nil) ?_
  exact ⟨_, hsA, u, rfl, rfl⟩
theorem setR_c1 {x r : Rec} {l : List Rec} (hx : ¬ kl x < kl r) (he : ¬ x.key = r.key) : setR r (x :: l) false = r :: x :: setR r l true := by simp [setR, hx, he]
theorem setR_c2 {x r : Rec} {l : List Rec} (hx : ¬ kl x < kl r) (he : x.key = r.key) : setR r (x :: l) false = r :: setR r l true := by simp [setR, hx, he]
theorem setR_c3 {x r : Rec} {l : List Rec} (hx : kl x < kl r) (he : ¬ x.key = r.key) : setR r (x :: l) false = x :: setR r l false := by simp [setR, hx, he]
theorem setR_c4 {x r : Rec} {l : List Rec} (hx : kl x < kl r) (he : x.key = r.key) : setR r (x :: l) false = setR r l false := by simp [setR, hx, he]
theorem setR_c5 {x r : Rec} {l : List Rec} (he : ¬ x.key = r.key) : setR r (x :: l) true = x :: setR r l true := by simp [setR, he]
theorem setR_c6 {x r : Rec} {l : List Rec} (he : x.key = r.key) : setR r (x :: l) true = setR r l true := by simp [setR, he]
theorem S_geS {l : SE} {H : SH} {K : Value → SH → Prop} {x y : Opd} {a b : ByteArray} (hx : x.lv l = some (.string a)) (hy : y.lv l = some (.string b)) (k : K (.bool (!decide (a.data.toList < b.data.toList))) H) : Step (.bin .geq x y) l H K :=
  S_pureE (v := .bool (!Op.bytesLess a.toList b.toList)) (by simp only [pev, hx, hy, binV, strBin]) (by rw [bytesLess_eq, toList_data, toList_data]) k
theorem lp_Set {H : SH} {v : Value} {l : List Rec} {r : Rec} (hv : RD H v TRec l) (hl : l.length ≤ 1000) {i3 : Nat} : ∀ (n a : Nat) (w : SV) (d : Bool) (out : List Rec), l.length - a = n → a ≤ l.length → out.length ≤ 2 * a → out ++ setR r (l.drop a) d = setR r l false →
    WC F X (.loop L_loessref10_Set_0) [(7, .int .i64 a), (0, v), (6, .bool d), (5, w.toV), (3, .pointer (some ⟨i3, 0, none⟩))] (SL w.toV TRec out :: .obj i3 (.row false 28 (cells (TRec.val r))) :: H)
      (KPost fun x l' H' => ∃ (w : SV) (d : Bool) (out : List Rec), x = .exit 0 ∧ l' = [(6, .bool d), (5, w.toV), (3, .pointer (some ⟨i3, 0, none⟩))] ∧ H' = SL w.toV TRec out :: .obj i3 (.row false 28 (cells (TRec.val r))) :: H ∧ out.length ≤ 2000 ∧ out ++ (if d then [] else [r]) = setR r l false) := by
  intro n
  induction n using Nat.strongRecOn with
  | _ n ih =>
    intro a w d out hn ha ho he
    refine WC_loop (WC_seq (WC_seq (WC_region ?_)))
    iterate 2 refine WO_step rfl (S_pure rfl ?_)
    first | refine WO_step rfl (S_pure rfl ?_) | refine WO_step rfl (S_lenS rfl rdA ?_)
    refine WO_step rfl (S_pure rfl ?_)
    refine WO_nil (KSeq_n ?_)
    refine WC_cond rfl (fun hb1 => ?_) (fun hb1 => ?_)
    ·
     try simp only [bsT] at hb1
     obtain ⟨x, hx⟩ := get_of_lt hb1
     rw [drop_get hx] at he
     refine WC_skip (KSeq_n (WC_seq (WC_block (WC_seq (WC_seq (WC_region ?_))))))
     iterate 3 refine WO_step rfl (S_pure rfl ?_)
     refine WO_cases (t := 16) rfl (fun hg1 => ?_) (fun hg1 => ?_)
     ·
      try simp only [bsT] at hg1
      iterate 2 refine WO_step rfl (S_pure rfl ?_)
      refine WO_step rfl (S_idx rfl rfl rdA (by first | rfl | assumption | (symm; assumption)) (by rfl) (by first | assumption | omega | exact lt_of_get (by assumption) | (simp only [List.length_set]; first | assumption | omega | exact lt_of_get (by assumption))) fun hp19 => ?_)
      refine WO_step rfl (S_fldE rfl (by repeat (first | assumption | apply IsP.padd)) ?_)
      refine WO_step rfl (S_loadF rfl rdA (by rfl) (by assumption) (by rfl) (by rfl) ?_)
      refine WO_step rfl (S_pure rfl ?_)
      refine WO_step rfl (S_loadO rfl pkA (by rfl) (by rfl) ?_)
      refine WO_step rfl (S_geS rfl rfl ?_)
      refine WO_step rfl (S_pure rfl ?_)
      refine WO_nil (KSeq_n ?_)
      refine WC_cond rfl (fun hb2 => ?_) (fun hb2 => ?_)
      ·
       try simp only [bsT] at hb2
       refine WC_seq (WC_region ?_)
       refine WO_step rfl (S_pure rfl ?_)
       refine WO_step rfl (S_loadO rfl pkA (by rfl) (by rfl) ?_)
       refine WO_step rfl (S_lit1 (T := TRec) rfl rfl rfl rfl fun w28 => ?_)
       refine WO_step rfl (S_app rfl rfl pkA (by first | exact SRC.str rfl rfl | (apply RD.src; repeat (first | assumption | exact RD.head | exact RD.nil | apply RD.tail))) (by rfl) (by rfl) (by (try simp only [List.length_append, List.length_cons, List.length_nil]); omega) fun w29 => ?_)
       refine WO_step rfl (S_pure rfl ?_)
       refine WO_nil (KSeq_n (WC_region ?_))
       refine WO_step rfl (S_pure rfl ?_)
       refine WO_nil (KSeq_n (WC_seq (WC_region ?_)))
       iterate 2 refine WO_step rfl (S_pure rfl ?_)
       refine WO_step rfl (S_idx rfl rfl rdA (by first | rfl | assumption | (symm; assumption)) (by rfl) (by first | assumption | omega | exact lt_of_get (by assumption) | (simp only [List.length_set]; first | assumption | omega | exact lt_of_get (by assumption))) fun hp32 => ?_)
       refine WO_step rfl (S_fldE rfl (by repeat (first | assumption | apply IsP.padd)) ?_)
       refine WO_step rfl (S_loadF rfl rdA (by rfl) (by assumption) (by rfl) (by rfl) ?_)
       refine WO_step rfl (S_pure rfl ?_)
       refine WO_step rfl (S_loadO rfl pkA (by rfl) (by rfl) ?_)
       first | refine WO_step rfl (S_neS rfl rfl ?_) | refine WO_step rfl (S_pure rfl ?_)
       refine WO_nil (KSeq_n ?_)
       refine WC_cond rfl (fun hb3 => ?_) (fun hb3 => ?_)
       ·
        try simp only [bsT] at hb3
        refine WC_region ?_
        iterate 3 refine WO_step rfl (S_pure rfl ?_)
        refine WO_step rfl (S_idx rfl rfl rdA (by first | rfl | assumption | (symm; assumption)) (by rfl) (by first | assumption | omega | exact lt_of_get (by assumption) | (simp only [List.length_set]; first | assumption | omega | exact lt_of_get (by assumption))) fun hp41 => ?_)
        refine WO_step rfl (S_loadE rfl rdA (by first | rfl | assumption | (symm; assumption)) (by first | rfl | assumption | (symm; assumption)) (by first | rfl | assumption | (symm; assumption)) (by assumption) ?_)
        refine WO_step rfl (S_lit1 (T := TRec) rfl rfl rfl rfl fun w43 => ?_)
        refine WO_step rfl (S_app rfl rfl pkA (by first | exact SRC.str rfl rfl | (apply RD.src; repeat (first | assumption | exact RD.head | exact RD.nil | apply RD.tail))) (by rfl) (by rfl) (by (try simp only [List.length_append, List.length_cons, List.length_nil]); omega) fun w44 => ?_)
        refine WO_step rfl (S_pure rfl ?_)
        refine WO_nil (KBlock_n (KSeq_n (WC_region ?_)))
        refine WO_step rfl (S_pure rfl ?_)
        first | refine WO_step rfl (S_addN (b := 1) rfl rfl (by omega) ?_) | refine WO_step rfl (S_pure rfl ?_)
        refine WO_step rfl (S_pure rfl ?_)
        refine WO_nil (KLoop_n ?_)
        refine WC_weak (ih (l.length - (a + 1)) (by omega) (a + 1) w44 true (out ++ [r] ++ [x]) rfl (by omega) (by simp; omega) ?_) seA hsA
        rw [hg1, setR_c1 hb2 hb3] at he
        rw [← he]; simp [hg1]
       ·
        try simp only [bsT] at hb3
        refine WC_skip (KBlock_n (KSeq_n (WC_region ?_)))
        refine WO_step rfl (S_pure rfl ?_)
        first | refine WO_step rfl (S_addN (b := 1) rfl rfl (by omega) ?_) | refine WO_step rfl (S_pure rfl ?_)
        refine WO_step rfl (S_pure rfl ?_)
        refine WO_nil (KLoop_n ?_)
        refine WC_weak (ih (l.length - (a + 1)) (by omega) (a + 1) w29 true (out ++ [r]) rfl (by omega) (by simp; omega) ?_) seA hsA
        rw [hg1, setR_c2 hb2 hb3] at he
        rw [← he]; simp [hg1]
      ·
       try simp only [bsT] at hb2
       refine WC_skip (KSeq_n (WC_seq (WC_region ?_)))
       iterate 2 refine WO_step rfl (S_pure rfl ?_)
       refine WO_step rfl (S_idx rfl rfl rdA (by first | rfl | assumption | (symm; assumption)) (by rfl) (by first | assumption | omega | exact lt_of_get (by assumption) | (simp only [List.length_set]; first | assumption | omega | exact lt_of_get (by assumption))) fun hp32 => ?_)
       refine WO_step rfl (S_fldE rfl (by repeat (first | assumption | apply IsP.padd)) ?_)
       refine WO_step rfl (S_loadF rfl rdA (by rfl) (by assumption) (by rfl) (by rfl) ?_)
       refine WO_step rfl (S_pure rfl ?_)
       refine WO_step rfl (S_loadO rfl pkA (by rfl) (by rfl) ?_)
       first | refine WO_step rfl (S_neS rfl rfl ?_) | refine WO_step rfl (S_pure rfl ?_)
       refine WO_nil (KSeq_n ?_)
       refine WC_cond rfl (fun hb4 => ?_) (fun hb4 => ?_)
       ·
        try simp only [bsT] at hb4
        refine WC_region ?_
        iterate 3 refine WO_step rfl (S_pure rfl ?_)
        refine WO_step rfl (S_idx rfl rfl rdA (by first | rfl | assumption | (symm; assumption)) (by rfl) (by first | assumption | omega | exact lt_of_get (by assumption) | (simp only [List.length_set]; first | assumption | omega | exact lt_of_get (by assumption))) fun hp41 => ?_)
        refine WO_step rfl (S_loadE rfl rdA (by first | rfl | assumption | (symm; assumption)) (by first | rfl | assumption | (symm; assumption)) (by first | rfl | assumption | (symm; assumption)) (by assumption) ?_)
        refine WO_step rfl (S_lit1 (T := TRec) rfl rfl rfl rfl fun w43 => ?_)
        refine WO_step rfl (S_app rfl rfl pkA (by first | exact SRC.str rfl rfl | (apply RD.src; repeat (first | assumption | exact RD.head | exact RD.nil | apply RD.tail))) (by rfl) (by rfl) (by (try simp only [List.length_append, List.length_cons, List.length_nil]); omega) fun w44 => ?_)
        refine WO_step rfl (S_pure rfl ?_)
        refine WO_nil (KBlock_n (KSeq_n (WC_region ?_)))
        refine WO_step rfl (S_pure rfl ?_)
        first | refine WO_step rfl (S_addN (b := 1) rfl rfl (by omega) ?_) | refine WO_step rfl (S_pure rfl ?_)
        refine WO_step rfl (S_pure rfl ?_)
        refine WO_nil (KLoop_n ?_)
        refine WC_weak (ih (l.length - (a + 1)) (by omega) (a + 1) w44 d (out ++ [x]) rfl (by omega) (by simp; omega) ?_) seA hsA
        rw [hg1, setR_c3 hb2 hb4] at he
        rw [← he]; simp [hg1]
       ·
        try simp only [bsT] at hb4
        refine WC_skip (KBlock_n (KSeq_n (WC_region ?_)))
        refine WO_step rfl (S_pure rfl ?_)
        first | refine WO_step rfl (S_addN (b := 1) rfl rfl (by omega) ?_) | refine WO_step rfl (S_pure rfl ?_)
        refine WO_step rfl (S_pure rfl ?_)
        refine WO_nil (KLoop_n ?_)
        refine WC_weak (ih (l.length - (a + 1)) (by omega) (a + 1) w d out rfl (by omega) (by omega) ?_) seA hsA
        rw [hg1, setR_c4 hb2 hb4] at he
        rw [← he]; simp [hg1]
     ·
      try simp only [bsT] at hg1
      iterate 8 refine WO_off rfl ?_
      refine WO_step rfl (S_pure rfl ?_)
      refine WO_nil (KSeq_n ?_)
      refine WC_cond rfl (fun h => ?_) (fun _ => ?_)
      · exact absurd h (by decide)
      refine WC_skip (KSeq_n (WC_seq (WC_region ?_)))
      iterate 2 refine WO_step rfl (S_pure rfl ?_)
      refine WO_step rfl (S_idx rfl rfl rdA (by first | rfl | assumption | (symm; assumption)) (by rfl) (by first | assumption | omega | exact lt_of_get (by assumption) | (simp only [List.length_set]; first | assumption | omega | exact lt_of_get (by assumption))) fun hp32 => ?_)
      refine WO_step rfl (S_fldE rfl (by repeat (first | assumption | apply IsP.padd)) ?_)
      refine WO_step rfl (S_loadF rfl rdA (by rfl) (by assumption) (by rfl) (by rfl) ?_)
      refine WO_step rfl (S_pure rfl ?_)
      refine WO_step rfl (S_loadO rfl pkA (by rfl) (by rfl) ?_)
      first | refine WO_step rfl (S_neS rfl rfl ?_) | refine WO_step rfl (S_pure rfl ?_)
      refine WO_nil (KSeq_n ?_)
      refine WC_cond rfl (fun hb5 => ?_) (fun hb5 => ?_)
      ·
       try simp only [bsT] at hb5
       refine WC_region ?_
       iterate 3 refine WO_step rfl (S_pure rfl ?_)
       refine WO_step rfl (S_idx rfl rfl rdA (by first | rfl | assumption | (symm; assumption)) (by rfl) (by first | assumption | omega | exact lt_of_get (by assumption) | (simp only [List.length_set]; first | assumption | omega | exact lt_of_get (by assumption))) fun hp41 => ?_)
       refine WO_step rfl (S_loadE rfl rdA (by first | rfl | assumption | (symm; assumption)) (by first | rfl | assumption | (symm; assumption)) (by first | rfl | assumption | (symm; assumption)) (by assumption) ?_)
       refine WO_step rfl (S_lit1 (T := TRec) rfl rfl rfl rfl fun w43 => ?_)
       refine WO_step rfl (S_app rfl rfl pkA (by first | exact SRC.str rfl rfl | (apply RD.src; repeat (first | assumption | exact RD.head | exact RD.nil | apply RD.tail))) (by rfl) (by rfl) (by (try simp only [List.length_append, List.length_cons, List.length_nil]); omega) fun w44 => ?_)
       refine WO_step rfl (S_pure rfl ?_)
       refine WO_nil (KBlock_n (KSeq_n (WC_region ?_)))
       refine WO_step rfl (S_pure rfl ?_)
       first | refine WO_step rfl (S_addN (b := 1) rfl rfl (by omega) ?_) | refine WO_step rfl (S_pure rfl ?_)
       refine WO_step rfl (S_pure rfl ?_)
       refine WO_nil (KLoop_n ?_)
       refine WC_weak (ih (l.length - (a + 1)) (by omega) (a + 1) w44 d (out ++ [x]) rfl (by omega) (by simp; omega) ?_) seA hsA
       rw [hg1, setR_c5 hb5] at he
       rw [← he]; simp [hg1]
      ·
       try simp only [bsT] at hb5
       refine WC_skip (KBlock_n (KSeq_n (WC_region ?_)))
       refine WO_step rfl (S_pure rfl ?_)
       first | refine WO_step rfl (S_addN (b := 1) rfl rfl (by omega) ?_) | refine WO_step rfl (S_pure rfl ?_)
       refine WO_step rfl (S_pure rfl ?_)
       refine WO_nil (KLoop_n ?_)
       refine WC_weak (ih (l.length - (a + 1)) (by omega) (a + 1) w d out rfl (by omega) (by omega) ?_) seA hsA
       rw [hg1, setR_c6 hb5] at he
       rw [← he]; simp [hg1]
    ·
     try simp only [bsT] at hb1
     refine WC_exit (KSeq_x (KLoop_x ?_))
     rw [List.drop_of_length_le (by omega)] at he
     exact KPost_i seA hsA ⟨w, d, out, rfl, rfl, rfl, by omega, he⟩
theorem sp_Set {H : SH} {v : Value} {l : List Rec} {r : Rec} (hv : RD H v TRec l) (hl : l.length ≤ 1000) : WF F X f_loessref10_Set [v, TRec.val r] H (fun q H' => ∃ w : SV, H' = SL w.toV TRec (setR r l false) :: H ∧ q = w.toV) := by
  refine WF_fn F_loessref10_Set ?_
  refine WC_seq (WC_region ?_)
  refine WO_step rfl (S_box rfl rfl fun i3 => ?_)
  refine WO_step rfl (S_pure rfl ?_)
  refine WO_nil (KSeq_n (WC_seq (WC_region ?_)))
  refine WO_step rfl (S_pure rfl ?_)
  refine WO_nil (KSeq_n (WC_seq (WC_region ?_)))
  refine WO_step rfl (S_pure rfl ?_)
  refine WO_nil (KSeq_n (WC_seq (WC_seq (WC_region ?_))))
  refine WO_step rfl (S_pure rfl ?_)
  refine WO_nil (KSeq_n (WC_block ?_))
  refine WC_view (H' := SL (SV.toV .nil) TRec [] :: .obj i3 (.row false 28 (cells (TRec.val r))) :: H) (fun h hh => HAg.addNil hh) ?_
  refine WC_post (WC_weak (lp_Set (r := r) (i3 := i3) hv hl l.length 0 .nil false [] (by omega) (by omega) (by simp) (by simp)) seA HSub.refl) ?_
  rintro x l' H' ⟨w, d, out, rfl, rfl, rfl, ho, he⟩
  refine KBlock_h (KSeq_n (WC_seq (WC_seq (WC_region ?_))))
  iterate 2 refine WO_step rfl (S_pure rfl ?_)
  refine WO_nil (KSeq_n ?_)
  refine WC_cond rfl (fun hb1 => ?_) (fun hb1 => ?_)
  ·
   try simp only [bsT] at hb1
   refine WC_region ?_
   refine WO_step rfl (S_pure rfl ?_)
   first | refine WO_step rfl (S_loadT rfl pkA (by rfl) (by rfl) ?_) | refine WO_step rfl (S_loadO rfl pkA (by rfl) (by rfl) ?_)
   refine WO_step rfl (S_lit1 (T := TRec) rfl rfl rfl rfl fun w49 => ?_)
   refine WO_step rfl (S_app rfl rfl pkA (by first | exact SRC.str rfl rfl | (apply RD.src; repeat (first | assumption | exact RD.head | exact RD.nil | apply RD.tail))) (by rfl) (by rfl) (by (try simp only [List.length_append, List.length_cons, List.length_nil]); omega) fun w50 => ?_)
   refine WO_step rfl (S_pure rfl ?_)
   refine WO_nil (KSeq_n (WC_seq (WC_region ?_)))
   iterate 2 refine WO_step rfl (S_pure rfl ?_)
   refine WO_nil (KSeq_n (WC_ret ?_))
   refine KFn_r (ResL.tmp rfl ResL.nil) ?_
   refine ⟨SL w50.toV TRec (out ++ [r]) :: H, hsA, w50, ?_, rfl⟩
   rw [← he]; simp_all
  ·
   try simp only [bsT] at hb1
   refine WC_skip (KSeq_n (WC_seq (WC_region ?_)))
   iterate 2 refine WO_step rfl (S_pure rfl ?_)
   refine WO_nil (KSeq_n (WC_ret ?_))
   refine KFn_r (ResL.tmp rfl ResL.nil) ?_
   refine ⟨SL w.toV TRec out :: H, hsA, w, ?_, rfl⟩
   rw [← he]; simp_all
end Go.Proofs.YtpnmeednimpjdaaGreat.AM
namespace Go.Proofs.YtpnmeednimpjdaaGreat.AM
open Go Go.RowKit
set_option linter.unusedSimpArgs false
set_option linter.unusedVariables false
section
variable {P : Program} {W : World} {α : Type}
structure St (W : World) (b : Bt) (h : AH) (H : SH) : Prop where
  sim : Sim b h W.heap.size W W
  hag : HAg H h
theorem St.empty (W : World) (gd : Gd W.heap.size W) : St W [] AH.empty [] := ⟨Sim.empty W gd, HAg.nil _⟩
theorem Sim.still {b : Bt} {h : AH} {base : Nat} {w0 w : World} (H : Sim b h base w0 w) {k s : Nat} (o : AObj) (hl : live o = false) (ho : OR (b ++ [(k, s)]) w base k s o) :
    Sim (b ++ [(k, s)]) (h.push o) base w0 w := by
  have hlen := H.len
  have old : ∀ i, h.next ≠ i → (h.push o).get i = h.get i := fun i e => AH.get_push_ne h o e
  have back : ∀ i o' k' s', h.get i = some o' → (b ++ [(k, s)])[i]? = some (k', s') → b[i]? = some (k', s') := by
    intro i o' k' s' hg hb
    obtain ⟨k1, s1, hb1, _⟩ := H.obj i o' hg
    have := getElem?_pre (c := [(k, s)]) _ _ hb1
    rw [hb] at this; cases this
    exact hb1
  refine ⟨by simp [AH.push, H.len], fun i hi => ?_, H.bel, H.le, fun i o' hi => ?_, ?_, H.gd⟩
  · have hi' : h.next + 1 ≤ i := hi
    rw [old i (by omega)]; exact H.out i (by omega)
  · by_cases e : h.next = i
    · subst e
      rw [AH.get_push_same] at hi; cases hi
      exact ⟨k, s, by rw [List.getElem?_append_right (by omega)]; simp [hlen], ho⟩
    · rw [old i e] at hi
      obtain ⟨k', s', hb, hr⟩ := H.obj i o' hi
      exact ⟨k', s', getElem?_pre _ _ hb, hr.move getElem?_pre (SLe.refl _) fun _ => rfl⟩
  · intro i j o1 o2 k1 s1 s2 hij h1 h2 m1 m2 b1 b2
    by_cases e1 : h.next = i
    · subst e1
      rw [AH.get_push_same] at h1; cases h1; rw [hl] at m1; cases m1
    · by_cases e2 : h.next = j
      · subst e2
        rw [AH.get_push_same] at h2; cases h2; rw [hl] at m2; cases m2
      · rw [old i e1] at h1; rw [old j e2] at h2
        exact H.inj i j o1 o2 k1 s1 s2 hij h1 h2 m1 m2 (back i o1 _ _ h1 b1) (back j o2 _ _ h2 b2)
theorem HAg.addR {H : SH} {h : AH} (hh : HAg H h) (o : AObj) {r : Res} (hr : r.holds (h.push o)) (hf : r.foot = []) : HAg (r :: H) (h.push o) := by
  refine ⟨fun q hq => ?_, by rw [List.flatMap_cons, hf]; exact hh.2⟩
  rcases List.mem_cons.1 hq with rfl | hq
  · exact hr
  · refine Res.holds_frame (i := h.next) (Nat.le_succ _) (fun j _ hne => AH.get_push_ne h o (Ne.symm hne)) (hh.1 q hq) (fun hm => ?_) ⟨fun j t c e => ?_, fun j e => ?_⟩
    · exact absurd (Res.foot_lt (hh.1 q hq) hm) (Nat.lt_irrefl _)
    · have := hh.1 q hq; subst e; exact Nat.ne_of_lt this.1
    · have := hh.1 q hq; subst e; exact Nat.ne_of_lt this.1
theorem VR.pre {b c : Bt} {v v' : Value} (h : VR b W.shape? v v') : VR (b ++ c) W.shape? v v' := h.ext (SLe.refl _)
theorem St.row {b : Bt} {h : AH} {H : SH} (S : St W b h H) {k s : Nat} {t : TypeId} {c cs : List Value} {arr : Array Value} {t' : TypeId} {fr : Nat × Nat} (hk : W.heap[k]? = some (.cells arr t' fr)) (ho : c.all one = true) (hb : s + c.length ≤ arr.size)
    (hv : ∀ j v, c[j]? = some v → ∃ v', arr[s + j]? = some v' ∧ VR b W.shape? v v') : St W (b ++ [(k, s)]) (h.push (.row true t c)) (.ro h.next t c :: H) := by
  refine ⟨S.sim.still _ rfl ⟨ho, arr, t', fr, hk, hb, fun j v hj => ?_, ?_⟩, S.hag.addR _ ⟨Nat.lt_succ_self _, AH.get_push_same _ _⟩ rfl⟩
  · obtain ⟨v', h1, h2⟩ := hv j v hj; exact ⟨v', h1, h2.pre⟩
  · rw [if_pos rfl]; exact (Array.getElem?_eq_some_iff.1 hk).1
theorem St.gone {b : Bt} {h : AH} {H : SH} (S : St W b h H) : St W (b ++ [(0, 0)]) (h.push .dead) (.gone h.next :: H) :=
  ⟨S.sim.still _ rfl trivial, S.hag.addR _ ⟨Nat.lt_succ_self _, AH.get_push_same _ _⟩ rfl⟩
theorem mapM_some {β γ : Type} {f : β → Option γ} : ∀ {l : List β} {r : List γ}, l.mapM f = some r → r.length = l.length ∧ ∀ (i : Nat) (x : β), l[i]? = some x → ∃ y, f x = some y ∧ r[i]? = some y
  | [], r, h => by simp at h; subst h; simp
  | x :: l, r, h => by
    rw [List.mapM_cons] at h
    simp only [Option.bind_eq_bind, Option.bind_eq_some_iff, Option.pure_def, Option.some.injEq] at h
    obtain ⟨y, hy, ys, hys, rfl⟩ := h
    obtain ⟨h1, h2⟩ := mapM_some hys
    refine ⟨by simp [h1], fun i z hz => ?_⟩
    cases i with
    | zero => simp at hz; subst hz; exact ⟨y, hy, rfl⟩
    | succ i => rw [List.getElem?_cons_succ] at hz; obtain ⟨u, h3, h4⟩ := h2 i z hz; exact ⟨u, h3, by rw [List.getElem?_cons_succ]; exact h4⟩
theorem cells_at {base : Nat} {a : Addr} {n : Nat} {cs : List Value} (h : W.cells? base a n = some cs) : cs.length = n ∧ ∀ i, i < n → W.cell? (a.add i) = cs[i]? := by
  unfold World.cells? at h
  split at h
  · obtain ⟨h1, h2⟩ := mapM_some h
    refine ⟨by simpa using h1, fun i hi => ?_⟩
    obtain ⟨y, hy, hr⟩ := h2 i i (by simp [hi])
    rw [hy, hr]
  · cases h
theorem add_off (a : Addr) (hs : a.spot = none) (n : Nat) : a.add n = ⟨a.block, a.off + n, none⟩ := by
  unfold Addr.add; split
  · rename_i h; subst h; cases a; simp at hs; subst hs; rfl
  · rfl
theorem add_add (a : Addr) (m n : Nat) : (a.add m).add n = a.add (m + n) := by
  unfold Addr.add
  by_cases h1 : m = 0
  · subst h1; rw [if_pos rfl, Nat.zero_add]
  · rw [if_neg h1]
    by_cases h2 : n = 0
    · subst h2; rw [if_pos rfl, Nat.add_zero, if_neg h1]
    · rw [if_neg h2, if_neg (by omega)]; simp [Nat.add_assoc]
theorem slice_block {H : Type} {enc : TypeId × Value → H} {held : Bool} {fuel : Nat} {t e : TypeId} {cs : List Value} {x : DataW H × List MemPlace} (ht : P.underlying t = some (.slice e)) (hes : 0 < P.cellsOf e) (h : DataW.trod enc P W 0 (fun _ => true) held fuel t cs = some x) :
    cs = [.slice none 0 0] ∨ (∃ a, cs = [.slice (some a) 0 0]) ∨
    ∃ (k o len cap : Nat) (arr : Array Value) (t' : TypeId) (fr : Nat × Nat) (n : Nat), cs = [.slice (some ⟨k, o, none⟩) len cap] ∧ len ≤ cap ∧ cap ≤ maxLen ∧ W.heap[k]? = some (.cells arr t' fr) ∧ o + cap * P.cellsOf e ≤ arr.size ∧
      ∀ i, i < len → ∃ ci y, ci.length = P.cellsOf e ∧ (∀ j, j < P.cellsOf e → arr[o + i * P.cellsOf e + j]? = ci[j]?) ∧ DataW.trod enc P W 0 (fun _ => true) held n e ci = some y := by
  rcases DataW.trod_slice ht h with ⟨h0, _⟩ | ⟨a, len, cap, elems, rest, n, _, rfl, rfl, hb, hl, hm, hlen, hel, hsp, hns⟩
  · exact .inl h0
  · by_cases hc0 : cap = 0
    · have : len = 0 := by omega
      subst hc0 this
      exact .inr (.inl ⟨a, rfl⟩)
    · obtain ⟨hr, hrest⟩ := hsp rfl
      have one : ∀ i, i < cap → ∃ ci y, W.cells? 0 (a.add (i * P.cellsOf e)) (P.cellsOf e) = some ci ∧ DataW.trod enc P W 0 (fun _ => true) held n e ci = some y := by
        intro i hi
        by_cases h1 : i < len
        · have := hel i h1
          rw [List.getElem?_eq_getElem (by omega)] at this
          obtain ⟨ci, h2, h3⟩ := Option.bind_eq_some_iff.1 this
          exact ⟨ci, _, h2, h3⟩
        · have := hrest (i - len) (by omega)
          rw [List.getElem?_eq_getElem (by omega), show len + (i - len) = i by omega] at this
          obtain ⟨ci, h2, h3⟩ := Option.bind_eq_some_iff.1 this
          exact ⟨ci, _, h2, h3⟩
      obtain ⟨c0, y0, hc, _⟩ := one (cap - 1) (by omega)
      obtain ⟨hcl, hcc⟩ := cells_at hc
      have hlast := hcc (P.cellsOf e - 1) (by omega)
      rw [List.getElem?_eq_getElem (by omega), add_add] at hlast
      have hsome : ∀ q, (∃ v, W.cell? (a.add q) = some v) → ∃ arr t' fr, W.heap[a.block]? = some (.cells arr t' fr) := by
        rintro q ⟨v, hv⟩
        unfold World.cell? at hv
        have : (a.add q).block = a.block := by unfold Addr.add; split <;> rfl
        rw [this] at hv
        split at hv
        · rename_i c t fr hh; exact ⟨c, t, fr, hh⟩
        · cases hv
      obtain ⟨arr, t', fr, harr⟩ := hsome _ ⟨_, hlast⟩
      have hspot : a.spot = none := by
        obtain ⟨c1, y1, hc1, _⟩ := one 0 (by omega)
        obtain ⟨hcl1, hcc1⟩ := cells_at hc1
        have h0 := hcc1 0 hes
        rw [List.getElem?_eq_getElem (by omega), Nat.zero_mul] at h0
        have : (a.add 0).add 0 = a := by simp [Addr.add]
        rw [this] at h0
        unfold World.cell? at h0
        rw [harr] at h0
        simp only [] at h0
        split at h0
        · cases h0
        · rename_i hsp; cases hh : a.spot with
          | none => rfl
          | some _ => rw [hh] at hsp; exact absurd rfl hsp
      have cell : ∀ q, W.cell? (a.add q) = arr[a.off + q]? := by
        intro q; rw [add_off a hspot]; unfold World.cell?; rw [harr]; rfl
      refine .inr (.inr ⟨a.block, a.off, len, cap, arr, t', fr, n, ?_, hl, hm, harr, ?_, fun i hi => ?_⟩)
      · congr 2; cases a; simp at hspot; subst hspot; rfl
      · rw [cell] at hlast
        have := (Array.getElem?_eq_some_iff.1 hlast).1
        have e1 : (cap - 1) * P.cellsOf e + P.cellsOf e = cap * P.cellsOf e := by rw [← Nat.succ_mul]; congr 1; omega
        omega
      · obtain ⟨ci, y, h2, h3⟩ := one i (by omega)
        obtain ⟨h4, h5⟩ := cells_at h2
        refine ⟨ci, y, h4, fun j hj => ?_, h3⟩
        have := h5 j hj
        rw [add_add, cell] at this
        rw [Nat.add_assoc]; exact this
structure Flat (P : Program) (t : TypeId) (T : Ty α) (ok : α → Prop) : Prop where
  es : P.cellsOf t = T.es
  pos : 0 < T.es
  rd : ∀ {H : Type} {enc : TypeId × Value → H} {W : World} {base : Nat} {spare : Nat → Bool} {held : Bool} {fuel : Nat} {cs : List Value} {x : DataW H × List MemPlace}, DataW.trod enc P W base spare held fuel t cs = some x → ∃ a, cs = T.enc a ∧ ok a
  g : ∀ a, (T.enc a).all g0 = true
theorem build_list {β : Type} {Q : Nat → β → Prop} : ∀ n, (∀ i, i < n → ∃ x, Q i x) → ∃ xs : List β, xs.length = n ∧ ∀ (i : Nat) (x : β), xs[i]? = some x → Q i x
  | 0, _ => ⟨[], rfl, fun i x h => by simp at h⟩
  | n + 1, h => by
    obtain ⟨xs, h1, h2⟩ := build_list n (fun i hi => h i (by omega))
    obtain ⟨x, hx⟩ := h n (by omega)
    refine ⟨xs ++ [x], by simp [h1], fun i y hy => ?_⟩
    by_cases hi : i < xs.length
    · rw [List.getElem?_append_left hi] at hy; exact h2 i y hy
    · have hlt := (List.getElem?_eq_some_iff.1 hy).1
      simp at hlt
      have : i = n := by omega
      subst this
      rw [List.getElem?_append_right (by omega)] at hy
      simp [h1] at hy; subst hy; exact hx
theorem shape_of {k : Nat} {arr : Array Value} {t' : TypeId} {fr : Nat × Nat} (h : W.heap[k]? = some (.cells arr t' fr)) : W.shape? k = some (t', arr.size) := by unfold World.shape?; rw [h]
theorem div_mod_lt {i n m : Nat} (h : i < n * m) : i / m < n := by
  have hm : 0 < m := by
    rcases Nat.eq_zero_or_pos m with h0 | h0
    · subst h0; simp at h
    · exact h0
  rw [Nat.div_lt_iff_lt_mul hm]; exact h
theorem get_of_lt0 {β : Type} {l : List β} {a : Nat} (h : a < l.length) : ∃ x, l[a]? = some x := ⟨_, List.getElem?_eq_getElem h⟩
theorem St.slice {H' : Type} {enc : TypeId × Value → H'} {held : Bool} {fuel : Nat} {t e : TypeId} {cs : List Value} {x : DataW H' × List MemPlace} {T : Ty α} {ok : α → Prop} {b : Bt} {h : AH} {H : SH} (S : St W b h H) (hF : Flat P e T ok) (ht : P.underlying t = some (.slice e))
    (hr : DataW.trod enc P W 0 (fun _ => true) held fuel t cs = some x) : ∃ (v : Value) (sv : SV) (xs : List α) (c : Bt) (h' : AH) (L : SH), cs = [v] ∧ (∀ x ∈ xs, ok x) ∧ St W (b ++ c) h' (L ++ H) ∧ VR (b ++ c) W.shape? sv.toV v ∧ RD (L ++ H) sv.toV T xs := by
  have hes := hF.es
  rcases slice_block ht (by rw [hes]; exact hF.pos) hr with rfl | ⟨a, rfl⟩ | ⟨k, o, len, cap, arr, t', fr, n, rfl, hl, hm, hk, hb, hel⟩
  · exact ⟨_, .nil, [], [], h, [], rfl, by simp, by simpa using S, .scal rfl, RD.nil⟩
  · refine ⟨_, .mk h.next 0 0 T.es, [], [(0, 0)], h.push .dead, [.gone h.next], rfl, by simp, S.gone, .slice0, ?_⟩
    exact Rd.gone (List.mem_cons_self ..)
  · rw [hes] at hb hel
    have hQ : ∀ i, i < len → ∃ a : α, ok a ∧ ∀ j, j < T.es → arr[o + i * T.es + j]? = (T.enc a)[j]? := fun i hi => by
      obtain ⟨ci, y, h1, h2, h3⟩ := hel i hi
      obtain ⟨a, rfl, h4⟩ := hF.rd h3
      exact ⟨a, h4, h2⟩
    obtain ⟨xs, hxl, hx⟩ := build_list len hQ
    have hcl : (T.cells xs).length = len * T.es := by rw [T.cells_len, hxl]
    have hlc : len * T.es ≤ cap * T.es := Nat.mul_le_mul_right _ hl
    have hS := S.row (k := k) (s := o) (t := T.t) (c := T.cells xs) (cs := []) hk (T.cells_all xs) (by omega) (fun j v hj => by
      have hjl : j < len * T.es := by have := (List.getElem?_eq_some_iff.1 hj).1; omega
      have hd : j / T.es < len := div_mod_lt hjl
      obtain ⟨a, ha⟩ := get_of_lt0 (by omega : j / T.es < xs.length)
      have h2 := (hx _ a ha).2 (j % T.es) (Nat.mod_lt _ hF.pos)
      have e1 : j / T.es * T.es + j % T.es = j := by rw [Nat.mul_comm]; exact Nat.div_add_mod _ _
      have hat := T.cells_at ha (off := j % T.es) (n := 1) (by have := Nat.mod_lt j hF.pos; omega)
      have e2 : (T.cells xs)[j]? = (T.enc a)[j % T.es]? := by
        have h3 := congrArg (·[0]?) hat
        simp only [List.getElem?_take, List.getElem?_drop] at h3
        rw [e1] at h3
        simpa using h3
      rw [Nat.add_assoc, e1] at h2
      rw [e2] at hj
      rw [hj] at h2
      exact ⟨v, h2, .scal (List.all_eq_true.1 (hF.g a) v (List.mem_of_getElem? hj))⟩)
    refine ⟨_, .mk h.next 0 len T.es, xs, [(k, o)], _, [.ro h.next T.t (T.cells xs)], rfl, fun x hxm => ?_, hS, ?_, ?_⟩
    · obtain ⟨i, hi⟩ := List.getElem?_of_mem hxm
      exact (hx i x hi).1
    · have hlen := S.sim.len
      have := VR.slice (b := b ++ [(k, o)]) (S := W.shape?) (i := h.next) (off := 0) (len := len) (es := T.es) (k := k) (s := o) (cap := cap) (by rw [List.getElem?_append_right (by omega)]; simp [hlen]) hl (shape_of hk) (by omega)
      exact this
    · have : RD (.ro h.next T.t (T.cells xs) :: H) (.slice (some ⟨h.next, 0, none⟩) xs.length T.es) T xs := Rd.ro (List.mem_cons_self ..) (T.cells_len xs)
      rw [hxl] at this; exact this
theorem law_ok {F : Funs} {X : Exts} {pur : List FuncId} (OK : XOK P F X pur) (hF : FOK P pur F) {f : FuncId} {vs args : List Value} {b : Bt} {h : AH} {H : SH} (S : St W b h H) (hl : LR (VR b W.shape?) vs args) {v : Value} (hg : g1 v = true) (hw : WF F X f vs H (fun u _ => u = v)) :
    Calls P f args.toArray W (fun e w1 => e = .returned v ∧ Below W.heap.size W w1) := by
  obtain ⟨u, h', H', hrun, _, rfl⟩ := hw h S.hag
  obtain ⟨⟨_, hs⟩, _⟩ := sound OK hF hrun
  have := hs b W.heap.size W W args S.sim hl
  refine this.mono fun e w1 hp => ?_
  obtain ⟨c, v', rfl, hvr, _, HS⟩ := hp
  exact ⟨by rw [hvr.g1_inv hg], HS.bel⟩
end
end Go.Proofs.YtpnmeednimpjdaaGreat.AM
namespace Go.Proofs.YtpnmeednimpjdaaGreat.AM
open Go
section
variable {P : Program} {W : World} {H : Type} {enc : TypeId × Value → H} {base : Nat} {spare : Nat → Bool} {held : Bool} {fuel : Nat} {t : TypeId} {cs : List Value} {x : DataW H × List MemPlace}
theorem trod_int' {k : IntKind} (ht : P.underlying t = some (.int k)) (h : DataW.trod enc P W base spare held fuel t cs = some x) : ∃ n, cs = [.int k n] ∧ (Lit.int k n).wf = true := by
  cases fuel with
  | zero => simp [DataW.trod] at h
  | succ f =>
    unfold DataW.trod at h
    rw [ht] at h
    split at h <;> simp_all
theorem trod_bool' (ht : P.underlying t = some .bool) (h : DataW.trod enc P W base spare held fuel t cs = some x) : ∃ n, cs = [.bool n] := by
  cases fuel with
  | zero => simp [DataW.trod] at h
  | succ f =>
    unfold DataW.trod at h
    rw [ht] at h
    split at h <;> simp_all
theorem trod_str' (ht : P.underlying t = some .string) (h : DataW.trod enc P W base spare held fuel t cs = some x) : ∃ s, cs = [.string s] ∧ s.size ≤ maxLen := by
  cases fuel with
  | zero => simp [DataW.trod] at h
  | succ f =>
    unfold DataW.trod at h
    rw [ht] at h
    split at h <;> simp_all
theorem trod_struct' {fs : Array Field} (ht : P.underlying t = some (.struct fs)) (h : DataW.trod enc P W base spare held fuel t cs = some x) : cs.length = P.cellsOf t ∧ ∃ n, ∀ f ∈ fs.toList, ∃ y, DataW.trod enc P W base spare held n f.type ((cs.drop f.offset).take (P.cellsOf f.type)) = some y := by
  cases fuel with
  | zero => simp [DataW.trod] at h
  | succ n =>
    unfold DataW.trod at h
    rw [ht] at h
    split at h <;> simp_all
    obtain ⟨hc, y, hy, _⟩ := h
    refine ⟨n, fun f hf => ?_⟩
    obtain ⟨i, hi⟩ := List.getElem?_of_mem (Array.mem_toList_iff.2 hf)
    obtain ⟨y1, h1, _⟩ := (mapM_some hy).2 i f hi
    rcases y1 with ⟨a, b⟩
    exact ⟨a, b, h1⟩
end
end Go.Proofs.YtpnmeednimpjdaaGreat.AM
namespace Go.Proofs.YtpnmeednimpjdaaGreat.AM
open Go
section
variable {P : Program} {W : World} {α : Type}
theorem lr_snoc {b c : Bt} {svs : List SV} {arr : Array Value} {o : Nat} {sv : SV} {v : Value} (h : ∀ i s, svs[i]? = some s → ∃ v', arr[o + i]? = some v' ∧ VR b W.shape? s.toV v') (hv : arr[o + svs.length]? = some v) (hr : VR (b ++ c) W.shape? sv.toV v) :
    ∀ i s, (svs ++ [sv])[i]? = some s → ∃ v', arr[o + i]? = some v' ∧ VR (b ++ c) W.shape? s.toV v' := by
  intro i s hs
  by_cases hi : i < svs.length
  · rw [List.getElem?_append_left hi] at hs
    obtain ⟨v', h1, h2⟩ := h i s hs
    exact ⟨v', h1, h2.pre⟩
  · have hlt := (List.getElem?_eq_some_iff.1 hs).1
    simp at hlt
    have : i = svs.length := by omega
    subst this
    rw [List.getElem?_append_right (Nat.le_refl _), Nat.sub_self] at hs
    simp at hs; subst hs
    exact ⟨v, hv, hr⟩
theorem St.many {H' : Type} {enc : TypeId × Value → H'} {held : Bool} {n : Nat} {t1 e : TypeId} {T : Ty α} {ok : α → Prop} (hF : Flat P e T ok) (ht1 : P.underlying t1 = some (.slice e)) {b : Bt} {h : AH} {H : SH} (S : St W b h H) {arr : Array Value} {o : Nat} : ∀ (m : Nat), (∀ i, i < m → ∃ v y, arr[o + i]? = some v ∧ DataW.trod enc P W 0 (fun _ => true) held n t1 [v] = some y) →
    ∃ (svs : List SV) (ls : List (List α)) (c : Bt) (h' : AH) (L : SH), svs.length = m ∧ ls.length = m ∧ (∀ l ∈ ls, ∀ x ∈ l, ok x) ∧ St W (b ++ c) h' (L ++ H) ∧ (∀ i s, svs[i]? = some s → ∃ v', arr[o + i]? = some v' ∧ VR (b ++ c) W.shape? s.toV v') ∧ ∀ (i : Nat) (sv : SV) (l : List α), svs[i]? = some sv → ls[i]? = some l → RD (L ++ H) sv.toV T l
  | 0, _ => ⟨[], [], [], h, [], rfl, rfl, by simp, by simpa using S, by simp, by simp⟩
  | m + 1, hm => by
    obtain ⟨svs, ls, c, h', L, e1, e2, e3, S1, e4, e5⟩ := St.many hF ht1 S m (fun i hi => hm i (by omega))
    obtain ⟨v, y, hv, hy⟩ := hm m (by omega)
    obtain ⟨u, sv, xs, c2, h2, L2, hu, hok, S2, hvr, hrd⟩ := S1.slice hF ht1 hy
    have hu' : v = u := by simpa using hu
    subst hu'
    refine ⟨svs ++ [sv], ls ++ [xs], c ++ c2, h2, L2 ++ L, by simp [e1], by simp [e2], ?_, by rw [← List.append_assoc, List.append_assoc L2]; exact S2, ?_, ?_⟩
    · intro l hl
      rcases List.mem_append.1 hl with hl | hl
      · exact e3 l hl
      · simp at hl; subst hl; exact hok
    · rw [← List.append_assoc]
      exact lr_snoc e4 (by rw [e1]; exact hv) hvr
    · intro i s l hs hl
      rw [List.append_assoc]
      by_cases hi : i < svs.length
      · rw [List.getElem?_append_left hi] at hs
        rw [List.getElem?_append_left (by omega)] at hl
        exact (e5 i s l hs hl).app
      · have hlt := (List.getElem?_eq_some_iff.1 hs).1
        simp at hlt
        have : i = svs.length := by omega
        subst this
        rw [List.getElem?_append_right (Nat.le_refl _), Nat.sub_self] at hs
        rw [List.getElem?_append_right (by omega), show svs.length - ls.length = 0 by omega] at hl
        simp at hs hl; subst hs hl
        exact hrd
end
end Go.Proofs.YtpnmeednimpjdaaGreat.AM
namespace Go.Proofs.YtpnmeednimpjdaaGreat.AM
open Go
set_option linter.unusedSimpArgs false
set_option linter.unusedVariables false
set_option maxRecDepth 4000
set_option linter.unusedSectionVars false
variable {X : Exts} [HX X]
structure Ent where
  has : Bool
  id : Int
  tag : Nat
  deriving DecidableEq
def ent0 : Ent := ⟨false, 0, 0⟩
def frst (h : Nat) : Nat := h % 8
def tagOf (h : Nat) : Nat := h / 256 % 32768
def oth (b t : Nat) : Nat := b ^^^ (1 + t % 7)
theorem oth_facts : ∀ b, b < 8 → ∀ t, t < 7 → (b ^^^ (1 + t)) < 8 ∧ (b ^^^ (1 + t)) ≠ b ∧ ((b ^^^ (1 + t)) ^^^ (1 + t)) = b := by decide
theorem oth_lt {b t : Nat} (hb : b < 8) : oth b t < 8 := (oth_facts b hb (t % 7) (Nat.mod_lt _ (by omega))).1
theorem oth_ne {b t : Nat} (hb : b < 8) : oth b t ≠ b := (oth_facts b hb (t % 7) (Nat.mod_lt _ (by omega))).2.1
theorem oth_oth {b t : Nat} (hb : b < 8) : oth (oth b t) t = b := (oth_facts b hb (t % 7) (Nat.mod_lt _ (by omega))).2.2
theorem frst_lt (h : Nat) : frst h < 8 := Nat.mod_lt _ (by omega)
theorem tagOf_lt (h : Nat) : tagOf h < 32768 := Nat.mod_lt _ (by omega)
theorem S_xorI {l : SE} {H : SH} {K : Value → SH → Prop} {x y : Opd} {a b : Nat} (hx : x.lv l = some (.int .i64 (a : Int))) (hy : y.lv l = some (.int .i64 (b : Int))) (ha : a < 256) (hb : b < 256) (k : K (.int .i64 ((a ^^^ b : Nat) : Int)) H) : Step (.bin .xor x y) l H K :=
  S_pureE (v := .int .i64 (IntKind.wrap .i64 ((BitVec.ofInt 64 (a : Int) ^^^ BitVec.ofInt 64 (b : Int)).toNat : Int))) (by
    simp only [pev, hx, hy, binV, intBin, if_true]; rfl) (by
    have : a ^^^ b < 2 ^ 8 := Nat.xor_lt_two_pow ha hb
    rw [BitVec.toNat_xor, ofIntU (by omega), ofIntU (by omega), wrap_i64 (by omega) (by omega)]) k
theorem S_shr8 {l : SE} {H : SH} {K : Value → SH → Prop} {x : Opd} {a : Nat} (hx : x.lv l = some (.int .u64 (a : Int))) (k : K (.int .u64 ((a / 256 : Nat) : Int)) H) : Step (.bin .shr x (.const (.int .u64 8))) l H K :=
  S_pureE (v := .int .u64 ((a : Int).fdiv (2 ^ min (Int.toNat 8) IntKind.u64.bits))) (by
    have h2 : (Opd.const (.int .u64 8)).lv l = some (.int .u64 8) := rfl
    simp only [pev, hx, h2, binV]; rfl) (by
    have e : (2 ^ min (Int.toNat 8) IntKind.u64.bits : Int) = 256 := rfl
    have e2 : (a : Int).fdiv 256 = ((a / 256 : Nat) : Int) := by rw [Int.fdiv_eq_ediv_of_nonneg _ (by omega)]; omega
    rw [e, e2]) k
theorem S_quoN {l : SE} {H : SH} {K : Value → SH → Prop} {x : Opd} {a m : Nat} {M : Int} (hx : x.lv l = some (.int .i64 (a : Int))) (hM : M = (m : Int)) (ha : a < 9223372036854775808) (hm : 0 < m) (k : K (.int .i64 ((a / m : Nat) : Int)) H) : Step (.bin .quo x (.const (.int .i64 M))) l H K :=
  S_pureE (v := .int .i64 (IntKind.wrap .i64 ((a : Int).tdiv M))) (by
    have h2 : (Opd.const (.int .i64 M)).lv l = some (.int .i64 M) := rfl
    simp only [pev, hx, h2, binV, intBin, if_true]; rw [if_neg (by omega)]) (by
    have h := Nat.div_le_self a m
    rw [hM, ← Int.ofNat_tdiv]
    generalize a / m = q at *
    rw [wrap_i64 (by omega) (by omega)]) k
theorem tmod7 (t : Nat) : t % 7 < 7 := Nat.mod_lt _ (by omega)
theorem sp_hFirst {H : SH} {h : Nat} (hh : h < 18446744073709551616) : WF F X f_hash_First [.int .u64 (h : Int)] H (fun r H' => H' = H ∧ r = .int .i64 ((frst h : Nat) : Int)) := by
  have := frst_lt h
  refine WF_fn F_hash_First ?_
  refine WC_seq (WC_region ?_)
  refine WO_step rfl (S_pure rfl ?_)
  refine WO_nil (KSeq_n (WC_seq (WC_region ?_)))
  refine WO_step rfl (S_pure rfl ?_)
  refine WO_step rfl (S_remU (m := 8) rfl rfl (by omega) ?_)
  refine WO_step rfl (S_toI (a := h % 8) rfl (by omega) ?_)
  refine WO_step rfl (S_pure rfl ?_)
  refine WO_nil (KSeq_n (WC_ret ?_))
  refine KFn_r (ResL.tmp rfl ResL.nil) ?_
  exact ⟨_, hsA, rfl, rfl⟩
theorem sp_hTag {H : SH} {h : Nat} (hh : h < 18446744073709551616) : WF F X f_hash_Tag [.int .u64 (h : Int)] H (fun r H' => H' = H ∧ r = .int .i64 ((tagOf h : Nat) : Int)) := by
  refine WF_fn F_hash_Tag ?_
  refine WC_seq (WC_region ?_)
  refine WO_step rfl (S_pure rfl ?_)
  refine WO_nil (KSeq_n (WC_seq (WC_region ?_)))
  refine WO_step rfl (S_pure rfl ?_)
  refine WO_step rfl (S_shr8 rfl ?_)
  refine WO_step rfl (S_remU (m := 32768) rfl rfl (by omega) ?_)
  refine WO_step rfl (S_toI (a := h / 256 % 32768) rfl (by omega) ?_)
  refine WO_step rfl (S_pure rfl ?_)
  refine WO_nil (KSeq_n (WC_ret ?_))
  refine KFn_r (ResL.tmp rfl ResL.nil) ?_
  exact ⟨_, hsA, rfl, rfl⟩
theorem sp_hOther {H : SH} {b t : Nat} (hb : b < 8) (ht : t < 32768) : WF F X f_hash_Other [.int .i64 (b : Int), .int .i64 (t : Int)] H (fun r H' => H' = H ∧ r = .int .i64 ((oth b t : Nat) : Int)) := by
  have ht7 := tmod7 t
  refine WF_fn F_hash_Other ?_
  refine WC_seq (WC_region ?_)
  refine WO_step rfl (S_pure rfl ?_)
  refine WO_nil (KSeq_n (WC_seq (WC_seq (WC_region ?_))))
  iterate 3 refine WO_step rfl (S_pure rfl ?_)
  refine WO_cases (t := 7) rfl (fun hg1 => ?_) (fun hg1 => ?_)
  ·
   try simp only [bsT] at hg1
   exfalso; omega
   --stop
  ·
   try simp only [bsT] at hg1
   iterate 4 refine WO_step rfl (S_pure rfl ?_)
   refine WO_cases (t := 11) rfl (fun hg2 => ?_) (fun hg2 => ?_)
   ·
    try simp only [bsT] at hg2
    exfalso; omega
    --stop
   ·
    try simp only [bsT] at hg2
    iterate 4 refine WO_step rfl (S_pure rfl ?_)
    refine WO_cases (t := 15) rfl (fun hg3 => ?_) (fun hg3 => ?_)
    ·
     try simp only [bsT] at hg3
     exfalso; omega
     --stop
    ·
     try simp only [bsT] at hg3
     iterate 3 refine WO_step rfl (S_pure rfl ?_)
     refine WO_nil (KSeq_n ?_)
     refine WC_cond rfl (fun hb1 => ?_) (fun hb1 => ?_)
     ·
      try simp only [bsT] at hb1
      exfalso; omega
      --stop
     ·
      try simp only [bsT] at hb1
      refine WC_skip (KSeq_n (WC_seq (WC_region ?_)))
      iterate 2 refine WO_step rfl (S_pure rfl ?_)
      refine WO_step rfl (S_remU (m := 7) rfl rfl (by omega) ?_)
      refine WO_step rfl (S_addN (a := 1) (b := t % 7) rfl rfl (by omega) ?_)
      refine WO_step rfl (S_xorI (a := b) (b := 1 + t % 7) rfl rfl (by omega) (by omega) ?_)
      refine WO_step rfl (S_pure rfl ?_)
      refine WO_nil (KSeq_n (WC_ret ?_))
      refine KFn_r (ResL.tmp rfl ResL.nil) ?_
      exact ⟨_, hsA, rfl, rfl⟩
theorem sp_rFirst {H : SH} {h : Nat} (hh : h < 18446744073709551616) : WF F X f_loessref6_First [.int .u64 (h : Int)] H (fun r H' => H' = H ∧ r = .int .i64 ((frst h : Nat) : Int)) := by
  have := frst_lt h
  refine WF_fn F_loessref6_First ?_
  refine WC_seq (WC_region ?_)
  refine WO_step rfl (S_pure rfl ?_)
  refine WO_nil (KSeq_n (WC_seq (WC_region ?_)))
  refine WO_step rfl (S_pure rfl ?_)
  refine WO_step rfl (S_remU (m := 8) rfl rfl (by omega) ?_)
  refine WO_step rfl (S_toI (a := h % 8) rfl (by omega) ?_)
  refine WO_step rfl (S_pure rfl ?_)
  refine WO_nil (KSeq_n (WC_ret ?_))
  refine KFn_r (ResL.tmp rfl ResL.nil) ?_
  exact ⟨_, hsA, rfl, rfl⟩
theorem sp_rTag {H : SH} {h : Nat} (hh : h < 18446744073709551616) : WF F X f_loessref6_Tag [.int .u64 (h : Int)] H (fun r H' => H' = H ∧ r = .int .i64 ((tagOf h : Nat) : Int)) := by
  refine WF_fn F_loessref6_Tag ?_
  refine WC_seq (WC_region ?_)
  refine WO_step rfl (S_pure rfl ?_)
  refine WO_nil (KSeq_n (WC_seq (WC_region ?_)))
  refine WO_step rfl (S_pure rfl ?_)
  refine WO_step rfl (S_quoU (m := 256) rfl rfl (by omega) (by omega) ?_)
  refine WO_step rfl (S_remU (m := 32768) rfl rfl (by omega) ?_)
  refine WO_step rfl (S_toI (a := h / 256 % 32768) rfl (by omega) ?_)
  refine WO_step rfl (S_pure rfl ?_)
  refine WO_nil (KSeq_n (WC_ret ?_))
  refine KFn_r (ResL.tmp rfl ResL.nil) ?_
  exact ⟨_, hsA, rfl, rfl⟩
theorem sp_rOther {H : SH} {b t : Nat} (hb : b < 8) (ht : t < 32768) : WF F X f_loessref6_Other [.int .i64 (b : Int), .int .i64 (t : Int)] H (fun r H' => H' = H ∧ r = .int .i64 ((oth b t : Nat) : Int)) := by
  have ht7 := tmod7 t
  refine WF_fn F_loessref6_Other ?_
  refine WC_seq (WC_region ?_)
  refine WO_step rfl (S_pure rfl ?_)
  refine WO_nil (KSeq_n (WC_seq (WC_seq (WC_region ?_))))
  iterate 3 refine WO_step rfl (S_pure rfl ?_)
  refine WO_cases (t := 7) rfl (fun hg1 => ?_) (fun hg1 => ?_)
  ·
   try simp only [bsT] at hg1
   exfalso; omega
   --stop
  ·
   try simp only [bsT] at hg1
   iterate 4 refine WO_step rfl (S_pure rfl ?_)
   refine WO_cases (t := 11) rfl (fun hg2 => ?_) (fun hg2 => ?_)
   ·
    try simp only [bsT] at hg2
    exfalso; omega
    --stop
   ·
    try simp only [bsT] at hg2
    iterate 4 refine WO_step rfl (S_pure rfl ?_)
    refine WO_cases (t := 15) rfl (fun hg3 => ?_) (fun hg3 => ?_)
    ·
     try simp only [bsT] at hg3
     exfalso; omega
     --stop
    ·
     try simp only [bsT] at hg3
     iterate 3 refine WO_step rfl (S_pure rfl ?_)
     refine WO_nil (KSeq_n ?_)
     refine WC_cond rfl (fun hb1 => ?_) (fun hb1 => ?_)
     ·
      try simp only [bsT] at hb1
      exfalso; omega
      --stop
     ·
      try simp only [bsT] at hb1
      refine WC_skip (KSeq_n (WC_seq (WC_region ?_)))
      iterate 2 refine WO_step rfl (S_pure rfl ?_)
      refine WO_step rfl (S_remU (m := 7) rfl rfl (by omega) ?_)
      refine WO_step rfl (S_addN (a := 1) (b := t % 7) rfl rfl (by omega) ?_)
      refine WO_step rfl (S_xorI (a := b) (b := 1 + t % 7) rfl rfl (by omega) (by omega) ?_)
      refine WO_step rfl (S_pure rfl ?_)
      refine WO_nil (KSeq_n (WC_ret ?_))
      refine KFn_r (ResL.tmp rfl ResL.nil) ?_
      exact ⟨_, hsA, rfl, rfl⟩
theorem hashOf_nat (s : ByteArray) : ∃ n : Nat, hashOf s = (n : Int) ∧ n < 18446744073709551616 := by
  have key : ∀ m : Int, ∃ n : Nat, IntKind.wrap .u64 m = (n : Int) ∧ n < 18446744073709551616 := fun m => by
    rw [wrapU]
    exact ⟨(m % 18446744073709551616).toNat, by omega, by omega⟩
  exact key _
def kH (s : ByteArray) : Nat := (hashOf s).toNat
theorem kH_eq (s : ByteArray) : hashOf s = ((kH s : Nat) : Int) := by
  obtain ⟨n, h1, _⟩ := hashOf_nat s
  unfold kH; rw [h1]; simp
theorem kH_lt (s : ByteArray) : kH s < 18446744073709551616 := by
  obtain ⟨n, h1, h2⟩ := hashOf_nat s
  unfold kH; rw [h1]; simpa using h2
theorem S_idxA {l : SE} {H : SH} {K : Value → SH → Prop} {n es i o j : Nat} {x y : Opd} {kd : IntKind} {J : Int} (hx : x.lv l = some (.pointer (some ⟨i, o, none⟩))) (hy : y.lv l = some (.int kd J)) (hJ : J = (j : Int)) (hj : j < n) (k : K (.pointer (some ⟨i, o + j * es, none⟩)) H) : Step (.idxA n es x y) l H K :=
  fun e h hA hH => by
    subst hJ
    exact ⟨_, h, H, by simp only [ev, Opd.lv_ev hA hx, Opd.lv_ev hA hy]; rw [if_pos ⟨by omega, by omega⟩, Int.toNat_natCast], hH, k⟩
structure SlT where
  has : Bool
  r : Rec
def slt0 : SlT := ⟨false, rec0⟩
def TSlT : Ty SlT := Ty.ofAgg 6 30 64 (fun s => [.bool s.has, .string s.r.key, .bool s.r.gone, .int .i64 s.r.val.kind, .int .i64 s.r.val.n, .string s.r.val.s]) (fun _ => rfl) (fun _ => rfl)
def AO {α : Type} (i : Nat) (t : TypeId) (T : Ty α) (xs : List α) : Res := .obj i (.row false t (T.cells xs))
theorem S_loadAF {α : Type} {T : Ty α} {l : SE} {H H0 : SH} {K : Value → SH → Prop} {i o k off n : Nat} {agg : Bool} {t : TypeId} {a : Opd} {xs : List α} {x : α} {v : Value} (ha : a.lv l = some (.pointer (some ⟨i, o, none⟩))) (hp : Pick (AO i t T xs) H H0) (ho : o = k * T.es + off) (hx : xs[k]? = some x) (hb : off + n ≤ T.es) (hv : mkV agg (((T.enc x).drop off).take n) = some v) (kk : K v H) : Step (.load agg n a) l H K := by
  subst ho
  have hlt := (List.getElem?_eq_some_iff.1 hx).1
  have hc := T.cells_len xs
  have hm : k * T.es + T.es ≤ xs.length * T.es := by rw [← Nat.succ_mul]; exact Nat.mul_le_mul_right _ hlt
  exact S_loadO ha hp (by rw [Nat.ble_eq, hc]; omega) (by rw [T.cells_at hx hb]; exact hv) kk
theorem S_loadA {α : Type} {T : Ty α} {l : SE} {H H0 : SH} {K : Value → SH → Prop} {i o k n : Nat} {agg : Bool} {t : TypeId} {a : Opd} {xs : List α} {x : α} (ha : a.lv l = some (.pointer (some ⟨i, o, none⟩))) (hp : Pick (AO i t T xs) H H0) (ho : o = k * T.es) (hx : xs[k]? = some x) (hn : n = T.es) (hg : agg = T.agg) (kk : K (T.val x) H) : Step (.load agg n a) l H K := by
  subst hn hg
  refine S_loadAF (off := 0) ha hp (by rw [ho, Nat.add_zero]) hx (by omega) ?_ kk
  rw [List.drop_zero, ← T.len x, List.take_length]; exact T.hmk x
theorem S_storeA {α : Type} {T : Ty α} {l : SE} {H H0 : SH} {K : Value → SH → Prop} {i o k n : Nat} {t : TypeId} {a y : Opd} {xs : List α} {v : Value} {x : α} (ha : a.lv l = some (.pointer (some ⟨i, o, none⟩))) (hy : y.lv l = some v) (hp : Pick (AO i t T xs) H H0) (ho : o = k * T.es) (hk : k < xs.length) (hv : v = T.val x) (hn : n = T.es) (kk : K undef (AO i t T (xs.set k x) :: H0)) : Step (.store n a y) l H K := by
  subst ho hv hn
  have hc := T.cells_len xs
  have hm : k * T.es + T.es ≤ xs.length * T.es := by rw [← Nat.succ_mul]; exact Nat.mul_le_mul_right _ hk
  have e1 := T.cells_set (xs := xs) (j := k) (x := xs[k]) (y := x) (List.getElem?_eq_getElem hk) (off := 0) (vs := T.enc x) (by rw [splice_all (by rw [T.len, T.len])]) (by rw [T.len]; omega)
  refine S_storeO ha hy hp (by rw [T.hcells, T.len]) (by rw [Nat.ble_eq, hc]; omega) (by rw [T.hcells]; exact T.ones x) ?_
  rw [Nat.add_zero] at e1
  rw [T.hcells, e1]; exact kk
theorem S_boxA {α : Type} {T : Ty α} {l : SE} {H : SH} {K : Value → SH → Prop} {t : TypeId} {x : Opd} {xs : List α} (hx : x.lv l = some (.agg (T.cells xs).toArray)) (k : ∀ i, K (.pointer (some ⟨i, 0, none⟩)) (AO i t T xs :: H)) : Step (.box t x) l H K :=
  S_box hx (T.cells_all xs) k
def tKeys (ts : List SlT) (k : Nat) : List ByteArray := ((ts.take k).filter (·.has)).map (·.r.key)
def tRecs (ts : List SlT) (k : Nat) : List Rec := ((ts.take k).filter (·.has)).map (·.r)
theorem tKeys_succ {ts : List SlT} {k : Nat} {x : SlT} (hx : ts[k]? = some x) : tKeys ts (k + 1) = tKeys ts k ++ if x.has then [x.r.key] else [] := by
  unfold tKeys
  rw [List.take_add_one, hx, List.filter_append, List.map_append]
  congr 1
  cases h : x.has <;> simp [h]
theorem tRecs_succ {ts : List SlT} {k : Nat} {x : SlT} (hx : ts[k]? = some x) : tRecs ts (k + 1) = tRecs ts k ++ if x.has then [x.r] else [] := by
  unfold tRecs
  rw [List.take_add_one, hx, List.filter_append, List.map_append]
  congr 1
  cases h : x.has <;> simp [h]
def TStrT : Ty ByteArray := Ty.ofOne 9 16 (fun s => .string s) (fun _ => rfl)
theorem lp_Rcs {H : SH} {ts : List SlT} {i1 : Nat} (hl : ts.length = 32) : ∀ (n k : Nat) (u : SV), 32 - k = n → k ≤ 32 →
    WC F X (.loop L_loessref10_Records_0) [(4, .int .i64 (k : Int)), (1, .pointer (some ⟨i1, 0, none⟩)), (3, u.toV)] (SL u.toV TRec (newest (tRecs ts k)) :: AO i1 33 TSlT ts :: H) (KPost fun y l' H' => ∃ u : SV, y = .exit 0 ∧ l' = [(3, u.toV)] ∧ H' = SL u.toV TRec (newest (tRecs ts 32)) :: H) := by
  intro n
  induction n using Nat.strongRecOn with
  | _ n ih =>
    intro k u hn hk
    have hnl : (newest (tRecs ts k)).length ≤ 32 := by
      refine Nat.le_trans (newest_len _) ?_
      unfold tRecs
      rw [List.length_map]
      exact Nat.le_trans (List.length_filter_le _ _) (by rw [List.length_take]; omega)
    refine WC_loop (WC_seq (WC_seq (WC_region ?_)))
    iterate 2 refine WO_step rfl (S_pure rfl ?_)
    refine WO_nil (KSeq_n ?_)
    refine WC_cond rfl (fun hb1 => ?_) (fun hb1 => ?_)
    ·
     try simp only [bsT] at hb1
     obtain ⟨x, hx⟩ := get_of_lt (show k < ts.length by omega)
     have hsucc := tRecs_succ hx
     refine WC_skip (KSeq_n (WC_seq (WC_block (WC_seq (WC_region ?_)))))
     refine WO_step rfl (S_pure rfl ?_)
     refine WO_step rfl (S_quoN (a := k) (m := 4) rfl rfl (by omega) (by omega) ?_)
     refine WO_step rfl (S_pure rfl ?_)
     refine WO_step rfl (S_remU (a := k) (m := 4) rfl rfl (by omega) ?_)
     refine WO_step rfl (S_idxA (j := k / 4) rfl rfl rfl (by omega) ?_)
     refine WO_step rfl (S_idxA (j := k % 4) rfl rfl rfl (by omega) ?_)
     refine WO_step rfl (S_pure rfl ?_)
     refine WO_step rfl (S_loadAF (T := TSlT) (k := k) (off := 0) (v := .bool x.has) rfl pkA (by show _ = k * 6 + 0; omega) hx (by show 0 + 1 ≤ 6; omega) (by rfl) ?_)
     refine WO_nil (KSeq_n ?_)
     refine WC_cond rfl (fun hb2 => ?_) (fun hb2 => ?_)
     ·
      try simp only [bsT] at hb2
      refine WC_region ?_
      iterate 2 refine WO_step rfl (S_pure rfl ?_)
      refine WO_step rfl (S_quoN (a := k) (m := 4) rfl rfl (by omega) (by omega) ?_)
      refine WO_step rfl (S_pure rfl ?_)
      refine WO_step rfl (S_remU (a := k) (m := 4) rfl rfl (by omega) ?_)
      refine WO_step rfl (S_idxA (j := k / 4) rfl rfl rfl (by omega) ?_)
      refine WO_step rfl (S_idxA (j := k % 4) rfl rfl rfl (by omega) ?_)
      refine WO_step rfl (S_pure rfl ?_)
      refine WO_step rfl (S_loadAF (T := TSlT) (k := k) (off := 1) (v := TRec.val x.r) rfl pkA (by show _ = k * 6 + 1; omega) hx (by show 1 + 5 ≤ 6; omega) (by rfl) ?_)
      refine WO_call rfl rfl rfl ?_
      refine (sp_Set (l := newest (tRecs ts k)) (r := x.r) rdA (by omega)).mono ?_
      rintro _ _ ⟨u2, rfl, rfl⟩
      refine WO_step rfl (S_pure rfl ?_)
      refine WO_nil (KBlock_n (KSeq_n (WC_region ?_)))
      refine WO_step rfl (S_pure rfl ?_)
      first | refine WO_step rfl (S_addN (b := 1) rfl rfl (by omega) ?_) | refine WO_step rfl (S_pure rfl ?_)
      refine WO_step rfl (S_pure rfl ?_)
      refine WO_nil (KLoop_n ?_)
      rw [hb2] at hsucc
      simp only [if_true] at hsucc
      have := ih (32 - (k + 1)) (by omega) (k + 1) u2 rfl (by omega)
      rw [hsucc, newest_snoc] at this
      exact WC_weak this seA hsA
     ·
      try simp only [bsT] at hb2
      refine WC_skip (KBlock_n (KSeq_n (WC_region ?_)))
      refine WO_step rfl (S_pure rfl ?_)
      first | refine WO_step rfl (S_addN (b := 1) rfl rfl (by omega) ?_) | refine WO_step rfl (S_pure rfl ?_)
      refine WO_step rfl (S_pure rfl ?_)
      refine WO_nil (KLoop_n ?_)
      rw [hb2] at hsucc
      simp only [Bool.false_eq_true, if_false, List.append_nil] at hsucc
      have := ih (32 - (k + 1)) (by omega) (k + 1) u rfl (by omega)
      rw [hsucc] at this
      exact WC_weak this seA hsA
    ·
     try simp only [bsT] at hb1
     refine WC_exit (KSeq_x (KLoop_x ?_))
     have e : k = 32 := by omega
     subst e
     exact KPost_i (l' := [(3, u.toV)]) seA hsA ⟨u, rfl, rfl, rfl⟩
theorem sp_Records {H : SH} {ts : List SlT} (hl : ts.length = 32) : WF F X f_loessref10_Records [.agg (TSlT.cells ts).toArray] H (fun r H' => ∃ u : SV, r = u.toV ∧ H' = SL u.toV TRec (newest (tRecs ts 32)) :: H) := by
  refine WF_fn F_loessref10_Records ?_
  refine WC_seq (WC_region ?_)
  refine WO_step rfl (S_boxA (T := TSlT) (xs := ts) rfl fun i1 => ?_)
  refine WO_step rfl (S_pure rfl ?_)
  refine WO_nil (KSeq_n (WC_seq (WC_region ?_)))
  refine WO_step rfl (S_pure rfl ?_)
  refine WO_nil (KSeq_n (WC_seq (WC_seq (WC_region ?_))))
  refine WO_step rfl (S_pure rfl ?_)
  refine WO_nil (KSeq_n (WC_block ?_))
  refine WC_view (H' := SL (SV.toV .nil) TRec [] :: AO i1 33 TSlT ts :: H) (fun h hh => HAg.addNil hh) ?_
  refine WC_post (WC_weak (lp_Rcs (H := H) (i1 := i1) hl 32 0 .nil (by omega) (by omega)) seA hsA) ?_
  rintro y l' _ ⟨u, rfl, rfl, rfl⟩
  refine KBlock_h (KSeq_n (WC_seq (WC_region ?_)))
  iterate 2 refine WO_step rfl (S_pure rfl ?_)
  refine WO_nil (KSeq_n (WC_ret ?_))
  refine KFn_r (ResL.tmp rfl ResL.nil) ?_
  exact ⟨_, HSub.refl, u, rfl, rfl⟩
end Go.Proofs.YtpnmeednimpjdaaGreat.AM
namespace Go.Proofs.YtpnmeednimpjdaaGreat.AM
open Go
set_option linter.unusedSimpArgs false
set_option linter.unusedVariables false
set_option maxRecDepth 4000
set_option linter.unusedSectionVars false
variable {X : Exts} [HX X]
def b8 (f : Nat → Bool) : Nat := (f 0).toNat * 128 + (f 1).toNat * 64 + (f 2).toNat * 32 + (f 3).toNat * 16 + (f 4).toNat * 8 + (f 5).toNat * 4 + (f 6).toNat * 2 + (f 7).toNat
theorem b8_lt (f : Nat → Bool) : b8 f < 256 := by
  have h := fun i => Bool.toNat_le (f i)
  have := h 0; have := h 1; have := h 2; have := h 3; have := h 4; have := h 5; have := h 6; have := h 7
  unfold b8; omega
theorem b8_congr {f g : Nat → Bool} (h : ∀ i, i < 8 → f i = g i) : b8 f = b8 g := by
  unfold b8
  rw [h 0 (by omega), h 1 (by omega), h 2 (by omega), h 3 (by omega), h 4 (by omega), h 5 (by omega), h 6 (by omega), h 7 (by omega)]
theorem b8_or {f : Nat → Bool} {i : Nat} (hi : i < 8) (h : ∀ k, i ≤ k → k < 8 → f k = false) : b8 (fun k => if k = i then true else f k) = b8 f ||| 2 ^ (7 - i) := by
  have : i = 0 ∨ i = 1 ∨ i = 2 ∨ i = 3 ∨ i = 4 ∨ i = 5 ∨ i = 6 ∨ i = 7 := by omega
  rcases this with rfl | rfl | rfl | rfl | rfl | rfl | rfl | rfl <;> simp [b8, h] <;> cases f 0 <;> (try rfl) <;> cases f 1 <;> (try rfl) <;> cases f 2 <;> (try rfl) <;> cases f 3 <;> (try rfl) <;> cases f 4 <;> (try rfl) <;> cases f 5 <;> (try rfl) <;> cases f 6 <;> rfl
theorem b8_bit {f : Nat → Bool} {i : Nat} (hi : i < 8) : b8 f / 2 ^ (7 - i) % 2 = (f i).toNat := by
  have h := fun i => Bool.toNat_le (f i)
  have := h 0; have := h 1; have := h 2; have := h 3; have := h 4; have := h 5; have := h 6; have := h 7
  have : i = 0 ∨ i = 1 ∨ i = 2 ∨ i = 3 ∨ i = 4 ∨ i = 5 ∨ i = 6 ∨ i = 7 := by omega
  rcases this with rfl | rfl | rfl | rfl | rfl | rfl | rfl | rfl <;> simp [b8] <;> omega
theorem b8_of (b : Nat) (hb : b < 256) : b8 (fun i => decide (b / 2 ^ (7 - i) % 2 = 1)) = b := by
  have : ∀ b : Fin 256, b8 (fun i => decide (b.val / 2 ^ (7 - i) % 2 = 1)) = b.val := by decide +kernel
  exact this ⟨b, hb⟩
def bitv (bs : List Bool) (j : Nat) : Nat := b8 fun i => bs.getD (8 * j + i) false
def byts (bs : List Bool) (m : Nat) : List UInt8 := (List.range m).map fun j => UInt8.ofNat (bitv bs j)
theorem byts_len (bs : List Bool) (m : Nat) : (byts bs m).length = m := by simp [byts]
theorem byts_get {bs : List Bool} {m j : Nat} (hj : j < m) : (byts bs m)[j]? = some (UInt8.ofNat (bitv bs j)) := by
  unfold byts
  rw [List.getElem?_map, List.getElem?_range hj]; rfl
theorem bitv_byte (bs : List Bool) (j : Nat) : (UInt8.ofNat (bitv bs j)).toNat = bitv bs j := UInt8.toNat_ofNat_of_lt' (b8_lt _)
theorem getD_snoc (bs : List Bool) (b : Bool) (k : Nat) : (bs ++ [b]).getD k false = if k = bs.length then b else bs.getD k false := by
  simp only [List.getD_eq_getElem?_getD]
  by_cases h : k = bs.length
  · subst h; simp
  · rw [if_neg h]
    by_cases h2 : k < bs.length
    · rw [List.getElem?_append_left h2]
    · rw [List.getElem?_eq_none (by simp; omega), List.getElem?_eq_none (by omega)]
theorem getD_big {bs : List Bool} {k : Nat} (h : bs.length ≤ k) : bs.getD k false = false := by
  rw [List.getD_eq_getElem?_getD, List.getElem?_eq_none h]; rfl
theorem bitv_snoc (bs : List Bool) (b : Bool) (j : Nat) : bitv (bs ++ [b]) j = if b = true ∧ j = bs.length / 8 then bitv bs j ||| 2 ^ (7 - bs.length % 8) else bitv bs j := by
  unfold bitv
  by_cases h : b = true ∧ j = bs.length / 8
  · obtain ⟨rfl, rfl⟩ := h
    rw [if_pos ⟨rfl, rfl⟩, ← b8_or (i := bs.length % 8) (by omega) (fun k h1 h2 => getD_big (by omega))]
    exact b8_congr fun i hi => by
      rw [getD_snoc]
      by_cases e : i = bs.length % 8
      · rw [if_pos e, if_pos (by omega)]
      · rw [if_neg e, if_neg (by omega)]
  · rw [if_neg h]
    exact b8_congr fun i hi => by
      rw [getD_snoc]
      by_cases e : 8 * j + i = bs.length
      · rw [if_pos e, getD_big (by omega)]
        cases b with
        | false => rfl
        | true => exact absurd ⟨rfl, by omega⟩ h
      · rw [if_neg e]
theorem bitv_zero {bs : List Bool} {j : Nat} (h : bs.length ≤ 8 * j) : bitv bs j = 0 := by
  unfold bitv
  rw [b8_congr (g := fun _ => false) fun i _ => getD_big (by omega)]
  rfl
theorem byts_snoc (bs : List Bool) (b : Bool) {m : Nat} (hm : bs.length / 8 < m) : byts (bs ++ [b]) m = if b = true then (byts bs m).set (bs.length / 8) (UInt8.ofNat (bitv bs (bs.length / 8) ||| 2 ^ (7 - bs.length % 8))) else byts bs m := by
  refine List.ext_getElem? fun j => ?_
  by_cases hj : j < m
  · rw [byts_get hj, bitv_snoc]
    cases b with
    | false => simp [byts_get hj]
    | true =>
      simp only [true_and, if_true]
      rw [List.getElem?_set]
      by_cases e : bs.length / 8 = j
      · subst e; simp [byts_len, hj]
      · rw [if_neg e, if_neg (fun h => e h.symm), byts_get hj]
  · have h1 : (byts (bs ++ [b]) m)[j]? = none := List.getElem?_eq_none (by rw [byts_len]; omega)
    rw [h1]
    symm
    refine List.getElem?_eq_none ?_
    split
    · rw [List.length_set, byts_len]; omega
    · rw [byts_len]; omega
theorem byts_grow {bs : List Bool} {m : Nat} (h : bs.length ≤ 8 * m) : byts bs m ++ [0] = byts bs (m + 1) := by
  unfold byts
  rw [List.range_succ, List.map_append, List.map_singleton, bitv_zero h]
  rfl
def nby (n : Nat) : Nat := (n + 7) / 8
def bitAt (p : List UInt8) (i : Nat) : Bool := decide ((p.getD (i / 8) 0).toNat / 2 ^ (7 - i % 8) % 2 = 1)
theorem bitAt_byts {bs : List Bool} {m i : Nat} (hm : i / 8 < m) : bitAt (byts bs m) i = bs.getD i false := by
  unfold bitAt
  rw [List.getD_eq_getElem?_getD, byts_get hm, Option.getD_some, bitv_byte]
  unfold bitv
  rw [b8_bit (by omega), show 8 * (i / 8) + i % 8 = i by omega]
  cases bs.getD i false <;> rfl
theorem byts_bitAt (p : List UInt8) : byts ((List.range (8 * p.length)).map (bitAt p)) p.length = p := by
  refine List.ext_getElem? fun j => ?_
  by_cases hj : j < p.length
  · rw [byts_get hj, List.getElem?_eq_getElem hj]
    congr 1
    have e : bitv ((List.range (8 * p.length)).map (bitAt p)) j = (p[j]).toNat := by
      unfold bitv
      rw [← b8_of (p[j]).toNat (UInt8.toNat_lt _)]
      exact b8_congr fun i hi => by
        rw [List.getD_eq_getElem?_getD, List.getElem?_map, List.getElem?_range (by omega)]
        simp only [Option.map_some, Option.getD_some]
        unfold bitAt
        rw [show (8 * j + i) / 8 = j by omega, show (8 * j + i) % 8 = i by omega, List.getD_eq_getElem?_getD, List.getElem?_eq_getElem hj]; rfl
    rw [e]
    exact UInt8.ofNat_toNat
  · rw [List.getElem?_eq_none (by rw [byts_len]; omega), List.getElem?_eq_none (by omega)]
theorem ofIntB {a : Nat} (ha : a < 256) : (BitVec.ofInt 8 (a : Int)).toNat = a := by rw [BitVec.ofInt_natCast, BitVec.toNat_ofNat]; omega
theorem S_orB {l : SE} {H : SH} {K : Value → SH → Prop} {x y : Opd} {a b : Nat} (hx : x.lv l = some (.int .u8 (a : Int))) (hy : y.lv l = some (.int .u8 (b : Int))) (ha : a < 256) (hb : b < 256) (k : K (.int .u8 ((a ||| b : Nat) : Int)) H) : Step (.bin .or x y) l H K :=
  S_pureE (v := .int .u8 (IntKind.wrap .u8 ((BitVec.ofInt 8 (a : Int) ||| BitVec.ofInt 8 (b : Int)).toNat : Int))) (by
    simp only [pev, hx, hy, binV, intBin, if_true]; rfl) (by
    have : a ||| b < 2 ^ 8 := Nat.or_lt_two_pow ha hb
    rw [BitVec.toNat_or, ofIntB ha, ofIntB hb, wrap_u8 (by omega) (by omega)]) k
theorem pow8 {m : Nat} (h : m ≤ 7) : 2 ^ m < 256 := by
  have : 2 ^ m ≤ 2 ^ 7 := Nat.pow_le_pow_right (by decide) h
  omega
theorem S_shl1B {l : SE} {H : SH} {K : Value → SH → Prop} {y : Opd} {m : Nat} {kd : IntKind} (hy : y.lv l = some (.int kd (m : Int))) (hm : m ≤ 7) (k : K (.int .u8 ((2 ^ m : Nat) : Int)) H) : Step (.bin .shl (.const (.int .u8 1)) y) l H K :=
  S_pureE (v := .int .u8 (IntKind.wrap .u8 ((1 : Int) * 2 ^ min (m : Int).toNat IntKind.u8.bits))) (by
    have h2 : (Opd.const (.int .u8 1)).lv l = some (.int .u8 1) := rfl
    simp only [pev, h2, hy, binV]; rw [if_neg (by omega)]) (by
    have e : ((1 : Int) * 2 ^ min (m : Int).toNat IntKind.u8.bits) = ((2 ^ m : Nat) : Int) := by
      rw [Int.toNat_natCast, show min m IntKind.u8.bits = m from Nat.min_eq_left (by show m ≤ 8; omega), Int.one_mul, Int.natCast_pow]; rfl
    have := pow8 hm
    rw [e, wrap_u8 (Int.natCast_nonneg _) (by omega)]) k
theorem S_shrB {l : SE} {H : SH} {K : Value → SH → Prop} {x y : Opd} {a m : Nat} {kd : IntKind} (hx : x.lv l = some (.int .u8 (a : Int))) (hy : y.lv l = some (.int kd (m : Int))) (hm : m ≤ 7) (k : K (.int .u8 ((a / 2 ^ m : Nat) : Int)) H) : Step (.bin .shr x y) l H K :=
  S_pureE (v := .int .u8 ((a : Int).fdiv (2 ^ min (m : Int).toNat IntKind.u8.bits))) (by
    simp only [pev, hx, hy, binV]; rw [if_neg (by omega)]) (by
    rw [Int.toNat_natCast, show min m IntKind.u8.bits = m from Nat.min_eq_left (by show m ≤ 8; omega), Int.fdiv_eq_ediv_of_nonneg _ (Int.le_of_lt (Int.pow_pos (by omega)))]
    congr 1) k
theorem S_and1B {l : SE} {H : SH} {K : Value → SH → Prop} {x : Opd} {a : Nat} (hx : x.lv l = some (.int .u8 (a : Int))) (ha : a < 256) (k : K (.int .u8 ((a % 2 : Nat) : Int)) H) : Step (.bin .and x (.const (.int .u8 1))) l H K :=
  S_pureE (v := .int .u8 (IntKind.wrap .u8 ((BitVec.ofInt 8 (a : Int) &&& BitVec.ofInt 8 1).toNat : Int))) (by
    have h2 : (Opd.const (.int .u8 1)).lv l = some (.int .u8 1) := rfl
    simp only [pev, hx, h2, binV, intBin, if_true]; rfl) (by
    rw [BitVec.toNat_and, ofIntB ha, show (BitVec.ofInt 8 1).toNat = 1 from rfl, Nat.and_one_is_mod, wrap_u8 (by omega) (by omega)]) k
abbrev BI (i : Nat) (w : SV) (n : Nat) : Res := .obj i (.row false 80 [w.toV, .int .i64 ((n : Nat) : Int)])
def BB (i : Nat) (w : SV) (bs : List Bool) (H : SH) : SH := BI i w bs.length :: SL w.toV TByte (byts bs (nby bs.length)) :: H
def TBool : Ty Bool := Ty.ofOne 4 1 (fun b => .bool b) (fun _ => rfl)
theorem S_storeBI0 {l : SE} {H H0 : SH} {K : Value → SH → Prop} {i n : Nat} {w u : SV} {a x : Opd} (ha : a.lv l = some (.pointer (some ⟨i, 0, none⟩))) (hx : x.lv l = some u.toV) (hp : Pick (BI i w n) H H0) (k : K undef (BI i u n :: H0)) : Step (.store 1 a x) l H K := by
  refine S_storeO ha hx hp (SV.cells1 _) (by rfl) (SV.ones _) ?_
  rw [show splice [w.toV, .int .i64 ((n : Nat) : Int)] 0 (AM.cells u.toV) = [u.toV, .int .i64 ((n : Nat) : Int)] by rw [SV.cells]; rfl]
  exact k
theorem bA_inj {a b : List UInt8} (h : (⟨a.toArray⟩ : ByteArray) = ⟨b.toArray⟩) : a = b := by
  have := congrArg (fun x : ByteArray => x.data.toList) h
  simpa using this
theorem sp_BEq {H : SH} {v w : Value} {xs ys : List UInt8} (hv : RD H v TByte xs) (hw : RD H w TByte ys) : WF F X f_bytes_Equal [v, w] H (fun r H' => H' = H ∧ r = .bool (decide (xs = ys))) := by
  refine WF_fn F_bytes_Equal ?_
  refine WC_seq (WC_region ?_)
  refine WO_step rfl (S_pure rfl ?_)
  refine WO_nil (KSeq_n (WC_seq (WC_region ?_)))
  refine WO_step rfl (S_pure rfl ?_)
  refine WO_step rfl (S_strOf rfl rdA (by rfl) (by rfl) ?_)
  refine WO_step rfl (S_pure rfl ?_)
  refine WO_step rfl (S_strOf rfl rdA (by rfl) (by rfl) ?_)
  first | refine WO_step rfl (S_eqS rfl rfl ?_) | refine WO_step rfl (S_pure rfl ?_)
  refine WO_step rfl (S_pure rfl ?_)
  refine WO_nil (KSeq_n (WC_ret ?_))
  refine KFn_r (ResL.tmp rfl ResL.nil) ?_
  refine ⟨_, HSub.refl, rfl, ?_⟩
  simp only [resV]
  congr 1
  rw [Bool.eq_iff_iff, decide_eq_true_eq, decide_eq_true_eq]
  exact ⟨fun h => bA_inj h, fun h => by rw [h]⟩
theorem sp_bPut {H H0 : SH} {i : Nat} {w : SV} {bs : List Bool} {b : Bool} (hp : HSub H (BB i w bs H0)) (hl : bs.length ≤ 10000) : WF F X f_bits_Bits_Put [.pointer (some ⟨i, 0, none⟩), .bool b] H (fun r H' => ∃ w' : SV, H' = BB i w' (bs ++ [b]) H0) := by
  refine WF.weak ?_ hp
  unfold BB
  have hbl := byts_len bs (nby bs.length)
  have hnb : nby bs.length ≤ 2000 := by unfold nby; omega
  refine WF_fn F_bits_Bits_Put ?_
  refine WC_seq (WC_seq (WC_region ?_))
  iterate 2 refine WO_step rfl (S_pure rfl ?_)
  refine WO_nil (KSeq_n ?_)
  refine WC_cond rfl (fun hb1 => ?_) (fun hb1 => ?_)
  ·
   try simp only [bsT] at hb1
   exact absurd hb1 (by simp)
   --stop
  ·
   try simp only [bsT] at hb1
   refine WC_skip (KSeq_n (WC_seq ?_))
   refine WC_post (P := fun x l' H' => ∃ w' : SV, x = .normal ∧ l' = [(0, .pointer (some ⟨i, 0, none⟩)), (1, .bool b)] ∧ H' = BI i w' bs.length :: SL w'.toV TByte (byts bs (nby (bs.length + 1))) :: H0) ?_ ?_
   ·
    refine WC_seq (WC_region ?_)
    iterate 3 refine WO_step rfl (S_pure rfl ?_)
    refine WO_step rfl (S_loadO rfl pkA (by rfl) (by rfl) ?_)
    refine WO_step rfl (S_remU (a := bs.length) (m := 8) rfl rfl (by omega) ?_)
    first | refine WO_step rfl (S_eqS rfl rfl ?_) | refine WO_step rfl (S_pure rfl ?_)
    refine WO_nil (KSeq_n ?_)
    refine WC_cond rfl (fun hb2 => ?_) (fun hb2 => ?_)
    ·
     try simp only [bsT] at hb2
     refine WC_region ?_
     iterate 4 refine WO_step rfl (S_pure rfl ?_)
     refine WO_step rfl (S_loadO rfl pkA (by rfl) (by rfl) ?_)
     refine WO_step rfl (S_lit1B (k := 0) rfl (by omega) fun w17 => ?_)
     refine WO_step rfl (S_app rfl rfl pkA (by first | exact SRC.str rfl rfl | (apply RD.src; repeat (first | assumption | exact RD.head | exact RD.nil | apply RD.tail))) (by rfl) (by rfl) (by rw [hbl]; simp only [List.length_cons, List.length_nil]; omega) fun w18 => ?_)
     iterate 2 refine WO_step rfl (S_pure rfl ?_)
     refine WO_step rfl (S_storeBI0 rfl rfl pkA ?_)
     refine WO_nil ?_
     have e8 : bs.length % 8 = 0 := by omega
     have e1 : nby (bs.length + 1) = nby bs.length + 1 := by unfold nby; omega
     exact KPost_i (H' := BI i w18 bs.length :: SL w18.toV TByte (byts bs (nby bs.length) ++ [UInt8.ofNat 0]) :: H0) seA hsA ⟨w18, rfl, rfl, by rw [e1, ← byts_grow (by unfold nby; omega)]; rfl⟩
    ·
     try simp only [bsT] at hb2
     refine WC_skip ?_
     have e8 : ¬ bs.length % 8 = 0 := by omega
     have e1 : nby (bs.length + 1) = nby bs.length := by unfold nby; omega
     exact KPost_i seA hsA ⟨w, rfl, rfl, by rw [e1]⟩
   ·
    rintro x l' H' ⟨w', rfl, rfl, rfl⟩
    have hbl2 := byts_len bs (nby (bs.length + 1))
    have hlt : bs.length / 8 < nby (bs.length + 1) := by unfold nby; omega
    refine KSeq_n (WC_seq (WC_seq (WC_region ?_)))
    refine WO_step rfl (S_pure rfl ?_)
    refine WO_nil (KSeq_n ?_)
    refine WC_cond rfl (fun hb3 => ?_) (fun hb3 => ?_)
    ·
     try simp only [bsT] at hb3
     subst hb3
     have hg := byts_get (bs := bs) hlt
     have hbv := b8_lt fun k => bs.getD (8 * (bs.length / 8) + k) false
     have hbb := bitv_byte bs (bs.length / 8)
     have hor : bitv bs (bs.length / 8) ||| 2 ^ (7 - bs.length % 8) < 256 := Nat.or_lt_two_pow (n := 8) hbv (pow8 (by omega))
     refine WC_region ?_
     iterate 3 refine WO_step rfl (S_pure rfl ?_)
     refine WO_step rfl (S_loadO rfl pkA (by rfl) (by rfl) ?_)
     iterate 3 refine WO_step rfl (S_pure rfl ?_)
     refine WO_step rfl (S_loadO rfl pkA (by rfl) (by rfl) ?_)
     refine WO_step rfl (S_quoN (a := bs.length) (m := 8) rfl rfl (by omega) (by omega) ?_)
     refine WO_step rfl (S_idx rfl rfl rdA (by first | rfl | assumption | (symm; assumption)) (by rfl) (by first | assumption | omega | exact lt_of_get (by assumption) | (simp only [List.length_set]; first | assumption | omega | exact lt_of_get (by assumption))) fun hp31 => ?_)
     refine WO_step rfl (S_loadE rfl rdA (by first | rfl | assumption | (symm; assumption)) (by first | rfl | assumption | (symm; assumption)) (by first | rfl | assumption | (symm; assumption)) hg ?_)
     iterate 3 refine WO_step rfl (S_pure rfl ?_)
     refine WO_step rfl (S_loadO rfl pkA (by rfl) (by rfl) ?_)
     refine WO_step rfl (S_remU (a := bs.length) (m := 8) rfl rfl (by omega) ?_)
     refine WO_step rfl (S_subN (a := 7) (b := bs.length % 8) rfl rfl (by omega) ?_)
     refine WO_step rfl (S_shl1B (m := 7 - bs.length % 8) rfl (by omega) ?_)
     refine WO_step rfl (S_orB (a := (UInt8.ofNat (bitv bs (bs.length / 8))).toNat) (b := 2 ^ (7 - bs.length % 8)) rfl rfl (by rw [hbb]; exact hbv) (pow8 (by omega)) ?_)
     rw [hbb]
     refine WO_step rfl (S_idx rfl rfl rdA (by first | rfl | assumption | (symm; assumption)) (by rfl) (by first | assumption | omega | exact lt_of_get (by assumption) | (simp only [List.length_set]; first | assumption | omega | exact lt_of_get (by assumption))) fun hp41 => ?_)
     refine WO_step rfl (S_storeW (y := UInt8.ofNat (bitv bs (bs.length / 8) ||| 2 ^ (7 - bs.length % 8))) rfl rfl pkA (by first | rfl | assumption | (symm; assumption)) (by rw [enc_B hor]; rfl) (by first | rfl | assumption | (symm; assumption)) (by rw [hbl2]; exact hlt) ?_)
     refine WO_nil (KSeq_n (WC_region ?_))
     iterate 3 refine WO_step rfl (S_pure rfl ?_)
     refine WO_step rfl (S_loadO rfl pkA (by rfl) (by rfl) ?_)
     first | refine WO_step rfl (S_addN (b := 1) rfl rfl (by omega) ?_) | refine WO_step rfl (S_pure rfl ?_)
     iterate 2 refine WO_step rfl (S_pure rfl ?_)
     refine WO_step rfl (S_storeO rfl rfl pkA (by first | rfl | exact SV.cells1 _) (by rfl) (by first | rfl | exact SV.ones _) ?_)
     refine WO_nil ?_
     refine KFn_n ResL.nil ?_
     have e2 := byts_snoc bs true hlt
     rw [if_pos rfl] at e2
     rw [← e2]
     refine ⟨BB i w' (bs ++ [true]) H0, ?_, w', rfl⟩
     unfold BB
     rw [List.length_append, List.length_singleton]
     exact hsA
    ·
     try simp only [bsT] at hb3
     refine WC_skip (KSeq_n (WC_region ?_))
     iterate 3 refine WO_step rfl (S_pure rfl ?_)
     refine WO_step rfl (S_loadO rfl pkA (by rfl) (by rfl) ?_)
     first | refine WO_step rfl (S_addN (b := 1) rfl rfl (by omega) ?_) | refine WO_step rfl (S_pure rfl ?_)
     iterate 2 refine WO_step rfl (S_pure rfl ?_)
     refine WO_step rfl (S_storeO rfl rfl pkA (by first | rfl | exact SV.cells1 _) (by rfl) (by first | rfl | exact SV.ones _) ?_)
     refine WO_nil ?_
     refine KFn_n ResL.nil ?_
     have hbf : b = false := by simpa using hb3
     subst hbf
     have e2 := byts_snoc bs false hlt
     rw [if_neg (by decide)] at e2
     rw [← e2]
     refine ⟨BB i w' (bs ++ [false]) H0, ?_, w', rfl⟩
     unfold BB
     rw [List.length_append, List.length_singleton]
     exact hsA
theorem sp_bLen {H H0 : SH} {i n : Nat} {w : SV} (hp : Pick (BI i w n) H H0) : WF F X f_bits_Bits_Len [.pointer (some ⟨i, 0, none⟩)] H (fun r H' => H' = H ∧ r = .int .i64 (n : Int)) := by
  refine WF_fn F_bits_Bits_Len ?_
  refine WC_seq (WC_region ?_)
  refine WO_step rfl (S_pure rfl ?_)
  refine WO_nil (KSeq_n (WC_seq (WC_seq (WC_region ?_))))
  iterate 2 refine WO_step rfl (S_pure rfl ?_)
  refine WO_nil (KSeq_n ?_)
  refine WC_cond rfl (fun hb1 => ?_) (fun hb1 => ?_)
  ·
   try simp only [bsT] at hb1
   exact absurd hb1 (by simp)
   --stop
  ·
   try simp only [bsT] at hb1
   refine WC_skip (KSeq_n (WC_seq (WC_region ?_)))
   iterate 3 refine WO_step rfl (S_pure rfl ?_)
   refine WO_step rfl (S_loadO rfl hp (by rfl) (by rfl) ?_)
   refine WO_step rfl (S_pure rfl ?_)
   refine WO_nil (KSeq_n (WC_ret ?_))
   refine KFn_r (ResL.tmp rfl ResL.nil) ?_
   exact ⟨_, hsA, rfl, rfl⟩
theorem WF_no {f : FuncId} {vs : List Value} {H : SH} {Q : Value → SH → Prop} (h : ∀ a, HAg H a → False) : WF F X f vs H Q := fun a ha => absurd ha (h a)
theorem RD.nil_len {α : Type} {T : Ty α} {H : SH} {a : AH} {xs : List α} (h : RD H (SV.toV .nil) T xs) (ha : HAg H a) : xs = [] := by
  rcases h.2 a ha with ⟨ro, t, hl, ⟨_, h0⟩ | ⟨i, o, c, e, _⟩⟩ | ⟨h0, _, _⟩
  · exact List.length_eq_zero_iff.1 h0
  · cases e
  · exact List.length_eq_zero_iff.1 h0
theorem sp_bClone {H : SH} {w : SV} {bs : List UInt8} (hv : RD H w.toV TByte bs) (hl : bs.length ≤ 100000) (h0 : 0 < bs.length) : WF F X f_bytes_Clone [w.toV] H (fun r H' => ∃ w' : SV, r = w'.toV ∧ H' = SL w'.toV TByte bs :: H) := by
  cases w with
  | nil => exact WF_no fun a ha => by rw [hv.nil_len ha] at h0; simp at h0
  | mk i0 o0 n0 e0 =>
  refine WF_fn F_bytes_Clone ?_
  refine WC_seq (WC_region ?_)
  refine WO_step rfl (S_pure rfl ?_)
  refine WO_nil (KSeq_n (WC_seq (WC_seq (WC_region ?_))))
  iterate 2 refine WO_step rfl (S_pure rfl ?_)
  refine WO_nil (KSeq_n ?_)
  refine WC_cond rfl (fun hb1 => ?_) (fun hb1 => ?_)
  ·
   try simp only [bsT] at hb1
   exact absurd hb1 (by simp)
   --stop
  ·
   try simp only [bsT] at hb1
   refine WC_skip (KSeq_n (WC_seq (WC_region ?_)))
   refine WO_step rfl (S_lit (vs := []) rfl rfl rfl fun w5 => ?_)
   refine WO_step rfl (S_pure rfl ?_)
   refine WO_step rfl (S_app (T := TByte) (xs := []) rfl rfl pkA (by first | exact SRC.str rfl rfl | (apply RD.src; repeat (first | assumption | exact RD.head | exact RD.nil | apply RD.tail))) (by rfl) (by rfl) (by simp; omega) fun w7 => ?_)
   refine WO_step rfl (S_pure rfl ?_)
   refine WO_nil (KSeq_n (WC_ret ?_))
   refine KFn_r (ResL.tmp rfl ResL.nil) ?_
   exact ⟨_, hsA, w7, rfl, rfl⟩
theorem sp_bBytes {H H0 : SH} {i : Nat} {w : SV} {bs : List Bool} (hp : HSub H (BB i w bs H0)) (hl : bs.length ≤ 10000) (h0 : 0 < bs.length) : WF F X f_bits_Bits_Bytes [.pointer (some ⟨i, 0, none⟩)] H (fun r H' => ∃ w' : SV, r = w'.toV ∧ H' = SL w'.toV TByte (byts bs (nby bs.length)) :: BB i w bs H0) := by
  refine WF.weak ?_ hp
  unfold BB
  have hbl := byts_len bs (nby bs.length)
  have hnb : nby bs.length ≤ 2000 ∧ 0 < nby bs.length := by unfold nby; omega
  refine WF_fn F_bits_Bits_Bytes ?_
  refine WC_seq (WC_region ?_)
  refine WO_step rfl (S_pure rfl ?_)
  refine WO_nil (KSeq_n (WC_seq (WC_seq (WC_region ?_))))
  iterate 2 refine WO_step rfl (S_pure rfl ?_)
  refine WO_nil (KSeq_n ?_)
  refine WC_cond rfl (fun hb1 => ?_) (fun hb1 => ?_)
  ·
   try simp only [bsT] at hb1
   exact absurd hb1 (by simp)
   --stop
  ·
   try simp only [bsT] at hb1
   refine WC_skip (KSeq_n (WC_seq (WC_region ?_)))
   iterate 3 refine WO_step rfl (S_pure rfl ?_)
   refine WO_step rfl (S_loadO rfl pkA (by rfl) (by rfl) ?_)
   refine WO_call rfl rfl rfl ?_
   refine (sp_bClone (bs := byts bs (nby bs.length)) rdA (by omega) (by omega)).mono ?_
   rintro _ _ ⟨w', rfl, rfl⟩
   refine WO_step rfl (S_pure rfl ?_)
   refine WO_nil (KSeq_n (WC_ret ?_))
   refine KFn_r (ResL.tmp rfl ResL.nil) ?_
   exact ⟨_, hsA, w', rfl, rfl⟩
theorem sp_bAt {H H0 : SH} {i k : Nat} {w : SV} {bs : List Bool} (hp : HSub H (BB i w bs H0)) (hl : bs.length ≤ 10000) (hk : k < bs.length) : WF F X f_bits_Bits_At [.pointer (some ⟨i, 0, none⟩), .int .i64 (k : Int)] H (fun r H' => H' = BB i w bs H0 ∧ r = .bool (bs.getD k false)) := by
  refine WF.weak ?_ hp
  unfold BB
  have hbl := byts_len bs (nby bs.length)
  have hlt : k / 8 < nby bs.length := by unfold nby; omega
  have hg := byts_get (bs := bs) hlt
  have hbb := bitv_byte bs (k / 8)
  have hbv := b8_lt fun i => bs.getD (8 * (k / 8) + i) false
  refine WF_fn F_bits_Bits_At ?_
  refine WC_seq (WC_region ?_)
  refine WO_step rfl (S_pure rfl ?_)
  refine WO_nil (KSeq_n (WC_seq (WC_region ?_)))
  iterate 3 refine WO_step rfl (S_pure rfl ?_)
  refine WO_cases (t := 7) rfl (fun hg1 => ?_) (fun hg1 => ?_)
  ·
   try simp only [bsT] at hg1
   iterate 2 refine WO_step rfl (S_pure rfl ?_)
   refine WO_call rfl rfl rfl ?_
   refine (sp_bLen (by repeat (first | exact hp | exact Pick.head | apply Pick.tail))).mono ?_
   rintro _ _ ⟨rfl, rfl⟩
   iterate 3 refine WO_step rfl (S_pure rfl ?_)
   refine WO_cases (t := 13) rfl (fun hg2 => ?_) (fun hg2 => ?_)
   ·
    try simp only [bsT] at hg2
    iterate 3 refine WO_step rfl (S_pure rfl ?_)
    refine WO_step rfl (S_loadO rfl pkA (by rfl) (by rfl) ?_)
    refine WO_step rfl (S_pure rfl ?_)
    refine WO_step rfl (S_quoN (a := k) (m := 8) rfl rfl (by omega) (by omega) ?_)
    refine WO_step rfl (S_idx rfl rfl rdA (by first | rfl | assumption | (symm; assumption)) (by rfl) (by first | assumption | omega | exact lt_of_get (by assumption) | (simp only [List.length_set]; first | assumption | omega | exact lt_of_get (by assumption))) fun hp20 => ?_)
    refine WO_step rfl (S_loadE rfl rdA (by first | rfl | assumption | (symm; assumption)) (by first | rfl | assumption | (symm; assumption)) (by first | rfl | assumption | (symm; assumption)) hg ?_)
    refine WO_step rfl (S_pure rfl ?_)
    refine WO_step rfl (S_remU (a := k) (m := 8) rfl rfl (by omega) ?_)
    refine WO_step rfl (S_subN (a := 7) (b := k % 8) rfl rfl (by omega) ?_)
    refine WO_step rfl (S_shrB (a := (UInt8.ofNat (bitv bs (k / 8))).toNat) (m := 7 - k % 8) rfl rfl (by omega) ?_)
    rw [hbb]
    have hq : bitv bs (k / 8) / 2 ^ (7 - k % 8) < 256 := Nat.lt_of_le_of_lt (Nat.div_le_self _ _) hbv
    have hm : bitv bs (k / 8) / 2 ^ (7 - k % 8) % 2 = (bs.getD k false).toNat := by
      have := b8_bit (f := fun i => bs.getD (8 * (k / 8) + i) false) (i := k % 8) (by omega)
      rw [show 8 * (k / 8) + k % 8 = k by omega] at this
      exact this
    refine WO_step rfl (S_and1B (a := bitv bs (k / 8) / 2 ^ (7 - k % 8)) rfl hq ?_)
    rw [hm]
    first | refine WO_step rfl (S_eqS rfl rfl ?_) | refine WO_step rfl (S_pure rfl ?_)
    iterate 2 refine WO_step rfl (S_pure rfl ?_)
    refine WO_nil (KSeq_n (WC_ret ?_))
    refine KFn_r (ResL.tmp rfl ResL.nil) ?_
    refine ⟨_, hsA, rfl, ?_⟩
    cases bs.getD k false <;> rfl
   ·
    try simp only [bsT] at hg2
    exfalso; omega
    --stop
  ·
   try simp only [bsT] at hg1
   exfalso; omega
   --stop
theorem lp_bOf {H : SH} {v : Value} {p : List UInt8} {i6 n : Nat} (hv : RD H v TByte p) (hn : n ≤ 8 * p.length) (hl : n ≤ 1000) : ∀ (m k : Nat) (w : SV), n - k = m → k ≤ n →
    WC F X (.loop L_bits_Of_0) [(20, .int .i64 (k : Int)), (19, .int .i64 (n : Int)), (0, v), (6, .pointer (some ⟨i6, 0, none⟩))] (BB i6 w ((List.range k).map (bitAt p)) H)
      (KPost fun y l' H' => ∃ w : SV, y = .exit 0 ∧ l' = [(0, v), (6, .pointer (some ⟨i6, 0, none⟩))] ∧ H' = BB i6 w ((List.range n).map (bitAt p)) H) := by
  intro m
  induction m using Nat.strongRecOn with
  | _ m ih =>
    intro k w hm hk
    have hbbl : ((List.range k).map (bitAt p)).length = k := by simp
    have hv2 : RD (BB i6 w ((List.range k).map (bitAt p)) H) v TByte p := hv.tail.tail
    refine WC_loop (WC_seq (WC_region ?_))
    refine WO_step rfl (S_pure rfl ?_)
    refine WO_nil (KSeq_n (WC_seq ?_))
    refine WC_cond rfl (fun hb1 => ?_) (fun hb1 => ?_)
    ·
     try simp only [bsT] at hb1
     obtain ⟨x, hx⟩ := get_of_lt (l := p) (a := k / 8) (by omega)
     have hx8 := UInt8.toNat_lt x
     refine WC_skip (KSeq_n (WC_seq (WC_block (WC_seq (WC_region ?_)))))
     iterate 2 refine WO_step rfl (S_pure rfl ?_)
     refine WO_nil (KSeq_n (WC_region ?_))
     iterate 3 refine WO_step rfl (S_pure rfl ?_)
     refine WO_step rfl (S_quoN (a := k) (m := 8) rfl rfl (by omega) (by omega) ?_)
     refine WO_step rfl (S_idx rfl rfl rdA (by first | rfl | assumption | (symm; assumption)) (by rfl) (by first | assumption | omega | exact lt_of_get (by assumption) | (simp only [List.length_set]; first | assumption | omega | exact lt_of_get (by assumption))) fun hp27 => ?_)
     refine WO_step rfl (S_loadE rfl rdA (by first | rfl | assumption | (symm; assumption)) (by first | rfl | assumption | (symm; assumption)) (by first | rfl | assumption | (symm; assumption)) (by assumption) ?_)
     refine WO_step rfl (S_pure rfl ?_)
     refine WO_step rfl (S_remU (a := k) (m := 8) rfl rfl (by omega) ?_)
     refine WO_step rfl (S_subN (a := 7) (b := k % 8) rfl rfl (by omega) ?_)
     refine WO_step rfl (S_shrB (a := x.toNat) (m := 7 - k % 8) rfl rfl (by omega) ?_)
     have hq : x.toNat / 2 ^ (7 - k % 8) < 256 := Nat.lt_of_le_of_lt (Nat.div_le_self _ _) hx8
     refine WO_step rfl (S_and1B (a := x.toNat / 2 ^ (7 - k % 8)) rfl hq ?_)
     have hbit : bitAt p k = decide (x.toNat / 2 ^ (7 - k % 8) % 2 = 1) := by
       unfold bitAt
       rw [List.getD_eq_getElem?_getD, hx]; rfl
     refine WO_step rfl (S_pureE (v := .bool ((((x.toNat / 2 ^ (7 - k % 8) % 2 : Nat) : Int)) == 1)) rfl (v' := .bool (bitAt p k)) (by
       rw [hbit]
       have : x.toNat / 2 ^ (7 - k % 8) % 2 < 2 := Nat.mod_lt _ (by omega)
       generalize x.toNat / 2 ^ (7 - k % 8) % 2 = q at *
       have : q = 0 ∨ q = 1 := by omega
       rcases this with rfl | rfl <;> rfl) ?_)
     refine WO_call rfl rfl rfl ?_
     refine (sp_bPut (i := i6) (w := w) (bs := (List.range k).map (bitAt p)) (H0 := H) HSub.refl (by rw [hbbl]; omega)).mono ?_
     rintro _ _ ⟨w', rfl⟩
     have hsn : (List.range k).map (bitAt p) ++ [bitAt p k] = (List.range (k + 1)).map (bitAt p) := by rw [List.range_succ, List.map_append]; rfl
     rw [hsn]
     refine WO_nil (KBlock_n (KSeq_n (WC_region ?_)))
     first | refine WO_step rfl (S_addN (b := 1) rfl rfl (by omega) ?_) | refine WO_step rfl (S_pure rfl ?_)
     refine WO_step rfl (S_pure rfl ?_)
     refine WO_nil (KLoop_n ?_)
     exact WC_weak (ih (n - (k + 1)) (by omega) (k + 1) w' rfl (by omega)) seA HSub.refl
    ·
     try simp only [bsT] at hb1
     refine WC_exit (KSeq_x (KLoop_x ?_))
     have ek : k = n := by omega
     subst ek
     exact KPost_i seA HSub.refl ⟨w, rfl, rfl, rfl⟩
theorem sp_bOf {H : SH} {v : Value} {p : List UInt8} (hv : RD H v TByte p) (hl : p.length ≤ 100) : WF F X f_bits_Of [v, .int .i64 ((8 * p.length : Nat) : Int)] H (fun r H' => ∃ (i : Nat) (w : SV), r = .tuple #[.pointer (some ⟨i, 0, none⟩), .bool true] ∧ H' = BB i w ((List.range (8 * p.length)).map (bitAt p)) H) := by
  refine WF_addNil (T := TByte) ?_
  refine WF_fn F_bits_Of ?_
  refine WC_seq (WC_region ?_)
  iterate 2 refine WO_step rfl (S_pure rfl ?_)
  refine WO_nil (KSeq_n (WC_seq (WC_seq (WC_region ?_))))
  iterate 3 refine WO_step rfl (S_pure rfl ?_)
  refine WO_cases (t := 10) rfl (fun hg1 => ?_) (fun hg1 => ?_)
  ·
   try simp only [bsT] at hg1
   exfalso; omega
   --stop
  ·
   try simp only [bsT] at hg1
   iterate 2 refine WO_step rfl (S_pure rfl ?_)
   first | refine WO_step rfl (S_pure rfl ?_) | refine WO_step rfl (S_lenS rfl rdA ?_)
   first | refine WO_step rfl (S_mulN (a := 8) rfl rfl (by omega) ?_) | refine WO_step rfl (S_pure rfl ?_)
   iterate 2 refine WO_step rfl (S_pure rfl ?_)
   refine WO_nil (KSeq_n ?_)
   refine WC_cond rfl (fun hb1 => ?_) (fun hb1 => ?_)
   ·
    try simp only [bsT] at hb1
    exfalso; omega
    --stop
   ·
    try simp only [bsT] at hb1
    refine WC_skip (KSeq_n (WC_seq (WC_region ?_)))
    refine WO_step rfl (S_pure rfl ?_)
    refine WO_step rfl (S_box rfl rfl fun i18 => ?_)
    refine WO_step rfl (S_pure rfl ?_)
    refine WO_nil (KSeq_n (WC_seq (WC_seq (WC_region ?_))))
    iterate 2 refine WO_step rfl (S_pure rfl ?_)
    refine WO_nil (KSeq_n (WC_block ?_))
    have e0 : BB i18 .nil ((List.range 0).map (bitAt p)) H = BI i18 .nil 0 :: SL (SV.toV .nil) TByte [] :: H := by simp [BB, byts, nby]
    refine WC_post (WC_weak (lp_bOf (H := H) (i6 := i18) (n := 8 * p.length) hv (Nat.le_refl _) (by omega) (8 * p.length) 0 .nil (by omega) (by omega)) seA (by rw [e0]; exact hsA)) ?_
    rintro y l' _ ⟨w, rfl, rfl, rfl⟩
    unfold BB
    have hbb : byts ((List.range (8 * p.length)).map (bitAt p)) (nby ((List.range (8 * p.length)).map (bitAt p)).length) = p := by
      rw [List.length_map, List.length_range, show nby (8 * p.length) = p.length by unfold nby; omega]
      exact byts_bitAt p
    refine KBlock_h (KSeq_n (WC_seq (WC_seq (WC_region ?_))))
    iterate 3 refine WO_step rfl (S_pure rfl ?_)
    refine WO_step rfl (S_loadO rfl pkA (by rfl) (by rfl) ?_)
    refine WO_step rfl (S_pure rfl ?_)
    refine WO_call rfl rfl rfl ?_
    refine (sp_BEq (xs := byts ((List.range (8 * p.length)).map (bitAt p)) (nby ((List.range (8 * p.length)).map (bitAt p)).length)) (ys := p) rdA rdA).mono ?_
    rintro _ _ ⟨rfl, rfl⟩
    rw [hbb]
    refine WO_step rfl (S_pure rfl ?_)
    refine WO_nil (KSeq_n ?_)
    refine WC_cond rfl (fun hb2 => ?_) (fun hb2 => ?_)
    ·
     try simp only [bsT] at hb2
     refine WC_seq (WC_region ?_)
     iterate 2 refine WO_step rfl (S_pure rfl ?_)
     refine WO_nil (KSeq_n (WC_ret (KSeq_r ?_)))
     refine KFn_r (ResL.tmp rfl (ResL.tmp rfl ResL.nil)) ?_
     exact absurd hb2 (by simp)
    ·
     try simp only [bsT] at hb2
     refine WC_skip (KSeq_n (WC_seq (WC_region ?_)))
     iterate 3 refine WO_step rfl (S_pure rfl ?_)
     refine WO_nil (KSeq_n (WC_ret ?_))
     refine KFn_r (ResL.tmp rfl (ResL.tmp rfl ResL.nil)) ?_
     exact ⟨_, HSub.refl, i18, w, rfl, rfl⟩
def TSlO : Ty SlT := Ty.ofAgg 6 40 64 (fun s => [.bool s.has, .string s.r.key, .bool s.r.gone, .int .i64 s.r.val.kind, .int .i64 s.r.val.n, .string s.r.val.s]) (fun _ => rfl) (fun _ => rfl)
def inB (xs : List ByteArray) (s : ByteArray) : Bool := xs.any fun y => decide (y = s)
theorem inB_iff {xs : List ByteArray} {s : ByteArray} : inB xs s = true ↔ s ∈ xs := by
  unfold inB
  rw [List.any_eq_true]
  constructor
  · rintro ⟨y, h1, h2⟩; rw [← of_decide_eq_true h2]; exact h1
  · intro h; exact ⟨s, h, decide_eq_true rfl⟩
theorem lp_sidx {H : SH} {v : Value} {xs : List ByteArray} {s : ByteArray} (hv : RD H v TStrT xs) (hL : xs.length ≤ 1000000) : ∀ (n i : Nat), xs.length - i = n → i ≤ xs.length → (∀ y ∈ xs.take i, y ≠ s) →
    WC F X (.loop L_slices_Index_string_0) [(8, .int .i64 (i : Int)), (7, .int .i64 (xs.length : Int)), (0, v), (1, .string s)] H
      (KPost fun x l' H' => H' = H ∧ ((x = .exit 0 ∧ l' = [] ∧ s ∉ xs) ∨ (x = .ret ∧ ∃ k : Nat, l' = [(4, .int .i64 (k : Int))] ∧ s ∈ xs))) := by
  intro n
  induction n using Nat.strongRecOn with
  | _ n ih =>
    intro i hn hi hno
    refine WC_loop (WC_seq (WC_region ?_))
    refine WO_step rfl (S_pure rfl ?_)
    refine WO_nil (KSeq_n (WC_seq ?_))
    refine WC_cond rfl (fun hb1 => ?_) (fun hb1 => ?_)
    ·
     try simp only [bsT] at hb1
     obtain ⟨y, hx⟩ := get_of_lt hb1
     refine WC_skip (KSeq_n (WC_seq (WC_block (WC_seq (WC_region ?_)))))
     iterate 2 refine WO_step rfl (S_pure rfl ?_)
     refine WO_nil (KSeq_n (WC_seq (WC_region ?_)))
     iterate 3 refine WO_step rfl (S_pure rfl ?_)
     refine WO_step rfl (S_idx rfl rfl rdA (by first | rfl | assumption | (symm; assumption)) (by rfl) (by first | assumption | omega | exact lt_of_get (by assumption) | (simp only [List.length_set]; first | assumption | omega | exact lt_of_get (by assumption))) fun hp14 => ?_)
     refine WO_step rfl (S_loadE rfl rdA (by first | rfl | assumption | (symm; assumption)) (by first | rfl | assumption | (symm; assumption)) (by first | rfl | assumption | (symm; assumption)) (by assumption) ?_)
     first | refine WO_step rfl (S_eqS rfl rfl ?_) | refine WO_step rfl (S_pure rfl ?_)
     refine WO_nil (KSeq_n ?_)
     refine WC_cond rfl (fun hb2 => ?_) (fun hb2 => ?_)
     ·
      try simp only [bsT] at hb2
      refine WC_seq (WC_region ?_)
      iterate 2 refine WO_step rfl (S_pure rfl ?_)
      refine WO_nil (KSeq_n (WC_ret (KBlock_r (KSeq_r (KLoop_r ?_)))))
      exact KPost_i (l' := [(4, .int .i64 (i : Int))]) seA hsA ⟨rfl, .inr ⟨rfl, i, rfl, by rw [hb2]; exact List.mem_of_getElem? hx⟩⟩
     ·
      try simp only [bsT] at hb2
      refine WC_skip (KBlock_n (KSeq_n (WC_region ?_)))
      first | refine WO_step rfl (S_addN (b := 1) rfl rfl (by omega) ?_) | refine WO_step rfl (S_pure rfl ?_)
      refine WO_step rfl (S_pure rfl ?_)
      refine WO_nil (KLoop_n ?_)
      refine WC_weak (ih (xs.length - (i + 1)) (by omega) (i + 1) rfl (by omega) (fun z hz => ?_)) seA hsA
      rw [List.take_add_one, hx] at hz
      rcases List.mem_append.1 hz with hz | hz
      · exact hno z hz
      · simp at hz; subst hz; exact fun e => hb2 e.symm
    ·
     try simp only [bsT] at hb1
     refine WC_exit (KSeq_x (KLoop_x ?_))
     have ei : i = xs.length := by omega
     subst ei
     exact KPost_i (l' := []) SubE.nil hsA ⟨rfl, .inl ⟨rfl, rfl, fun hm => hno s (by simpa using hm) rfl⟩⟩
theorem sp_sidx {H : SH} {v : Value} {xs : List ByteArray} {s : ByteArray} (hv : RD H v TStrT xs) (hL : xs.length ≤ 1000000) : WF F X f_slices_Index_string [v, .string s] H (fun r H' => H' = H ∧ ∃ J : Int, r = .int .i64 J ∧ (0 ≤ J ↔ s ∈ xs)) := by
  refine WF_fn F_slices_Index_string ?_
  refine WC_seq (WC_region ?_)
  refine WO_step rfl (S_pure rfl ?_)
  refine WO_nil (KSeq_n (WC_seq (WC_seq (WC_region ?_))))
  refine WO_step rfl (S_pure rfl ?_)
  first | refine WO_step rfl (S_pure rfl ?_) | refine WO_step rfl (S_lenS rfl rdA ?_)
  refine WO_step rfl (S_pure rfl ?_)
  refine WO_nil (KSeq_n (WC_block ?_))
  refine WC_post (WC_weak (lp_sidx (s := s) hv hL xs.length 0 (by omega) (by omega) (by simp)) seA hsA) ?_
  rintro x l' _ ⟨rfl, ⟨rfl, rfl, hno⟩ | ⟨rfl, k, rfl, hin⟩⟩
  rotate_left
  ·
   refine KBlock_r (KSeq_r ?_)
   refine KFn_r (ResL.tmp rfl ResL.nil) ?_
   exact ⟨_, HSub.refl, rfl, _, rfl, by simp [hin]⟩
  ·
   refine KBlock_h (KSeq_n (WC_seq (WC_region ?_)))
   refine WO_step rfl (S_pure rfl ?_)
   refine WO_nil (KSeq_n (WC_ret ?_))
   refine KFn_r (ResL.tmp rfl ResL.nil) ?_
   exact ⟨_, HSub.refl, rfl, _, rfl, by simp [hno]⟩
theorem sp_sin {H : SH} {v : Value} {xs : List ByteArray} {s : ByteArray} (hv : RD H v TStrT xs) (hL : xs.length ≤ 1000000) : WF F X f_slices_Contains_string [v, .string s] H (fun r H' => H' = H ∧ r = .bool (inB xs s)) := by
  refine WF_fn F_slices_Contains_string ?_
  refine WC_seq (WC_region ?_)
  refine WO_step rfl (S_pure rfl ?_)
  refine WO_nil (KSeq_n (WC_seq (WC_region ?_)))
  iterate 2 refine WO_step rfl (S_pure rfl ?_)
  refine WO_call rfl rfl rfl ?_
  refine (sp_sidx (s := s) hv hL).mono ?_
  rintro _ _ ⟨rfl, J, rfl, hJ⟩
  iterate 2 refine WO_step rfl (S_pure rfl ?_)
  refine WO_nil (KSeq_n (WC_ret ?_))
  refine KFn_r (ResL.tmp rfl ResL.nil) ?_
  refine ⟨_, HSub.refl, rfl, ?_⟩
  simp only [resV]
  congr 1
  rw [Bool.eq_iff_iff, decide_eq_true_eq, inB_iff, ← hJ]
abbrev tabV (ts : List SlT) : Value := .agg (TSlT.cells ts).toArray
theorem S_loadAll {α : Type} {T : Ty α} {l : SE} {H H0 : SH} {K : Value → SH → Prop} {i n : Nat} {t : TypeId} {a : Opd} {xs : List α} (ha : a.lv l = some (.pointer (some ⟨i, 0, none⟩))) (hp : Pick (AO i t T xs) H H0) (hn : n = xs.length * T.es) (kk : K (.agg (T.cells xs).toArray) H) : Step (.load true n a) l H K := by
  have hc := T.cells_len xs
  refine S_loadO ha hp (by rw [Nat.ble_eq, hc]; omega) ?_ kk
  rw [List.drop_zero, List.take_of_length_le (by rw [hc]; omega)]; rfl
theorem S_storeAll {α : Type} {T : Ty α} {l : SE} {H H0 : SH} {K : Value → SH → Prop} {i n : Nat} {t : TypeId} {c : List Value} {a y : Opd} {xs : List α} (ha : a.lv l = some (.pointer (some ⟨i, 0, none⟩))) (hy : y.lv l = some (.agg (T.cells xs).toArray)) (hp : Pick (.obj i (.row false t c)) H H0) (hc : c.length = n) (hn : xs.length * T.es = n) (kk : K undef (AO i t T xs :: H0)) : Step (.store n a y) l H K := by
  have hl := T.cells_len xs
  have e : AM.cells (.agg (T.cells xs).toArray) = T.cells xs := by simp [AM.cells, Value.cells]
  refine S_storeO ha hy hp (by rw [e, hl, hn]) (by rw [Nat.ble_eq, hc]; omega) (by rw [e]; exact T.cells_all xs) ?_
  rw [e, splice_all (by rw [hl, hn, hc])]
  exact kk
theorem S_idxVE {l : SE} {H : SH} {K : Value → SH → Prop} {n es j : Nat} {x y : Opd} {kd : IntKind} {J : Int} {cs : List Value} (hx : x.lv l = some (.agg cs.toArray)) (hy : y.lv l = some (.int kd J)) (hJ : J = (j : Int)) (hj : j < n) (hb : j * es + es ≤ cs.length) (k : K (.agg ((cs.drop (j * es)).take es).toArray) H) : Step (.idxV n true es x y) l H K :=
  fun e h hA hH => by
    subst hJ
    refine ⟨_, h, H, ?_, hH, k⟩
    simp only [ev, Opd.lv_ev hA hx, Opd.lv_ev hA hy]
    rw [if_pos ⟨by omega, by omega, by simpa using hb⟩, Int.toNat_natCast]
    rfl
def bk (ts : List SlT) (b : Nat) : List SlT := (ts.drop (4 * b)).take 4
theorem bk_len {ts : List SlT} {b : Nat} (hl : ts.length = 32) (hb : b < 8) : (bk ts b).length = 4 := by
  unfold bk; rw [List.length_take, List.length_drop]; omega
theorem bk_get {ts : List SlT} {b s : Nat} (hs : s < 4) : (bk ts b)[s]? = ts[4 * b + s]? := by
  unfold bk
  rw [List.getElem?_take, if_pos hs, List.getElem?_drop]
theorem S_idxBk {l : SE} {H : SH} {K : Value → SH → Prop} {b : Nat} {x y : Opd} {kd : IntKind} {J : Int} {ts : List SlT} (hx : x.lv l = some (tabV ts)) (hy : y.lv l = some (.int kd J)) (hJ : J = (b : Int)) (hb : b < 8) (hl : ts.length = 32) (k : K (tabV (bk ts b)) H) : Step (.idxV 8 true 24 x y) l H K := by
  refine S_idxVE hx hy hJ hb (by rw [TSlT.cells_len, hl]; show b * 24 + 24 ≤ 32 * 6; omega) ?_
  have e : ((TSlT.cells ts).drop (b * 24)).take 24 = TSlT.cells (bk ts b) := by
    unfold bk
    rw [← TSlT.cells_take, ← TSlT.cells_drop]
    rw [show 4 * b * TSlT.es = b * 24 by show 4 * b * 6 = b * 24; omega]
    rfl
  rw [e]; exact k
theorem S_idxSl {l : SE} {H : SH} {K : Value → SH → Prop} {s : Nat} {x y : Opd} {kd : IntKind} {J : Int} {xs : List SlT} {z : SlT} (hx : x.lv l = some (tabV xs)) (hy : y.lv l = some (.int kd J)) (hJ : J = (s : Int)) (hs : s < 4) (hz : xs[s]? = some z) (k : K (TSlT.val z) H) : Step (.idxV 4 true 6 x y) l H K := by
  have hlt := (List.getElem?_eq_some_iff.1 hz).1
  refine S_idxVE hx hy hJ hs (by rw [TSlT.cells_len]; show s * 6 + 6 ≤ xs.length * 6; omega) ?_
  have e := TSlT.cells_at hz (off := 0) (n := 6) (Nat.le_refl _)
  rw [Nat.add_zero, List.drop_zero] at e
  have e2 : ((TSlT.cells xs).drop (s * 6)).take 6 = TSlT.enc z := by
    rw [show s * 6 = s * TSlT.es from rfl, e]; rfl
  rw [e2]; exact k
theorem S_neA {l : SE} {H : SH} {K : Value → SH → Prop} {x y : Opd} {ks : List SK} {a b : Array Value} {r : Bool} (hx : x.lv l = some (.agg a)) (hy : y.lv l = some (.agg b)) (h1 : a.size = ks.length) (h2 : b.size = ks.length) (hk : kEq ks a.toList b.toList = some r) (k : K (.bool (!r)) H) : Step (.eqA true ks x y) l H K :=
  S_pure (by simp only [pev, hx, hy, h1, h2, hk]; rfl) k
def bel (k : ByteArray) (b : Nat) : Bool := decide (b = frst (kH k)) || decide (b = oth (frst (kH k)) (tagOf (kH k)))
def slOk (ks : List ByteArray) (b : Nat) (x : SlT) : Bool := if x.has then mayRec x.r && (bel x.r.key b && !inB ks x.r.key) else decide (x.r = rec0)
def OkTo (ts : List SlT) (k : Nat) : Prop := ∀ j x, j < k → ts[j]? = some x → slOk (tKeys ts j) (j / 4) x = true
def mayTab (ts : List SlT) : Bool := (List.range 32).all fun j => slOk (tKeys ts j) (j / 4) (ts.getD j slt0)
theorem mayTab_iff {ts : List SlT} (hl : ts.length = 32) : mayTab ts = true ↔ OkTo ts 32 := by
  unfold mayTab OkTo
  rw [List.all_eq_true]
  constructor
  · intro h j x hj hx
    have := h j (List.mem_range.2 hj)
    rwa [List.getD_eq_getElem?_getD, hx] at this
  · intro h j hj
    have hj := List.mem_range.1 hj
    obtain ⟨x, hx⟩ := get_of_lt (l := ts) (a := j) (by omega)
    rw [List.getD_eq_getElem?_getD, hx]
    exact h j x hj hx
theorem OkTo.zero (ts : List SlT) : OkTo ts 0 := fun j x h => absurd h (Nat.not_lt_zero _)
theorem OkTo.succ {ts : List SlT} {k : Nat} {x : SlT} (h : OkTo ts k) (hx : ts[k]? = some x) (ho : slOk (tKeys ts k) (k / 4) x = true) : OkTo ts (k + 1) := fun j y hj hy => by
  by_cases e : j = k
  · subst e; rw [hx] at hy; cases hy; exact ho
  · exact h j y (by omega) hy
theorem OkTo.bad {ts : List SlT} {k : Nat} {x : SlT} (hl : ts.length = 32) (hx : ts[k]? = some x) (ho : slOk (tKeys ts k) (k / 4) x = false) : mayTab ts = false := by
  have hk := (List.getElem?_eq_some_iff.1 hx).1
  cases hm : mayTab ts with
  | false => rfl
  | true => rw [(mayTab_iff hl).1 hm k x (by omega) hx] at ho; cases ho
theorem tKeys_len (ts : List SlT) (k : Nat) : (tKeys ts k).length ≤ k := by
  unfold tKeys
  rw [List.length_map]
  exact Nat.le_trans (List.length_filter_le _ _) (by rw [List.length_take]; omega)
def kSmall (ts : List SlT) : Prop := ∀ x ∈ ts, x.r.key.size ≤ 100000
theorem sp_bel {H : SH} {k : ByteArray} {b : Nat} (hs : k.size ≤ 1000000) : WF F X f_order_belongs [.string k, .int .i64 (b : Int)] H (fun r H' => H' = H ∧ r = .bool (bel k b)) := by
  have hk := kH_lt k
  have hf := frst_lt (kH k)
  have ht := tagOf_lt (kH k)
  refine WF_fn F_order_belongs ?_
  refine WC_seq (WC_region ?_)
  refine WO_step rfl (S_pure rfl ?_)
  refine WO_nil (KSeq_n (WC_seq (WC_region ?_)))
  refine WO_step rfl (S_pure rfl ?_)
  refine WO_call rfl rfl rfl ?_
  refine (sp_HashOf hs).mono ?_
  rintro _ _ ⟨rfl, rfl⟩
  rw [kH_eq]
  refine WO_step rfl (S_pure rfl ?_)
  refine WO_nil (KSeq_n (WC_seq (WC_region ?_)))
  refine WO_step rfl (S_pure rfl ?_)
  refine WO_call rfl rfl rfl ?_
  refine (sp_hFirst (by omega)).mono ?_
  rintro _ _ ⟨rfl, rfl⟩
  refine WO_step rfl (S_pure rfl ?_)
  refine WO_nil (KSeq_n (WC_seq (WC_region ?_)))
  iterate 2 refine WO_step rfl (S_pure rfl ?_)
  first | refine WO_step rfl (S_eqS rfl rfl ?_) | refine WO_step rfl (S_pure rfl ?_)
  refine WO_step rfl (S_pure rfl ?_)
  refine WO_cases (t := 14) rfl (fun hg1 => ?_) (fun hg1 => ?_)
  ·
   try simp only [bsT] at hg1
   iterate 6 refine WO_off rfl ?_
   iterate 2 refine WO_step rfl (S_pure rfl ?_)
   refine WO_nil (KSeq_n (WC_ret ?_))
   refine KFn_r (ResL.tmp rfl ResL.nil) ?_
   refine ⟨_, HSub.refl, rfl, ?_⟩
   unfold bel
   rw [decide_eq_true (show b = frst (kH k) by omega), Bool.true_or]; rfl
  ·
   try simp only [bsT] at hg1
   iterate 3 refine WO_step rfl (S_pure rfl ?_)
   refine WO_call rfl rfl rfl ?_
   refine (sp_hTag (by omega)).mono ?_
   rintro _ _ ⟨rfl, rfl⟩
   refine WO_call rfl rfl rfl ?_
   refine (sp_hOther (by assumption) (by assumption)).mono ?_
   rintro _ _ ⟨rfl, rfl⟩
   first | refine WO_step rfl (S_eqS rfl rfl ?_) | refine WO_step rfl (S_pure rfl ?_)
   iterate 2 refine WO_step rfl (S_pure rfl ?_)
   refine WO_nil (KSeq_n (WC_ret ?_))
   refine KFn_r (ResL.tmp rfl ResL.nil) ?_
   refine ⟨_, HSub.refl, rfl, ?_⟩
   unfold bel
   rw [decide_eq_false (show ¬ b = frst (kH k) by omega), Bool.false_or]
   by_cases h : b = oth (frst (kH k)) (tagOf (kH k))
   · simp [resV, ← h]
   · have h2 : ¬ ((b : Int) = ((oth (frst (kH k)) (tagOf (kH k)) : Nat) : Int)) := by omega
     simp [resV, h, h2]
theorem lp_oM1 {H : SH} {ts : List SlT} {b : Nat} (v1 v8 : Value) (hl : ts.length = 32) (hk : kSmall ts) (hb : b < 8) : ∀ (m s : Nat) (w : SV), 4 - s = m → s ≤ 4 → OkTo ts (4 * b + s) →
    WC F X (.loop L_order_May_1) [(14, .int .i64 (s : Int)), (13, tabV (bk ts b)), (9, .int .i64 (b : Int)), (4, .int .i64 (b : Int)), (8, v8), (1, v1), (3, w.toV)] (SL w.toV TStrT (tKeys ts (4 * b + s)) :: H)
      (KPost fun y l' H' => (∃ w : SV, y = .exit 2 ∧ l' = [(9, .int .i64 (b : Int)), (8, v8), (1, v1), (3, w.toV)] ∧ H' = SL w.toV TStrT (tKeys ts (4 * b + 4)) :: H ∧ OkTo ts (4 * b + 4)) ∨ (y = .ret ∧ l' = [(2, .bool false)] ∧ H' = H ∧ mayTab ts = false)) := by
  intro m
  induction m using Nat.strongRecOn with
  | _ m ih =>
    intro s w hm hs hok
    have hkl := tKeys_len ts (4 * b + s)
    refine WC_loop (WC_seq (WC_region ?_))
    refine WO_step rfl (S_pure rfl ?_)
    refine WO_nil (KSeq_n (WC_seq ?_))
    refine WC_cond rfl (fun hb1 => ?_) (fun hb1 => ?_)
    ·
     try simp only [bsT] at hb1
     obtain ⟨x, hx⟩ := get_of_lt (show 4 * b + s < ts.length by omega)
     have hsucc := tKeys_succ hx
     have hxs := hk x (List.mem_of_getElem? hx)
     have hdiv : (4 * b + s) / 4 = b := by omega
     refine WC_skip (KSeq_n (WC_seq (WC_block (WC_seq (WC_region ?_)))))
     refine WO_step rfl (S_idxSl (s := s) (z := x) rfl rfl rfl (by omega) (by rw [bk_get (by omega)]; exact hx) ?_)
     refine WO_step rfl (S_newT TSlO slt0 rfl rfl fun i7 => ?_)
     refine WO_step rfl (S_storeT (T := TSlO) (y := x) rfl rfl pkA (by rfl) (by rfl) ?_)
     refine WO_nil (KSeq_n (WC_seq (WC_seq (WC_region ?_))))
     refine WO_step rfl (S_pure rfl ?_)
     refine WO_step rfl (S_loadO rfl pkA (by rfl) (by rfl) ?_)
     refine WO_step rfl (S_pure rfl ?_)
     refine WO_nil (KSeq_n ?_)
     refine WC_cond rfl (fun hb2 => ?_) (fun hb2 => ?_)
     ·
      try simp only [bsT] at hb2
      have hhf : x.has = false := hb2
      refine WC_seq (WC_seq (WC_region ?_))
      refine WO_step rfl (S_pure rfl ?_)
      refine WO_step rfl (S_loadO (v := TRec.val x.r) rfl pkA (by rfl) (by rfl) ?_)
      refine WO_step rfl (S_pure rfl ?_)
      refine WO_step rfl (S_neA rfl rfl rfl rfl (kEq_rec x.r rec0) ?_)
      refine WO_nil (KSeq_n ?_)
      refine WC_cond rfl (fun hb3 => ?_) (fun hb3 => ?_)
      ·
       try simp only [bsT] at hb3
       refine WC_seq (WC_region ?_)
       refine WO_step rfl (S_pure rfl ?_)
       refine WO_nil (KSeq_n (WC_ret (KSeq_r (KSeq_r (KBlock_r (KSeq_r (KLoop_r ?_)))))))
       refine KPost_i (l' := [(2, .bool false)]) (H' := H) seA hsA (.inr ⟨rfl, rfl, rfl, OkTo.bad hl hx ?_⟩)
       unfold slOk
       rw [hhf]; simpa using hb3
      ·
       try simp only [bsT] at hb3
       refine WC_skip (KSeq_n (WC_exit (KSeq_x (KBlock_h (KSeq_n (WC_region ?_))))))
       first | refine WO_step rfl (S_addN (b := 1) rfl rfl (by omega) ?_) | refine WO_step rfl (S_pure rfl ?_)
       refine WO_step rfl (S_pure rfl ?_)
       refine WO_nil (KLoop_n ?_)
       have ho : slOk (tKeys ts (4 * b + s)) ((4 * b + s) / 4) x = true := by unfold slOk; rw [hhf]; simpa using hb3
       rw [hhf] at hsucc
       simp only [Bool.false_eq_true, if_false, List.append_nil] at hsucc
       have := ih (4 - (s + 1)) (by omega) (s + 1) w rfl (by omega) (hok.succ hx ho)
       rw [show 4 * b + (s + 1) = 4 * b + s + 1 by omega, hsucc] at this
       exact WC_weak this seA hsA
     ·
      try simp only [bsT] at hb2
      have hht : x.has = true := hb2
      refine WC_skip (KSeq_n (WC_seq (WC_seq (WC_region ?_))))
      refine WO_step rfl (S_pure rfl ?_)
      refine WO_step rfl (S_loadO (v := TRec.val x.r) rfl pkA (by rfl) (by rfl) ?_)
      refine WO_call rfl rfl rfl ?_
      refine sp_rMay.mono ?_
      rintro _ _ ⟨rfl, rfl⟩
      iterate 2 refine WO_step rfl (S_pure rfl ?_)
      refine WO_cases (t := 28) rfl (fun hg1 => ?_) (fun hg1 => ?_)
      ·
       try simp only [bsT] at hg1
       iterate 6 refine WO_off rfl ?_
       iterate 2 refine WO_step rfl (S_pure rfl ?_)
       iterate 5 refine WO_off rfl ?_
       refine WO_step rfl (S_pure rfl ?_)
       refine WO_nil (KSeq_n ?_)
       refine WC_cond rfl (fun _ => ?_) (fun h => ?_)
       rotate_left
       · exact absurd h (by decide)
       refine WC_seq (WC_region ?_)
       refine WO_step rfl (S_pure rfl ?_)
       refine WO_nil (KSeq_n (WC_ret (KSeq_r (KBlock_r (KSeq_r (KLoop_r ?_))))))
       refine KPost_i (l' := [(2, .bool false)]) (H' := H) seA hsA (.inr ⟨rfl, rfl, rfl, OkTo.bad hl hx ?_⟩)
       unfold slOk
       rw [hht, if_pos rfl]
       simp [hg1]
      ·
       try simp only [bsT] at hg1
       iterate 2 refine WO_step rfl (S_pure rfl ?_)
       refine WO_step rfl (S_loadO rfl pkA (by rfl) (by rfl) ?_)
       refine WO_step rfl (S_pure rfl ?_)
       refine WO_call rfl rfl rfl ?_
       refine (sp_bel (k := x.r.key) (by omega)).mono ?_
       rintro _ _ ⟨rfl, rfl⟩
       iterate 3 refine WO_step rfl (S_pure rfl ?_)
       refine WO_cases (t := 36) rfl (fun hg2 => ?_) (fun hg2 => ?_)
       ·
        try simp only [bsT] at hg2
        iterate 5 refine WO_off rfl ?_
        refine WO_step rfl (S_pure rfl ?_)
        refine WO_nil (KSeq_n ?_)
        refine WC_cond rfl (fun _ => ?_) (fun h => ?_)
        rotate_left
        · exact absurd h (by decide)
        refine WC_seq (WC_region ?_)
        refine WO_step rfl (S_pure rfl ?_)
        refine WO_nil (KSeq_n (WC_ret (KSeq_r (KBlock_r (KSeq_r (KLoop_r ?_))))))
        refine KPost_i (l' := [(2, .bool false)]) (H' := H) seA hsA (.inr ⟨rfl, rfl, rfl, OkTo.bad hl hx ?_⟩)
        unfold slOk
        rw [hht, if_pos rfl, hdiv]
        simp [hg2]
       ·
        try simp only [bsT] at hg2
        iterate 3 refine WO_step rfl (S_pure rfl ?_)
        refine WO_step rfl (S_loadO rfl pkA (by rfl) (by rfl) ?_)
        refine WO_call rfl rfl rfl ?_
        refine (sp_sin (xs := tKeys ts (4 * b + s)) (s := x.r.key) rdA (by omega)).mono ?_
        rintro _ _ ⟨rfl, rfl⟩
        refine WO_step rfl (S_pure rfl ?_)
        refine WO_nil (KSeq_n ?_)
        refine WC_cond rfl (fun hb4 => ?_) (fun hb4 => ?_)
        ·
         try simp only [bsT] at hb4
         refine WC_seq (WC_region ?_)
         refine WO_step rfl (S_pure rfl ?_)
         refine WO_nil (KSeq_n (WC_ret (KSeq_r (KBlock_r (KSeq_r (KLoop_r ?_))))))
         refine KPost_i (l' := [(2, .bool false)]) (H' := H) seA hsA (.inr ⟨rfl, rfl, rfl, OkTo.bad hl hx ?_⟩)
         unfold slOk
         rw [hht, if_pos rfl, hdiv]
         simp [hb4]
        ·
         try simp only [bsT] at hb4
         refine WC_skip (KSeq_n (WC_region ?_))
         iterate 3 refine WO_step rfl (S_pure rfl ?_)
         refine WO_step rfl (S_loadO rfl pkA (by rfl) (by rfl) ?_)
         refine WO_step rfl (S_lit1 (T := TStrT) (y := x.r.key) rfl rfl rfl rfl fun w47 => ?_)
         refine WO_step rfl (S_app rfl rfl pkA (by first | exact SRC.str rfl rfl | (apply RD.src; repeat (first | assumption | exact RD.head | exact RD.nil | apply RD.tail))) (by rfl) (by rfl) (by (try simp only [List.length_append, List.length_cons, List.length_nil]); omega) fun w48 => ?_)
         refine WO_step rfl (S_pure rfl ?_)
         refine WO_nil (KBlock_n (KSeq_n (WC_region ?_)))
         first | refine WO_step rfl (S_addN (b := 1) rfl rfl (by omega) ?_) | refine WO_step rfl (S_pure rfl ?_)
         refine WO_step rfl (S_pure rfl ?_)
         refine WO_nil (KLoop_n ?_)
         have ho : slOk (tKeys ts (4 * b + s)) ((4 * b + s) / 4) x = true := by
           unfold slOk
           rw [hht, if_pos rfl, hdiv]
           simp [hg1, hg2, hb4]
         rw [hht] at hsucc
         simp only [if_true] at hsucc
         have := ih (4 - (s + 1)) (by omega) (s + 1) w48 rfl (by omega) (hok.succ hx ho)
         rw [show 4 * b + (s + 1) = 4 * b + s + 1 by omega, hsucc] at this
         exact WC_weak this seA hsA
    ·
     try simp only [bsT] at hb1
     refine WC_exit (KSeq_x (KLoop_x ?_))
     have e4 : s = 4 := by omega
     subst e4
     exact KPost_i seA hsA (.inl ⟨w, rfl, rfl, rfl, hok⟩)
theorem lp_oM0 {H : SH} {ts : List SlT} (v1 : Value) (hl : ts.length = 32) (hk : kSmall ts) : ∀ (m b : Nat) (w : SV), 8 - b = m → b ≤ 8 → OkTo ts (4 * b) →
    WC F X (.loop L_order_May_0) [(9, .int .i64 (b : Int)), (8, tabV ts), (1, v1), (3, w.toV)] (SL w.toV TStrT (tKeys ts (4 * b)) :: H)
      (KPost fun y l' H' => (y = .exit 0 ∧ l' = [] ∧ H' = H ∧ mayTab ts = true) ∨ (y = .ret ∧ l' = [(2, .bool false)] ∧ H' = H ∧ mayTab ts = false)) := by
  intro m
  induction m using Nat.strongRecOn with
  | _ m ih =>
    intro b w hm hb hok
    refine WC_loop (WC_seq (WC_region ?_))
    refine WO_step rfl (S_pure rfl ?_)
    refine WO_nil (KSeq_n (WC_seq ?_))
    refine WC_cond rfl (fun hb1 => ?_) (fun hb1 => ?_)
    ·
     try simp only [bsT] at hb1
     have hb8 : b < 8 := by omega
     have hbkl := bk_len hl hb8
     refine WC_skip (KSeq_n (WC_seq (WC_block (WC_seq (WC_region ?_)))))
     refine WO_step rfl (S_pure rfl ?_)
     refine WO_step rfl (S_idxBk (b := b) rfl rfl rfl hb8 hl ?_)
     refine WO_step rfl (S_new fun i5 => ?_)
     refine WO_step rfl (S_pure rfl ?_)
     refine WO_step rfl (S_storeAll (T := TSlT) (xs := bk ts b) rfl rfl pkA (by rfl) (by rw [hbkl]; rfl) ?_)
     refine WO_nil (KSeq_n (WC_seq (WC_region ?_)))
     refine WO_step rfl (S_loadAll (T := TSlT) (xs := bk ts b) rfl pkA (by rw [hbkl]; rfl) ?_)
     refine WO_step rfl (S_pure rfl ?_)
     refine WO_nil (KSeq_n (WC_block ?_))
     refine WC_post (WC_weak (lp_oM1 (H := H) (ts := ts) (b := b) v1 (tabV ts) hl hk hb8 4 0 w (by omega) (by omega) hok) seA hsA) ?_
     rintro y l' _ (⟨w', rfl, rfl, rfl, hok'⟩ | ⟨rfl, rfl, rfl, hno⟩)
     rotate_left
     ·
      refine KBlock_r (KBlock_r (KSeq_r (KLoop_r ?_)))
      exact KPost_i seA HSub.refl (.inr ⟨rfl, rfl, rfl, hno⟩)
     ·
      refine KBlock_h (KBlock_n (KSeq_n (WC_region ?_)))
      first | refine WO_step rfl (S_addN (b := 1) rfl rfl (by omega) ?_) | refine WO_step rfl (S_pure rfl ?_)
      refine WO_step rfl (S_pure rfl ?_)
      refine WO_nil (KLoop_n ?_)
      have := ih (8 - (b + 1)) (by omega) (b + 1) w' rfl (by omega) (by rw [show 4 * (b + 1) = 4 * b + 4 by omega]; exact hok')
      rw [show 4 * (b + 1) = 4 * b + 4 by omega] at this
      exact WC_weak this seA hsA
    ·
     try simp only [bsT] at hb1
     refine WC_exit (KSeq_x (KLoop_x ?_))
     have e8 : b = 8 := by omega
     subst e8
     exact KPost_i (l' := []) (H' := H) SubE.nil hsA (.inl ⟨rfl, rfl, rfl, (mayTab_iff hl).2 hok⟩)
theorem sp_oMay {H : SH} {ts : List SlT} (hl : ts.length = 32) (hk : kSmall ts) : WF F X f_order_May [tabV ts] H (fun r H' => H' = H ∧ r = .bool (mayTab ts)) := by
  refine WF_addNil (T := TStrT) ?_
  refine WF_fn F_order_May ?_
  refine WC_seq (WC_region ?_)
  refine WO_step rfl (S_boxA (T := TSlT) (xs := ts) rfl fun i1 => ?_)
  refine WO_step rfl (S_pure rfl ?_)
  refine WO_nil (KSeq_n (WC_seq (WC_region ?_)))
  refine WO_step rfl (S_pure rfl ?_)
  refine WO_nil (KSeq_n (WC_seq (WC_seq (WC_region ?_))))
  refine WO_step rfl (S_loadAll (T := TSlT) (xs := ts) rfl pkA (by rw [hl]; rfl) ?_)
  refine WO_step rfl (S_pure rfl ?_)
  refine WO_nil (KSeq_n (WC_block ?_))
  refine WC_post (WC_weak (lp_oM0 (H := H) (ts := ts) (.pointer (some ⟨i1, 0, none⟩)) hl hk 8 0 .nil (by omega) (by omega) (OkTo.zero ts)) seA hsA) ?_
  rintro y l' _ (⟨rfl, rfl, rfl, hm⟩ | ⟨rfl, rfl, rfl, hm⟩)
  rotate_left
  ·
   refine KBlock_r (KSeq_r ?_)
   refine KFn_r (ResL.tmp rfl ResL.nil) ?_
   exact ⟨_, HSub.refl, rfl, by rw [hm]; rfl⟩
  ·
   refine KBlock_h (KSeq_n (WC_seq (WC_region ?_)))
   refine WO_step rfl (S_pure rfl ?_)
   refine WO_nil (KSeq_n (WC_ret ?_))
   refine KFn_r (ResL.tmp rfl ResL.nil) ?_
   exact ⟨_, HSub.refl, rfl, by rw [hm]; rfl⟩
end Go.Proofs.YtpnmeednimpjdaaGreat.AM
namespace Go.Proofs.YtpnmeednimpjdaaGreat.AM
open Go
set_option linter.unusedSimpArgs false
set_option linter.unusedVariables false
set_option maxRecDepth 4000
set_option linter.unusedSectionVars false
variable {X : Exts} [HX X]
theorem and127 : ∀ b : Fin 256, (BitVec.ofInt 8 ((b.val : Nat) : Int) &&& BitVec.ofInt 8 127).toNat = b.val % 128 := by decide
theorem S_and127 {l : SE} {H : SH} {K : Value → SH → Prop} {x : Opd} {a : Nat} (hx : x.lv l = some (.int .u8 (a : Int))) (ha : a < 256) (k : K (.int .u8 ((a % 128 : Nat) : Int)) H) : Step (.bin .and x (.const (.int .u8 127))) l H K :=
  S_pureE (v := .int .u8 (IntKind.wrap .u8 ((BitVec.ofInt 8 (a : Int) &&& BitVec.ofInt 8 127).toNat : Int))) (by
    have h2 : (Opd.const (.int .u8 127)).lv l = some (.int .u8 127) := rfl
    simp only [pev, hx, h2, binV, intBin, if_true]; rfl) (by
    rw [and127 ⟨a, ha⟩, wrap_u8 (by omega) (by simp only []; omega)]) k
def getR : List UInt8 → Nat → Nat → Int × Nat × Nat
  | [], _, _ => (0, 0, 2)
  | c :: L, i, u => if i = 9 ∧ 1 < c.toNat ∨ 0 < i ∧ c.toNat = 0 then (0, 0, 1) else if c.toNat < 128 then (unzz (u + c.toNat % 128 * 2 ^ (7 * i)), i + 1, 0) else getR L (i + 1) (u + c.toNat % 128 * 2 ^ (7 * i))
def get (bs : List UInt8) : Int × Nat × Nat := getR bs 0 0
def getV (p : Int × Nat × Nat) : Value := .tuple #[.int .i64 p.1, .int .i64 p.2.1, .int .i64 p.2.2]
theorem getV_mk (n : Int) (k e : Nat) : getV (n, k, e) = .tuple #[.int .i64 n, .int .i64 k, .int .i64 e] := rfl
theorem pow_top {i c : Nat} (hi : i ≤ 9) (hc : c < 128) (h9 : i = 9 → c ≤ 1) : c * 2 ^ (7 * i) + 2 ^ (7 * i) ≤ 18446744073709551616 := by
  have : i = 0 ∨ i = 1 ∨ i = 2 ∨ i = 3 ∨ i = 4 ∨ i = 5 ∨ i = 6 ∨ i = 7 ∨ i = 8 ∨ i = 9 := by omega
  rcases this with rfl | rfl | rfl | rfl | rfl | rfl | rfl | rfl | rfl | rfl <;> simp at h9 ⊢ <;> omega
theorem pow_next {i c : Nat} (hc : c < 128) : c * 2 ^ (7 * i) + 2 ^ (7 * i) ≤ 2 ^ (7 * (i + 1)) := by
  have h := Nat.mul_le_mul_right (2 ^ (7 * i)) (show c + 1 ≤ 128 by omega)
  rw [Nat.succ_mul] at h
  rw [show 7 * (i + 1) = 7 + 7 * i by omega, Nat.pow_add]
  exact h
theorem getR_le : ∀ (L : List UInt8) (i u : Nat), (getR L i u).2.1 ≤ i + L.length
  | [], i, u => by simp [getR]
  | c :: L, i, u => by
    unfold getR
    split
    · simp
    · split
      · simp
      · have := getR_le L (i + 1) (u + c.toNat % 128 * 2 ^ (7 * i)); simp only [List.length_cons]; omega
theorem get_le (bs : List UInt8) : (get bs).2.1 ≤ bs.length := by have := getR_le bs 0 0; unfold get; omega
theorem lp_nGet {H : SH} {v : Value} {bs : List UInt8} (hv : RD H v TByte bs) (hl : bs.length ≤ 1000000) : ∀ (n i u : Nat), bs.length - i = n → i ≤ bs.length → i ≤ 9 → u < 2 ^ (7 * i) → getR (bs.drop i) i u = get bs →
    WC F X (.loop L_num_Get_0) [(11, .int .i64 i), (10, .int .i64 bs.length), (9, v), (5, .int .u64 u)] H
      (KPost fun x l' H' => H' = H ∧ ((x = .ret ∧ l' = [(2, .int .i64 (get bs).1), (3, .int .i64 (get bs).2.1), (4, .int .i64 (get bs).2.2)]) ∨ (x = .exit 0 ∧ l' = [] ∧ get bs = (0, 0, 2)))) := by
  intro n
  induction n using Nat.strongRecOn with
  | _ n ih =>
    intro i u hn hi h9 hu ha
    refine WC_loop (WC_seq (WC_region ?_))
    refine WO_step rfl (S_pure rfl ?_)
    refine WO_nil (KSeq_n (WC_seq ?_))
    refine WC_cond rfl (fun hb1 => ?_) (fun hb1 => ?_)
    ·
     try simp only [bsT] at hb1
     obtain ⟨b, hx⟩ := get_of_lt hb1
     have hb256 := UInt8.toNat_lt b
     have hnx := pow_next (i := i) (c := b.toNat % 128) (by omega)
     have htp := pow_top (i := i) (c := b.toNat % 128) h9 (by omega)
     obtain ⟨U, hU⟩ : ∃ U, U = u + b.toNat % 128 * 2 ^ (7 * i) := ⟨_, rfl⟩
     rw [drop_get hx] at ha
     simp only [getR, ← hU] at ha
     refine WC_skip (KSeq_n (WC_seq (WC_block (WC_seq (WC_region ?_)))))
     refine WO_step rfl (S_pure rfl ?_)
     refine WO_step rfl (S_idx rfl rfl rdA (by first | rfl | assumption | (symm; assumption)) (by rfl) (by first | assumption | omega | exact lt_of_get (by assumption) | (simp only [List.length_set]; first | assumption | omega | exact lt_of_get (by assumption))) fun hp14 => ?_)
     refine WO_step rfl (S_loadE rfl rdA (by first | rfl | assumption | (symm; assumption)) (by first | rfl | assumption | (symm; assumption)) (by first | rfl | assumption | (symm; assumption)) (by assumption) ?_)
     iterate 2 refine WO_step rfl (S_pure rfl ?_)
     refine WO_nil (KSeq_n (WC_seq (WC_seq (WC_region ?_))))
     refine WO_step rfl (S_pure rfl ?_)
     first | refine WO_step rfl (S_eqS rfl rfl ?_) | refine WO_step rfl (S_pure rfl ?_)
     refine WO_step rfl (S_pure rfl ?_)
     refine WO_cases (t := 18) rfl (fun hg1 => ?_) (fun hg1 => ?_)
     ·
      try simp only [bsT] at hg1
      iterate 3 refine WO_step rfl (S_pure rfl ?_)
      refine WO_nil (KSeq_n ?_)
      refine WC_cond rfl (fun hb2 => ?_) (fun hb2 => ?_)
      ·
       try simp only [bsT] at hb2
       refine WC_seq (WC_region ?_)
       iterate 3 refine WO_step rfl (S_pure rfl ?_)
       refine WO_nil (KSeq_n (WC_ret (KSeq_r (KBlock_r (KSeq_r (KLoop_r ?_))))))
       first
         | (exfalso; omega)
         | (rw [if_pos (by omega)] at ha
            exact KPost_i (by rw [← ha]; exact seA) hsA ⟨rfl, .inl ⟨rfl, rfl⟩⟩)
         | (rw [if_neg (by omega), if_pos (by omega)] at ha
            exact KPost_i (by rw [← ha]; unfold unzz; first | (rw [if_pos (by omega)]; exact seA) | (rw [if_neg (by omega)]; exact seA)) hsA ⟨rfl, .inl ⟨rfl, rfl⟩⟩)
         | (rw [List.drop_of_length_le (by omega)] at ha
            exact KPost_i (l' := []) seA hsA ⟨rfl, .inr ⟨rfl, rfl, ha.symm⟩⟩)
      ·
       try simp only [bsT] at hb2
       refine WC_skip (KSeq_n (WC_seq (WC_region ?_)))
       iterate 2 refine WO_step rfl (S_pure rfl ?_)
       refine WO_step rfl (S_and127 rfl hb256 ?_)
       first | refine WO_step rfl (S_toU rfl (by omega) ?_) | refine WO_step rfl (S_pure rfl ?_)
       refine WO_step rfl (S_pure rfl ?_)
       first | refine WO_step rfl (S_mulN (a := 7) rfl rfl (by omega) ?_) | refine WO_step rfl (S_pure rfl ?_)
       refine WO_step rfl (S_shlU rfl rfl (by omega) (by have := htp (by omega); omega) ?_)
       refine WO_step rfl (S_orU rfl rfl hu hU (by have := htp (by omega); omega) ?_)
       have hU64 : U < 18446744073709551616 := by have := htp (by omega); omega
       refine WO_step rfl (S_pure rfl ?_)
       refine WO_nil (KSeq_n (WC_seq (WC_seq (WC_region ?_))))
       iterate 2 refine WO_step rfl (S_pure rfl ?_)
       refine WO_nil (KSeq_n ?_)
       refine WC_cond rfl (fun hb3 => ?_) (fun hb3 => ?_)
       ·
        try simp only [bsT] at hb3
        refine WC_exit (KSeq_x (KBlock_h (KSeq_n (WC_region ?_))))
        first | refine WO_step rfl (S_addN (b := 1) rfl rfl (by omega) ?_) | refine WO_step rfl (S_pure rfl ?_)
        refine WO_step rfl (S_pure rfl ?_)
        refine WO_nil (KLoop_n ?_)
        rw [if_neg (by omega), if_neg (by omega)] at ha
        exact WC_weak (ih (bs.length - (i + 1)) (by omega) (i + 1) U rfl (by omega) (by omega) (by omega) ha) seA hsA
       ·
        try simp only [bsT] at hb3
        refine WC_skip (KSeq_n (WC_seq (WC_seq (WC_region ?_))))
        iterate 3 refine WO_step rfl (S_pure rfl ?_)
        refine WO_cases (t := 34) rfl (fun hg2 => ?_) (fun hg2 => ?_)
        ·
         try simp only [bsT] at hg2
         refine WO_step rfl (S_pure rfl ?_)
         first | refine WO_step rfl (S_eqS rfl rfl ?_) | refine WO_step rfl (S_pure rfl ?_)
         refine WO_step rfl (S_pure rfl ?_)
         refine WO_nil (KSeq_n ?_)
         refine WC_cond rfl (fun hb4 => ?_) (fun hb4 => ?_)
         ·
          try simp only [bsT] at hb4
          refine WC_seq (WC_region ?_)
          iterate 3 refine WO_step rfl (S_pure rfl ?_)
          refine WO_nil (KSeq_n (WC_ret (KSeq_r (KBlock_r (KSeq_r (KLoop_r ?_))))))
          first
            | (exfalso; omega)
            | (rw [if_pos (by omega)] at ha
               exact KPost_i (by rw [← ha]; exact seA) hsA ⟨rfl, .inl ⟨rfl, rfl⟩⟩)
            | (rw [if_neg (by omega), if_pos (by omega)] at ha
               exact KPost_i (by rw [← ha]; unfold unzz; first | (rw [if_pos (by omega)]; exact seA) | (rw [if_neg (by omega)]; exact seA)) hsA ⟨rfl, .inl ⟨rfl, rfl⟩⟩)
            | (rw [List.drop_of_length_le (by omega)] at ha
               exact KPost_i (l' := []) seA hsA ⟨rfl, .inr ⟨rfl, rfl, ha.symm⟩⟩)
         ·
          try simp only [bsT] at hb4
          refine WC_skip (KSeq_n (WC_seq (WC_region ?_)))
          refine WO_step rfl (S_pure rfl ?_)
          first | refine WO_step rfl (S_half rfl (by omega) ?_) | refine WO_step rfl (S_pure rfl ?_)
          first | refine WO_step rfl (S_toI rfl (by omega) ?_) | refine WO_step rfl (S_pure rfl ?_)
          refine WO_step rfl (S_pure rfl ?_)
          refine WO_nil (KSeq_n (WC_seq (WC_seq (WC_region ?_))))
          refine WO_step rfl (S_pure rfl ?_)
          refine WO_step rfl (S_and1 rfl hU64 ?_)
          first | refine WO_step rfl (S_eqS rfl rfl ?_) | refine WO_step rfl (S_pure rfl ?_)
          refine WO_nil (KSeq_n ?_)
          refine WC_cond rfl (fun hb5 => ?_) (fun hb5 => ?_)
          ·
           try simp only [bsT] at hb5
           refine WC_region ?_
           refine WO_step rfl (S_pure rfl ?_)
           refine WO_step rfl (S_notI rfl (by omega) ?_)
           refine WO_step rfl (S_pure rfl ?_)
           refine WO_nil (KSeq_n (WC_seq (WC_region ?_)))
           iterate 2 refine WO_step rfl (S_pure rfl ?_)
           first | refine WO_step rfl (S_addN (b := 1) rfl rfl (by omega) ?_) | refine WO_step rfl (S_pure rfl ?_)
           iterate 3 refine WO_step rfl (S_pure rfl ?_)
           refine WO_nil (KSeq_n (WC_ret (KBlock_r (KSeq_r (KLoop_r ?_)))))
           first
             | (exfalso; omega)
             | (rw [if_pos (by omega)] at ha
                exact KPost_i (by rw [← ha]; exact seA) hsA ⟨rfl, .inl ⟨rfl, rfl⟩⟩)
             | (rw [if_neg (by omega), if_pos (by omega)] at ha
                exact KPost_i (by rw [← ha]; unfold unzz; first | (rw [if_pos (by omega)]; exact seA) | (rw [if_neg (by omega)]; exact seA)) hsA ⟨rfl, .inl ⟨rfl, rfl⟩⟩)
             | (rw [List.drop_of_length_le (by omega)] at ha
                exact KPost_i (l' := []) seA hsA ⟨rfl, .inr ⟨rfl, rfl, ha.symm⟩⟩)
          ·
           try simp only [bsT] at hb5
           refine WC_skip (KSeq_n (WC_seq (WC_region ?_)))
           iterate 2 refine WO_step rfl (S_pure rfl ?_)
           first | refine WO_step rfl (S_addN (b := 1) rfl rfl (by omega) ?_) | refine WO_step rfl (S_pure rfl ?_)
           iterate 3 refine WO_step rfl (S_pure rfl ?_)
           refine WO_nil (KSeq_n (WC_ret (KBlock_r (KSeq_r (KLoop_r ?_)))))
           first
             | (exfalso; omega)
             | (rw [if_pos (by omega)] at ha
                exact KPost_i (by rw [← ha]; exact seA) hsA ⟨rfl, .inl ⟨rfl, rfl⟩⟩)
             | (rw [if_neg (by omega), if_pos (by omega)] at ha
                exact KPost_i (by rw [← ha]; unfold unzz; first | (rw [if_pos (by omega)]; exact seA) | (rw [if_neg (by omega)]; exact seA)) hsA ⟨rfl, .inl ⟨rfl, rfl⟩⟩)
             | (rw [List.drop_of_length_le (by omega)] at ha
                exact KPost_i (l' := []) seA hsA ⟨rfl, .inr ⟨rfl, rfl, ha.symm⟩⟩)
        ·
         try simp only [bsT] at hg2
         iterate 2 refine WO_off rfl ?_
         refine WO_step rfl (S_pure rfl ?_)
         refine WO_nil (KSeq_n ?_)
         refine WC_cond rfl (fun h => ?_) (fun _ => ?_)
         · exact absurd h (by decide)
         refine WC_skip (KSeq_n (WC_seq (WC_region ?_)))
         refine WO_step rfl (S_pure rfl ?_)
         first | refine WO_step rfl (S_half rfl (by omega) ?_) | refine WO_step rfl (S_pure rfl ?_)
         first | refine WO_step rfl (S_toI rfl (by omega) ?_) | refine WO_step rfl (S_pure rfl ?_)
         refine WO_step rfl (S_pure rfl ?_)
         refine WO_nil (KSeq_n (WC_seq (WC_seq (WC_region ?_))))
         refine WO_step rfl (S_pure rfl ?_)
         refine WO_step rfl (S_and1 rfl hU64 ?_)
         first | refine WO_step rfl (S_eqS rfl rfl ?_) | refine WO_step rfl (S_pure rfl ?_)
         refine WO_nil (KSeq_n ?_)
         refine WC_cond rfl (fun hb6 => ?_) (fun hb6 => ?_)
         ·
          try simp only [bsT] at hb6
          refine WC_region ?_
          refine WO_step rfl (S_pure rfl ?_)
          refine WO_step rfl (S_notI rfl (by omega) ?_)
          refine WO_step rfl (S_pure rfl ?_)
          refine WO_nil (KSeq_n (WC_seq (WC_region ?_)))
          iterate 2 refine WO_step rfl (S_pure rfl ?_)
          first | refine WO_step rfl (S_addN (b := 1) rfl rfl (by omega) ?_) | refine WO_step rfl (S_pure rfl ?_)
          iterate 3 refine WO_step rfl (S_pure rfl ?_)
          refine WO_nil (KSeq_n (WC_ret (KBlock_r (KSeq_r (KLoop_r ?_)))))
          first
            | (exfalso; omega)
            | (rw [if_pos (by omega)] at ha
               exact KPost_i (by rw [← ha]; exact seA) hsA ⟨rfl, .inl ⟨rfl, rfl⟩⟩)
            | (rw [if_neg (by omega), if_pos (by omega)] at ha
               exact KPost_i (by rw [← ha]; unfold unzz; first | (rw [if_pos (by omega)]; exact seA) | (rw [if_neg (by omega)]; exact seA)) hsA ⟨rfl, .inl ⟨rfl, rfl⟩⟩)
            | (rw [List.drop_of_length_le (by omega)] at ha
               exact KPost_i (l' := []) seA hsA ⟨rfl, .inr ⟨rfl, rfl, ha.symm⟩⟩)
         ·
          try simp only [bsT] at hb6
          refine WC_skip (KSeq_n (WC_seq (WC_region ?_)))
          iterate 2 refine WO_step rfl (S_pure rfl ?_)
          first | refine WO_step rfl (S_addN (b := 1) rfl rfl (by omega) ?_) | refine WO_step rfl (S_pure rfl ?_)
          iterate 3 refine WO_step rfl (S_pure rfl ?_)
          refine WO_nil (KSeq_n (WC_ret (KBlock_r (KSeq_r (KLoop_r ?_)))))
          first
            | (exfalso; omega)
            | (rw [if_pos (by omega)] at ha
               exact KPost_i (by rw [← ha]; exact seA) hsA ⟨rfl, .inl ⟨rfl, rfl⟩⟩)
            | (rw [if_neg (by omega), if_pos (by omega)] at ha
               exact KPost_i (by rw [← ha]; unfold unzz; first | (rw [if_pos (by omega)]; exact seA) | (rw [if_neg (by omega)]; exact seA)) hsA ⟨rfl, .inl ⟨rfl, rfl⟩⟩)
            | (rw [List.drop_of_length_le (by omega)] at ha
               exact KPost_i (l' := []) seA hsA ⟨rfl, .inr ⟨rfl, rfl, ha.symm⟩⟩)
     ·
      try simp only [bsT] at hg1
      iterate 2 refine WO_off rfl ?_
      refine WO_step rfl (S_pure rfl ?_)
      refine WO_nil (KSeq_n ?_)
      refine WC_cond rfl (fun h => ?_) (fun _ => ?_)
      · exact absurd h (by decide)
      refine WC_skip (KSeq_n (WC_seq (WC_region ?_)))
      iterate 2 refine WO_step rfl (S_pure rfl ?_)
      refine WO_step rfl (S_and127 rfl hb256 ?_)
      first | refine WO_step rfl (S_toU rfl (by omega) ?_) | refine WO_step rfl (S_pure rfl ?_)
      refine WO_step rfl (S_pure rfl ?_)
      first | refine WO_step rfl (S_mulN (a := 7) rfl rfl (by omega) ?_) | refine WO_step rfl (S_pure rfl ?_)
      refine WO_step rfl (S_shlU rfl rfl (by omega) (by have := htp (by omega); omega) ?_)
      refine WO_step rfl (S_orU rfl rfl hu hU (by have := htp (by omega); omega) ?_)
      have hU64 : U < 18446744073709551616 := by have := htp (by omega); omega
      refine WO_step rfl (S_pure rfl ?_)
      refine WO_nil (KSeq_n (WC_seq (WC_seq (WC_region ?_))))
      iterate 2 refine WO_step rfl (S_pure rfl ?_)
      refine WO_nil (KSeq_n ?_)
      refine WC_cond rfl (fun hb7 => ?_) (fun hb7 => ?_)
      ·
       try simp only [bsT] at hb7
       refine WC_exit (KSeq_x (KBlock_h (KSeq_n (WC_region ?_))))
       first | refine WO_step rfl (S_addN (b := 1) rfl rfl (by omega) ?_) | refine WO_step rfl (S_pure rfl ?_)
       refine WO_step rfl (S_pure rfl ?_)
       refine WO_nil (KLoop_n ?_)
       rw [if_neg (by omega), if_neg (by omega)] at ha
       exact WC_weak (ih (bs.length - (i + 1)) (by omega) (i + 1) U rfl (by omega) (by omega) (by omega) ha) seA hsA
      ·
       try simp only [bsT] at hb7
       refine WC_skip (KSeq_n (WC_seq (WC_seq (WC_region ?_))))
       iterate 3 refine WO_step rfl (S_pure rfl ?_)
       refine WO_cases (t := 34) rfl (fun hg3 => ?_) (fun hg3 => ?_)
       ·
        try simp only [bsT] at hg3
        refine WO_step rfl (S_pure rfl ?_)
        first | refine WO_step rfl (S_eqS rfl rfl ?_) | refine WO_step rfl (S_pure rfl ?_)
        refine WO_step rfl (S_pure rfl ?_)
        refine WO_nil (KSeq_n ?_)
        refine WC_cond rfl (fun hb8 => ?_) (fun hb8 => ?_)
        ·
         try simp only [bsT] at hb8
         refine WC_seq (WC_region ?_)
         iterate 3 refine WO_step rfl (S_pure rfl ?_)
         refine WO_nil (KSeq_n (WC_ret (KSeq_r (KBlock_r (KSeq_r (KLoop_r ?_))))))
         first
           | (exfalso; omega)
           | (rw [if_pos (by omega)] at ha
              exact KPost_i (by rw [← ha]; exact seA) hsA ⟨rfl, .inl ⟨rfl, rfl⟩⟩)
           | (rw [if_neg (by omega), if_pos (by omega)] at ha
              exact KPost_i (by rw [← ha]; unfold unzz; first | (rw [if_pos (by omega)]; exact seA) | (rw [if_neg (by omega)]; exact seA)) hsA ⟨rfl, .inl ⟨rfl, rfl⟩⟩)
           | (rw [List.drop_of_length_le (by omega)] at ha
              exact KPost_i (l' := []) seA hsA ⟨rfl, .inr ⟨rfl, rfl, ha.symm⟩⟩)
        ·
         try simp only [bsT] at hb8
         refine WC_skip (KSeq_n (WC_seq (WC_region ?_)))
         refine WO_step rfl (S_pure rfl ?_)
         first | refine WO_step rfl (S_half rfl (by omega) ?_) | refine WO_step rfl (S_pure rfl ?_)
         first | refine WO_step rfl (S_toI rfl (by omega) ?_) | refine WO_step rfl (S_pure rfl ?_)
         refine WO_step rfl (S_pure rfl ?_)
         refine WO_nil (KSeq_n (WC_seq (WC_seq (WC_region ?_))))
         refine WO_step rfl (S_pure rfl ?_)
         refine WO_step rfl (S_and1 rfl hU64 ?_)
         first | refine WO_step rfl (S_eqS rfl rfl ?_) | refine WO_step rfl (S_pure rfl ?_)
         refine WO_nil (KSeq_n ?_)
         refine WC_cond rfl (fun hb9 => ?_) (fun hb9 => ?_)
         ·
          try simp only [bsT] at hb9
          refine WC_region ?_
          refine WO_step rfl (S_pure rfl ?_)
          refine WO_step rfl (S_notI rfl (by omega) ?_)
          refine WO_step rfl (S_pure rfl ?_)
          refine WO_nil (KSeq_n (WC_seq (WC_region ?_)))
          iterate 2 refine WO_step rfl (S_pure rfl ?_)
          first | refine WO_step rfl (S_addN (b := 1) rfl rfl (by omega) ?_) | refine WO_step rfl (S_pure rfl ?_)
          iterate 3 refine WO_step rfl (S_pure rfl ?_)
          refine WO_nil (KSeq_n (WC_ret (KBlock_r (KSeq_r (KLoop_r ?_)))))
          first
            | (exfalso; omega)
            | (rw [if_pos (by omega)] at ha
               exact KPost_i (by rw [← ha]; exact seA) hsA ⟨rfl, .inl ⟨rfl, rfl⟩⟩)
            | (rw [if_neg (by omega), if_pos (by omega)] at ha
               exact KPost_i (by rw [← ha]; unfold unzz; first | (rw [if_pos (by omega)]; exact seA) | (rw [if_neg (by omega)]; exact seA)) hsA ⟨rfl, .inl ⟨rfl, rfl⟩⟩)
            | (rw [List.drop_of_length_le (by omega)] at ha
               exact KPost_i (l' := []) seA hsA ⟨rfl, .inr ⟨rfl, rfl, ha.symm⟩⟩)
         ·
          try simp only [bsT] at hb9
          refine WC_skip (KSeq_n (WC_seq (WC_region ?_)))
          iterate 2 refine WO_step rfl (S_pure rfl ?_)
          first | refine WO_step rfl (S_addN (b := 1) rfl rfl (by omega) ?_) | refine WO_step rfl (S_pure rfl ?_)
          iterate 3 refine WO_step rfl (S_pure rfl ?_)
          refine WO_nil (KSeq_n (WC_ret (KBlock_r (KSeq_r (KLoop_r ?_)))))
          first
            | (exfalso; omega)
            | (rw [if_pos (by omega)] at ha
               exact KPost_i (by rw [← ha]; exact seA) hsA ⟨rfl, .inl ⟨rfl, rfl⟩⟩)
            | (rw [if_neg (by omega), if_pos (by omega)] at ha
               exact KPost_i (by rw [← ha]; unfold unzz; first | (rw [if_pos (by omega)]; exact seA) | (rw [if_neg (by omega)]; exact seA)) hsA ⟨rfl, .inl ⟨rfl, rfl⟩⟩)
            | (rw [List.drop_of_length_le (by omega)] at ha
               exact KPost_i (l' := []) seA hsA ⟨rfl, .inr ⟨rfl, rfl, ha.symm⟩⟩)
       ·
        try simp only [bsT] at hg3
        iterate 2 refine WO_off rfl ?_
        refine WO_step rfl (S_pure rfl ?_)
        refine WO_nil (KSeq_n ?_)
        refine WC_cond rfl (fun h => ?_) (fun _ => ?_)
        · exact absurd h (by decide)
        refine WC_skip (KSeq_n (WC_seq (WC_region ?_)))
        refine WO_step rfl (S_pure rfl ?_)
        first | refine WO_step rfl (S_half rfl (by omega) ?_) | refine WO_step rfl (S_pure rfl ?_)
        first | refine WO_step rfl (S_toI rfl (by omega) ?_) | refine WO_step rfl (S_pure rfl ?_)
        refine WO_step rfl (S_pure rfl ?_)
        refine WO_nil (KSeq_n (WC_seq (WC_seq (WC_region ?_))))
        refine WO_step rfl (S_pure rfl ?_)
        refine WO_step rfl (S_and1 rfl hU64 ?_)
        first | refine WO_step rfl (S_eqS rfl rfl ?_) | refine WO_step rfl (S_pure rfl ?_)
        refine WO_nil (KSeq_n ?_)
        refine WC_cond rfl (fun hb10 => ?_) (fun hb10 => ?_)
        ·
         try simp only [bsT] at hb10
         refine WC_region ?_
         refine WO_step rfl (S_pure rfl ?_)
         refine WO_step rfl (S_notI rfl (by omega) ?_)
         refine WO_step rfl (S_pure rfl ?_)
         refine WO_nil (KSeq_n (WC_seq (WC_region ?_)))
         iterate 2 refine WO_step rfl (S_pure rfl ?_)
         first | refine WO_step rfl (S_addN (b := 1) rfl rfl (by omega) ?_) | refine WO_step rfl (S_pure rfl ?_)
         iterate 3 refine WO_step rfl (S_pure rfl ?_)
         refine WO_nil (KSeq_n (WC_ret (KBlock_r (KSeq_r (KLoop_r ?_)))))
         first
           | (exfalso; omega)
           | (rw [if_pos (by omega)] at ha
              exact KPost_i (by rw [← ha]; exact seA) hsA ⟨rfl, .inl ⟨rfl, rfl⟩⟩)
           | (rw [if_neg (by omega), if_pos (by omega)] at ha
              exact KPost_i (by rw [← ha]; unfold unzz; first | (rw [if_pos (by omega)]; exact seA) | (rw [if_neg (by omega)]; exact seA)) hsA ⟨rfl, .inl ⟨rfl, rfl⟩⟩)
           | (rw [List.drop_of_length_le (by omega)] at ha
              exact KPost_i (l' := []) seA hsA ⟨rfl, .inr ⟨rfl, rfl, ha.symm⟩⟩)
        ·
         try simp only [bsT] at hb10
         refine WC_skip (KSeq_n (WC_seq (WC_region ?_)))
         iterate 2 refine WO_step rfl (S_pure rfl ?_)
         first | refine WO_step rfl (S_addN (b := 1) rfl rfl (by omega) ?_) | refine WO_step rfl (S_pure rfl ?_)
         iterate 3 refine WO_step rfl (S_pure rfl ?_)
         refine WO_nil (KSeq_n (WC_ret (KBlock_r (KSeq_r (KLoop_r ?_)))))
         first
           | (exfalso; omega)
           | (rw [if_pos (by omega)] at ha
              exact KPost_i (by rw [← ha]; exact seA) hsA ⟨rfl, .inl ⟨rfl, rfl⟩⟩)
           | (rw [if_neg (by omega), if_pos (by omega)] at ha
              exact KPost_i (by rw [← ha]; unfold unzz; first | (rw [if_pos (by omega)]; exact seA) | (rw [if_neg (by omega)]; exact seA)) hsA ⟨rfl, .inl ⟨rfl, rfl⟩⟩)
           | (rw [List.drop_of_length_le (by omega)] at ha
              exact KPost_i (l' := []) seA hsA ⟨rfl, .inr ⟨rfl, rfl, ha.symm⟩⟩)
    ·
     try simp only [bsT] at hb1
     refine WC_exit (KSeq_x (KLoop_x ?_))
     first
       | (exfalso; omega)
       | (rw [if_pos (by omega)] at ha
          exact KPost_i (by rw [← ha]; exact seA) hsA ⟨rfl, .inl ⟨rfl, rfl⟩⟩)
       | (rw [if_neg (by omega), if_pos (by omega)] at ha
          exact KPost_i (by rw [← ha]; unfold unzz; first | (rw [if_pos (by omega)]; exact seA) | (rw [if_neg (by omega)]; exact seA)) hsA ⟨rfl, .inl ⟨rfl, rfl⟩⟩)
       | (rw [List.drop_of_length_le (by omega)] at ha
          exact KPost_i (l' := []) seA hsA ⟨rfl, .inr ⟨rfl, rfl, ha.symm⟩⟩)
theorem sp_nGet {H : SH} {v : Value} {bs : List UInt8} (hv : RD H v TByte bs) (hl : bs.length ≤ 1000000) : WF F X f_num_Get [v] H (fun r H' => H' = H ∧ r = getV (get bs)) := by
  refine WF_fn F_num_Get ?_
  refine WC_seq (WC_region ?_)
  iterate 3 refine WO_step rfl (S_pure rfl ?_)
  refine WO_nil (KSeq_n (WC_seq (WC_region ?_)))
  refine WO_step rfl (S_pure rfl ?_)
  refine WO_nil (KSeq_n (WC_seq (WC_seq (WC_region ?_))))
  refine WO_step rfl (S_pure rfl ?_)
  first | refine WO_step rfl (S_pure rfl ?_) | refine WO_step rfl (S_lenS rfl rdA ?_)
  refine WO_step rfl (S_pure rfl ?_)
  refine WO_nil (KSeq_n (WC_block ?_))
  refine WC_post (WC_weak (lp_nGet hv hl bs.length 0 0 (by omega) (by omega) (by omega) (by decide) rfl) seA HSub.refl) ?_
  rintro x l' H' ⟨rfl, ⟨rfl, rfl⟩ | ⟨rfl, rfl, h0⟩⟩
  ·
   refine KBlock_r (KSeq_r ?_)
   refine KFn_r (ResL.tmp rfl (ResL.tmp rfl (ResL.tmp rfl ResL.nil))) ?_
   exact ⟨_, hsA, rfl, rfl⟩
  ·
   refine KBlock_h (KSeq_n (WC_seq (WC_region ?_)))
   iterate 3 refine WO_step rfl (S_pure rfl ?_)
   refine WO_nil (KSeq_n (WC_ret ?_))
   refine KFn_r (ResL.tmp rfl (ResL.tmp rfl (ResL.tmp rfl ResL.nil))) ?_
   exact ⟨_, hsA, rfl, by rw [h0]; rfl⟩
def getT (bs : List UInt8) : ByteArray × Nat × Nat := match get bs with
  | (n, k, e) => if e ≠ 0 then (es0, 0, e) else if n < 0 ∨ 65536 < n then (es0, 0, 1) else if ((bs.length : Int) - k) < n then (es0, 0, 2) else (⟨((bs.drop k).take n.toNat).toArray⟩, k + n.toNat, 0)
def getTV (p : ByteArray × Nat × Nat) : Value := .tuple #[.string p.1, .int .i64 p.2.1, .int .i64 p.2.2]
theorem sp_nGetText {H : SH} {v : Value} {bs : List UInt8} (hv : RD H v TByte bs) (hl : bs.length ≤ 1000000) : WF F X f_num_GetText [v] H (fun r H' => H' = H ∧ r = getTV (getT bs)) := by
  have hgl := get_le bs
  refine WF_fn F_num_GetText ?_
  refine WC_seq (WC_region ?_)
  iterate 3 refine WO_step rfl (S_pure rfl ?_)
  refine WO_nil (KSeq_n (WC_seq (WC_region ?_)))
  refine WO_step rfl (S_pure rfl ?_)
  refine WO_call rfl rfl rfl ?_
  refine (sp_nGet hv hl).mono ?_
  rintro _ _ ⟨rfl, rfl⟩
  have hT : getT bs = getT bs := rfl
  conv at hT => rhs; unfold getT
  generalize get bs = p at *
  obtain ⟨n, k, e⟩ := p
  rw [getV_mk]
  simp only [] at hT hgl
  iterate 7 refine WO_step rfl (S_pure rfl ?_)
  refine WO_nil (KSeq_n (WC_seq (WC_block (WC_seq (WC_region ?_)))))
  refine WO_step rfl (S_pure rfl ?_)
  first | refine WO_step rfl (S_neS rfl rfl ?_) | refine WO_step rfl (S_pure rfl ?_)
  refine WO_step rfl (S_pure rfl ?_)
  refine WO_nil (KSeq_n ?_)
  refine WC_cond rfl (fun hb1 => ?_) (fun hb1 => ?_)
  ·
   try simp only [bsT] at hb1
   refine WC_seq (WC_region ?_)
   iterate 4 refine WO_step rfl (S_pure rfl ?_)
   refine WO_nil (KSeq_n (WC_ret (KBlock_r (KSeq_r ?_))))
   refine KFn_r (ResL.tmp rfl (ResL.tmp rfl (ResL.tmp rfl ResL.nil))) ?_
   first
     | (exfalso; omega)
     | (rw [if_pos (by omega)] at hT
        exact ⟨_, hsA, rfl, by rw [hT]; rfl⟩)
     | (rw [if_neg (by omega), if_pos (by omega)] at hT
        exact ⟨_, hsA, rfl, by rw [hT]; rfl⟩)
     | (rw [if_neg (by omega), if_neg (by omega), if_pos (by omega)] at hT
        exact ⟨_, hsA, rfl, by rw [hT]; rfl⟩)
     | (rw [if_neg (by omega), if_neg (by omega), if_neg (by omega)] at hT
        exact ⟨_, hsA, rfl, by rw [hT, show k + m - k = m by omega]; rfl⟩)
  ·
   try simp only [bsT] at hb1
   have he0 : e = 0 := by simpa using hb1
   refine WC_seq (WC_region ?_)
   iterate 3 refine WO_step rfl (S_pure rfl ?_)
   refine WO_cases (t := 21) rfl (fun hg1 => ?_) (fun hg1 => ?_)
   ·
    try simp only [bsT] at hg1
    iterate 2 refine WO_off rfl ?_
    iterate 2 refine WO_step rfl (S_pure rfl ?_)
    refine WO_nil (KSeq_n ?_)
    refine WC_cond rfl (fun _ => ?_) (fun h => ?_)
    rotate_left
    · exact absurd h (by decide)
    refine WC_seq (WC_region ?_)
    iterate 3 refine WO_step rfl (S_pure rfl ?_)
    refine WO_nil (KSeq_n (WC_ret (KBlock_r (KSeq_r ?_))))
    refine KFn_r (ResL.tmp rfl (ResL.tmp rfl (ResL.tmp rfl ResL.nil))) ?_
    first
      | (exfalso; omega)
      | (rw [if_pos (by omega)] at hT
         exact ⟨_, hsA, rfl, by rw [hT]; rfl⟩)
      | (rw [if_neg (by omega), if_pos (by omega)] at hT
         exact ⟨_, hsA, rfl, by rw [hT]; rfl⟩)
      | (rw [if_neg (by omega), if_neg (by omega), if_pos (by omega)] at hT
         exact ⟨_, hsA, rfl, by rw [hT]; rfl⟩)
      | (rw [if_neg (by omega), if_neg (by omega), if_neg (by omega)] at hT
         exact ⟨_, hsA, rfl, by rw [hT, show k + m - k = m by omega]; rfl⟩)
   ·
    try simp only [bsT] at hg1
    iterate 4 refine WO_step rfl (S_pure rfl ?_)
    refine WO_nil (KSeq_n ?_)
    refine WC_cond rfl (fun hb2 => ?_) (fun hb2 => ?_)
    ·
     try simp only [bsT] at hb2
     refine WC_seq (WC_region ?_)
     iterate 3 refine WO_step rfl (S_pure rfl ?_)
     refine WO_nil (KSeq_n (WC_ret (KBlock_r (KSeq_r ?_))))
     refine KFn_r (ResL.tmp rfl (ResL.tmp rfl (ResL.tmp rfl ResL.nil))) ?_
     first
       | (exfalso; omega)
       | (rw [if_pos (by omega)] at hT
          exact ⟨_, hsA, rfl, by rw [hT]; rfl⟩)
       | (rw [if_neg (by omega), if_pos (by omega)] at hT
          exact ⟨_, hsA, rfl, by rw [hT]; rfl⟩)
       | (rw [if_neg (by omega), if_neg (by omega), if_pos (by omega)] at hT
          exact ⟨_, hsA, rfl, by rw [hT]; rfl⟩)
       | (rw [if_neg (by omega), if_neg (by omega), if_neg (by omega)] at hT
          exact ⟨_, hsA, rfl, by rw [hT, show k + m - k = m by omega]; rfl⟩)
    ·
     try simp only [bsT] at hb2
     refine WC_seq (WC_region ?_)
     iterate 2 refine WO_step rfl (S_pure rfl ?_)
     first | refine WO_step rfl (S_pure rfl ?_) | refine WO_step rfl (S_lenS rfl rdA ?_)
     refine WO_step rfl (S_pure rfl ?_)
     refine WO_step rfl (S_pureE rfl (v' := .int .i64 ((bs.length : Int) - k)) ?_ ?_)
     · rw [wrap_i64 (by omega) (by omega)]
     iterate 2 refine WO_step rfl (S_pure rfl ?_)
     refine WO_nil (KSeq_n ?_)
     refine WC_cond rfl (fun hb3 => ?_) (fun hb3 => ?_)
     ·
      try simp only [bsT] at hb3
      refine WC_seq (WC_region ?_)
      iterate 3 refine WO_step rfl (S_pure rfl ?_)
      refine WO_nil (KSeq_n (WC_ret (KBlock_r (KSeq_r ?_))))
      refine KFn_r (ResL.tmp rfl (ResL.tmp rfl (ResL.tmp rfl ResL.nil))) ?_
      first
        | (exfalso; omega)
        | (rw [if_pos (by omega)] at hT
           exact ⟨_, hsA, rfl, by rw [hT]; rfl⟩)
        | (rw [if_neg (by omega), if_pos (by omega)] at hT
           exact ⟨_, hsA, rfl, by rw [hT]; rfl⟩)
        | (rw [if_neg (by omega), if_neg (by omega), if_pos (by omega)] at hT
           exact ⟨_, hsA, rfl, by rw [hT]; rfl⟩)
        | (rw [if_neg (by omega), if_neg (by omega), if_neg (by omega)] at hT
           exact ⟨_, hsA, rfl, by rw [hT, show k + m - k = m by omega]; rfl⟩)
     ·
      try simp only [bsT] at hb3
      refine WC_skip (KBlock_n (KSeq_n (WC_seq (WC_region ?_))))
      iterate 4 refine WO_step rfl (S_pure rfl ?_)
      obtain ⟨m, rfl⟩ : ∃ m : Nat, n = (m : Int) := ⟨n.toNat, by omega⟩
      refine WO_step rfl (S_addN rfl rfl (by omega) ?_)
      have hv37 := hv.subSl (es := 1) (lo := k) (n := k + m - k) rfl (by omega)
      refine WO_step rfl (S_cutV (a := k) (b := k + m) rfl rdA (by rfl) (LB.mk rfl rfl) (LB.mk rfl rfl) LB.dflt (by omega) (by omega) (by omega) ?_)
      refine WO_step rfl (S_strOf rfl rdA (by rfl) (by rfl) ?_)
      iterate 2 refine WO_step rfl (S_pure rfl ?_)
      first | refine WO_step rfl (S_addN rfl rfl (by omega) ?_) | refine WO_step rfl (S_pure rfl ?_)
      iterate 3 refine WO_step rfl (S_pure rfl ?_)
      refine WO_nil (KSeq_n (WC_ret ?_))
      refine KFn_r (ResL.tmp rfl (ResL.tmp rfl (ResL.tmp rfl ResL.nil))) ?_
      first
        | (exfalso; omega)
        | (rw [if_pos (by omega)] at hT
           exact ⟨_, hsA, rfl, by rw [hT]; rfl⟩)
        | (rw [if_neg (by omega), if_pos (by omega)] at hT
           exact ⟨_, hsA, rfl, by rw [hT]; rfl⟩)
        | (rw [if_neg (by omega), if_neg (by omega), if_pos (by omega)] at hT
           exact ⟨_, hsA, rfl, by rw [hT]; rfl⟩)
        | (rw [if_neg (by omega), if_neg (by omega), if_neg (by omega)] at hT
           exact ⟨_, hsA, rfl, by rw [hT, show k + m - k = m by omega]; rfl⟩)
def getVal (bs : List UInt8) : Raw × Nat × Nat := match get bs with
  | (kd, k, e) => if e ≠ 0 then (raw0, 0, e) else
    if kd = 1 then (match get (bs.drop k) with | (n, m, f) => if f ≠ 0 then (raw0, 0, f) else (⟨1, n, es0⟩, k + m, 0))
    else if kd = 2 then (match getT (bs.drop k) with | (s, m, f) => if f ≠ 0 then (raw0, 0, f) else if mayRaw ⟨2, 0, s⟩ then (⟨2, 0, s⟩, k + m, 0) else (raw0, 0, 1))
    else (raw0, 0, 1)
def getRec (bs : List UInt8) : Rec × Nat × Nat := match getT bs with
  | (q, k, e) => if e ≠ 0 then (rec0, 0, e) else if mayKey q = false then (rec0, 0, 1) else match get (bs.drop k) with
    | (kd, m, f) => if f ≠ 0 then (rec0, 0, f) else if kd = 0 then (⟨q, true, raw0⟩, k + m, 0) else match getVal (bs.drop k) with
      | (v, m, f) => if f ≠ 0 then (rec0, 0, f) else (⟨q, false, v⟩, k + m, 0)
theorem getT_le (bs : List UInt8) : (getT bs).2.1 ≤ bs.length := by
  have h := get_le bs
  unfold getT
  generalize get bs = p at *
  obtain ⟨n, k, e⟩ := p
  simp only [] at *
  split
  · simp
  · split
    · simp
    · split
      · simp
      · simp only []; omega
theorem getVal_le (bs : List UInt8) : (getVal bs).2.1 ≤ bs.length := by
  have h := get_le bs
  unfold getVal
  generalize get bs = p at *
  obtain ⟨n, k, e⟩ := p
  have h1 := get_le (bs.drop k)
  have h2 := getT_le (bs.drop k)
  rw [List.length_drop] at h1 h2
  simp only [] at h ⊢
  revert h1 h2
  generalize get (bs.drop k) = p1
  generalize getT (bs.drop k) = p2
  intro h1 h2
  obtain ⟨n1, k1, e1⟩ := p1
  obtain ⟨n2, k2, e2⟩ := p2
  simp only [] at *
  repeat' split
  all_goals (simp only []; omega)
def getValV (p : Raw × Nat × Nat) : Value := .tuple #[TRaw.val p.1, .int .i64 p.2.1, .int .i64 p.2.2]
theorem getValV_mk (r : Raw) (k e : Nat) : getValV (r, k, e) = .tuple #[TRaw.val r, .int .i64 k, .int .i64 e] := rfl
theorem getTV_mk (r : ByteArray) (k e : Nat) : getTV (r, k, e) = .tuple #[.string r, .int .i64 k, .int .i64 e] := rfl
def getRecV (p : Rec × Nat × Nat) : Value := .tuple #[TRec.val p.1, .int .i64 p.2.1, .int .i64 p.2.2]
theorem getRecV_mk (r : Rec) (k e : Nat) : getRecV (r, k, e) = .tuple #[TRec.val r, .int .i64 k, .int .i64 e] := rfl
theorem sp_vGet {H : SH} {v : Value} {bs : List UInt8} (hv : RD H v TByte bs) (hl : bs.length ≤ 1000000) : WF F X f_value_Get [v] H (fun r H' => H' = H ∧ r = getValV (getVal bs)) := by
  have hgl := get_le bs
  refine WF_fn F_value_Get ?_
  refine WC_seq (WC_region ?_)
  refine WO_step rfl (S_new fun i2 => ?_)
  iterate 2 refine WO_step rfl (S_pure rfl ?_)
  refine WO_nil (KSeq_n (WC_seq (WC_region ?_)))
  refine WO_step rfl (S_pure rfl ?_)
  refine WO_call rfl rfl rfl ?_
  refine (sp_nGet rdA hl).mono ?_
  rintro _ _ ⟨rfl, rfl⟩
  have hT : getVal bs = getVal bs := rfl
  conv at hT => rhs; unfold getVal
  generalize get bs = p at *
  obtain ⟨kd, k, e⟩ := p
  rw [getV_mk]
  simp only [] at hT hgl
  have hvd := hv.tailSl (es := 1) (a := k) rfl hgl
  have hdl : (bs.drop k).length = bs.length - k := List.length_drop ..
  have hg2 := get_le (bs.drop k)
  have hg3 := getT_le (bs.drop k)
  iterate 7 refine WO_step rfl (S_pure rfl ?_)
  refine WO_nil (KSeq_n (WC_seq (WC_seq (WC_region ?_))))
  refine WO_step rfl (S_pure rfl ?_)
  first | refine WO_step rfl (S_neS rfl rfl ?_) | refine WO_step rfl (S_pure rfl ?_)
  refine WO_nil (KSeq_n ?_)
  refine WC_cond rfl (fun hb1 => ?_) (fun hb1 => ?_)
  ·
   try simp only [bsT] at hb1
   rw [if_pos (by omega)] at hT
   refine WC_seq (WC_region ?_)
   iterate 2 refine WO_step rfl (S_pure rfl ?_)
   first | refine WO_step rfl (S_storeT rfl rfl pkA (by rfl) (by rfl) ?_) | refine WO_step rfl (S_storeO rfl rfl pkA (by first | rfl | exact SV.cells1 _) (by rfl) (by first | rfl | exact SV.ones _) ?_)
   iterate 2 refine WO_step rfl (S_pure rfl ?_)
   refine WO_nil (KSeq_n (WC_ret (KSeq_r ?_)))
   refine KFn_r (ResL.cell rfl pkA (Nat.le_of_ble_eq_true rfl) rfl (ResL.tmp rfl (ResL.tmp rfl ResL.nil))) ?_
   first
     | (exfalso; simp_all; done)
     | (exfalso; omega)
     | (cases hm : mayRaw ⟨2, 0, s⟩
        · simp only [hm] at *; first | (exfalso; simp_all; done) | exact ⟨_, hsA, rfl, by rw [hT]; rfl⟩
        · simp only [hm] at *; first | (exfalso; simp_all; done) | exact ⟨_, hsA, rfl, by rw [hT]; rfl⟩)
     | exact ⟨_, hsA, rfl, by rw [hT]; rfl⟩
  ·
   try simp only [bsT] at hb1
   have he0 : e = 0 := by simpa using hb1
   rw [if_neg (by omega)] at hT
   refine WC_skip (KSeq_n (WC_seq (WC_region ?_)))
   iterate 2 refine WO_step rfl (S_pure rfl ?_)
   refine WO_step rfl (S_new fun i8 => ?_)
   first | refine WO_step rfl (S_storeT rfl rfl pkA (by rfl) (by rfl) ?_) | refine WO_step rfl (S_storeO rfl rfl pkA (by first | rfl | exact SV.cells1 _) (by rfl) (by first | rfl | exact SV.ones _) ?_)
   refine WO_nil (KSeq_n (WC_seq (WC_region ?_)))
   refine WO_step rfl (S_pure rfl ?_)
   refine WO_nil (KSeq_n (WC_seq (WC_seq (WC_region ?_))))
   refine WO_step rfl (S_pure rfl ?_)
   refine WO_nil (KSeq_n (WC_block (WC_seq (WC_region ?_))))
   first | refine WO_step rfl (S_eqS rfl rfl ?_) | refine WO_step rfl (S_pure rfl ?_)
   refine WO_step rfl (S_pure rfl ?_)
   refine WO_nil (KSeq_n ?_)
   refine WC_cond rfl (fun hb2 => ?_) (fun hb2 => ?_)
   ·
    try simp only [bsT] at hb2
    subst hb2
    rw [if_pos rfl] at hT
    refine WC_region ?_
    iterate 2 refine WO_step rfl (S_pure rfl ?_)
    refine WO_step rfl (S_cutV (a := k) (b := bs.length) rfl rdA (by rfl) (LB.mk rfl rfl) LB.dflt LB.dflt (by omega) (by omega) (by omega) ?_)
    refine WO_call rfl rfl rfl ?_
    refine (sp_nGet rdA (by omega)).mono ?_
    rintro _ _ ⟨rfl, rfl⟩
    generalize get (bs.drop k) = p at *
    obtain ⟨n, m, f⟩ := p
    rw [getV_mk]
    simp only [] at hT hg2
    iterate 5 refine WO_step rfl (S_pure rfl ?_)
    refine WO_step rfl (S_storeO rfl rfl pkA (by first | rfl | exact SV.cells1 _) (by rfl) (by first | rfl | exact SV.ones _) ?_)
    iterate 2 refine WO_step rfl (S_pure rfl ?_)
    refine WO_nil (KBlock_n (KSeq_n (WC_seq (WC_seq (WC_region ?_)))))
    refine WO_step rfl (S_pure rfl ?_)
    first | refine WO_step rfl (S_eqS rfl rfl ?_) | refine WO_step rfl (S_pure rfl ?_)
    refine WO_nil (KSeq_n ?_)
    refine WC_cond rfl (fun hb3 => ?_) (fun hb3 => ?_)
    ·
     try simp only [bsT] at hb3
     rw [if_neg (by omega)] at hT
     have hm : mayRaw ⟨1, n, es0⟩ = true := by simp [mayRaw]
     refine WC_region ?_
     first | refine WO_step rfl (S_loadT rfl pkA (by rfl) (by rfl) ?_) | refine WO_step rfl (S_loadO rfl pkA (by rfl) (by rfl) ?_)
     refine WO_call rfl rfl rfl ?_
     refine (sp_Of (r := ⟨1, n, es0⟩)).mono ?_
     rw [hm]
     rintro _ _ ⟨rfl, c, hc, rfl⟩
     iterate 4 refine WO_step rfl (S_pure rfl ?_)
     refine WO_nil (KSeq_n (WC_seq (WC_seq (WC_region ?_))))
     refine WO_step rfl (S_pure rfl ?_)
     first | refine WO_step rfl (S_neS rfl rfl ?_) | refine WO_step rfl (S_pure rfl ?_)
     refine WO_nil (KSeq_n ?_)
     refine WC_cond rfl (fun hb4 => ?_) (fun hb4 => ?_)
     ·
      try simp only [bsT] at hb4
      exact absurd hb4 (by decide)
      --stop
     ·
      try simp only [bsT] at hb4
      refine WC_skip (KSeq_n (WC_seq (WC_region ?_)))
      first | refine WO_step rfl (S_loadT rfl pkA (by rfl) (by rfl) ?_) | refine WO_step rfl (S_loadO rfl pkA (by rfl) (by rfl) ?_)
      iterate 2 refine WO_step rfl (S_pure rfl ?_)
      first | refine WO_step rfl (S_addN rfl rfl (by omega) ?_) | refine WO_step rfl (S_pure rfl ?_)
      first | refine WO_step rfl (S_storeT rfl rfl pkA (by rfl) (by rfl) ?_) | refine WO_step rfl (S_storeO rfl rfl pkA (by first | rfl | exact SV.cells1 _) (by rfl) (by first | rfl | exact SV.ones _) ?_)
      iterate 2 refine WO_step rfl (S_pure rfl ?_)
      refine WO_nil (KSeq_n (WC_ret ?_))
      refine KFn_r (ResL.cell rfl pkA (Nat.le_of_ble_eq_true rfl) rfl (ResL.tmp rfl (ResL.tmp rfl ResL.nil))) ?_
      first
        | (exfalso; simp_all; done)
        | (exfalso; omega)
        | (cases hm : mayRaw ⟨2, 0, s⟩
           · simp only [hm] at *; first | (exfalso; simp_all; done) | exact ⟨_, hsA, rfl, by rw [hT]; rfl⟩
           · simp only [hm] at *; first | (exfalso; simp_all; done) | exact ⟨_, hsA, rfl, by rw [hT]; rfl⟩)
        | exact ⟨_, hsA, rfl, by rw [hT]; rfl⟩
    ·
     try simp only [bsT] at hb3
     rw [if_pos (by omega)] at hT
     refine WC_skip (KSeq_n (WC_seq (WC_seq (WC_region ?_))))
     refine WO_step rfl (S_pure rfl ?_)
     first | refine WO_step rfl (S_neS rfl rfl ?_) | refine WO_step rfl (S_pure rfl ?_)
     refine WO_nil (KSeq_n ?_)
     refine WC_cond rfl (fun hb5 => ?_) (fun hb5 => ?_)
     ·
      try simp only [bsT] at hb5
      refine WC_seq (WC_region ?_)
      iterate 2 refine WO_step rfl (S_pure rfl ?_)
      first | refine WO_step rfl (S_storeT rfl rfl pkA (by rfl) (by rfl) ?_) | refine WO_step rfl (S_storeO rfl rfl pkA (by first | rfl | exact SV.cells1 _) (by rfl) (by first | rfl | exact SV.ones _) ?_)
      iterate 2 refine WO_step rfl (S_pure rfl ?_)
      refine WO_nil (KSeq_n (WC_ret (KSeq_r ?_)))
      refine KFn_r (ResL.cell rfl pkA (Nat.le_of_ble_eq_true rfl) rfl (ResL.tmp rfl (ResL.tmp rfl ResL.nil))) ?_
      first
        | (exfalso; simp_all; done)
        | (exfalso; omega)
        | (cases hm : mayRaw ⟨2, 0, s⟩
           · simp only [hm] at *; first | (exfalso; simp_all; done) | exact ⟨_, hsA, rfl, by rw [hT]; rfl⟩
           · simp only [hm] at *; first | (exfalso; simp_all; done) | exact ⟨_, hsA, rfl, by rw [hT]; rfl⟩)
        | exact ⟨_, hsA, rfl, by rw [hT]; rfl⟩
     ·
      try simp only [bsT] at hb5
      refine WC_skip (KSeq_n (WC_seq (WC_region ?_)))
      first | refine WO_step rfl (S_loadT rfl pkA (by rfl) (by rfl) ?_) | refine WO_step rfl (S_loadO rfl pkA (by rfl) (by rfl) ?_)
      iterate 2 refine WO_step rfl (S_pure rfl ?_)
      first | refine WO_step rfl (S_addN rfl rfl (by omega) ?_) | refine WO_step rfl (S_pure rfl ?_)
      first | refine WO_step rfl (S_storeT rfl rfl pkA (by rfl) (by rfl) ?_) | refine WO_step rfl (S_storeO rfl rfl pkA (by first | rfl | exact SV.cells1 _) (by rfl) (by first | rfl | exact SV.ones _) ?_)
      iterate 2 refine WO_step rfl (S_pure rfl ?_)
      refine WO_nil (KSeq_n (WC_ret ?_))
      refine KFn_r (ResL.cell rfl pkA (Nat.le_of_ble_eq_true rfl) rfl (ResL.tmp rfl (ResL.tmp rfl ResL.nil))) ?_
      first
        | (exfalso; simp_all; done)
        | (exfalso; omega)
        | (cases hm : mayRaw ⟨2, 0, s⟩
           · simp only [hm] at *; first | (exfalso; simp_all; done) | exact ⟨_, hsA, rfl, by rw [hT]; rfl⟩
           · simp only [hm] at *; first | (exfalso; simp_all; done) | exact ⟨_, hsA, rfl, by rw [hT]; rfl⟩)
        | exact ⟨_, hsA, rfl, by rw [hT]; rfl⟩
   ·
    try simp only [bsT] at hb2
    rw [if_neg hb2] at hT
    refine WC_seq (WC_region ?_)
    first | refine WO_step rfl (S_eqS rfl rfl ?_) | refine WO_step rfl (S_pure rfl ?_)
    refine WO_step rfl (S_pure rfl ?_)
    refine WO_nil (KSeq_n ?_)
    refine WC_cond rfl (fun hb6 => ?_) (fun hb6 => ?_)
    ·
     try simp only [bsT] at hb6
     subst hb6
     rw [if_pos rfl] at hT
     refine WC_region ?_
     iterate 2 refine WO_step rfl (S_pure rfl ?_)
     refine WO_step rfl (S_cutV (a := k) (b := bs.length) rfl rdA (by rfl) (LB.mk rfl rfl) LB.dflt LB.dflt (by omega) (by omega) (by omega) ?_)
     refine WO_call rfl rfl rfl ?_
     refine (sp_nGetText rdA (by omega)).mono ?_
     rintro _ _ ⟨rfl, rfl⟩
     generalize getT (bs.drop k) = p at *
     obtain ⟨s, m, f⟩ := p
     rw [getTV_mk]
     simp only [] at hT hg3
     iterate 5 refine WO_step rfl (S_pure rfl ?_)
     refine WO_step rfl (S_storeO rfl rfl pkA (by first | rfl | exact SV.cells1 _) (by rfl) (by first | rfl | exact SV.ones _) ?_)
     iterate 2 refine WO_step rfl (S_pure rfl ?_)
     refine WO_nil (KBlock_n (KSeq_n (WC_seq (WC_seq (WC_region ?_)))))
     refine WO_step rfl (S_pure rfl ?_)
     first | refine WO_step rfl (S_eqS rfl rfl ?_) | refine WO_step rfl (S_pure rfl ?_)
     refine WO_nil (KSeq_n ?_)
     refine WC_cond rfl (fun hb7 => ?_) (fun hb7 => ?_)
     ·
      try simp only [bsT] at hb7
      rw [if_neg (by omega)] at hT
      refine WC_region ?_
      first | refine WO_step rfl (S_loadT rfl pkA (by rfl) (by rfl) ?_) | refine WO_step rfl (S_loadO rfl pkA (by rfl) (by rfl) ?_)
      refine WO_call rfl rfl rfl ?_
      refine (sp_Of (r := ⟨2, 0, s⟩)).mono ?_
      rintro _ _ ⟨rfl, c, hc, rfl⟩
      iterate 4 refine WO_step rfl (S_pure rfl ?_)
      refine WO_nil (KSeq_n (WC_seq (WC_seq (WC_region ?_))))
      refine WO_step rfl (S_pure rfl ?_)
      first | refine WO_step rfl (S_neS rfl rfl ?_) | refine WO_step rfl (S_pure rfl ?_)
      refine WO_nil (KSeq_n ?_)
      refine WC_cond rfl (fun hb8 => ?_) (fun hb8 => ?_)
      ·
       try simp only [bsT] at hb8
       refine WC_seq (WC_region ?_)
       iterate 2 refine WO_step rfl (S_pure rfl ?_)
       first | refine WO_step rfl (S_storeT rfl rfl pkA (by rfl) (by rfl) ?_) | refine WO_step rfl (S_storeO rfl rfl pkA (by first | rfl | exact SV.cells1 _) (by rfl) (by first | rfl | exact SV.ones _) ?_)
       iterate 2 refine WO_step rfl (S_pure rfl ?_)
       refine WO_nil (KSeq_n (WC_ret (KSeq_r ?_)))
       refine KFn_r (ResL.cell rfl pkA (Nat.le_of_ble_eq_true rfl) rfl (ResL.tmp rfl (ResL.tmp rfl ResL.nil))) ?_
       first
         | (exfalso; simp_all; done)
         | (exfalso; omega)
         | (cases hm : mayRaw ⟨2, 0, s⟩
            · simp only [hm] at *; first | (exfalso; simp_all; done) | exact ⟨_, hsA, rfl, by rw [hT]; rfl⟩
            · simp only [hm] at *; first | (exfalso; simp_all; done) | exact ⟨_, hsA, rfl, by rw [hT]; rfl⟩)
         | exact ⟨_, hsA, rfl, by rw [hT]; rfl⟩
      ·
       try simp only [bsT] at hb8
       refine WC_skip (KSeq_n (WC_seq (WC_region ?_)))
       first | refine WO_step rfl (S_loadT rfl pkA (by rfl) (by rfl) ?_) | refine WO_step rfl (S_loadO rfl pkA (by rfl) (by rfl) ?_)
       iterate 2 refine WO_step rfl (S_pure rfl ?_)
       first | refine WO_step rfl (S_addN rfl rfl (by omega) ?_) | refine WO_step rfl (S_pure rfl ?_)
       first | refine WO_step rfl (S_storeT rfl rfl pkA (by rfl) (by rfl) ?_) | refine WO_step rfl (S_storeO rfl rfl pkA (by first | rfl | exact SV.cells1 _) (by rfl) (by first | rfl | exact SV.ones _) ?_)
       iterate 2 refine WO_step rfl (S_pure rfl ?_)
       refine WO_nil (KSeq_n (WC_ret ?_))
       refine KFn_r (ResL.cell rfl pkA (Nat.le_of_ble_eq_true rfl) rfl (ResL.tmp rfl (ResL.tmp rfl ResL.nil))) ?_
       first
         | (exfalso; simp_all; done)
         | (exfalso; omega)
         | (cases hm : mayRaw ⟨2, 0, s⟩
            · simp only [hm] at *; first | (exfalso; simp_all; done) | exact ⟨_, hsA, rfl, by rw [hT]; rfl⟩
            · simp only [hm] at *; first | (exfalso; simp_all; done) | exact ⟨_, hsA, rfl, by rw [hT]; rfl⟩)
         | exact ⟨_, hsA, rfl, by rw [hT]; rfl⟩
     ·
      try simp only [bsT] at hb7
      rw [if_pos (by omega)] at hT
      refine WC_skip (KSeq_n (WC_seq (WC_seq (WC_region ?_))))
      refine WO_step rfl (S_pure rfl ?_)
      first | refine WO_step rfl (S_neS rfl rfl ?_) | refine WO_step rfl (S_pure rfl ?_)
      refine WO_nil (KSeq_n ?_)
      refine WC_cond rfl (fun hb9 => ?_) (fun hb9 => ?_)
      ·
       try simp only [bsT] at hb9
       refine WC_seq (WC_region ?_)
       iterate 2 refine WO_step rfl (S_pure rfl ?_)
       first | refine WO_step rfl (S_storeT rfl rfl pkA (by rfl) (by rfl) ?_) | refine WO_step rfl (S_storeO rfl rfl pkA (by first | rfl | exact SV.cells1 _) (by rfl) (by first | rfl | exact SV.ones _) ?_)
       iterate 2 refine WO_step rfl (S_pure rfl ?_)
       refine WO_nil (KSeq_n (WC_ret (KSeq_r ?_)))
       refine KFn_r (ResL.cell rfl pkA (Nat.le_of_ble_eq_true rfl) rfl (ResL.tmp rfl (ResL.tmp rfl ResL.nil))) ?_
       first
         | (exfalso; simp_all; done)
         | (exfalso; omega)
         | (cases hm : mayRaw ⟨2, 0, s⟩
            · simp only [hm] at *; first | (exfalso; simp_all; done) | exact ⟨_, hsA, rfl, by rw [hT]; rfl⟩
            · simp only [hm] at *; first | (exfalso; simp_all; done) | exact ⟨_, hsA, rfl, by rw [hT]; rfl⟩)
         | exact ⟨_, hsA, rfl, by rw [hT]; rfl⟩
      ·
       try simp only [bsT] at hb9
       refine WC_skip (KSeq_n (WC_seq (WC_region ?_)))
       first | refine WO_step rfl (S_loadT rfl pkA (by rfl) (by rfl) ?_) | refine WO_step rfl (S_loadO rfl pkA (by rfl) (by rfl) ?_)
       iterate 2 refine WO_step rfl (S_pure rfl ?_)
       first | refine WO_step rfl (S_addN rfl rfl (by omega) ?_) | refine WO_step rfl (S_pure rfl ?_)
       first | refine WO_step rfl (S_storeT rfl rfl pkA (by rfl) (by rfl) ?_) | refine WO_step rfl (S_storeO rfl rfl pkA (by first | rfl | exact SV.cells1 _) (by rfl) (by first | rfl | exact SV.ones _) ?_)
       iterate 2 refine WO_step rfl (S_pure rfl ?_)
       refine WO_nil (KSeq_n (WC_ret ?_))
       refine KFn_r (ResL.cell rfl pkA (Nat.le_of_ble_eq_true rfl) rfl (ResL.tmp rfl (ResL.tmp rfl ResL.nil))) ?_
       first
         | (exfalso; simp_all; done)
         | (exfalso; omega)
         | (cases hm : mayRaw ⟨2, 0, s⟩
            · simp only [hm] at *; first | (exfalso; simp_all; done) | exact ⟨_, hsA, rfl, by rw [hT]; rfl⟩
            · simp only [hm] at *; first | (exfalso; simp_all; done) | exact ⟨_, hsA, rfl, by rw [hT]; rfl⟩)
         | exact ⟨_, hsA, rfl, by rw [hT]; rfl⟩
    ·
     try simp only [bsT] at hb6
     rw [if_neg hb6] at hT
     refine WC_region ?_
     refine WO_step rfl (S_pure rfl ?_)
     refine WO_nil (KBlock_n (KSeq_n (WC_seq (WC_seq (WC_region ?_)))))
     refine WO_step rfl (S_pure rfl ?_)
     first | refine WO_step rfl (S_eqS rfl rfl ?_) | refine WO_step rfl (S_pure rfl ?_)
     refine WO_nil (KSeq_n ?_)
     refine WC_cond rfl (fun hb10 => ?_) (fun hb10 => ?_)
     ·
      try simp only [bsT] at hb10
      exact absurd hb10 (by decide)
      --stop
     ·
      try simp only [bsT] at hb10
      refine WC_skip (KSeq_n (WC_seq (WC_seq (WC_region ?_))))
      refine WO_step rfl (S_pure rfl ?_)
      first | refine WO_step rfl (S_neS rfl rfl ?_) | refine WO_step rfl (S_pure rfl ?_)
      refine WO_nil (KSeq_n ?_)
      refine WC_cond rfl (fun hb11 => ?_) (fun hb11 => ?_)
      ·
       try simp only [bsT] at hb11
       refine WC_seq (WC_region ?_)
       iterate 2 refine WO_step rfl (S_pure rfl ?_)
       first | refine WO_step rfl (S_storeT rfl rfl pkA (by rfl) (by rfl) ?_) | refine WO_step rfl (S_storeO rfl rfl pkA (by first | rfl | exact SV.cells1 _) (by rfl) (by first | rfl | exact SV.ones _) ?_)
       iterate 2 refine WO_step rfl (S_pure rfl ?_)
       refine WO_nil (KSeq_n (WC_ret (KSeq_r ?_)))
       refine KFn_r (ResL.cell rfl pkA (Nat.le_of_ble_eq_true rfl) rfl (ResL.tmp rfl (ResL.tmp rfl ResL.nil))) ?_
       first
         | (exfalso; simp_all; done)
         | (exfalso; omega)
         | (cases hm : mayRaw ⟨2, 0, s⟩
            · simp only [hm] at *; first | (exfalso; simp_all; done) | exact ⟨_, hsA, rfl, by rw [hT]; rfl⟩
            · simp only [hm] at *; first | (exfalso; simp_all; done) | exact ⟨_, hsA, rfl, by rw [hT]; rfl⟩)
         | exact ⟨_, hsA, rfl, by rw [hT]; rfl⟩
      ·
       try simp only [bsT] at hb11
       refine WC_skip (KSeq_n (WC_seq (WC_region ?_)))
       first | refine WO_step rfl (S_loadT rfl pkA (by rfl) (by rfl) ?_) | refine WO_step rfl (S_loadO rfl pkA (by rfl) (by rfl) ?_)
       iterate 2 refine WO_step rfl (S_pure rfl ?_)
       first | refine WO_step rfl (S_addN rfl rfl (by omega) ?_) | refine WO_step rfl (S_pure rfl ?_)
       first | refine WO_step rfl (S_storeT rfl rfl pkA (by rfl) (by rfl) ?_) | refine WO_step rfl (S_storeO rfl rfl pkA (by first | rfl | exact SV.cells1 _) (by rfl) (by first | rfl | exact SV.ones _) ?_)
       iterate 2 refine WO_step rfl (S_pure rfl ?_)
       refine WO_nil (KSeq_n (WC_ret ?_))
       refine KFn_r (ResL.cell rfl pkA (Nat.le_of_ble_eq_true rfl) rfl (ResL.tmp rfl (ResL.tmp rfl ResL.nil))) ?_
       first
         | (exfalso; simp_all; done)
         | (exfalso; omega)
         | (cases hm : mayRaw ⟨2, 0, s⟩
            · simp only [hm] at *; first | (exfalso; simp_all; done) | exact ⟨_, hsA, rfl, by rw [hT]; rfl⟩
            · simp only [hm] at *; first | (exfalso; simp_all; done) | exact ⟨_, hsA, rfl, by rw [hT]; rfl⟩)
         | exact ⟨_, hsA, rfl, by rw [hT]; rfl⟩
theorem sp_rGet {H : SH} {v : Value} {bs : List UInt8} (hv : RD H v TByte bs) (hl : bs.length ≤ 1000000) : WF F X f_record_Get [v] H (fun r H' => H' = H ∧ r = getRecV (getRec bs)) := by
  have hgl := getT_le bs
  refine WF_fn F_record_Get ?_
  refine WC_seq (WC_region ?_)
  refine WO_step rfl (S_new fun i2 => ?_)
  iterate 2 refine WO_step rfl (S_pure rfl ?_)
  refine WO_nil (KSeq_n (WC_seq (WC_region ?_)))
  refine WO_step rfl (S_pure rfl ?_)
  refine WO_call rfl rfl rfl ?_
  refine (sp_nGetText rdA hl).mono ?_
  rintro _ _ ⟨rfl, rfl⟩
  have hT : getRec bs = getRec bs := rfl
  conv at hT => rhs; unfold getRec
  generalize getT bs = p at *
  obtain ⟨q, k, e⟩ := p
  rw [getTV_mk]
  simp only [] at hT hgl
  have hvd := hv.tailSl (es := 1) (a := k) rfl hgl
  have hdl : (bs.drop k).length = bs.length - k := List.length_drop ..
  have hg2 := get_le (bs.drop k)
  have hg3 := getVal_le (bs.drop k)
  iterate 7 refine WO_step rfl (S_pure rfl ?_)
  refine WO_nil (KSeq_n (WC_seq (WC_seq (WC_region ?_))))
  refine WO_step rfl (S_pure rfl ?_)
  first | refine WO_step rfl (S_eqS rfl rfl ?_) | refine WO_step rfl (S_pure rfl ?_)
  refine WO_step rfl (S_pure rfl ?_)
  refine WO_cases (t := 19) rfl (fun hg1 => ?_) (fun hg1 => ?_)
  ·
   try simp only [bsT] at hg1
   have he0 : e = 0 := by omega
   rw [if_neg (by omega)] at hT
   refine WO_step rfl (S_pure rfl ?_)
   refine WO_call rfl rfl rfl ?_
   refine sp_kMay.mono ?_
   rintro _ _ ⟨rfl, rfl⟩
   iterate 2 refine WO_step rfl (S_pure rfl ?_)
   refine WO_nil (KSeq_n ?_)
   refine WC_cond rfl (fun hb1 => ?_) (fun hb1 => ?_)
   ·
    try simp only [bsT] at hb1
    rw [if_pos hb1] at hT
    refine WC_region ?_
    refine WO_step rfl (S_pure rfl ?_)
    refine WO_nil (KSeq_n (WC_seq (WC_seq (WC_region ?_))))
    refine WO_step rfl (S_pure rfl ?_)
    first | refine WO_step rfl (S_neS rfl rfl ?_) | refine WO_step rfl (S_pure rfl ?_)
    refine WO_nil (KSeq_n ?_)
    refine WC_cond rfl (fun hb2 => ?_) (fun hb2 => ?_)
    ·
     try simp only [bsT] at hb2
     refine WC_seq (WC_region ?_)
     iterate 2 refine WO_step rfl (S_pure rfl ?_)
     first | refine WO_step rfl (S_storeT rfl rfl pkA (by rfl) (by rfl) ?_) | refine WO_step rfl (S_storeO rfl rfl pkA (by first | rfl | exact SV.cells1 _) (by rfl) (by first | rfl | exact SV.ones _) ?_)
     iterate 2 refine WO_step rfl (S_pure rfl ?_)
     refine WO_nil (KSeq_n (WC_ret (KSeq_r ?_)))
     refine KFn_r (ResL.cell rfl pkA (Nat.le_of_ble_eq_true rfl) rfl (ResL.tmp rfl (ResL.tmp rfl ResL.nil))) ?_
     exact ⟨_, hsA, rfl, by rw [hT]; rfl⟩
    ·
     try simp only [bsT] at hb2
     exact absurd hb2 (by decide)
     --stop
   ·
    try simp only [bsT] at hb1
    rw [if_neg (by simp [hb1])] at hT
    refine WC_skip (KSeq_n (WC_seq (WC_seq (WC_region ?_))))
    refine WO_step rfl (S_pure rfl ?_)
    first | refine WO_step rfl (S_neS rfl rfl ?_) | refine WO_step rfl (S_pure rfl ?_)
    refine WO_nil (KSeq_n ?_)
    refine WC_cond rfl (fun hb3 => ?_) (fun hb3 => ?_)
    ·
     try simp only [bsT] at hb3
     exact absurd hb3 (by omega)
     --stop
    ·
     try simp only [bsT] at hb3
     refine WC_skip (KSeq_n (WC_seq (WC_region ?_)))
     iterate 2 refine WO_step rfl (S_pure rfl ?_)
     refine WO_step rfl (S_new fun i8 => ?_)
     first | refine WO_step rfl (S_storeT rfl rfl pkA (by rfl) (by rfl) ?_) | refine WO_step rfl (S_storeO rfl rfl pkA (by first | rfl | exact SV.cells1 _) (by rfl) (by first | rfl | exact SV.ones _) ?_)
     refine WO_nil (KSeq_n (WC_seq (WC_region ?_)))
     iterate 2 refine WO_step rfl (S_pure rfl ?_)
     refine WO_step rfl (S_cutV (a := k) (b := bs.length) rfl rdA (by rfl) (LB.mk rfl rfl) LB.dflt LB.dflt (by omega) (by omega) (by omega) ?_)
     refine WO_call rfl rfl rfl ?_
     refine (sp_nGet rdA (by omega)).mono ?_
     rintro _ _ ⟨rfl, rfl⟩
     generalize get (bs.drop k) = p at *
     obtain ⟨kd, m, f⟩ := p
     rw [getV_mk]
     simp only [] at hT hg2
     iterate 7 refine WO_step rfl (S_pure rfl ?_)
     refine WO_nil (KSeq_n (WC_seq (WC_block (WC_seq (WC_region ?_)))))
     refine WO_step rfl (S_pure rfl ?_)
     first | refine WO_step rfl (S_neS rfl rfl ?_) | refine WO_step rfl (S_pure rfl ?_)
     refine WO_step rfl (S_pure rfl ?_)
     refine WO_nil (KSeq_n ?_)
     refine WC_cond rfl (fun hb4 => ?_) (fun hb4 => ?_)
     ·
      try simp only [bsT] at hb4
      rw [if_pos (by omega)] at hT
      refine WC_skip (KBlock_n (KSeq_n (WC_seq (WC_seq (WC_region ?_)))))
      refine WO_step rfl (S_pure rfl ?_)
      first | refine WO_step rfl (S_neS rfl rfl ?_) | refine WO_step rfl (S_pure rfl ?_)
      refine WO_nil (KSeq_n ?_)
      refine WC_cond rfl (fun hb5 => ?_) (fun hb5 => ?_)
      ·
       try simp only [bsT] at hb5
       refine WC_seq (WC_region ?_)
       iterate 2 refine WO_step rfl (S_pure rfl ?_)
       first | refine WO_step rfl (S_storeT rfl rfl pkA (by rfl) (by rfl) ?_) | refine WO_step rfl (S_storeO rfl rfl pkA (by first | rfl | exact SV.cells1 _) (by rfl) (by first | rfl | exact SV.ones _) ?_)
       iterate 2 refine WO_step rfl (S_pure rfl ?_)
       refine WO_nil (KSeq_n (WC_ret (KSeq_r ?_)))
       refine KFn_r (ResL.cell rfl pkA (Nat.le_of_ble_eq_true rfl) rfl (ResL.tmp rfl (ResL.tmp rfl ResL.nil))) ?_
       exact ⟨_, hsA, rfl, by rw [hT]; rfl⟩
      ·
       try simp only [bsT] at hb5
       exact absurd (by simpa using hb5) hb4
       --stop
     ·
      try simp only [bsT] at hb4
      have hf0 : f = 0 := by simpa using hb4
      rw [if_neg (by omega)] at hT
      refine WC_seq (WC_region ?_)
      refine WO_step rfl (S_pure rfl ?_)
      first | refine WO_step rfl (S_eqS rfl rfl ?_) | refine WO_step rfl (S_pure rfl ?_)
      refine WO_step rfl (S_pure rfl ?_)
      refine WO_nil (KSeq_n ?_)
      refine WC_cond rfl (fun hb6 => ?_) (fun hb6 => ?_)
      ·
       try simp only [bsT] at hb6
       rw [if_pos hb6] at hT
       refine WC_region ?_
       refine WO_step rfl (S_pure rfl ?_)
       refine WO_step rfl (S_storeO rfl rfl pkA (by first | rfl | exact SV.cells1 _) (by rfl) (by first | rfl | exact SV.ones _) ?_)
       refine WO_nil (KBlock_n (KSeq_n (WC_seq (WC_seq (WC_region ?_)))))
       refine WO_step rfl (S_pure rfl ?_)
       first | refine WO_step rfl (S_neS rfl rfl ?_) | refine WO_step rfl (S_pure rfl ?_)
       refine WO_nil (KSeq_n ?_)
       refine WC_cond rfl (fun hb7 => ?_) (fun hb7 => ?_)
       ·
        try simp only [bsT] at hb7
        exact absurd hb7 (by omega)
        --stop
       ·
        try simp only [bsT] at hb7
        refine WC_skip (KSeq_n (WC_seq (WC_region ?_)))
        first | refine WO_step rfl (S_loadT rfl pkA (by rfl) (by rfl) ?_) | refine WO_step rfl (S_loadO rfl pkA (by rfl) (by rfl) ?_)
        iterate 2 refine WO_step rfl (S_pure rfl ?_)
        first | refine WO_step rfl (S_addN rfl rfl (by omega) ?_) | refine WO_step rfl (S_pure rfl ?_)
        first | refine WO_step rfl (S_storeT rfl rfl pkA (by rfl) (by rfl) ?_) | refine WO_step rfl (S_storeO rfl rfl pkA (by first | rfl | exact SV.cells1 _) (by rfl) (by first | rfl | exact SV.ones _) ?_)
        iterate 2 refine WO_step rfl (S_pure rfl ?_)
        refine WO_nil (KSeq_n (WC_ret ?_))
        refine KFn_r (ResL.cell rfl pkA (Nat.le_of_ble_eq_true rfl) rfl (ResL.tmp rfl (ResL.tmp rfl ResL.nil))) ?_
        exact ⟨_, hsA, rfl, by rw [hT]; rfl⟩
      ·
       try simp only [bsT] at hb6
       rw [if_neg hb6] at hT
       refine WC_region ?_
       iterate 2 refine WO_step rfl (S_pure rfl ?_)
       refine WO_step rfl (S_cutV (a := k) (b := bs.length) rfl rdA (by rfl) (LB.mk rfl rfl) LB.dflt LB.dflt (by omega) (by omega) (by omega) ?_)
       refine WO_call rfl rfl rfl ?_
       refine (sp_vGet rdA (by omega)).mono ?_
       rintro _ _ ⟨rfl, rfl⟩
       generalize getVal (bs.drop k) = p at *
       obtain ⟨r, m2, f2⟩ := p
       rw [getValV_mk]
       simp only [] at hT hg3
       iterate 5 refine WO_step rfl (S_pure rfl ?_)
       refine WO_step rfl (S_storeO rfl rfl pkA (by first | rfl | exact SV.cells1 _) (by rfl) (by first | rfl | exact SV.ones _) ?_)
       iterate 2 refine WO_step rfl (S_pure rfl ?_)
       refine WO_nil (KBlock_n (KSeq_n (WC_seq (WC_seq (WC_region ?_)))))
       refine WO_step rfl (S_pure rfl ?_)
       first | refine WO_step rfl (S_neS rfl rfl ?_) | refine WO_step rfl (S_pure rfl ?_)
       refine WO_nil (KSeq_n ?_)
       refine WC_cond rfl (fun hb8 => ?_) (fun hb8 => ?_)
       ·
        try simp only [bsT] at hb8
        rw [if_pos (by omega)] at hT
        refine WC_seq (WC_region ?_)
        iterate 2 refine WO_step rfl (S_pure rfl ?_)
        first | refine WO_step rfl (S_storeT rfl rfl pkA (by rfl) (by rfl) ?_) | refine WO_step rfl (S_storeO rfl rfl pkA (by first | rfl | exact SV.cells1 _) (by rfl) (by first | rfl | exact SV.ones _) ?_)
        iterate 2 refine WO_step rfl (S_pure rfl ?_)
        refine WO_nil (KSeq_n (WC_ret (KSeq_r ?_)))
        refine KFn_r (ResL.cell rfl pkA (Nat.le_of_ble_eq_true rfl) rfl (ResL.tmp rfl (ResL.tmp rfl ResL.nil))) ?_
        exact ⟨_, hsA, rfl, by rw [hT]; rfl⟩
       ·
        try simp only [bsT] at hb8
        have hf20 : f2 = 0 := by simpa using hb8
        rw [if_neg (by omega)] at hT
        refine WC_skip (KSeq_n (WC_seq (WC_region ?_)))
        first | refine WO_step rfl (S_loadT rfl pkA (by rfl) (by rfl) ?_) | refine WO_step rfl (S_loadO rfl pkA (by rfl) (by rfl) ?_)
        iterate 2 refine WO_step rfl (S_pure rfl ?_)
        first | refine WO_step rfl (S_addN rfl rfl (by omega) ?_) | refine WO_step rfl (S_pure rfl ?_)
        first | refine WO_step rfl (S_storeT rfl rfl pkA (by rfl) (by rfl) ?_) | refine WO_step rfl (S_storeO rfl rfl pkA (by first | rfl | exact SV.cells1 _) (by rfl) (by first | rfl | exact SV.ones _) ?_)
        iterate 2 refine WO_step rfl (S_pure rfl ?_)
        refine WO_nil (KSeq_n (WC_ret ?_))
        refine KFn_r (ResL.cell rfl pkA (Nat.le_of_ble_eq_true rfl) rfl (ResL.tmp rfl (ResL.tmp rfl ResL.nil))) ?_
        exact ⟨_, hsA, rfl, by rw [hT]; rfl⟩
  ·
   try simp only [bsT] at hg1
   rw [if_pos (by omega)] at hT
   iterate 3 refine WO_off rfl ?_
   refine WO_step rfl (S_pure rfl ?_)
   refine WO_nil (KSeq_n ?_)
   refine WC_cond rfl (fun h => ?_) (fun _ => ?_)
   · exact absurd h (by decide)
   refine WC_skip (KSeq_n (WC_seq (WC_seq (WC_region ?_))))
   refine WO_step rfl (S_pure rfl ?_)
   first | refine WO_step rfl (S_neS rfl rfl ?_) | refine WO_step rfl (S_pure rfl ?_)
   refine WO_nil (KSeq_n ?_)
   refine WC_cond rfl (fun hb9 => ?_) (fun hb9 => ?_)
   ·
    try simp only [bsT] at hb9
    refine WC_seq (WC_region ?_)
    iterate 2 refine WO_step rfl (S_pure rfl ?_)
    first | refine WO_step rfl (S_storeT rfl rfl pkA (by rfl) (by rfl) ?_) | refine WO_step rfl (S_storeO rfl rfl pkA (by first | rfl | exact SV.cells1 _) (by rfl) (by first | rfl | exact SV.ones _) ?_)
    iterate 2 refine WO_step rfl (S_pure rfl ?_)
    refine WO_nil (KSeq_n (WC_ret (KSeq_r ?_)))
    refine KFn_r (ResL.cell rfl pkA (Nat.le_of_ble_eq_true rfl) rfl (ResL.tmp rfl (ResL.tmp rfl ResL.nil))) ?_
    exact ⟨_, hsA, rfl, by rw [hT]; rfl⟩
   ·
    try simp only [bsT] at hb9
    exact absurd (by simpa using hb9) hg1
    --stop
end Go.Proofs.YtpnmeednimpjdaaGreat.AM
namespace Go.Proofs.YtpnmeednimpjdaaGreat.AM
open Go
set_option linter.unusedSimpArgs false
set_option linter.unusedVariables false
set_option maxRecDepth 4000
set_option linter.unusedSectionVars false
variable {X : Exts} [HX X]
theorem getR_enc : ∀ (n u i a : Nat) (rest : List UInt8), u = n → a < 2 ^ (7 * i) → i ≤ 9 → (0 < i → 0 < u) → a + u * 2 ^ (7 * i) < 18446744073709551616 →
    getR (encU u ++ rest) i a = (unzz (a + u * 2 ^ (7 * i)), i + (encU u).length, 0) := by
  intro n
  induction n using Nat.strongRecOn with
  | _ n ih =>
    intro u i a rest hn ha hi h0 hl
    by_cases hu : u < 128
    · rw [encU_lt hu, List.singleton_append]
      have ht : (UInt8.ofNat u).toNat = u := UInt8.toNat_ofNat_of_lt' (by show u < 256; omega)
      have h9 : i = 9 → u ≤ 1 := by
        rintro rfl
        have : u * 2 ^ (7 * 9) < 18446744073709551616 := by omega
        have e : 2 ^ (7 * 9) = 9223372036854775808 := by decide
        rw [e] at this; omega
      simp only [getR, ht]
      rw [if_neg (by omega), if_pos hu, Nat.mod_eq_of_lt hu]
      simp
    · have hge : 128 ≤ u := by omega
      rw [encU_ge hge, List.cons_append]
      have ht : (UInt8.ofNat (u % 128 + 128)).toNat = u % 128 + 128 := UInt8.toNat_ofNat_of_lt' (by show u % 128 + 128 < 256; omega)
      have hp : 2 ^ (7 * (i + 1)) = 2 ^ (7 * i) * 128 := by rw [show 7 * (i + 1) = 7 * i + 7 by omega, Nat.pow_add]
      have h9 : i ≠ 9 := by
        rintro rfl
        have : u * 2 ^ (7 * 9) < 18446744073709551616 := by omega
        have e : 2 ^ (7 * 9) = 9223372036854775808 := by decide
        rw [e] at this; omega
      have hdm : u * 2 ^ (7 * i) = u % 128 * 2 ^ (7 * i) + u / 128 * 2 ^ (7 * (i + 1)) := by
        rw [hp]
        have e := Nat.div_add_mod u 128
        have : u * 2 ^ (7 * i) = (128 * (u / 128) + u % 128) * 2 ^ (7 * i) := by rw [e]
        rw [this, Nat.add_mul, Nat.add_comm, Nat.mul_comm 128, Nat.mul_assoc, Nat.mul_comm 128]
      have hnx := pow_next (i := i) (c := u % 128) (by omega)
      simp only [getR, ht]
      rw [if_neg (by omega), if_neg (by omega), show (u % 128 + 128) % 128 = u % 128 by omega]
      rw [ih (u / 128) (by omega) (u / 128) (i + 1) (a + u % 128 * 2 ^ (7 * i)) rest rfl (by omega) (by omega) (by omega) (by omega)]
      rw [Nat.add_assoc a, ← hdm, List.length_cons]
      congr 2; omega
theorem get_put {n : Int} (h1 : -9223372036854775808 ≤ n) (h2 : n < 9223372036854775808) (rest : List UInt8) : get (put n ++ rest) = (n, (put n).length, 0) := by
  have := zz_lt h1 h2
  unfold get put
  rw [getR_enc (zz n) (zz n) 0 0 rest rfl (by decide) (by decide) (by omega) (by simpa using this)]
  simp [unzz_zz]
theorem ba_of (s : ByteArray) : (⟨s.data.toList.toArray⟩ : ByteArray) = s := by cases s; simp
theorem getT_put {s : ByteArray} (hs : s.size ≤ 65536) (rest : List UInt8) : getT (putText s ++ rest) = (s, (putText s).length, 0) := by
  have hsl : s.data.toList.length = s.size := Array.length_toList
  have hg := get_put (n := (s.size : Int)) (by omega) (by omega) (s.data.toList ++ rest)
  have hpl := put_len (n := (s.size : Int)) (by omega) (by omega)
  unfold getT putText
  rw [List.append_assoc, hg]
  simp only []
  rw [if_neg (by omega), if_neg (by omega), if_neg (by rw [List.length_append, List.length_append]; omega)]
  rw [List.drop_left, Int.toNat_natCast, ← hsl, List.take_left, ba_of, List.length_append]
theorem mayRaw_of {r : Raw} (h : mayRaw r = true) : r.kind = 1 ∧ r = ⟨1, r.n, es0⟩ ∨ r.kind = 2 ∧ r = ⟨2, 0, r.s⟩ ∧ r.s.size ≤ 24 := by
  cases r with
  | mk k n s =>
    simp only [mayRaw, Bool.or_eq_true, Bool.and_eq_true, decide_eq_true_eq] at h
    rcases h with ⟨rfl, rfl⟩ | ⟨⟨⟨rfl, rfl⟩, h⟩, _⟩
    · exact .inl ⟨rfl, rfl⟩
    · exact .inr ⟨rfl, rfl, h⟩
theorem getVal_put {r : Raw} (hm : mayRaw r = true) (hn : -9223372036854775808 ≤ r.n ∧ r.n < 9223372036854775808) (rest : List UInt8) : getVal (putVal r ++ rest) = (r, (putVal r).length, 0) := by
  rcases mayRaw_of hm with ⟨hk, he⟩ | ⟨hk, he, hs⟩
  · have hg := get_put (n := r.kind) (by omega) (by omega) (put r.n ++ rest)
    have hg2 := get_put hn.1 hn.2 rest
    unfold getVal putVal
    rw [if_pos hk, List.append_assoc, hg]
    simp only []
    rw [if_neg (by omega), if_pos hk, List.drop_left, hg2]
    simp only []
    rw [if_neg (by omega), ← he, List.length_append]
  · have hg := get_put (n := r.kind) (by omega) (by omega) (putText r.s ++ rest)
    have hg2 := getT_put (s := r.s) (by omega) rest
    unfold getVal putVal
    rw [if_neg (by omega), List.append_assoc, hg]
    simp only []
    rw [if_neg (by omega), if_neg (by omega), if_pos hk, List.drop_left, hg2]
    simp only []
    rw [← he, if_neg (by omega), if_pos hm, List.length_append]
theorem getRec_put {r : Rec} (hm : mayRec r = true) (hn : -9223372036854775808 ≤ r.val.n ∧ r.val.n < 9223372036854775808) (rest : List UInt8) : getRec (putRec r ++ rest) = (r, (putRec r).length, 0) := by
  have hm' := hm
  simp only [mayRec, Bool.and_eq_true] at hm'
  obtain ⟨hk, hv⟩ := hm'
  have hks : r.key.size ≤ 16 := by simp [mayKey] at hk; omega
  have hg := getT_put (s := r.key) (by omega) ((if r.gone then put 0 else putVal r.val) ++ rest)
  unfold getRec putRec
  rw [List.append_assoc, hg]
  simp only []
  rw [if_neg (by omega), if_neg (by simp [hk]), List.drop_left]
  cases hgo : r.gone
  · rw [hgo] at hv
    simp only [Bool.false_eq_true, if_false] at hv ⊢
    have hkd : r.val.kind = 1 ∨ r.val.kind = 2 := by rcases mayRaw_of hv with ⟨h, _⟩ | ⟨h, _⟩ <;> simp [h]
    have hg2 : get (putVal r.val ++ rest) = (r.val.kind, (put r.val.kind).length, 0) := by
      unfold putVal; rw [List.append_assoc]; exact get_put (by omega) (by omega) _
    rw [hg2]
    simp only []
    rw [if_neg (by omega), if_neg (by omega), getVal_put hv hn]
    simp only []
    rw [if_neg (by omega), List.length_append]
    cases r; simp_all
  · rw [hgo] at hv
    simp only [if_true, decide_eq_true_eq] at hv ⊢
    rw [get_put (by omega) (by omega)]
    simp only []
    rw [if_neg (by omega), if_pos trivial, List.length_append]
    cases r; simp_all
end Go.Proofs.YtpnmeednimpjdaaGreat.AM
