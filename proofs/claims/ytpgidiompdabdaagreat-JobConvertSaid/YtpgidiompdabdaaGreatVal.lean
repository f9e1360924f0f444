/- Walks: what the functions compute. -/
import Derived.Test.YtpgidiompdabdaaGreatM6
import Derived.Test.YtpgidiompdabdaaGreatArith
namespace Go.Proofs.YtpgidiompdabdaaGreat.AM
open Go
set_option linter.unusedSimpArgs false
set_option linter.unusedVariables false
set_option maxRecDepth 4000

/-! ### Numbers as bytes -/
def zz (n : Int) : Nat := if n < 0 then (-2 * n - 1).toNat else (2 * n).toNat
def unzz (u : Nat) : Int := if u % 2 = 1 then -((u / 2 : Nat) : Int) - 1 else ((u / 2 : Nat) : Int)
def encU (u : Nat) : List UInt8 := if u < 128 then [UInt8.ofNat u] else UInt8.ofNat (u % 128 + 128) :: encU (u / 128)
termination_by u
def put (n : Int) : List UInt8 := encU (zz n)
def putText (s : ByteArray) : List UInt8 := put s.size ++ s.data.toList
def putVal (r : Raw) : List UInt8 := put r.kind ++ if r.kind = 1 then put r.n else putText r.s
def putRec (r : Rec) : List UInt8 := putText r.key ++ if r.gone then put 0 else putVal r.val
theorem unzz_zz (n : Int) : unzz (zz n) = n := by
  unfold unzz zz; split <;> split <;> omega
theorem zz_lt {n : Int} (h1 : -9223372036854775808 ≤ n) (h2 : n < 9223372036854775808) : zz n < 18446744073709551616 := by
  unfold zz; split <;> omega
theorem encU_lt {u : Nat} (h : u < 128) : encU u = [UInt8.ofNat u] := by rw [encU, if_pos h]
theorem encU_ge {u : Nat} (h : 128 ≤ u) : encU u = UInt8.ofNat (u % 128 + 128) :: encU (u / 128) := by rw [encU, if_neg (by omega)]
theorem encU_len : ∀ (k u : Nat), u < 128 ^ (k + 1) → (encU u).length ≤ k + 1
  | 0, u, h => by rw [encU_lt (by simpa using h)]; simp
  | k + 1, u, h => by
    by_cases hu : u < 128
    · rw [encU_lt hu]; simp
    · rw [encU_ge (by omega), List.length_cons]
      have := encU_len k (u / 128) (by rw [Nat.pow_succ] at h; omega)
      omega
theorem encU_pos (u : Nat) : 1 ≤ (encU u).length := by rw [encU]; split <;> simp
theorem put_len {n : Int} (h1 : -9223372036854775808 ≤ n) (h2 : n < 9223372036854775808) : (put n).length ≤ 10 := encU_len 9 _ (Nat.lt_of_lt_of_le (zz_lt h1 h2) (by decide))
theorem put_pos (n : Int) : 1 ≤ (put n).length := encU_pos _
theorem enc_B {k : Nat} (h : k < 256) : Value.int .u8 (k : Int) = encByte (UInt8.ofNat k) := by
  unfold encByte; congr 1; rw [UInt8.toNat_ofNat_of_lt' h]
theorem S_lit1B {l : SE} {H : SH} {K : Value → SH → Prop} {x : Opd} {z : Value} {k : Nat} (hx : x.lv l = some (.int .u8 (k : Int))) (hk : k < 256) (kk : ∀ w : SV, K w.toV (SL w.toV TByte [UInt8.ofNat k] :: H)) : Step (.lit 5 1 1 [z] [(0, (1, x))]) l H K :=
  S_lit1 (T := TByte) (y := UInt8.ofNat k) (vs := [.int .u8 (k : Int)]) (by simp [lfill, hx, AM.cells, Value.cells]; rfl) (by rw [enc_B hk]; rfl) rfl rfl kk
theorem S_toB {l : SE} {H : SH} {K : Value → SH → Prop} {x : Opd} {a : Nat} {kd : IntKind} (hx : x.lv l = some (.int kd (a : Int))) (k : K (.int .u8 ((a % 256 : Nat) : Int)) H) : Step (.conv .u8 x) l H K :=
  S_pureE (v := .int .u8 (IntKind.wrap .u8 (a : Int))) (by simp only [pev, hx]) (by rw [wrapB]; rfl) k
theorem or128 : ∀ b : Fin 256, (BitVec.ofInt 8 ((b.val : Nat) : Int) ||| BitVec.ofInt 8 128).toNat = b.val % 128 + 128 := by decide
theorem S_or128 {l : SE} {H : SH} {K : Value → SH → Prop} {x : Opd} {a : Nat} (hx : x.lv l = some (.int .u8 (a : Int))) (ha : a < 256) (k : K (.int .u8 ((a % 128 + 128 : Nat) : Int)) H) : Step (.bin .or x (.const (.int .u8 128))) l H K :=
  S_pureE (v := .int .u8 (IntKind.wrap .u8 ((BitVec.ofInt 8 (a : Int) ||| BitVec.ofInt 8 128).toNat : Int))) (by
    have h2 : (Opd.const (.int .u8 128)).lv l = some (.int .u8 128) := rfl
    simp only [pev, hx, h2, binV, intBin, if_true]; rfl) (by
    rw [or128 ⟨a, ha⟩, wrap_u8 (by omega) (by simp only []; omega)]) k
/-! ### Keys, values, records: may they be? -/
theorem sp_kMay {H : SH} {s : ByteArray} : WF F X f_key_May [.string s] H (fun v H' => H' = H ∧ v = .bool (mayKey s)) := by
  refine WF_fn F_key_May ?_
  refine WC_seq (WC_region ?_)
  refine WO_step rfl (S_pure rfl ?_)
  refine WO_nil (KSeq_n (WC_seq (WC_region ?_)))
  refine WO_step rfl (S_pure rfl ?_)
  first | refine WO_step rfl (S_neS rfl rfl ?_) | refine WO_step rfl (S_pure rfl ?_)
  refine WO_step rfl (S_pure rfl ?_)
  refine WO_cases (t := 5) rfl (fun hg1 => ?_) (fun hg1 => ?_)
  ·
   try simp only [bsT] at hg1
   iterate 5 refine WO_step rfl (S_pure rfl ?_)
   refine WO_nil (KSeq_n (WC_ret ?_))
   refine KFn_r (ResL.tmp rfl ResL.nil) ?_
   refine ⟨_, hsA, rfl, ?_⟩
   have : 1 ≤ s.size := by
     rcases Nat.lt_or_ge 0 s.size with h | h
     · exact h
     · exact absurd (ba_ext (a := s) (b := ⟨#[]⟩) (by have : s.data.toList.length = 0 := by rw [Array.length_toList]; exact Nat.le_zero.1 h
                                                      rw [List.length_eq_zero_iff.1 this])) hg1
   simp only [resV, mayKey]
   congr 1; rw [Bool.eq_iff_iff]; simp; omega
  ·
   try simp only [bsT] at hg1
   iterate 3 refine WO_off rfl ?_
   iterate 2 refine WO_step rfl (S_pure rfl ?_)
   refine WO_nil (KSeq_n (WC_ret ?_))
   refine KFn_r (ResL.tmp rfl ResL.nil) ?_
   refine ⟨_, hsA, rfl, ?_⟩
   subst hg1; rfl
theorem ba_beq (a b : ByteArray) : (a == b) = decide (a = b) := by
  rw [Bool.eq_iff_iff, decide_eq_true_eq]
  cases a with
  | mk a => cases b with
    | mk b =>
      show (a == b) = true ↔ _
      rw [beq_iff_eq]; simp
theorem kEq_rec (a b : Rec) : kEq [.s, .b, .i, .i, .s] (cells (TRec.val a)) (cells (TRec.val b)) = some (decide (a = b)) := by
  have e : decide (a = b) = (decide (a.key = b.key) && ((a.gone == b.gone) && ((a.val.kind == b.val.kind) && ((a.val.n == b.val.n) && decide (a.val.s = b.val.s))))) := by
    rw [rec_ext, raw_ext, Bool.eq_iff_iff]; simp; constructor <;> (intro h; simp_all)
  rw [e]
  show kEq [.s, .b, .i, .i, .s] [.string a.key, .bool a.gone, .int .i64 a.val.kind, .int .i64 a.val.n, .string a.val.s] [.string b.key, .bool b.gone, .int .i64 b.val.kind, .int .i64 b.val.n, .string b.val.s] = _
  simp only [kEq, kEq1, ba_beq, if_true]
  cases decide (a.key = b.key) <;> cases a.gone == b.gone <;> cases a.val.kind == b.val.kind <;> cases a.val.n == b.val.n <;> cases decide (a.val.s = b.val.s) <;> rfl
theorem kEq_raw (a b : Raw) : kEq [.i, .i, .s] (cells (TRaw.val a)) (cells (TRaw.val b)) = some (decide (a = b)) := by
  have e : decide (a = b) = ((a.kind == b.kind) && ((a.n == b.n) && decide (a.s = b.s))) := by
    rw [raw_ext, Bool.eq_iff_iff]; simp; constructor <;> (intro h; simp_all)
  rw [e]
  show kEq [.i, .i, .s] [.int .i64 a.kind, .int .i64 a.n, .string a.s] [.int .i64 b.kind, .int .i64 b.n, .string b.s] = _
  simp only [kEq, kEq1, ba_beq, if_true]
  cases a.kind == b.kind <;> cases a.n == b.n <;> cases decide (a.s = b.s) <;> rfl
theorem S_eqA {l : SE} {H : SH} {K : Value → SH → Prop} {x y : Opd} {ks : List SK} {a b : Array Value} {r : Bool} (hx : x.lv l = some (.agg a)) (hy : y.lv l = some (.agg b)) (h1 : a.size = ks.length) (h2 : b.size = ks.length) (hk : kEq ks a.toList b.toList = some r) (k : K (.bool r) H) : Step (.eqA false ks x y) l H K :=
  S_pure (by simp only [pev, hx, hy, h1, h2, hk]; rfl) k
theorem dec_le (s : ByteArray) (pos : Nat) (h : pos < s.size) : pos + (Utf8.decode s pos).2 ≤ s.size := by
  have hl : s.data.toList.length = s.size := Array.length_toList
  rw [Lib.decode_N, hl]
  unfold Lib.decodeN
  repeat' split
  all_goals (simp only []; omega)
theorem vld_fuel (s : ByteArray) : ∀ (f g pos : Nat), s.size - pos ≤ f → s.size - pos ≤ g → vld s f pos = vld s g pos
  | 0, 0, _, _, _ => rfl
  | 0, g + 1, pos, h, _ => by simp only [vld]; rw [if_neg (by omega)]
  | f + 1, 0, pos, _, h => by simp only [vld]; rw [if_neg (by omega)]
  | f + 1, g + 1, pos, h1, h2 => by
    simp only [vld]
    split
    · rename_i h
      have := Lib.width_pos s pos
      rw [vld_fuel s f g _ (by omega) (by omega)]
    · rfl
theorem lp_rValid {H : SH} {s : ByteArray} (hs : s.size ≤ 1000000) {i : Nat} : ∀ (f pos : Nat) (last : Int), s.size - pos ≤ f → pos ≤ s.size → (last = -1 ∨ ∃ j w : Nat, last = (j : Int) ∧ 1 ≤ w ∧ pos = j + w) →
   (vld s f pos && decide (¬ (0 ≤ last ∧ (pos : Int) = last + 1))) = valid s →
    WC F X (.loop L_runes_Valid_0) [(7, .pointer (some ⟨i, 0, none⟩)), (3, .int .i64 last), (0, .string s)] (.obj i (.iter s pos) :: H)
      (KPost fun x l' H' => H' = H ∧ (∃ last : Int, (-1 ≤ last ∧ last ≤ 1000000) ∧ ((x = .exit 0 ∧ l' = [(3, .int .i64 last), (0, .string s)] ∧ decide (last < 0 ∨ last + 1 < s.size) = valid s) ∨ (x = .ret ∧ l' = [(2, .bool false)] ∧ valid s = false)))) := by
  intro f
  induction f using Nat.strongRecOn with
  | _ f ih =>
    intro pos last hf hp hl ha
    have hlb : -1 ≤ last ∧ last ≤ pos := by rcases hl with rfl | ⟨j, w, rfl, _, rfl⟩ <;> omega
    have hw1 := Lib.width_pos s pos
    have hwd := dec_le s pos
    refine WC_loop (WC_seq (WC_region ?_))
    refine WO_step rfl (S_next rfl pkA (fun hn8 => ?_) (fun hn8 => ?_))
    ·
     obtain ⟨f', rfl⟩ : ∃ m', f = m' + 1 := ⟨f - 1, by omega⟩
     simp only [vld, if_pos hn8, decOk] at ha
     refine WO_step rfl (S_pure rfl ?_)
     refine WO_nil (KSeq_n (WC_seq ?_))
     refine WC_cond rfl (fun _ => ?_) (fun h => ?_)
     rotate_left
     · exact absurd h (by decide)
     refine WC_skip (KSeq_n (WC_block (WC_seq (WC_region ?_))))
     iterate 4 refine WO_step rfl (S_pure rfl ?_)
     refine WO_nil (KSeq_n (WC_seq (WC_seq (WC_region ?_))))
     iterate 3 refine WO_step rfl (S_pure rfl ?_)
     refine WO_cases (t := 14) rfl (fun hg1 => ?_) (fun hg1 => ?_)
     ·
      try simp only [bsT] at hg1
      iterate 2 refine WO_step rfl (S_pure rfl ?_)
      refine WO_step rfl (S_pureE rfl (v' := .int .i64 (last + 1)) ?_ ?_)
      · rw [wrap_i64 (by omega) (by omega)]
      first | refine WO_step rfl (S_eqS rfl rfl ?_) | refine WO_step rfl (S_pure rfl ?_)
      refine WO_step rfl (S_pure rfl ?_)
      refine WO_nil (KSeq_n ?_)
      refine WC_cond rfl (fun hb1 => ?_) (fun hb1 => ?_)
      ·
       try simp only [bsT] at hb1
       refine WC_seq (WC_region ?_)
       refine WO_step rfl (S_pure rfl ?_)
       refine WO_nil (KSeq_n (WC_ret (KSeq_r (KBlock_r (KLoop_r ?_)))))
       refine KPost_i (l' := [(2, .bool false)]) seA hsA ⟨rfl, last, by omega, .inr ⟨rfl, rfl, ?_⟩⟩
       rw [← ha]; simp [hg1, hb1]
      ·
       try simp only [bsT] at hb1
       refine WC_skip (KSeq_n (WC_seq (WC_region ?_)))
       refine WO_step rfl (S_pure rfl ?_)
       refine WO_nil (KSeq_n (WC_seq (WC_region ?_)))
       refine WO_step rfl (S_pure rfl ?_)
       first | refine WO_step rfl (S_eqS rfl rfl ?_) | refine WO_step rfl (S_pure rfl ?_)
       refine WO_nil (KSeq_n ?_)
       refine WC_cond rfl (fun hb2 => ?_) (fun hb2 => ?_)
       ·
        try simp only [bsT] at hb2
        refine WC_region ?_
        iterate 2 refine WO_step rfl (S_pure rfl ?_)
        refine WO_nil (KBlock_n (KLoop_n ?_))
        refine WC_weak (ih f' (by omega) (pos + (Utf8.decode s pos).2) pos (by omega) (by omega) (.inr ⟨pos, _, rfl, hw1, rfl⟩) ?_) seA hsA
        rw [← ha]
        have e : (Utf8.decode s pos).1 = 65533 := by omega
        rw [e, Bool.eq_iff_iff]; simp; constructor <;> (intro h; (try simp_all); (try omega))
       ·
        try simp only [bsT] at hb2
        refine WC_skip (KBlock_n (KLoop_n ?_))
        refine WC_weak (ih f' (by omega) (pos + (Utf8.decode s pos).2) (-1) (by omega) (by omega) (.inl rfl) ?_) seA hsA
        rw [← ha]
        have e : ¬ (Utf8.decode s pos).1 = 65533 := by omega
        rw [Bool.eq_iff_iff]; simp [e]; intro _; omega
     ·
      try simp only [bsT] at hg1
      iterate 4 refine WO_off rfl ?_
      refine WO_step rfl (S_pure rfl ?_)
      refine WO_nil (KSeq_n ?_)
      refine WC_cond rfl (fun h => ?_) (fun _ => ?_)
      · exact absurd h (by decide)
      refine WC_skip (KSeq_n (WC_seq (WC_region ?_)))
      refine WO_step rfl (S_pure rfl ?_)
      refine WO_nil (KSeq_n (WC_seq (WC_region ?_)))
      refine WO_step rfl (S_pure rfl ?_)
      first | refine WO_step rfl (S_eqS rfl rfl ?_) | refine WO_step rfl (S_pure rfl ?_)
      refine WO_nil (KSeq_n ?_)
      refine WC_cond rfl (fun hb3 => ?_) (fun hb3 => ?_)
      ·
       try simp only [bsT] at hb3
       refine WC_region ?_
       iterate 2 refine WO_step rfl (S_pure rfl ?_)
       refine WO_nil (KBlock_n (KLoop_n ?_))
       refine WC_weak (ih f' (by omega) (pos + (Utf8.decode s pos).2) pos (by omega) (by omega) (.inr ⟨pos, _, rfl, hw1, rfl⟩) ?_) seA hsA
       rw [← ha]
       have e : (Utf8.decode s pos).1 = 65533 := by omega
       rw [e, Bool.eq_iff_iff]; simp; constructor <;> (intro h; (try simp_all); (try omega))
      ·
       try simp only [bsT] at hb3
       refine WC_skip (KBlock_n (KLoop_n ?_))
       refine WC_weak (ih f' (by omega) (pos + (Utf8.decode s pos).2) (-1) (by omega) (by omega) (.inl rfl) ?_) seA hsA
       rw [← ha]
       have e : ¬ (Utf8.decode s pos).1 = 65533 := by omega
       rw [Bool.eq_iff_iff]; simp [e]; intro _; omega
    ·
     refine WO_step rfl (S_pure rfl ?_)
     refine WO_nil (KSeq_n (WC_seq ?_))
     refine WC_cond rfl (fun h => ?_) (fun _ => ?_)
     · exact absurd h (by decide)
     refine WC_exit (KSeq_x (KLoop_x ?_))
     refine KPost_i (l' := [(3, .int .i64 last), (0, .string s)]) (H' := H) seA hsA ⟨rfl, last, by omega, .inl ⟨rfl, rfl, ?_⟩⟩
     rw [← ha]
     have e : vld s f pos = true := by
       cases f with
       | zero => rfl
       | succ f => simp only [vld, if_neg hn8]
     rw [e, Bool.eq_iff_iff]
     simp
     rcases hl with rfl | ⟨j, w, rfl, _, rfl⟩ <;> omega
theorem sp_rValid {H : SH} {s : ByteArray} (hs : s.size ≤ 1000000) : WF F X f_runes_Valid [.string s] H (fun v H' => H' = H ∧ v = .bool (valid s)) := by
  refine WF_fn F_runes_Valid ?_
  refine WC_seq (WC_region ?_)
  refine WO_step rfl (S_pure rfl ?_)
  refine WO_nil (KSeq_n (WC_seq (WC_region ?_)))
  refine WO_step rfl (S_pure rfl ?_)
  refine WO_nil (KSeq_n (WC_seq (WC_seq (WC_region ?_))))
  refine WO_step rfl (S_pure rfl ?_)
  refine WO_step rfl (S_iter rfl fun i7 => ?_)
  refine WO_nil (KSeq_n (WC_block ?_))
  --out x0 r
  refine WC_post (WC_weak (lp_rValid hs s.size 0 (-1) (by omega) (by omega) (.inl rfl) (by simp [valid])) seA hsA) ?_
  rintro x l' H' ⟨rfl, last, hlast, ⟨rfl, rfl, h0⟩ | ⟨rfl, rfl, h0⟩⟩
  ·
   refine KBlock_h (KSeq_n (WC_seq (WC_region ?_)))
   iterate 3 refine WO_step rfl (S_pure rfl ?_)
   refine WO_cases (t := 25) rfl (fun hg1 => ?_) (fun hg1 => ?_)
   ·
    try simp only [bsT] at hg1
    iterate 5 refine WO_off rfl ?_
    iterate 2 refine WO_step rfl (S_pure rfl ?_)
    refine WO_nil (KSeq_n (WC_ret ?_))
    refine KFn_r (ResL.tmp rfl ResL.nil) ?_
    refine ⟨_, hsA, rfl, ?_⟩
    simp only [resV]; rw [← h0]
    congr 1; rw [Bool.eq_iff_iff]; simp; omega
   ·
    try simp only [bsT] at hg1
    iterate 3 refine WO_step rfl (S_pure rfl ?_)
    refine WO_step rfl (S_pureE rfl (v' := .int .i64 (last + 1)) ?_ ?_)
    · rw [wrap_i64 (by omega) (by omega)]
    iterate 3 refine WO_step rfl (S_pure rfl ?_)
    refine WO_nil (KSeq_n (WC_ret ?_))
    refine KFn_r (ResL.tmp rfl ResL.nil) ?_
    refine ⟨_, hsA, rfl, ?_⟩
    simp only [resV]; rw [← h0]
    congr 1; rw [Bool.eq_iff_iff]; simp; omega
  ·
   refine KBlock_r (KSeq_r ?_)
   refine KFn_r (ResL.tmp rfl ResL.nil) ?_
   refine ⟨_, hsA, rfl, ?_⟩
   rw [h0]; rfl
theorem sp_Of {H : SH} {r : Raw} : WF F X f_value_Of [TRaw.val r] H (fun v H' => H' = H ∧ ∃ c : Value, one c = true ∧ v = .tuple #[.agg #[c], .int .i64 (if mayRaw r then 0 else 1)]) := by
  refine WF_fn F_value_Of ?_
  refine WC_seq (WC_region ?_)
  refine WO_step rfl (S_box rfl rfl fun i1 => ?_)
  refine WO_step rfl (S_new fun i2 => ?_)
  refine WO_step rfl (S_pure rfl ?_)
  refine WO_nil (KSeq_n (WC_seq (WC_block (WC_seq (WC_region ?_)))))
  refine WO_step rfl (S_pure rfl ?_)
  refine WO_step rfl (S_loadO rfl pkA (by rfl) (by rfl) ?_)
  first | refine WO_step rfl (S_eqS rfl rfl ?_) | refine WO_step rfl (S_pure rfl ?_)
  refine WO_step rfl (S_pure rfl ?_)
  refine WO_cases (t := 8) rfl (fun hg1 => ?_) (fun hg1 => ?_)
  ·
   try simp only [bsT] at hg1
   refine WO_step rfl (S_pure rfl ?_)
   refine WO_step rfl (S_loadO rfl pkA (by rfl) (by rfl) ?_)
   first | refine WO_step rfl (S_eqS rfl rfl ?_) | refine WO_step rfl (S_pure rfl ?_)
   iterate 2 refine WO_step rfl (S_pure rfl ?_)
   refine WO_nil (KSeq_n ?_)
   refine WC_cond rfl (fun hb1 => ?_) (fun hb1 => ?_)
   ·
    try simp only [bsT] at hb1
    refine WC_seq (WC_region ?_)
    refine WO_step rfl (S_pure rfl ?_)
    refine WO_step rfl (S_loadO rfl pkA (by rfl) (by rfl) ?_)
    iterate 2 refine WO_step rfl (S_pure rfl ?_)
    first | refine WO_step rfl (S_storeT rfl rfl pkA (by rfl) (by rfl) ?_) | refine WO_step rfl (S_storeO rfl rfl pkA (by first | rfl | exact SV.cells1 _) (by rfl) (by first | rfl | exact SV.ones _) ?_)
    refine WO_step rfl (S_pure rfl ?_)
    refine WO_nil (KSeq_n (WC_ret (KBlock_r (KSeq_r ?_))))
    refine KFn_r (ResL.cell rfl pkA (Nat.le_of_ble_eq_true rfl) rfl (ResL.tmp rfl ResL.nil)) ?_
    refine ⟨_, hsA, rfl, .iface 2 (.int .i64 r.n), rfl, ?_⟩
    have : mayRaw r = true := by simp [mayRaw, hg1, hb1, es0]
    rw [this]; rfl
   ·
    try simp only [bsT] at hb1
    refine WC_seq (WC_region ?_)
    refine WO_step rfl (S_pure rfl ?_)
    refine WO_step rfl (S_loadO rfl pkA (by rfl) (by rfl) ?_)
    first | refine WO_step rfl (S_eqS rfl rfl ?_) | refine WO_step rfl (S_pure rfl ?_)
    refine WO_step rfl (S_pure rfl ?_)
    refine WO_cases (t := 21) rfl (fun hg2 => ?_) (fun hg2 => ?_)
    ·
     try simp only [bsT] at hg2
     refine WO_step rfl (S_pure rfl ?_)
     refine WO_step rfl (S_loadO rfl pkA (by rfl) (by rfl) ?_)
     first | refine WO_step rfl (S_eqS rfl rfl ?_) | refine WO_step rfl (S_pure rfl ?_)
     iterate 2 refine WO_step rfl (S_pure rfl ?_)
     refine WO_cases (t := 26) rfl (fun hg3 => ?_) (fun hg3 => ?_)
     ·
      try simp only [bsT] at hg3
      refine WO_step rfl (S_pure rfl ?_)
      refine WO_step rfl (S_loadO rfl pkA (by rfl) (by rfl) ?_)
      iterate 4 refine WO_step rfl (S_pure rfl ?_)
      refine WO_cases (t := 32) rfl (fun hg4 => ?_) (fun hg4 => ?_)
      ·
       try simp only [bsT] at hg4
       refine WO_step rfl (S_pure rfl ?_)
       refine WO_step rfl (S_loadO rfl pkA (by rfl) (by rfl) ?_)
       refine WO_call rfl rfl rfl ?_
       refine (sp_rValid (by omega)).mono ?_
       rintro _ _ ⟨rfl, rfl⟩
       iterate 2 refine WO_step rfl (S_pure rfl ?_)
       refine WO_nil (KSeq_n ?_)
       refine WC_cond rfl (fun hb2 => ?_) (fun hb2 => ?_)
       ·
        try simp only [bsT] at hb2
        refine WC_seq (WC_region ?_)
        refine WO_step rfl (S_pure rfl ?_)
        refine WO_step rfl (S_loadO rfl pkA (by rfl) (by rfl) ?_)
        iterate 2 refine WO_step rfl (S_pure rfl ?_)
        first | refine WO_step rfl (S_storeT rfl rfl pkA (by rfl) (by rfl) ?_) | refine WO_step rfl (S_storeO rfl rfl pkA (by first | rfl | exact SV.cells1 _) (by rfl) (by first | rfl | exact SV.ones _) ?_)
        refine WO_step rfl (S_pure rfl ?_)
        refine WO_nil (KSeq_n (WC_ret (KBlock_r (KSeq_r ?_))))
        refine KFn_r (ResL.cell rfl pkA (Nat.le_of_ble_eq_true rfl) rfl (ResL.tmp rfl ResL.nil)) ?_
        first
          | (refine ⟨_, hsA, rfl, .iface 118 (.string r.s), rfl, ?_⟩
             have : mayRaw r = true := by first | (simp_all [mayRaw, es0]; done) | (simp_all [mayRaw, es0]; omega)
             rw [this]; rfl)
          | (refine ⟨_, hsA, rfl, .nilIface, rfl, ?_⟩
             have : mayRaw r = false := by first | (simp_all [mayRaw, es0]; done) | (simp_all [mayRaw, es0]; omega)
             rw [this]; rfl)
       ·
        try simp only [bsT] at hb2
        refine WC_skip (KBlock_n (KSeq_n (WC_seq (WC_region ?_))))
        refine WO_step rfl (S_pure rfl ?_)
        first | refine WO_step rfl (S_storeT rfl rfl pkA (by rfl) (by rfl) ?_) | refine WO_step rfl (S_storeO rfl rfl pkA (by first | rfl | exact SV.cells1 _) (by rfl) (by first | rfl | exact SV.ones _) ?_)
        refine WO_step rfl (S_pure rfl ?_)
        refine WO_nil (KSeq_n (WC_ret ?_))
        refine KFn_r (ResL.cell rfl pkA (Nat.le_of_ble_eq_true rfl) rfl (ResL.tmp rfl ResL.nil)) ?_
        first
          | (refine ⟨_, hsA, rfl, .iface 118 (.string r.s), rfl, ?_⟩
             have : mayRaw r = true := by first | (simp_all [mayRaw, es0]; done) | (simp_all [mayRaw, es0]; omega)
             rw [this]; rfl)
          | (refine ⟨_, hsA, rfl, .nilIface, rfl, ?_⟩
             have : mayRaw r = false := by first | (simp_all [mayRaw, es0]; done) | (simp_all [mayRaw, es0]; omega)
             rw [this]; rfl)
      ·
       try simp only [bsT] at hg4
       iterate 3 refine WO_off rfl ?_
       iterate 2 refine WO_step rfl (S_pure rfl ?_)
       refine WO_nil (KSeq_n ?_)
       refine WC_cond rfl (fun h => ?_) (fun _ => ?_)
       · exact absurd h (by decide)
       refine WC_skip (KBlock_n (KSeq_n (WC_seq (WC_region ?_))))
       refine WO_step rfl (S_pure rfl ?_)
       first | refine WO_step rfl (S_storeT rfl rfl pkA (by rfl) (by rfl) ?_) | refine WO_step rfl (S_storeO rfl rfl pkA (by first | rfl | exact SV.cells1 _) (by rfl) (by first | rfl | exact SV.ones _) ?_)
       refine WO_step rfl (S_pure rfl ?_)
       refine WO_nil (KSeq_n (WC_ret ?_))
       refine KFn_r (ResL.cell rfl pkA (Nat.le_of_ble_eq_true rfl) rfl (ResL.tmp rfl ResL.nil)) ?_
       first
         | (refine ⟨_, hsA, rfl, .iface 118 (.string r.s), rfl, ?_⟩
            have : mayRaw r = true := by first | (simp_all [mayRaw, es0]; done) | (simp_all [mayRaw, es0]; omega)
            rw [this]; rfl)
         | (refine ⟨_, hsA, rfl, .nilIface, rfl, ?_⟩
            have : mayRaw r = false := by first | (simp_all [mayRaw, es0]; done) | (simp_all [mayRaw, es0]; omega)
            rw [this]; rfl)
     ·
      try simp only [bsT] at hg3
      iterate 4 refine WO_off rfl ?_
      iterate 2 refine WO_step rfl (S_pure rfl ?_)
      iterate 3 refine WO_off rfl ?_
      iterate 2 refine WO_step rfl (S_pure rfl ?_)
      refine WO_nil (KSeq_n ?_)
      refine WC_cond rfl (fun h => ?_) (fun _ => ?_)
      · exact absurd h (by decide)
      refine WC_skip (KBlock_n (KSeq_n (WC_seq (WC_region ?_))))
      refine WO_step rfl (S_pure rfl ?_)
      first | refine WO_step rfl (S_storeT rfl rfl pkA (by rfl) (by rfl) ?_) | refine WO_step rfl (S_storeO rfl rfl pkA (by first | rfl | exact SV.cells1 _) (by rfl) (by first | rfl | exact SV.ones _) ?_)
      refine WO_step rfl (S_pure rfl ?_)
      refine WO_nil (KSeq_n (WC_ret ?_))
      refine KFn_r (ResL.cell rfl pkA (Nat.le_of_ble_eq_true rfl) rfl (ResL.tmp rfl ResL.nil)) ?_
      first
        | (refine ⟨_, hsA, rfl, .iface 118 (.string r.s), rfl, ?_⟩
           have : mayRaw r = true := by first | (simp_all [mayRaw, es0]; done) | (simp_all [mayRaw, es0]; omega)
           rw [this]; rfl)
        | (refine ⟨_, hsA, rfl, .nilIface, rfl, ?_⟩
           have : mayRaw r = false := by first | (simp_all [mayRaw, es0]; done) | (simp_all [mayRaw, es0]; omega)
           rw [this]; rfl)
    ·
     try simp only [bsT] at hg2
     iterate 3 refine WO_off rfl ?_
     iterate 2 refine WO_step rfl (S_pure rfl ?_)
     iterate 4 refine WO_off rfl ?_
     iterate 2 refine WO_step rfl (S_pure rfl ?_)
     iterate 3 refine WO_off rfl ?_
     iterate 2 refine WO_step rfl (S_pure rfl ?_)
     refine WO_nil (KSeq_n ?_)
     refine WC_cond rfl (fun h => ?_) (fun _ => ?_)
     · exact absurd h (by decide)
     refine WC_skip (KBlock_n (KSeq_n (WC_seq (WC_region ?_))))
     refine WO_step rfl (S_pure rfl ?_)
     first | refine WO_step rfl (S_storeT rfl rfl pkA (by rfl) (by rfl) ?_) | refine WO_step rfl (S_storeO rfl rfl pkA (by first | rfl | exact SV.cells1 _) (by rfl) (by first | rfl | exact SV.ones _) ?_)
     refine WO_step rfl (S_pure rfl ?_)
     refine WO_nil (KSeq_n (WC_ret ?_))
     refine KFn_r (ResL.cell rfl pkA (Nat.le_of_ble_eq_true rfl) rfl (ResL.tmp rfl ResL.nil)) ?_
     first
       | (refine ⟨_, hsA, rfl, .iface 118 (.string r.s), rfl, ?_⟩
          have : mayRaw r = true := by first | (simp_all [mayRaw, es0]; done) | (simp_all [mayRaw, es0]; omega)
          rw [this]; rfl)
       | (refine ⟨_, hsA, rfl, .nilIface, rfl, ?_⟩
          have : mayRaw r = false := by first | (simp_all [mayRaw, es0]; done) | (simp_all [mayRaw, es0]; omega)
          rw [this]; rfl)
  ·
   try simp only [bsT] at hg1
   iterate 3 refine WO_off rfl ?_
   iterate 2 refine WO_step rfl (S_pure rfl ?_)
   refine WO_nil (KSeq_n ?_)
   refine WC_cond rfl (fun h => ?_) (fun _ => ?_)
   · exact absurd h (by decide)
   refine WC_seq (WC_region ?_)
   refine WO_step rfl (S_pure rfl ?_)
   refine WO_step rfl (S_loadO rfl pkA (by rfl) (by rfl) ?_)
   first | refine WO_step rfl (S_eqS rfl rfl ?_) | refine WO_step rfl (S_pure rfl ?_)
   refine WO_step rfl (S_pure rfl ?_)
   refine WO_cases (t := 21) rfl (fun hg5 => ?_) (fun hg5 => ?_)
   ·
    try simp only [bsT] at hg5
    refine WO_step rfl (S_pure rfl ?_)
    refine WO_step rfl (S_loadO rfl pkA (by rfl) (by rfl) ?_)
    first | refine WO_step rfl (S_eqS rfl rfl ?_) | refine WO_step rfl (S_pure rfl ?_)
    iterate 2 refine WO_step rfl (S_pure rfl ?_)
    refine WO_cases (t := 26) rfl (fun hg6 => ?_) (fun hg6 => ?_)
    ·
     try simp only [bsT] at hg6
     refine WO_step rfl (S_pure rfl ?_)
     refine WO_step rfl (S_loadO rfl pkA (by rfl) (by rfl) ?_)
     iterate 4 refine WO_step rfl (S_pure rfl ?_)
     refine WO_cases (t := 32) rfl (fun hg7 => ?_) (fun hg7 => ?_)
     ·
      try simp only [bsT] at hg7
      refine WO_step rfl (S_pure rfl ?_)
      refine WO_step rfl (S_loadO rfl pkA (by rfl) (by rfl) ?_)
      refine WO_call rfl rfl rfl ?_
      refine (sp_rValid (by omega)).mono ?_
      rintro _ _ ⟨rfl, rfl⟩
      iterate 2 refine WO_step rfl (S_pure rfl ?_)
      refine WO_nil (KSeq_n ?_)
      refine WC_cond rfl (fun hb3 => ?_) (fun hb3 => ?_)
      ·
       try simp only [bsT] at hb3
       refine WC_seq (WC_region ?_)
       refine WO_step rfl (S_pure rfl ?_)
       refine WO_step rfl (S_loadO rfl pkA (by rfl) (by rfl) ?_)
       iterate 2 refine WO_step rfl (S_pure rfl ?_)
       first | refine WO_step rfl (S_storeT rfl rfl pkA (by rfl) (by rfl) ?_) | refine WO_step rfl (S_storeO rfl rfl pkA (by first | rfl | exact SV.cells1 _) (by rfl) (by first | rfl | exact SV.ones _) ?_)
       refine WO_step rfl (S_pure rfl ?_)
       refine WO_nil (KSeq_n (WC_ret (KBlock_r (KSeq_r ?_))))
       refine KFn_r (ResL.cell rfl pkA (Nat.le_of_ble_eq_true rfl) rfl (ResL.tmp rfl ResL.nil)) ?_
       first
         | (refine ⟨_, hsA, rfl, .iface 118 (.string r.s), rfl, ?_⟩
            have : mayRaw r = true := by first | (simp_all [mayRaw, es0]; done) | (simp_all [mayRaw, es0]; omega)
            rw [this]; rfl)
         | (refine ⟨_, hsA, rfl, .nilIface, rfl, ?_⟩
            have : mayRaw r = false := by first | (simp_all [mayRaw, es0]; done) | (simp_all [mayRaw, es0]; omega)
            rw [this]; rfl)
      ·
       try simp only [bsT] at hb3
       refine WC_skip (KBlock_n (KSeq_n (WC_seq (WC_region ?_))))
       refine WO_step rfl (S_pure rfl ?_)
       first | refine WO_step rfl (S_storeT rfl rfl pkA (by rfl) (by rfl) ?_) | refine WO_step rfl (S_storeO rfl rfl pkA (by first | rfl | exact SV.cells1 _) (by rfl) (by first | rfl | exact SV.ones _) ?_)
       refine WO_step rfl (S_pure rfl ?_)
       refine WO_nil (KSeq_n (WC_ret ?_))
       refine KFn_r (ResL.cell rfl pkA (Nat.le_of_ble_eq_true rfl) rfl (ResL.tmp rfl ResL.nil)) ?_
       first
         | (refine ⟨_, hsA, rfl, .iface 118 (.string r.s), rfl, ?_⟩
            have : mayRaw r = true := by first | (simp_all [mayRaw, es0]; done) | (simp_all [mayRaw, es0]; omega)
            rw [this]; rfl)
         | (refine ⟨_, hsA, rfl, .nilIface, rfl, ?_⟩
            have : mayRaw r = false := by first | (simp_all [mayRaw, es0]; done) | (simp_all [mayRaw, es0]; omega)
            rw [this]; rfl)
     ·
      try simp only [bsT] at hg7
      iterate 3 refine WO_off rfl ?_
      iterate 2 refine WO_step rfl (S_pure rfl ?_)
      refine WO_nil (KSeq_n ?_)
      refine WC_cond rfl (fun h => ?_) (fun _ => ?_)
      · exact absurd h (by decide)
      refine WC_skip (KBlock_n (KSeq_n (WC_seq (WC_region ?_))))
      refine WO_step rfl (S_pure rfl ?_)
      first | refine WO_step rfl (S_storeT rfl rfl pkA (by rfl) (by rfl) ?_) | refine WO_step rfl (S_storeO rfl rfl pkA (by first | rfl | exact SV.cells1 _) (by rfl) (by first | rfl | exact SV.ones _) ?_)
      refine WO_step rfl (S_pure rfl ?_)
      refine WO_nil (KSeq_n (WC_ret ?_))
      refine KFn_r (ResL.cell rfl pkA (Nat.le_of_ble_eq_true rfl) rfl (ResL.tmp rfl ResL.nil)) ?_
      first
        | (refine ⟨_, hsA, rfl, .iface 118 (.string r.s), rfl, ?_⟩
           have : mayRaw r = true := by first | (simp_all [mayRaw, es0]; done) | (simp_all [mayRaw, es0]; omega)
           rw [this]; rfl)
        | (refine ⟨_, hsA, rfl, .nilIface, rfl, ?_⟩
           have : mayRaw r = false := by first | (simp_all [mayRaw, es0]; done) | (simp_all [mayRaw, es0]; omega)
           rw [this]; rfl)
    ·
     try simp only [bsT] at hg6
     iterate 4 refine WO_off rfl ?_
     iterate 2 refine WO_step rfl (S_pure rfl ?_)
     iterate 3 refine WO_off rfl ?_
     iterate 2 refine WO_step rfl (S_pure rfl ?_)
     refine WO_nil (KSeq_n ?_)
     refine WC_cond rfl (fun h => ?_) (fun _ => ?_)
     · exact absurd h (by decide)
     refine WC_skip (KBlock_n (KSeq_n (WC_seq (WC_region ?_))))
     refine WO_step rfl (S_pure rfl ?_)
     first | refine WO_step rfl (S_storeT rfl rfl pkA (by rfl) (by rfl) ?_) | refine WO_step rfl (S_storeO rfl rfl pkA (by first | rfl | exact SV.cells1 _) (by rfl) (by first | rfl | exact SV.ones _) ?_)
     refine WO_step rfl (S_pure rfl ?_)
     refine WO_nil (KSeq_n (WC_ret ?_))
     refine KFn_r (ResL.cell rfl pkA (Nat.le_of_ble_eq_true rfl) rfl (ResL.tmp rfl ResL.nil)) ?_
     first
       | (refine ⟨_, hsA, rfl, .iface 118 (.string r.s), rfl, ?_⟩
          have : mayRaw r = true := by first | (simp_all [mayRaw, es0]; done) | (simp_all [mayRaw, es0]; omega)
          rw [this]; rfl)
       | (refine ⟨_, hsA, rfl, .nilIface, rfl, ?_⟩
          have : mayRaw r = false := by first | (simp_all [mayRaw, es0]; done) | (simp_all [mayRaw, es0]; omega)
          rw [this]; rfl)
   ·
    try simp only [bsT] at hg5
    iterate 3 refine WO_off rfl ?_
    iterate 2 refine WO_step rfl (S_pure rfl ?_)
    iterate 4 refine WO_off rfl ?_
    iterate 2 refine WO_step rfl (S_pure rfl ?_)
    iterate 3 refine WO_off rfl ?_
    iterate 2 refine WO_step rfl (S_pure rfl ?_)
    refine WO_nil (KSeq_n ?_)
    refine WC_cond rfl (fun h => ?_) (fun _ => ?_)
    · exact absurd h (by decide)
    refine WC_skip (KBlock_n (KSeq_n (WC_seq (WC_region ?_))))
    refine WO_step rfl (S_pure rfl ?_)
    first | refine WO_step rfl (S_storeT rfl rfl pkA (by rfl) (by rfl) ?_) | refine WO_step rfl (S_storeO rfl rfl pkA (by first | rfl | exact SV.cells1 _) (by rfl) (by first | rfl | exact SV.ones _) ?_)
    refine WO_step rfl (S_pure rfl ?_)
    refine WO_nil (KSeq_n (WC_ret ?_))
    refine KFn_r (ResL.cell rfl pkA (Nat.le_of_ble_eq_true rfl) rfl (ResL.tmp rfl ResL.nil)) ?_
    first
      | (refine ⟨_, hsA, rfl, .iface 118 (.string r.s), rfl, ?_⟩
         have : mayRaw r = true := by first | (simp_all [mayRaw, es0]; done) | (simp_all [mayRaw, es0]; omega)
         rw [this]; rfl)
      | (refine ⟨_, hsA, rfl, .nilIface, rfl, ?_⟩
         have : mayRaw r = false := by first | (simp_all [mayRaw, es0]; done) | (simp_all [mayRaw, es0]; omega)
         rw [this]; rfl)
theorem sp_rMay {H : SH} {r : Rec} : WF F X f_record_May [TRec.val r] H (fun v H' => H' = H ∧ v = .bool (mayRec r)) := by
  refine WF_fn F_record_May ?_
  refine WC_seq (WC_region ?_)
  refine WO_step rfl (S_box rfl rfl fun i1 => ?_)
  refine WO_step rfl (S_pure rfl ?_)
  refine WO_nil (KSeq_n (WC_seq (WC_seq (WC_region ?_))))
  refine WO_step rfl (S_pure rfl ?_)
  refine WO_step rfl (S_loadO rfl pkA (by rfl) (by rfl) ?_)
  refine WO_call rfl rfl rfl ?_
  refine sp_kMay.mono ?_
  rintro _ _ ⟨rfl, rfl⟩
  refine WO_step rfl (S_pure rfl ?_)
  refine WO_nil (KSeq_n ?_)
  refine WC_cond rfl (fun hb1 => ?_) (fun hb1 => ?_)
  ·
   try simp only [bsT] at hb1
   refine WC_seq (WC_region ?_)
   refine WO_step rfl (S_pure rfl ?_)
   refine WO_nil (KSeq_n (WC_ret (KSeq_r ?_)))
   refine KFn_r (ResL.tmp rfl ResL.nil) ?_
   refine ⟨_, hsA, rfl, ?_⟩
   simp only [resV, mayRec]
   simp only [hb1]
   try simp only [hb2]
   try (cases mayRaw r.val)
   all_goals rfl
  ·
   try simp only [bsT] at hb1
   refine WC_skip (KSeq_n (WC_seq (WC_seq (WC_region ?_))))
   refine WO_step rfl (S_pure rfl ?_)
   refine WO_step rfl (S_loadO rfl pkA (by rfl) (by rfl) ?_)
   refine WO_nil (KSeq_n ?_)
   refine WC_cond rfl (fun hb2 => ?_) (fun hb2 => ?_)
   ·
    try simp only [bsT] at hb2
    refine WC_seq (WC_region ?_)
    refine WO_step rfl (S_pure rfl ?_)
    refine WO_step rfl (S_loadO rfl pkA (by rfl) (by rfl) ?_)
    refine WO_step rfl (S_pure rfl ?_)
    refine WO_step rfl (S_eqA rfl rfl rfl rfl (kEq_raw r.val raw0) ?_)
    refine WO_step rfl (S_pure rfl ?_)
    refine WO_nil (KSeq_n (WC_ret (KSeq_r ?_)))
    refine KFn_r (ResL.tmp rfl ResL.nil) ?_
    refine ⟨_, hsA, rfl, ?_⟩
    simp only [resV, mayRec]
    simp only [hb1]
    try simp only [hb2]
    try (cases mayRaw r.val)
    all_goals rfl
   ·
    try simp only [bsT] at hb2
    refine WC_skip (KSeq_n (WC_seq (WC_region ?_)))
    refine WO_step rfl (S_pure rfl ?_)
    refine WO_step rfl (S_loadO rfl pkA (by rfl) (by rfl) ?_)
    refine WO_call rfl rfl rfl ?_
    refine (sp_Of).mono ?_
    rintro _ _ ⟨rfl, c, hc, rfl⟩
    iterate 3 refine WO_step rfl (S_pure rfl ?_)
    refine WO_step rfl (S_new fun i3 => ?_)
    refine WO_step rfl (S_storeO rfl rfl pkA (by rfl) (by rfl) (by show (one c && true) = true; rw [hc]; rfl) ?_)
    refine WO_step rfl (S_pure rfl ?_)
    refine WO_nil (KSeq_n (WC_seq (WC_region ?_)))
    refine WO_step rfl (S_pure rfl ?_)
    first | refine WO_step rfl (S_eqS rfl rfl ?_) | refine WO_step rfl (S_pure rfl ?_)
    refine WO_step rfl (S_pure rfl ?_)
    refine WO_nil (KSeq_n (WC_ret ?_))
    refine KFn_r (ResL.tmp rfl ResL.nil) ?_
    refine ⟨_, hsA, rfl, ?_⟩
    simp only [resV, mayRec]
    simp only [hb1]
    try simp only [hb2]
    try (cases mayRaw r.val)
    all_goals rfl

end Go.Proofs.YtpgidiompdabdaaGreat.AM
