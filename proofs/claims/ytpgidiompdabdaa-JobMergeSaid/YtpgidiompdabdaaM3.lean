/- Walks: what the functions compute. -/
import Derived.Test.YtpgidiompdabdaaTypes
import Derived.Lib.TrimUEq
import Derived.Lib.RuneCountTail
namespace Go.Proofs.Ytpgidiompdabdaa.AM
open Go
set_option linter.unusedSimpArgs false
set_option linter.unusedVariables false
set_option maxRecDepth 4000

def findP (i4 : Nat) (H : SH) (o : Option Rec) : KP := fun x l' H' => match o with
  | some q => x = .ret ∧ l' = [(4, .pointer (some ⟨i4, 0, none⟩)), (5, .bool true)] ∧ H' = OB i4 TRec q :: H
  | none => x = .exit 0 ∧ l' = [(4, .pointer (some ⟨i4, 0, none⟩))] ∧ H' = OB i4 TRec rec0 :: H
theorem lp_Find_0 {H : SH} {v : Value} {l : List Rec} {k : ByteArray} (hv : RD H v TRec l) (hb : l.length < 9223372036854775807) (i4 : Nat) : ∀ (n a : Nat), l.length - a = n → a ≤ l.length → fnd (l.drop a) k = fnd l k →
    WC F X (.loop L_loessref10_Find_0) [(6, .int .i64 a), (0, v), (1, .string k), (4, .pointer (some ⟨i4, 0, none⟩))] (OB i4 TRec rec0 :: H) (KPost (findP i4 H (fnd l k))) := by
  intro n
  induction n using Nat.strongRecOn with
  | _ n ih =>
    intro a hn ha hf
    refine WC_loop ?_
    refine WC_seq ?_
    refine WC_seq ?_
    refine WC_region ?_
    iterate 2 refine WO_step rfl (S_pure rfl ?_)
    first | refine WO_step rfl (S_pure rfl ?_) | refine WO_step rfl (S_lenS rfl rdA ?_)
    refine WO_step rfl (S_pure rfl ?_)
    refine WO_nil ?_
    refine KSeq_n ?_
    refine WC_cond rfl (fun hb1 => ?_) (fun hb1 => ?_)
    ·
     try simp only [bsT] at hb1
     obtain ⟨x, hx⟩ := get_of_lt hb1
     rw [drop_get hx] at hf
     refine WC_skip ?_
     refine KSeq_n ?_
     refine WC_seq ?_
     refine WC_block ?_
     refine WC_seq ?_
     refine WC_region ?_
     iterate 2 refine WO_step rfl (S_pure rfl ?_)
     refine WO_step rfl (S_idx rfl rfl rdA (by first | rfl | assumption | (symm; assumption)) (by rfl) (by first | assumption | omega | exact lt_of_get (by assumption) | (simp only [List.length_set]; first | assumption | omega | exact lt_of_get (by assumption))) fun hp15 => ?_)
     refine WO_step rfl (S_fldE rfl (by repeat (first | assumption | apply IsP.padd)) ?_)
     refine WO_step rfl (S_loadF rfl rdA (by rfl) (by assumption) (by rfl) (by rfl) ?_)
     refine WO_step rfl (S_pure rfl ?_)
     first | refine WO_step rfl (S_eqS rfl rfl ?_) | refine WO_step rfl (S_pure rfl ?_)
     refine WO_nil ?_
     refine KSeq_n ?_
     refine WC_cond rfl (fun hb2 => ?_) (fun hb2 => ?_)
     ·
      try simp only [bsT] at hb2
      refine WC_seq ?_
      refine WC_region ?_
      iterate 2 refine WO_step rfl (S_pure rfl ?_)
      refine WO_step rfl (S_idx rfl rfl rdA (by first | rfl | assumption | (symm; assumption)) (by rfl) (by first | assumption | omega | exact lt_of_get (by assumption) | (simp only [List.length_set]; first | assumption | omega | exact lt_of_get (by assumption))) fun hp22 => ?_)
      refine WO_step rfl (S_loadE rfl rdA (by first | rfl | assumption | (symm; assumption)) (by first | rfl | assumption | (symm; assumption)) (by first | rfl | assumption | (symm; assumption)) (by assumption) ?_)
      refine WO_step rfl (S_storeO rfl rfl pkA (by first | rfl | exact SV.cells1 _) (by rfl) (by first | rfl | exact SV.ones _) ?_)
      refine WO_step rfl (S_pure rfl ?_)
      refine WO_nil ?_
      refine KSeq_n ?_
      refine WC_ret ?_
      refine KBlock_r ?_
      refine KSeq_r ?_
      refine KLoop_r ?_
      rw [← hf]; simp only [fnd, hb2, if_true]
      exact KPost_i seA hsA ⟨rfl, rfl, rfl⟩
     ·
      try simp only [bsT] at hb2
      refine WC_skip ?_
      refine KBlock_n ?_
      refine KSeq_n ?_
      refine WC_region ?_
      refine WO_step rfl (S_pure rfl ?_)
      first | refine WO_step rfl (S_addN (b := 1) rfl rfl (by omega) ?_) | refine WO_step rfl (S_pure rfl ?_)
      refine WO_step rfl (S_pure rfl ?_)
      refine WO_nil ?_
      refine KLoop_n ?_
      simp only [fnd, hb2, if_false] at hf
      exact WC_weak (ih (l.length - (a + 1)) (by omega) (a + 1) rfl (by omega) hf) seA hsA
    ·
     try simp only [bsT] at hb1
     refine WC_exit ?_
     refine KSeq_x ?_
     refine KLoop_x ?_
     rw [← hf, List.drop_of_length_le (by omega)]
     exact KPost_i seA hsA ⟨rfl, rfl, rfl⟩
theorem sp_Find {H : SH} {v : Value} {l : List Rec} {k : ByteArray} (hv : RD H v TRec l) (hb : l.length < 9223372036854775807) :
    WF F X f_loessref10_Find [v, .string k] H (fun r H' => H' = H ∧ r = .tuple #[TRec.val ((fnd l k).getD rec0), .bool (fnd l k).isSome]) := by
  refine WF_fn F_loessref10_Find ?_
  refine WC_seq ?_
  refine WC_region ?_
  refine WO_step rfl (S_new fun i4 => ?_)
  refine WO_step rfl (S_pure rfl ?_)
  refine WO_nil ?_
  refine KSeq_n ?_
  refine WC_seq ?_
  refine WC_seq ?_
  refine WC_region ?_
  refine WO_step rfl (S_pure rfl ?_)
  refine WO_nil ?_
  refine KSeq_n ?_
  refine WC_block ?_
  --out r x0
  refine WC_post (WC_weak (lp_Find_0 hv hb i4 l.length 0 (by omega) (by omega) rfl) seA hsA) ?_
  intro x l' H' hp
  unfold findP at hp
  split at hp
  ·
   rename_i q hq
   obtain ⟨rfl, rfl, rfl⟩ := hp
   rw [hq]
   refine KBlock_r ?_
   refine KSeq_r ?_
   refine KFn_r (ResL.cell rfl pkA (Nat.le_of_ble_eq_true rfl) rfl (ResL.tmp rfl ResL.nil)) ?_
   exact ⟨_, hsA, rfl, rfl⟩
  ·
   rename_i hq
   obtain ⟨rfl, rfl, rfl⟩ := hp
   rw [hq]
   refine KBlock_h ?_
   refine KSeq_n ?_
   refine WC_seq ?_
   refine WC_region ?_
   refine WO_step rfl (S_pure rfl ?_)
   first | refine WO_step rfl (S_storeT rfl rfl pkA (by rfl) (by rfl) ?_) | refine WO_step rfl (S_storeO rfl rfl pkA (by first | rfl | exact SV.cells1 _) (by rfl) (by first | rfl | exact SV.ones _) ?_)
   refine WO_step rfl (S_pure rfl ?_)
   refine WO_nil ?_
   refine KSeq_n ?_
   refine WC_ret ?_
   refine KFn_r (ResL.cell rfl pkA (Nat.le_of_ble_eq_true rfl) rfl (ResL.tmp rfl ResL.nil)) ?_
   exact ⟨_, hsA, rfl, rfl⟩
/-! ### Runes -/
def dl (L : List UInt8) : Nat → Nat → Nat → Option Nat
  | 0, _, r => some r
  | m + 1, i, r => match L[i]? with
    | none => none
    | some b => if b.toNat < 128 ∨ 191 < b.toNat then none else dl L m (i + 1) (r * 64 + b.toNat - 128)
def dlP (H : SH) (n : Nat) (lw : Value) (o : Option Nat) : KP := fun x l' H' => match o with
  | some r => x = .exit 1 ∧ l' = [(8, .int .i32 r), (6, .int .i64 n), (7, lw)] ∧ H' = H
  | none => x = .ret ∧ l' = [(2, .int .i32 65533), (3, .int .i64 1), (4, .bool false)] ∧ H' = H
theorem lp_Decode_0 {H : SH} {s : ByteArray} {n : Nat} {lw : Value} (hs : n ≤ s.size) (hn4 : n ≤ 4) : ∀ (m i r : Nat), n - i = m → i ≤ n → ((i = 1 ∧ r < 32) ∨ (i = 2 ∧ r < 2048) ∨ (i = 3 ∧ r < 131072) ∨ (i = 4 ∧ r < 8388608)) →
    WC F X (.loop L_loessref1_Decode_0) [(9, .int .i64 i), (6, .int .i64 n), (0, .string s), (8, .int .i32 r), (7, lw)] H (KPost (dlP H n lw (dl s.data.toList m i r))) := by
  intro m
  induction m using Nat.strongRecOn with
  | _ m ih =>
    intro i r hm hi hr
    refine WC_loop ?_
    refine WC_seq ?_
    refine WC_seq ?_
    refine WC_region ?_
    iterate 3 refine WO_step rfl (S_pure rfl ?_)
    refine WO_nil ?_
    refine KSeq_n ?_
    refine WC_cond rfl (fun hb1 => ?_) (fun hb1 => ?_)
    ·
     try simp only [bsT] at hb1
     obtain ⟨m', rfl⟩ : ∃ m', m = m' + 1 := ⟨m - 1, by omega⟩
     have hlt : i < s.data.toList.length := by rw [Array.length_toList]; exact Nat.lt_of_lt_of_le hb1 hs
     obtain ⟨b, hx⟩ := get_of_lt hlt
     have hb256 := UInt8.toNat_lt b
     refine WC_skip ?_
     refine KSeq_n ?_
     refine WC_seq ?_
     refine WC_block ?_
     refine WC_seq ?_
     refine WC_seq ?_
     refine WC_region ?_
     iterate 2 refine WO_step rfl (S_pure rfl ?_)
     refine WO_step rfl (S_idxS rfl rfl (by rfl) (by assumption) ?_)
     iterate 2 refine WO_step rfl (S_pure rfl ?_)
     refine WO_cases (t := 60) rfl (fun hg1 => ?_) (fun hg1 => ?_)
     ·
      try simp only [bsT] at hg1
      iterate 4 refine WO_off rfl ?_
      refine WO_step rfl (S_pure rfl ?_)
      refine WO_nil ?_
      refine KSeq_n ?_
      refine WC_cond rfl (fun _ => ?_) (fun h => ?_)
      rotate_left
      · exact absurd h (by decide)
      refine WC_seq ?_
      refine WC_region ?_
      iterate 3 refine WO_step rfl (S_pure rfl ?_)
      refine WO_nil ?_
      refine KSeq_n ?_
      refine WC_ret ?_
      refine KSeq_r ?_
      refine KBlock_r ?_
      refine KSeq_r ?_
      refine KLoop_r ?_
      simp only [dl, hx]
      rw [if_pos (by omega)]
      exact KPost_i seA hsA ⟨rfl, rfl, rfl⟩
     ·
      try simp only [bsT] at hg1
      iterate 2 refine WO_step rfl (S_pure rfl ?_)
      refine WO_step rfl (S_idxS rfl rfl (by rfl) (by assumption) ?_)
      iterate 2 refine WO_step rfl (S_pure rfl ?_)
      refine WO_nil ?_
      refine KSeq_n ?_
      refine WC_cond rfl (fun hb2 => ?_) (fun hb2 => ?_)
      ·
       try simp only [bsT] at hb2
       refine WC_seq ?_
       refine WC_region ?_
       iterate 3 refine WO_step rfl (S_pure rfl ?_)
       refine WO_nil ?_
       refine KSeq_n ?_
       refine WC_ret ?_
       refine KSeq_r ?_
       refine KBlock_r ?_
       refine KSeq_r ?_
       refine KLoop_r ?_
       simp only [dl, hx]
       rw [if_pos (by omega)]
       exact KPost_i seA hsA ⟨rfl, rfl, rfl⟩
      ·
       try simp only [bsT] at hb2
       refine WC_skip ?_
       refine KSeq_n ?_
       refine WC_region ?_
       refine WO_step rfl (S_pure rfl ?_)
       refine WO_step rfl (S_pureE rfl (v' := .int .i32 ((r * 64 : Nat) : Int)) ?_ ?_)
       · rw [wrap_i32 (by omega) (by omega)]; rfl
       iterate 2 refine WO_step rfl (S_pure rfl ?_)
       refine WO_step rfl (S_idxS rfl rfl (by rfl) (by assumption) ?_)
       refine WO_step rfl (S_pureE rfl (v' := .int .i32 (b.toNat : Int)) ?_ ?_)
       · rw [wrap_i32 (by omega) (by omega)]
       refine WO_step rfl (S_pureE rfl (v' := .int .i32 ((r * 64 + b.toNat : Nat) : Int)) ?_ ?_)
       · rw [wrap_i32 (by omega) (by omega)]; rfl
       refine WO_step rfl (S_pureE rfl (v' := .int .i32 ((r * 64 + b.toNat - 128 : Nat) : Int)) ?_ ?_)
       · rw [wrap_i32 (by omega) (by omega)]; congr 1; omega
       refine WO_step rfl (S_pure rfl ?_)
       refine WO_nil ?_
       refine KBlock_n ?_
       refine KSeq_n ?_
       refine WC_region ?_
       refine WO_step rfl (S_pure rfl ?_)
       first | refine WO_step rfl (S_addN (b := 1) rfl rfl (by omega) ?_) | refine WO_step rfl (S_pure rfl ?_)
       refine WO_step rfl (S_pure rfl ?_)
       refine WO_nil ?_
       refine KLoop_n ?_
       simp only [dl, hx]
       rw [if_neg (by omega)]
       exact WC_weak (ih m' (by omega) (i + 1) (r * 64 + b.toNat - 128) (by omega) (by omega) (by omega)) seA hsA
    ·
     try simp only [bsT] at hb1
     refine WC_exit ?_
     refine KSeq_x ?_
     refine KLoop_x ?_
     have : m = 0 := by omega
     subst this
     exact KPost_i seA hsA ⟨rfl, rfl, rfl⟩
def decOk (p : Nat × Nat) : Bool := !(p.1 == 65533 && p.2 == 1)
def decV (p : Nat × Nat) : Value := .tuple #[.int .i32 p.1, .int .i64 p.2, .bool (decOk p)]
theorem dl_bytes {L : List UInt8} {i r : Nat} {m : Nat} (h : i < L.length) : dl L (m + 1) i r = if (L.getD i 0).toNat < 128 ∨ 191 < (L.getD i 0).toNat then none else dl L m (i + 1) (r * 64 + (L.getD i 0).toNat - 128) := by
  have e : L[i]? = some (L.getD i 0) := by rw [List.getD_eq_getElem?_getD, List.getElem?_eq_getElem h]; rfl
  simp only [dl, e]
theorem dec_short {n b0 b1 b2 b3 k : Nat} (hb : k = 2 ∧ 192 ≤ b0 ∧ b0 < 224 ∨ k = 3 ∧ 224 ≤ b0 ∧ b0 < 240 ∨ k = 4 ∧ 240 ≤ b0 ∧ b0 < 248) (hn : n < k) : Lib.decodeN n b0 b1 b2 b3 = (65533, 1) := by
  unfold Lib.decodeN
  rw [if_neg (by omega), if_neg (by omega), if_neg (by omega), if_neg (by omega)]
set_option maxHeartbeats 1000000 in
theorem dec_long {L : List UInt8} {k lw c : Nat} (hb : k = 2 ∧ lw = 128 ∧ c = 192 ∧ 192 ≤ (L.getD 0 0).toNat ∧ (L.getD 0 0).toNat < 224 ∨ k = 3 ∧ lw = 2048 ∧ c = 224 ∧ 224 ≤ (L.getD 0 0).toNat ∧ (L.getD 0 0).toNat < 240 ∨ k = 4 ∧ lw = 65536 ∧ c = 240 ∧ 240 ≤ (L.getD 0 0).toNat ∧ (L.getD 0 0).toNat < 248) (hn : k ≤ L.length) :
    Lib.decodeN L.length (L.getD 0 0).toNat (L.getD (0 + 1) 0).toNat (L.getD (0 + 2) 0).toNat (L.getD (0 + 3) 0).toNat = match dl L (k - 1) 1 ((L.getD 0 0).toNat - c) with
      | some r => if r < lw ∨ 1114111 < r ∨ 55296 ≤ r ∧ r < 57344 then (65533, 1) else (r, k)
      | none => (65533, 1) := by
  have h1 := UInt8.toNat_lt (L.getD 1 0)
  have h2 := UInt8.toNat_lt (L.getD 2 0)
  have h3 := UInt8.toNat_lt (L.getD 3 0)
  simp only [Nat.zero_add]
  rcases hb with ⟨rfl, rfl, rfl, h⟩ | ⟨rfl, rfl, rfl, h⟩ | ⟨rfl, rfl, rfl, h⟩
  · rw [show 2 - 1 = 0 + 1 from rfl, dl_bytes (by omega)]
    generalize (L.getD 0 0).toNat = x0 at *; generalize (L.getD 1 0).toNat = x1 at *; generalize (L.getD 2 0).toNat = x2 at *; generalize (L.getD 3 0).toNat = x3 at *
    unfold Lib.decodeN
    rw [if_neg (by omega)]
    by_cases e1 : x1 < 128 ∨ 191 < x1
    · rw [if_pos e1, if_neg (by omega), if_neg (by omega), if_neg (by omega)]
    · rw [if_neg e1, if_pos (by omega)]
      simp only [dl]
      split
      · rw [if_neg (by omega)]; congr 1; omega
      · rw [if_pos (by omega)]
  · rw [show 3 - 1 = 0 + 1 + 1 from rfl, dl_bytes (by omega)]
    by_cases e1 : (L.getD 1 0).toNat < 128 ∨ 191 < (L.getD 1 0).toNat
    · rw [if_pos e1]
      unfold Lib.decodeN
      rw [if_neg (by omega), if_neg (by omega), if_neg (by omega), if_neg (by omega)]
    · rw [if_neg e1, dl_bytes (by omega)]
      generalize (L.getD 0 0).toNat = x0 at *; generalize (L.getD 1 0).toNat = x1 at *; generalize (L.getD (1 + 1) 0).toNat = x2 at *; generalize (L.getD 3 0).toNat = x3 at *
      unfold Lib.decodeN
      rw [if_neg (by omega), if_neg (by omega)]
      by_cases e2 : x2 < 128 ∨ 191 < x2
      · rw [if_pos e2, if_neg (by omega), if_neg (by omega)]
      · rw [if_neg e2, if_pos (by omega)]
        simp only [dl]
        split
        · rw [if_neg (by omega)]; congr 1; omega
        · rw [if_pos (by omega)]
  · rw [show 4 - 1 = 0 + 1 + 1 + 1 from rfl, dl_bytes (by omega)]
    by_cases e1 : (L.getD 1 0).toNat < 128 ∨ 191 < (L.getD 1 0).toNat
    · rw [if_pos e1]
      unfold Lib.decodeN
      rw [if_neg (by omega), if_neg (by omega), if_neg (by omega), if_neg (by omega)]
    · rw [if_neg e1, dl_bytes (by omega)]
      by_cases e2 : (L.getD (1 + 1) 0).toNat < 128 ∨ 191 < (L.getD (1 + 1) 0).toNat
      · rw [if_pos e2]
        simp only [Nat.reduceAdd] at e2
        unfold Lib.decodeN
        rw [if_neg (by omega), if_neg (by omega), if_neg (by omega), if_neg (by omega)]
      · rw [if_neg e2, dl_bytes (by omega)]
        generalize (L.getD 0 0).toNat = x0 at *; generalize (L.getD 1 0).toNat = x1 at *; generalize (L.getD (1 + 1) 0).toNat = x2 at *; generalize (L.getD (1 + 1 + 1) 0).toNat = x3 at *
        unfold Lib.decodeN
        rw [if_neg (by omega), if_neg (by omega), if_neg (by omega)]
        by_cases e3 : x3 < 128 ∨ 191 < x3
        · rw [if_pos e3, if_neg (by omega)]
        · rw [if_neg e3, if_pos (by omega)]
          simp only [dl]
          split
          · rw [if_neg (by omega)]; congr 1; omega
          · rw [if_pos (by omega)]
def swP (H : SH) (s : ByteArray) (b : Nat) : KP := fun x l' H' => H' = H ∧
  ((x = .ret ∧ l' = [(2, .int .i32 b), (3, .int .i64 1), (4, .bool true)] ∧ b < 128) ∨
   (x = .ret ∧ l' = [(2, .int .i32 65533), (3, .int .i64 1), (4, .bool false)] ∧ (128 ≤ b ∧ b < 192 ∨ 248 ≤ b)) ∨
   ∃ n lw c : Nat, x = .normal ∧ l' = [(0, .string s), (6, .int .i64 n), (7, .int .i32 lw), (8, .int .i32 ((b - c : Nat) : Int))] ∧ (n = 2 ∧ lw = 128 ∧ c = 192 ∧ 192 ≤ b ∧ b < 224 ∨ n = 3 ∧ lw = 2048 ∧ c = 224 ∧ 224 ≤ b ∧ b < 240 ∨ n = 4 ∧ lw = 65536 ∧ c = 240 ∧ 240 ≤ b ∧ b < 248))
theorem sp_Decode {H : SH} {s : ByteArray} (h0 : 0 < s.size) : WF F X f_loessref1_Decode [.string s] H (fun r H' => H' = H ∧ r = decV (Utf8.decode s 0)) := by
  have hlen : s.data.toList.length = s.size := Array.length_toList
  have hx : s.data.toList[0]? = some (s.data.toList.getD 0 0) := by rw [List.getD_eq_getElem?_getD, List.getElem?_eq_getElem (by omega)]; rfl
  have hb0 := UInt8.toNat_lt (s.data.toList.getD 0 0)
  have hb1 := UInt8.toNat_lt (s.data.toList.getD 1 0)
  have hb2 := UInt8.toNat_lt (s.data.toList.getD 2 0)
  have hb3 := UInt8.toNat_lt (s.data.toList.getD 3 0)
  rw [Lib.decode_N]
  generalize hB : s.data.toList.getD 0 0 = B at *
  refine WF_fn F_loessref1_Decode ?_
  refine WC_seq ?_
  refine WC_region ?_
  iterate 3 refine WO_step rfl (S_pure rfl ?_)
  refine WO_nil ?_
  refine KSeq_n ?_
  refine WC_seq ?_
  refine WC_region ?_
  refine WO_step rfl (S_pure rfl ?_)
  refine WO_step rfl (S_idxS (j := 0) rfl rfl (by rfl) (by assumption) ?_)
  refine WO_step rfl (S_pure rfl ?_)
  refine WO_nil ?_
  refine KSeq_n ?_
  refine WC_seq ?_
  refine WC_region ?_
  iterate 3 refine WO_step rfl (S_pure rfl ?_)
  refine WO_nil ?_
  refine KSeq_n ?_
  refine WC_seq ?_
  refine WC_post (P := swP H s B.toNat) ?_ ?_
  ·
   refine WC_block ?_
   refine WC_seq ?_
   refine WC_region ?_
   iterate 3 refine WO_step rfl (S_pure rfl ?_)
   refine WO_nil ?_
   refine KSeq_n ?_
   refine WC_cond rfl (fun hb1 => ?_) (fun hb1 => ?_)
   ·
    try simp only [bsT] at hb1
    refine WC_seq ?_
    refine WC_region ?_
    refine WO_step rfl (S_pure rfl ?_)
    refine WO_step rfl (S_pureE rfl (v' := .int .i32 (B.toNat : Int)) ?_ ?_)
    · rw [wrap_i32 (by omega) (by omega)]
    iterate 3 refine WO_step rfl (S_pure rfl ?_)
    refine WO_nil ?_
    refine KSeq_n ?_
    refine WC_ret ?_
    refine KBlock_r ?_
    first
      | (exfalso; omega)
      | exact KPost_i seA hsA ⟨rfl, .inl ⟨rfl, rfl, by omega⟩⟩
      | exact KPost_i seA hsA ⟨rfl, .inr (.inl ⟨rfl, rfl, by omega⟩)⟩
      | exact KPost_i (l' := [(0, .string s), (6, .int .i64 2), (7, .int .i32 128), (8, .int .i32 ((B.toNat - 192 : Nat) : Int))]) seA hsA ⟨rfl, .inr (.inr ⟨2, 128, 192, rfl, rfl, by omega⟩)⟩
      | exact KPost_i (l' := [(0, .string s), (6, .int .i64 3), (7, .int .i32 2048), (8, .int .i32 ((B.toNat - 224 : Nat) : Int))]) seA hsA ⟨rfl, .inr (.inr ⟨3, 2048, 224, rfl, rfl, by omega⟩)⟩
      | exact KPost_i (l' := [(0, .string s), (6, .int .i64 4), (7, .int .i32 65536), (8, .int .i32 ((B.toNat - 240 : Nat) : Int))]) seA hsA ⟨rfl, .inr (.inr ⟨4, 65536, 240, rfl, rfl, by omega⟩)⟩
   ·
    try simp only [bsT] at hb1
    refine WC_seq ?_
    refine WC_region ?_
    iterate 3 refine WO_step rfl (S_pure rfl ?_)
    refine WO_cases (t := 20) rfl (fun hg1 => ?_) (fun hg1 => ?_)
    ·
     try simp only [bsT] at hg1
     iterate 4 refine WO_step rfl (S_pure rfl ?_)
     refine WO_nil ?_
     refine KSeq_n ?_
     refine WC_cond rfl (fun hb2 => ?_) (fun hb2 => ?_)
     ·
      try simp only [bsT] at hb2
      refine WC_region ?_
      refine WO_step rfl (S_pure rfl ?_)
      refine WO_step rfl (S_pureE rfl (v' := .int .i32 (B.toNat : Int)) ?_ ?_)
      · rw [wrap_i32 (by omega) (by omega)]
      refine WO_step rfl (S_pureE rfl (v' := .int .i32 ((B.toNat - 192 : Nat) : Int)) ?_ ?_)
      · rw [wrap_i32 (by omega) (by omega)]; congr 1; omega
      iterate 3 refine WO_step rfl (S_pure rfl ?_)
      refine WO_nil ?_
      refine KBlock_n ?_
      first
        | (exfalso; omega)
        | exact KPost_i seA hsA ⟨rfl, .inl ⟨rfl, rfl, by omega⟩⟩
        | exact KPost_i seA hsA ⟨rfl, .inr (.inl ⟨rfl, rfl, by omega⟩)⟩
        | exact KPost_i (l' := [(0, .string s), (6, .int .i64 2), (7, .int .i32 128), (8, .int .i32 ((B.toNat - 192 : Nat) : Int))]) seA hsA ⟨rfl, .inr (.inr ⟨2, 128, 192, rfl, rfl, by omega⟩)⟩
        | exact KPost_i (l' := [(0, .string s), (6, .int .i64 3), (7, .int .i32 2048), (8, .int .i32 ((B.toNat - 224 : Nat) : Int))]) seA hsA ⟨rfl, .inr (.inr ⟨3, 2048, 224, rfl, rfl, by omega⟩)⟩
        | exact KPost_i (l' := [(0, .string s), (6, .int .i64 4), (7, .int .i32 65536), (8, .int .i32 ((B.toNat - 240 : Nat) : Int))]) seA hsA ⟨rfl, .inr (.inr ⟨4, 65536, 240, rfl, rfl, by omega⟩)⟩
     ·
      try simp only [bsT] at hb2
      refine WC_seq ?_
      refine WC_region ?_
      iterate 3 refine WO_step rfl (S_pure rfl ?_)
      refine WO_cases (t := 30) rfl (fun hg2 => ?_) (fun hg2 => ?_)
      ·
       try simp only [bsT] at hg2
       iterate 4 refine WO_step rfl (S_pure rfl ?_)
       refine WO_nil ?_
       refine KSeq_n ?_
       refine WC_cond rfl (fun hb3 => ?_) (fun hb3 => ?_)
       ·
        try simp only [bsT] at hb3
        refine WC_region ?_
        refine WO_step rfl (S_pure rfl ?_)
        refine WO_step rfl (S_pureE rfl (v' := .int .i32 (B.toNat : Int)) ?_ ?_)
        · rw [wrap_i32 (by omega) (by omega)]
        refine WO_step rfl (S_pureE rfl (v' := .int .i32 ((B.toNat - 224 : Nat) : Int)) ?_ ?_)
        · rw [wrap_i32 (by omega) (by omega)]; congr 1; omega
        iterate 3 refine WO_step rfl (S_pure rfl ?_)
        refine WO_nil ?_
        refine KBlock_n ?_
        first
          | (exfalso; omega)
          | exact KPost_i seA hsA ⟨rfl, .inl ⟨rfl, rfl, by omega⟩⟩
          | exact KPost_i seA hsA ⟨rfl, .inr (.inl ⟨rfl, rfl, by omega⟩)⟩
          | exact KPost_i (l' := [(0, .string s), (6, .int .i64 2), (7, .int .i32 128), (8, .int .i32 ((B.toNat - 192 : Nat) : Int))]) seA hsA ⟨rfl, .inr (.inr ⟨2, 128, 192, rfl, rfl, by omega⟩)⟩
          | exact KPost_i (l' := [(0, .string s), (6, .int .i64 3), (7, .int .i32 2048), (8, .int .i32 ((B.toNat - 224 : Nat) : Int))]) seA hsA ⟨rfl, .inr (.inr ⟨3, 2048, 224, rfl, rfl, by omega⟩)⟩
          | exact KPost_i (l' := [(0, .string s), (6, .int .i64 4), (7, .int .i32 65536), (8, .int .i32 ((B.toNat - 240 : Nat) : Int))]) seA hsA ⟨rfl, .inr (.inr ⟨4, 65536, 240, rfl, rfl, by omega⟩)⟩
       ·
        try simp only [bsT] at hb3
        refine WC_seq ?_
        refine WC_region ?_
        iterate 3 refine WO_step rfl (S_pure rfl ?_)
        refine WO_cases (t := 40) rfl (fun hg3 => ?_) (fun hg3 => ?_)
        ·
         try simp only [bsT] at hg3
         iterate 4 refine WO_step rfl (S_pure rfl ?_)
         refine WO_nil ?_
         refine KSeq_n ?_
         refine WC_cond rfl (fun hb4 => ?_) (fun hb4 => ?_)
         ·
          try simp only [bsT] at hb4
          refine WC_region ?_
          refine WO_step rfl (S_pure rfl ?_)
          refine WO_step rfl (S_pureE rfl (v' := .int .i32 (B.toNat : Int)) ?_ ?_)
          · rw [wrap_i32 (by omega) (by omega)]
          refine WO_step rfl (S_pureE rfl (v' := .int .i32 ((B.toNat - 240 : Nat) : Int)) ?_ ?_)
          · rw [wrap_i32 (by omega) (by omega)]; congr 1; omega
          iterate 3 refine WO_step rfl (S_pure rfl ?_)
          refine WO_nil ?_
          refine KBlock_n ?_
          first
            | (exfalso; omega)
            | exact KPost_i seA hsA ⟨rfl, .inl ⟨rfl, rfl, by omega⟩⟩
            | exact KPost_i seA hsA ⟨rfl, .inr (.inl ⟨rfl, rfl, by omega⟩)⟩
            | exact KPost_i (l' := [(0, .string s), (6, .int .i64 2), (7, .int .i32 128), (8, .int .i32 ((B.toNat - 192 : Nat) : Int))]) seA hsA ⟨rfl, .inr (.inr ⟨2, 128, 192, rfl, rfl, by omega⟩)⟩
            | exact KPost_i (l' := [(0, .string s), (6, .int .i64 3), (7, .int .i32 2048), (8, .int .i32 ((B.toNat - 224 : Nat) : Int))]) seA hsA ⟨rfl, .inr (.inr ⟨3, 2048, 224, rfl, rfl, by omega⟩)⟩
            | exact KPost_i (l' := [(0, .string s), (6, .int .i64 4), (7, .int .i32 65536), (8, .int .i32 ((B.toNat - 240 : Nat) : Int))]) seA hsA ⟨rfl, .inr (.inr ⟨4, 65536, 240, rfl, rfl, by omega⟩)⟩
         ·
          try simp only [bsT] at hb4
          refine WC_seq ?_
          refine WC_region ?_
          iterate 3 refine WO_step rfl (S_pure rfl ?_)
          refine WO_nil ?_
          refine KSeq_n ?_
          refine WC_ret ?_
          refine KBlock_r ?_
          first
            | (exfalso; omega)
            | exact KPost_i seA hsA ⟨rfl, .inl ⟨rfl, rfl, by omega⟩⟩
            | exact KPost_i seA hsA ⟨rfl, .inr (.inl ⟨rfl, rfl, by omega⟩)⟩
            | exact KPost_i (l' := [(0, .string s), (6, .int .i64 2), (7, .int .i32 128), (8, .int .i32 ((B.toNat - 192 : Nat) : Int))]) seA hsA ⟨rfl, .inr (.inr ⟨2, 128, 192, rfl, rfl, by omega⟩)⟩
            | exact KPost_i (l' := [(0, .string s), (6, .int .i64 3), (7, .int .i32 2048), (8, .int .i32 ((B.toNat - 224 : Nat) : Int))]) seA hsA ⟨rfl, .inr (.inr ⟨3, 2048, 224, rfl, rfl, by omega⟩)⟩
            | exact KPost_i (l' := [(0, .string s), (6, .int .i64 4), (7, .int .i32 65536), (8, .int .i32 ((B.toNat - 240 : Nat) : Int))]) seA hsA ⟨rfl, .inr (.inr ⟨4, 65536, 240, rfl, rfl, by omega⟩)⟩
        ·
         try simp only [bsT] at hg3
         iterate 2 refine WO_off rfl ?_
         iterate 2 refine WO_step rfl (S_pure rfl ?_)
         refine WO_nil ?_
         refine KSeq_n ?_
         refine WC_cond rfl (fun h => ?_) (fun _ => ?_)
         · exact absurd h (by decide)
         refine WC_seq ?_
         refine WC_region ?_
         iterate 3 refine WO_step rfl (S_pure rfl ?_)
         refine WO_nil ?_
         refine KSeq_n ?_
         refine WC_ret ?_
         refine KBlock_r ?_
         first
           | (exfalso; omega)
           | exact KPost_i seA hsA ⟨rfl, .inl ⟨rfl, rfl, by omega⟩⟩
           | exact KPost_i seA hsA ⟨rfl, .inr (.inl ⟨rfl, rfl, by omega⟩)⟩
           | exact KPost_i (l' := [(0, .string s), (6, .int .i64 2), (7, .int .i32 128), (8, .int .i32 ((B.toNat - 192 : Nat) : Int))]) seA hsA ⟨rfl, .inr (.inr ⟨2, 128, 192, rfl, rfl, by omega⟩)⟩
           | exact KPost_i (l' := [(0, .string s), (6, .int .i64 3), (7, .int .i32 2048), (8, .int .i32 ((B.toNat - 224 : Nat) : Int))]) seA hsA ⟨rfl, .inr (.inr ⟨3, 2048, 224, rfl, rfl, by omega⟩)⟩
           | exact KPost_i (l' := [(0, .string s), (6, .int .i64 4), (7, .int .i32 65536), (8, .int .i32 ((B.toNat - 240 : Nat) : Int))]) seA hsA ⟨rfl, .inr (.inr ⟨4, 65536, 240, rfl, rfl, by omega⟩)⟩
      ·
       try simp only [bsT] at hg2
       iterate 2 refine WO_off rfl ?_
       iterate 2 refine WO_step rfl (S_pure rfl ?_)
       refine WO_nil ?_
       refine KSeq_n ?_
       refine WC_cond rfl (fun h => ?_) (fun _ => ?_)
       · exact absurd h (by decide)
       refine WC_seq ?_
       refine WC_region ?_
       iterate 3 refine WO_step rfl (S_pure rfl ?_)
       refine WO_cases (t := 40) rfl (fun hg4 => ?_) (fun hg4 => ?_)
       ·
        try simp only [bsT] at hg4
        iterate 4 refine WO_step rfl (S_pure rfl ?_)
        refine WO_nil ?_
        refine KSeq_n ?_
        refine WC_cond rfl (fun hb5 => ?_) (fun hb5 => ?_)
        ·
         try simp only [bsT] at hb5
         refine WC_region ?_
         refine WO_step rfl (S_pure rfl ?_)
         refine WO_step rfl (S_pureE rfl (v' := .int .i32 (B.toNat : Int)) ?_ ?_)
         · rw [wrap_i32 (by omega) (by omega)]
         refine WO_step rfl (S_pureE rfl (v' := .int .i32 ((B.toNat - 240 : Nat) : Int)) ?_ ?_)
         · rw [wrap_i32 (by omega) (by omega)]; congr 1; omega
         iterate 3 refine WO_step rfl (S_pure rfl ?_)
         refine WO_nil ?_
         refine KBlock_n ?_
         first
           | (exfalso; omega)
           | exact KPost_i seA hsA ⟨rfl, .inl ⟨rfl, rfl, by omega⟩⟩
           | exact KPost_i seA hsA ⟨rfl, .inr (.inl ⟨rfl, rfl, by omega⟩)⟩
           | exact KPost_i (l' := [(0, .string s), (6, .int .i64 2), (7, .int .i32 128), (8, .int .i32 ((B.toNat - 192 : Nat) : Int))]) seA hsA ⟨rfl, .inr (.inr ⟨2, 128, 192, rfl, rfl, by omega⟩)⟩
           | exact KPost_i (l' := [(0, .string s), (6, .int .i64 3), (7, .int .i32 2048), (8, .int .i32 ((B.toNat - 224 : Nat) : Int))]) seA hsA ⟨rfl, .inr (.inr ⟨3, 2048, 224, rfl, rfl, by omega⟩)⟩
           | exact KPost_i (l' := [(0, .string s), (6, .int .i64 4), (7, .int .i32 65536), (8, .int .i32 ((B.toNat - 240 : Nat) : Int))]) seA hsA ⟨rfl, .inr (.inr ⟨4, 65536, 240, rfl, rfl, by omega⟩)⟩
        ·
         try simp only [bsT] at hb5
         refine WC_seq ?_
         refine WC_region ?_
         iterate 3 refine WO_step rfl (S_pure rfl ?_)
         refine WO_nil ?_
         refine KSeq_n ?_
         refine WC_ret ?_
         refine KBlock_r ?_
         first
           | (exfalso; omega)
           | exact KPost_i seA hsA ⟨rfl, .inl ⟨rfl, rfl, by omega⟩⟩
           | exact KPost_i seA hsA ⟨rfl, .inr (.inl ⟨rfl, rfl, by omega⟩)⟩
           | exact KPost_i (l' := [(0, .string s), (6, .int .i64 2), (7, .int .i32 128), (8, .int .i32 ((B.toNat - 192 : Nat) : Int))]) seA hsA ⟨rfl, .inr (.inr ⟨2, 128, 192, rfl, rfl, by omega⟩)⟩
           | exact KPost_i (l' := [(0, .string s), (6, .int .i64 3), (7, .int .i32 2048), (8, .int .i32 ((B.toNat - 224 : Nat) : Int))]) seA hsA ⟨rfl, .inr (.inr ⟨3, 2048, 224, rfl, rfl, by omega⟩)⟩
           | exact KPost_i (l' := [(0, .string s), (6, .int .i64 4), (7, .int .i32 65536), (8, .int .i32 ((B.toNat - 240 : Nat) : Int))]) seA hsA ⟨rfl, .inr (.inr ⟨4, 65536, 240, rfl, rfl, by omega⟩)⟩
       ·
        try simp only [bsT] at hg4
        iterate 2 refine WO_off rfl ?_
        iterate 2 refine WO_step rfl (S_pure rfl ?_)
        refine WO_nil ?_
        refine KSeq_n ?_
        refine WC_cond rfl (fun h => ?_) (fun _ => ?_)
        · exact absurd h (by decide)
        refine WC_seq ?_
        refine WC_region ?_
        iterate 3 refine WO_step rfl (S_pure rfl ?_)
        refine WO_nil ?_
        refine KSeq_n ?_
        refine WC_ret ?_
        refine KBlock_r ?_
        first
          | (exfalso; omega)
          | exact KPost_i seA hsA ⟨rfl, .inl ⟨rfl, rfl, by omega⟩⟩
          | exact KPost_i seA hsA ⟨rfl, .inr (.inl ⟨rfl, rfl, by omega⟩)⟩
          | exact KPost_i (l' := [(0, .string s), (6, .int .i64 2), (7, .int .i32 128), (8, .int .i32 ((B.toNat - 192 : Nat) : Int))]) seA hsA ⟨rfl, .inr (.inr ⟨2, 128, 192, rfl, rfl, by omega⟩)⟩
          | exact KPost_i (l' := [(0, .string s), (6, .int .i64 3), (7, .int .i32 2048), (8, .int .i32 ((B.toNat - 224 : Nat) : Int))]) seA hsA ⟨rfl, .inr (.inr ⟨3, 2048, 224, rfl, rfl, by omega⟩)⟩
          | exact KPost_i (l' := [(0, .string s), (6, .int .i64 4), (7, .int .i32 65536), (8, .int .i32 ((B.toNat - 240 : Nat) : Int))]) seA hsA ⟨rfl, .inr (.inr ⟨4, 65536, 240, rfl, rfl, by omega⟩)⟩
    ·
     try simp only [bsT] at hg1
     iterate 2 refine WO_off rfl ?_
     iterate 2 refine WO_step rfl (S_pure rfl ?_)
     refine WO_nil ?_
     refine KSeq_n ?_
     refine WC_cond rfl (fun h => ?_) (fun _ => ?_)
     · exact absurd h (by decide)
     refine WC_seq ?_
     refine WC_region ?_
     iterate 3 refine WO_step rfl (S_pure rfl ?_)
     refine WO_cases (t := 30) rfl (fun hg5 => ?_) (fun hg5 => ?_)
     ·
      try simp only [bsT] at hg5
      iterate 4 refine WO_step rfl (S_pure rfl ?_)
      refine WO_nil ?_
      refine KSeq_n ?_
      refine WC_cond rfl (fun hb6 => ?_) (fun hb6 => ?_)
      ·
       try simp only [bsT] at hb6
       refine WC_region ?_
       refine WO_step rfl (S_pure rfl ?_)
       refine WO_step rfl (S_pureE rfl (v' := .int .i32 (B.toNat : Int)) ?_ ?_)
       · rw [wrap_i32 (by omega) (by omega)]
       refine WO_step rfl (S_pureE rfl (v' := .int .i32 ((B.toNat - 224 : Nat) : Int)) ?_ ?_)
       · rw [wrap_i32 (by omega) (by omega)]; congr 1; omega
       iterate 3 refine WO_step rfl (S_pure rfl ?_)
       refine WO_nil ?_
       refine KBlock_n ?_
       first
         | (exfalso; omega)
         | exact KPost_i seA hsA ⟨rfl, .inl ⟨rfl, rfl, by omega⟩⟩
         | exact KPost_i seA hsA ⟨rfl, .inr (.inl ⟨rfl, rfl, by omega⟩)⟩
         | exact KPost_i (l' := [(0, .string s), (6, .int .i64 2), (7, .int .i32 128), (8, .int .i32 ((B.toNat - 192 : Nat) : Int))]) seA hsA ⟨rfl, .inr (.inr ⟨2, 128, 192, rfl, rfl, by omega⟩)⟩
         | exact KPost_i (l' := [(0, .string s), (6, .int .i64 3), (7, .int .i32 2048), (8, .int .i32 ((B.toNat - 224 : Nat) : Int))]) seA hsA ⟨rfl, .inr (.inr ⟨3, 2048, 224, rfl, rfl, by omega⟩)⟩
         | exact KPost_i (l' := [(0, .string s), (6, .int .i64 4), (7, .int .i32 65536), (8, .int .i32 ((B.toNat - 240 : Nat) : Int))]) seA hsA ⟨rfl, .inr (.inr ⟨4, 65536, 240, rfl, rfl, by omega⟩)⟩
      ·
       try simp only [bsT] at hb6
       refine WC_seq ?_
       refine WC_region ?_
       iterate 3 refine WO_step rfl (S_pure rfl ?_)
       refine WO_cases (t := 40) rfl (fun hg6 => ?_) (fun hg6 => ?_)
       ·
        try simp only [bsT] at hg6
        iterate 4 refine WO_step rfl (S_pure rfl ?_)
        refine WO_nil ?_
        refine KSeq_n ?_
        refine WC_cond rfl (fun hb7 => ?_) (fun hb7 => ?_)
        ·
         try simp only [bsT] at hb7
         refine WC_region ?_
         refine WO_step rfl (S_pure rfl ?_)
         refine WO_step rfl (S_pureE rfl (v' := .int .i32 (B.toNat : Int)) ?_ ?_)
         · rw [wrap_i32 (by omega) (by omega)]
         refine WO_step rfl (S_pureE rfl (v' := .int .i32 ((B.toNat - 240 : Nat) : Int)) ?_ ?_)
         · rw [wrap_i32 (by omega) (by omega)]; congr 1; omega
         iterate 3 refine WO_step rfl (S_pure rfl ?_)
         refine WO_nil ?_
         refine KBlock_n ?_
         first
           | (exfalso; omega)
           | exact KPost_i seA hsA ⟨rfl, .inl ⟨rfl, rfl, by omega⟩⟩
           | exact KPost_i seA hsA ⟨rfl, .inr (.inl ⟨rfl, rfl, by omega⟩)⟩
           | exact KPost_i (l' := [(0, .string s), (6, .int .i64 2), (7, .int .i32 128), (8, .int .i32 ((B.toNat - 192 : Nat) : Int))]) seA hsA ⟨rfl, .inr (.inr ⟨2, 128, 192, rfl, rfl, by omega⟩)⟩
           | exact KPost_i (l' := [(0, .string s), (6, .int .i64 3), (7, .int .i32 2048), (8, .int .i32 ((B.toNat - 224 : Nat) : Int))]) seA hsA ⟨rfl, .inr (.inr ⟨3, 2048, 224, rfl, rfl, by omega⟩)⟩
           | exact KPost_i (l' := [(0, .string s), (6, .int .i64 4), (7, .int .i32 65536), (8, .int .i32 ((B.toNat - 240 : Nat) : Int))]) seA hsA ⟨rfl, .inr (.inr ⟨4, 65536, 240, rfl, rfl, by omega⟩)⟩
        ·
         try simp only [bsT] at hb7
         refine WC_seq ?_
         refine WC_region ?_
         iterate 3 refine WO_step rfl (S_pure rfl ?_)
         refine WO_nil ?_
         refine KSeq_n ?_
         refine WC_ret ?_
         refine KBlock_r ?_
         first
           | (exfalso; omega)
           | exact KPost_i seA hsA ⟨rfl, .inl ⟨rfl, rfl, by omega⟩⟩
           | exact KPost_i seA hsA ⟨rfl, .inr (.inl ⟨rfl, rfl, by omega⟩)⟩
           | exact KPost_i (l' := [(0, .string s), (6, .int .i64 2), (7, .int .i32 128), (8, .int .i32 ((B.toNat - 192 : Nat) : Int))]) seA hsA ⟨rfl, .inr (.inr ⟨2, 128, 192, rfl, rfl, by omega⟩)⟩
           | exact KPost_i (l' := [(0, .string s), (6, .int .i64 3), (7, .int .i32 2048), (8, .int .i32 ((B.toNat - 224 : Nat) : Int))]) seA hsA ⟨rfl, .inr (.inr ⟨3, 2048, 224, rfl, rfl, by omega⟩)⟩
           | exact KPost_i (l' := [(0, .string s), (6, .int .i64 4), (7, .int .i32 65536), (8, .int .i32 ((B.toNat - 240 : Nat) : Int))]) seA hsA ⟨rfl, .inr (.inr ⟨4, 65536, 240, rfl, rfl, by omega⟩)⟩
       ·
        try simp only [bsT] at hg6
        iterate 2 refine WO_off rfl ?_
        iterate 2 refine WO_step rfl (S_pure rfl ?_)
        refine WO_nil ?_
        refine KSeq_n ?_
        refine WC_cond rfl (fun h => ?_) (fun _ => ?_)
        · exact absurd h (by decide)
        refine WC_seq ?_
        refine WC_region ?_
        iterate 3 refine WO_step rfl (S_pure rfl ?_)
        refine WO_nil ?_
        refine KSeq_n ?_
        refine WC_ret ?_
        refine KBlock_r ?_
        first
          | (exfalso; omega)
          | exact KPost_i seA hsA ⟨rfl, .inl ⟨rfl, rfl, by omega⟩⟩
          | exact KPost_i seA hsA ⟨rfl, .inr (.inl ⟨rfl, rfl, by omega⟩)⟩
          | exact KPost_i (l' := [(0, .string s), (6, .int .i64 2), (7, .int .i32 128), (8, .int .i32 ((B.toNat - 192 : Nat) : Int))]) seA hsA ⟨rfl, .inr (.inr ⟨2, 128, 192, rfl, rfl, by omega⟩)⟩
          | exact KPost_i (l' := [(0, .string s), (6, .int .i64 3), (7, .int .i32 2048), (8, .int .i32 ((B.toNat - 224 : Nat) : Int))]) seA hsA ⟨rfl, .inr (.inr ⟨3, 2048, 224, rfl, rfl, by omega⟩)⟩
          | exact KPost_i (l' := [(0, .string s), (6, .int .i64 4), (7, .int .i32 65536), (8, .int .i32 ((B.toNat - 240 : Nat) : Int))]) seA hsA ⟨rfl, .inr (.inr ⟨4, 65536, 240, rfl, rfl, by omega⟩)⟩
     ·
      try simp only [bsT] at hg5
      iterate 2 refine WO_off rfl ?_
      iterate 2 refine WO_step rfl (S_pure rfl ?_)
      refine WO_nil ?_
      refine KSeq_n ?_
      refine WC_cond rfl (fun h => ?_) (fun _ => ?_)
      · exact absurd h (by decide)
      refine WC_seq ?_
      refine WC_region ?_
      iterate 3 refine WO_step rfl (S_pure rfl ?_)
      refine WO_cases (t := 40) rfl (fun hg7 => ?_) (fun hg7 => ?_)
      ·
       try simp only [bsT] at hg7
       iterate 4 refine WO_step rfl (S_pure rfl ?_)
       refine WO_nil ?_
       refine KSeq_n ?_
       refine WC_cond rfl (fun hb8 => ?_) (fun hb8 => ?_)
       ·
        try simp only [bsT] at hb8
        refine WC_region ?_
        refine WO_step rfl (S_pure rfl ?_)
        refine WO_step rfl (S_pureE rfl (v' := .int .i32 (B.toNat : Int)) ?_ ?_)
        · rw [wrap_i32 (by omega) (by omega)]
        refine WO_step rfl (S_pureE rfl (v' := .int .i32 ((B.toNat - 240 : Nat) : Int)) ?_ ?_)
        · rw [wrap_i32 (by omega) (by omega)]; congr 1; omega
        iterate 3 refine WO_step rfl (S_pure rfl ?_)
        refine WO_nil ?_
        refine KBlock_n ?_
        first
          | (exfalso; omega)
          | exact KPost_i seA hsA ⟨rfl, .inl ⟨rfl, rfl, by omega⟩⟩
          | exact KPost_i seA hsA ⟨rfl, .inr (.inl ⟨rfl, rfl, by omega⟩)⟩
          | exact KPost_i (l' := [(0, .string s), (6, .int .i64 2), (7, .int .i32 128), (8, .int .i32 ((B.toNat - 192 : Nat) : Int))]) seA hsA ⟨rfl, .inr (.inr ⟨2, 128, 192, rfl, rfl, by omega⟩)⟩
          | exact KPost_i (l' := [(0, .string s), (6, .int .i64 3), (7, .int .i32 2048), (8, .int .i32 ((B.toNat - 224 : Nat) : Int))]) seA hsA ⟨rfl, .inr (.inr ⟨3, 2048, 224, rfl, rfl, by omega⟩)⟩
          | exact KPost_i (l' := [(0, .string s), (6, .int .i64 4), (7, .int .i32 65536), (8, .int .i32 ((B.toNat - 240 : Nat) : Int))]) seA hsA ⟨rfl, .inr (.inr ⟨4, 65536, 240, rfl, rfl, by omega⟩)⟩
       ·
        try simp only [bsT] at hb8
        refine WC_seq ?_
        refine WC_region ?_
        iterate 3 refine WO_step rfl (S_pure rfl ?_)
        refine WO_nil ?_
        refine KSeq_n ?_
        refine WC_ret ?_
        refine KBlock_r ?_
        first
          | (exfalso; omega)
          | exact KPost_i seA hsA ⟨rfl, .inl ⟨rfl, rfl, by omega⟩⟩
          | exact KPost_i seA hsA ⟨rfl, .inr (.inl ⟨rfl, rfl, by omega⟩)⟩
          | exact KPost_i (l' := [(0, .string s), (6, .int .i64 2), (7, .int .i32 128), (8, .int .i32 ((B.toNat - 192 : Nat) : Int))]) seA hsA ⟨rfl, .inr (.inr ⟨2, 128, 192, rfl, rfl, by omega⟩)⟩
          | exact KPost_i (l' := [(0, .string s), (6, .int .i64 3), (7, .int .i32 2048), (8, .int .i32 ((B.toNat - 224 : Nat) : Int))]) seA hsA ⟨rfl, .inr (.inr ⟨3, 2048, 224, rfl, rfl, by omega⟩)⟩
          | exact KPost_i (l' := [(0, .string s), (6, .int .i64 4), (7, .int .i32 65536), (8, .int .i32 ((B.toNat - 240 : Nat) : Int))]) seA hsA ⟨rfl, .inr (.inr ⟨4, 65536, 240, rfl, rfl, by omega⟩)⟩
      ·
       try simp only [bsT] at hg7
       iterate 2 refine WO_off rfl ?_
       iterate 2 refine WO_step rfl (S_pure rfl ?_)
       refine WO_nil ?_
       refine KSeq_n ?_
       refine WC_cond rfl (fun h => ?_) (fun _ => ?_)
       · exact absurd h (by decide)
       refine WC_seq ?_
       refine WC_region ?_
       iterate 3 refine WO_step rfl (S_pure rfl ?_)
       refine WO_nil ?_
       refine KSeq_n ?_
       refine WC_ret ?_
       refine KBlock_r ?_
       first
         | (exfalso; omega)
         | exact KPost_i seA hsA ⟨rfl, .inl ⟨rfl, rfl, by omega⟩⟩
         | exact KPost_i seA hsA ⟨rfl, .inr (.inl ⟨rfl, rfl, by omega⟩)⟩
         | exact KPost_i (l' := [(0, .string s), (6, .int .i64 2), (7, .int .i32 128), (8, .int .i32 ((B.toNat - 192 : Nat) : Int))]) seA hsA ⟨rfl, .inr (.inr ⟨2, 128, 192, rfl, rfl, by omega⟩)⟩
         | exact KPost_i (l' := [(0, .string s), (6, .int .i64 3), (7, .int .i32 2048), (8, .int .i32 ((B.toNat - 224 : Nat) : Int))]) seA hsA ⟨rfl, .inr (.inr ⟨3, 2048, 224, rfl, rfl, by omega⟩)⟩
         | exact KPost_i (l' := [(0, .string s), (6, .int .i64 4), (7, .int .i32 65536), (8, .int .i32 ((B.toNat - 240 : Nat) : Int))]) seA hsA ⟨rfl, .inr (.inr ⟨4, 65536, 240, rfl, rfl, by omega⟩)⟩
  ·
   --out r r n
   rintro x l' H' ⟨rfl, ⟨rfl, rfl, hb⟩ | ⟨rfl, rfl, hb⟩ | ⟨n, lw, c, rfl, rfl, hb⟩⟩
   ·
    refine KSeq_r ?_
    refine KFn_r (ResL.tmp rfl (ResL.tmp rfl (ResL.tmp rfl ResL.nil))) ?_
    refine ⟨_, hsA, rfl, ?_⟩
    unfold decV Lib.decodeN
    rw [if_pos (by omega)]
    have : decOk (B.toNat, 1) = true := by simp [decOk]; omega
    rw [this]; rfl
   ·
    refine KSeq_r ?_
    refine KFn_r (ResL.tmp rfl (ResL.tmp rfl (ResL.tmp rfl ResL.nil))) ?_
    refine ⟨_, hsA, rfl, ?_⟩
    unfold decV Lib.decodeN
    rw [if_neg (by omega), if_neg (by omega), if_neg (by omega), if_neg (by omega)]
    rfl
   ·
    have hdlc : n = 2 ∨ n = 3 ∨ n = 4 := by omega
    refine KSeq_n ?_
    refine WC_seq ?_
    refine WC_seq ?_
    refine WC_region ?_
    iterate 4 refine WO_step rfl (S_pure rfl ?_)
    refine WO_nil ?_
    refine KSeq_n ?_
    refine WC_cond rfl (fun hb9 => ?_) (fun hb9 => ?_)
    ·
     try simp only [bsT] at hb9
     refine WC_seq ?_
     refine WC_region ?_
     iterate 3 refine WO_step rfl (S_pure rfl ?_)
     refine WO_nil ?_
     refine KSeq_n ?_
     refine WC_ret ?_
     refine KSeq_r ?_
     refine KFn_r (ResL.tmp rfl (ResL.tmp rfl (ResL.tmp rfl ResL.nil))) ?_
     refine ⟨_, hsA, rfl, ?_⟩
     rw [Nat.sub_zero, dec_short (k := n) (by omega) (by omega)]
     rfl
    ·
     try simp only [bsT] at hb9
     refine WC_skip ?_
     refine KSeq_n ?_
     refine WC_seq ?_
     refine WC_seq ?_
     refine WC_region ?_
     refine WO_step rfl (S_pure rfl ?_)
     refine WO_nil ?_
     refine KSeq_n ?_
     refine WC_block ?_
     --out x1 r
     have hr1 : 1 = 1 ∧ B.toNat - c < 32 ∨ 1 = 2 ∧ B.toNat - c < 2048 ∨ 1 = 3 ∧ B.toNat - c < 131072 ∨ 1 = 4 ∧ B.toNat - c < 8388608 := by omega
     refine WC_post (WC_weak (lp_Decode_0 (lw := .int .i32 lw) (s := s) (n := n) (by omega) (by omega) (n - 1) 1 (B.toNat - c) rfl (by omega) hr1) seA hsA) ?_
     intro x l' H' hp
     unfold dlP at hp
     split at hp
     ·
      rename_i r hr
      obtain ⟨rfl, rfl, rfl⟩ := hp
      refine KBlock_h ?_
      refine KSeq_n ?_
      refine WC_seq ?_
      refine WC_seq ?_
      refine WC_region ?_
      iterate 4 refine WO_step rfl (S_pure rfl ?_)
      refine WO_cases (t := 77) rfl (fun hg8 => ?_) (fun hg8 => ?_)
      ·
       try simp only [bsT] at hg8
       iterate 2 refine WO_off rfl ?_
       iterate 2 refine WO_step rfl (S_pure rfl ?_)
       iterate 6 refine WO_off rfl ?_
       refine WO_step rfl (S_pure rfl ?_)
       refine WO_nil ?_
       refine KSeq_n ?_
       refine WC_cond rfl (fun _ => ?_) (fun h => ?_)
       rotate_left
       · exact absurd h (by decide)
       refine WC_seq ?_
       refine WC_region ?_
       iterate 3 refine WO_step rfl (S_pure rfl ?_)
       refine WO_nil ?_
       refine KSeq_n ?_
       refine WC_ret ?_
       refine KSeq_r ?_
       refine KFn_r (ResL.tmp rfl (ResL.tmp rfl (ResL.tmp rfl ResL.nil))) ?_
       first
         | (exfalso; omega)
         | (refine ⟨_, hsA, rfl, ?_⟩
            rw [Nat.sub_zero, ← hB, dec_long (k := n) (lw := lw) (c := c) (by rw [hB]; omega) (by omega), hB, hr]
            simp only []
            first
              | (rw [if_pos (by omega)]; rfl)
              | (rw [if_neg (by omega)]
                 unfold decV
                 have : decOk (r, n) = true := by unfold decOk; have : (n == 1) = false := by rw [beq_eq_false_iff_ne]; omega
                                                  simp [this]
                 rw [this]; rfl))
      ·
       try simp only [bsT] at hg8
       iterate 4 refine WO_step rfl (S_pure rfl ?_)
       refine WO_cases (t := 81) rfl (fun hg9 => ?_) (fun hg9 => ?_)
       ·
        try simp only [bsT] at hg9
        iterate 6 refine WO_off rfl ?_
        refine WO_step rfl (S_pure rfl ?_)
        refine WO_nil ?_
        refine KSeq_n ?_
        refine WC_cond rfl (fun _ => ?_) (fun h => ?_)
        rotate_left
        · exact absurd h (by decide)
        refine WC_seq ?_
        refine WC_region ?_
        iterate 3 refine WO_step rfl (S_pure rfl ?_)
        refine WO_nil ?_
        refine KSeq_n ?_
        refine WC_ret ?_
        refine KSeq_r ?_
        refine KFn_r (ResL.tmp rfl (ResL.tmp rfl (ResL.tmp rfl ResL.nil))) ?_
        first
          | (exfalso; omega)
          | (refine ⟨_, hsA, rfl, ?_⟩
             rw [Nat.sub_zero, ← hB, dec_long (k := n) (lw := lw) (c := c) (by rw [hB]; omega) (by omega), hB, hr]
             simp only []
             first
               | (rw [if_pos (by omega)]; rfl)
               | (rw [if_neg (by omega)]
                  unfold decV
                  have : decOk (r, n) = true := by unfold decOk; have : (n == 1) = false := by rw [beq_eq_false_iff_ne]; omega
                                                   simp [this]
                  rw [this]; rfl))
       ·
        try simp only [bsT] at hg9
        iterate 3 refine WO_step rfl (S_pure rfl ?_)
        refine WO_cases (t := 84) rfl (fun hg10 => ?_) (fun hg10 => ?_)
        ·
         try simp only [bsT] at hg10
         iterate 4 refine WO_step rfl (S_pure rfl ?_)
         refine WO_nil ?_
         refine KSeq_n ?_
         refine WC_cond rfl (fun hb10 => ?_) (fun hb10 => ?_)
         ·
          try simp only [bsT] at hb10
          refine WC_seq ?_
          refine WC_region ?_
          iterate 3 refine WO_step rfl (S_pure rfl ?_)
          refine WO_nil ?_
          refine KSeq_n ?_
          refine WC_ret ?_
          refine KSeq_r ?_
          refine KFn_r (ResL.tmp rfl (ResL.tmp rfl (ResL.tmp rfl ResL.nil))) ?_
          first
            | (exfalso; omega)
            | (refine ⟨_, hsA, rfl, ?_⟩
               rw [Nat.sub_zero, ← hB, dec_long (k := n) (lw := lw) (c := c) (by rw [hB]; omega) (by omega), hB, hr]
               simp only []
               first
                 | (rw [if_pos (by omega)]; rfl)
                 | (rw [if_neg (by omega)]
                    unfold decV
                    have : decOk (r, n) = true := by unfold decOk; have : (n == 1) = false := by rw [beq_eq_false_iff_ne]; omega
                                                     simp [this]
                    rw [this]; rfl))
         ·
          try simp only [bsT] at hb10
          refine WC_skip ?_
          refine KSeq_n ?_
          refine WC_seq ?_
          refine WC_region ?_
          iterate 5 refine WO_step rfl (S_pure rfl ?_)
          refine WO_nil ?_
          refine KSeq_n ?_
          refine WC_ret ?_
          refine KFn_r (ResL.tmp rfl (ResL.tmp rfl (ResL.tmp rfl ResL.nil))) ?_
          first
            | (exfalso; omega)
            | (refine ⟨_, hsA, rfl, ?_⟩
               rw [Nat.sub_zero, ← hB, dec_long (k := n) (lw := lw) (c := c) (by rw [hB]; omega) (by omega), hB, hr]
               simp only []
               first
                 | (rw [if_pos (by omega)]; rfl)
                 | (rw [if_neg (by omega)]
                    unfold decV
                    have : decOk (r, n) = true := by unfold decOk; have : (n == 1) = false := by rw [beq_eq_false_iff_ne]; omega
                                                     simp [this]
                    rw [this]; rfl))
        ·
         try simp only [bsT] at hg10
         iterate 2 refine WO_off rfl ?_
         iterate 2 refine WO_step rfl (S_pure rfl ?_)
         refine WO_nil ?_
         refine KSeq_n ?_
         refine WC_cond rfl (fun h => ?_) (fun _ => ?_)
         · exact absurd h (by decide)
         refine WC_skip ?_
         refine KSeq_n ?_
         refine WC_seq ?_
         refine WC_region ?_
         iterate 5 refine WO_step rfl (S_pure rfl ?_)
         refine WO_nil ?_
         refine KSeq_n ?_
         refine WC_ret ?_
         refine KFn_r (ResL.tmp rfl (ResL.tmp rfl (ResL.tmp rfl ResL.nil))) ?_
         first
           | (exfalso; omega)
           | (refine ⟨_, hsA, rfl, ?_⟩
              rw [Nat.sub_zero, ← hB, dec_long (k := n) (lw := lw) (c := c) (by rw [hB]; omega) (by omega), hB, hr]
              simp only []
              first
                | (rw [if_pos (by omega)]; rfl)
                | (rw [if_neg (by omega)]
                   unfold decV
                   have : decOk (r, n) = true := by unfold decOk; have : (n == 1) = false := by rw [beq_eq_false_iff_ne]; omega
                                                    simp [this]
                   rw [this]; rfl))
     ·
      rename_i hr
      obtain ⟨rfl, rfl, rfl⟩ := hp
      refine KBlock_r ?_
      refine KSeq_r ?_
      refine KFn_r (ResL.tmp rfl (ResL.tmp rfl (ResL.tmp rfl ResL.nil))) ?_
      refine ⟨_, hsA, rfl, ?_⟩
      rw [Nat.sub_zero, ← hB, dec_long (k := n) (lw := lw) (c := c) (by rw [hB]; omega) (by omega), hB, hr]
      rfl
theorem decode_tail (s : ByteArray) (pos : Nat) : Utf8.decode (s.extract pos s.size) 0 = Utf8.decode s pos := by rw [Lib.tail_decode, Nat.add_zero]
theorem width_le4 (s : ByteArray) (pos : Nat) : (Utf8.decode s pos).2 ≤ 4 := by
  rw [Lib.decode_at]; unfold Lib.decodeN
  repeat' split
  all_goals (simp only []; omega)
/-! ### Runes, hashes -/
def rns (s : ByteArray) : Nat → Nat → List Int
  | 0, _ => []
  | f + 1, pos => if pos < s.size then ((Utf8.decode s pos).1 : Int) :: rns s f (pos + (Utf8.decode s pos).2) else []
def rnp (s : ByteArray) : Nat → Nat → List Int
  | 0, _ => []
  | f + 1, pos => if pos < s.size then (pos : Int) :: rnp s f (pos + (Utf8.decode s pos).2) else []
def runes (s : ByteArray) : List Int := rns s s.size 0
def starts (s : ByteArray) : List Int := rnp s s.size 0
theorem rns_len (s : ByteArray) : ∀ f pos, (rns s f pos).length ≤ f
  | 0, _ => by simp [rns]
  | f + 1, pos => by
    unfold rns; split
    · have := rns_len s f (pos + (Utf8.decode s pos).2); simp; omega
    · simp
theorem rnp_len (s : ByteArray) : ∀ f pos, (rnp s f pos).length ≤ f
  | 0, _ => by simp [rnp]
  | f + 1, pos => by
    unfold rnp; split
    · have := rnp_len s f (pos + (Utf8.decode s pos).2); simp; omega
    · simp
theorem runes_len (s : ByteArray) : (runes s).length ≤ s.size := rns_len s _ _
def xor64 (a b : Int) : Int := IntKind.u64.wrap ((BitVec.ofInt IntKind.u64.bits a ^^^ BitVec.ofInt IntKind.u64.bits b).toNat : Int)
def hstep (h r : Int) : Int := IntKind.u64.wrap (xor64 h (IntKind.u64.wrap r) * 1099511628211)
def hfin0 (h : Int) : Int := xor64 h (h.fdiv (2 ^ min (Int.toNat 32) IntKind.u64.bits))
def hfin1 (h : Int) : Int := IntKind.u64.wrap (hfin0 h * 11400714819323198485)
def hfin (h : Int) : Int := xor64 (hfin1 h) ((hfin1 h).fdiv (2 ^ min (Int.toNat 29) IntKind.u64.bits))
def hashOf (s : ByteArray) : Int := hfin ((runes s).foldl hstep 14695981039346656037)
theorem lp_Runes_0 {H : SH} {s : ByteArray} (hs : s.size ≤ 1000000) : ∀ (f pos : Nat) (a b : List Int) (w v : SV), s.size - pos ≤ f → pos ≤ s.size + 4 → a.length + f ≤ s.size → b.length + f ≤ s.size → a ++ rns s f pos = runes s → b ++ rnp s f pos = starts s →
    WC F X (.loop L_loessref1_Runes_0) [(6, .int .i64 pos), (0, .string s), (4, w.toV), (5, v.toV)] (SL w.toV TI32 a :: SL v.toV TInt b :: H)
      (KPost fun x l' H' => ∃ w v : SV, x = .exit 0 ∧ l' = [(4, w.toV), (5, v.toV)] ∧ H' = SL w.toV TI32 (runes s) :: SL v.toV TInt (starts s) :: H) := by
  intro f
  induction f using Nat.strongRecOn with
  | _ f ih =>
    intro pos a b w v hf hp hla hlb ha hb
    refine WC_loop ?_
    refine WC_seq ?_
    refine WC_seq ?_
    refine WC_region ?_
    iterate 4 refine WO_step rfl (S_pure rfl ?_)
    refine WO_nil ?_
    refine KSeq_n ?_
    refine WC_cond rfl (fun hb1 => ?_) (fun hb1 => ?_)
    ·
     try simp only [bsT] at hb1
     obtain ⟨f', rfl⟩ : ∃ m', f = m' + 1 := ⟨f - 1, by omega⟩
     have hw1 := Lib.width_pos s pos
     have hw2 := Lib.rune_le s pos
     simp only [rns, rnp, if_pos hb1] at ha hb
     have hsz : (s.extract pos s.size).size = s.size - pos := by simp
     refine WC_skip ?_
     refine KSeq_n ?_
     refine WC_block ?_
     refine WC_seq ?_
     refine WC_region ?_
     iterate 2 refine WO_step rfl (S_pure rfl ?_)
     refine WO_step rfl (S_cutS rfl (LB.mk rfl rfl) LB.dflt ?_ ?_ ?_)
     · omega
     · omega
     refine WO_call rfl rfl rfl ?_
     refine (sp_Decode (by rw [hsz]; omega)).mono ?_
     rintro _ _ ⟨rfl, rfl⟩
     rw [decode_tail]
     unfold decV
     iterate 7 refine WO_step rfl (S_pure rfl ?_)
     refine WO_nil ?_
     refine KSeq_n ?_
     refine WC_seq ?_
     refine WC_region ?_
     iterate 2 refine WO_step rfl (S_pure rfl ?_)
     refine WO_step rfl (S_lit1 (T := TI32) rfl rfl rfl rfl fun w24 => ?_)
     refine WO_step rfl (S_app rfl rfl pkA (by first | exact SRC.str rfl rfl | (apply RD.src; repeat (first | assumption | exact RD.head | exact RD.nil | apply RD.tail))) (by rfl) (by rfl) (by (try simp only [List.length_append, List.length_cons, List.length_nil]); omega) fun w25 => ?_)
     iterate 2 refine WO_step rfl (S_pure rfl ?_)
     refine WO_step rfl (S_lit1 (T := TInt) rfl rfl rfl rfl fun w28 => ?_)
     refine WO_step rfl (S_app rfl rfl pkA (by first | exact SRC.str rfl rfl | (apply RD.src; repeat (first | assumption | exact RD.head | exact RD.nil | apply RD.tail))) (by rfl) (by rfl) (by (try simp only [List.length_append, List.length_cons, List.length_nil]); omega) fun w29 => ?_)
     iterate 2 refine WO_step rfl (S_pure rfl ?_)
     refine WO_nil ?_
     refine KSeq_n ?_
     refine WC_region ?_
     iterate 2 refine WO_step rfl (S_pure rfl ?_)
     have hd4 := width_le4 s pos
     refine WO_step rfl (S_addN rfl rfl (by omega) ?_)
     refine WO_step rfl (S_pure rfl ?_)
     refine WO_nil ?_
     refine KBlock_n ?_
     refine KLoop_n ?_
     have hd4 := width_le4 s pos
     exact WC_weak (ih f' (by omega) (pos + (Utf8.decode s pos).2) (a ++ [((Utf8.decode s pos).1 : Int)]) (b ++ [(pos : Int)]) _ _ (by omega) (by omega) (by simp; omega) (by simp; omega) (by simpa using ha) (by simpa using hb)) seA hsA
    ·
     try simp only [bsT] at hb1
     refine WC_exit ?_
     refine KSeq_x ?_
     refine KLoop_x ?_
     refine KPost_i (l' := [(4, w.toV), (5, v.toV)]) seA hsA ⟨w, v, rfl, rfl, ?_⟩
     have e1 : rns s f pos = [] := by cases f with
       | zero => rfl
       | succ f => simp only [rns, if_neg hb1]
     have e2 : rnp s f pos = [] := by cases f with
       | zero => rfl
       | succ f => simp only [rnp, if_neg hb1]
     rw [← ha, ← hb, e1, e2, List.append_nil, List.append_nil]
theorem sp_Runes {H : SH} {s : ByteArray} (hs : s.size ≤ 1000000) : WF F X f_loessref1_Runes [.string s] H (fun r H' => ∃ w v : SV, H' = SL w.toV TI32 (runes s) :: SL v.toV TInt (starts s) :: H ∧ r = .tuple #[w.toV, v.toV]) := by
  refine WF_fn F_loessref1_Runes ?_
  refine WC_seq ?_
  refine WC_region ?_
  iterate 2 refine WO_step rfl (S_pure rfl ?_)
  refine WO_nil ?_
  refine KSeq_n ?_
  refine WC_seq ?_
  refine WC_region ?_
  refine WO_step rfl (S_pure rfl ?_)
  refine WO_nil ?_
  refine KSeq_n ?_
  refine WC_seq ?_
  refine WC_region ?_
  refine WO_step rfl (S_pure rfl ?_)
  refine WO_nil ?_
  refine KSeq_n ?_
  refine WC_seq ?_
  refine WC_seq ?_
  refine WC_region ?_
  refine WO_step rfl (S_pure rfl ?_)
  refine WO_nil ?_
  refine KSeq_n ?_
  refine WC_block ?_
  refine WC_view (H' := SL (SV.toV .nil) TI32 [] :: SL (SV.toV .nil) TInt [] :: H) (fun h hh => (HAg.addNil (HAg.addNil hh))) ?_
  refine WC_post (WC_weak (lp_Runes_0 hs s.size 0 [] [] .nil .nil (by omega) (by omega) (by simp) (by simp) rfl rfl) seA hsA) ?_
  rintro x l' H' ⟨w, v, rfl, rfl, rfl⟩
  refine KBlock_h ?_
  refine KSeq_n ?_
  refine WC_seq ?_
  refine WC_region ?_
  iterate 4 refine WO_step rfl (S_pure rfl ?_)
  refine WO_nil ?_
  refine KSeq_n ?_
  refine WC_ret ?_
  refine KFn_r (ResL.tmp rfl (ResL.tmp rfl ResL.nil)) ?_
  exact ⟨_, hsA, _, _, rfl, rfl⟩
theorem lp_Hash_0 {H : SH} {w : Value} {l : List Int} (hr : RD H w TI32 l) (hl : l.length ≤ 1000000) : ∀ (n a : Nat) (h : Int), l.length - a = n → a ≤ l.length →
    WC F X (.loop L_loessref6_Hash_0) [(6, .int .i64 a), (4, w), (3, .int .u64 h)] H
      (KPost fun x l' H' => x = .exit 0 ∧ l' = [(3, .int .u64 ((l.drop a).foldl hstep h))] ∧ H' = H) := by
  intro n
  induction n using Nat.strongRecOn with
  | _ n ih =>
    intro a h hn ha
    refine WC_loop ?_
    refine WC_seq ?_
    refine WC_seq ?_
    refine WC_region ?_
    iterate 2 refine WO_step rfl (S_pure rfl ?_)
    first | refine WO_step rfl (S_pure rfl ?_) | refine WO_step rfl (S_lenS rfl rdA ?_)
    refine WO_step rfl (S_pure rfl ?_)
    refine WO_nil ?_
    refine KSeq_n ?_
    refine WC_cond rfl (fun hb1 => ?_) (fun hb1 => ?_)
    ·
     try simp only [bsT] at hb1
     obtain ⟨x, hx⟩ := get_of_lt hb1
     rw [drop_get hx, List.foldl_cons]
     refine WC_skip ?_
     refine KSeq_n ?_
     refine WC_seq ?_
     refine WC_block ?_
     refine WC_region ?_
     iterate 3 refine WO_step rfl (S_pure rfl ?_)
     refine WO_step rfl (S_idx rfl rfl rdA (by first | rfl | assumption | (symm; assumption)) (by rfl) (by first | assumption | omega | exact lt_of_get (by assumption) | (simp only [List.length_set]; first | assumption | omega | exact lt_of_get (by assumption))) fun hp21 => ?_)
     refine WO_step rfl (S_loadE rfl rdA (by first | rfl | assumption | (symm; assumption)) (by first | rfl | assumption | (symm; assumption)) (by first | rfl | assumption | (symm; assumption)) (by assumption) ?_)
     first | refine WO_step rfl (S_toU rfl (by omega) ?_) | refine WO_step rfl (S_pure rfl ?_)
     refine WO_step rfl (S_pure rfl ?_)
     first | refine WO_step rfl (S_mulN rfl rfl (by omega) ?_) | refine WO_step rfl (S_pure rfl ?_)
     refine WO_step rfl (S_pure rfl ?_)
     refine WO_nil ?_
     refine KBlock_n ?_
     refine KSeq_n ?_
     refine WC_region ?_
     refine WO_step rfl (S_pure rfl ?_)
     first | refine WO_step rfl (S_addN (b := 1) rfl rfl (by omega) ?_) | refine WO_step rfl (S_pure rfl ?_)
     refine WO_step rfl (S_pure rfl ?_)
     refine WO_nil ?_
     refine KLoop_n ?_
     exact WC_weak (ih (l.length - (a + 1)) (by omega) (a + 1) (hstep h x) rfl (by omega)) seA hsA
    ·
     try simp only [bsT] at hb1
     refine WC_exit ?_
     refine KSeq_x ?_
     refine KLoop_x ?_
     rw [List.drop_of_length_le (by omega)]
     exact KPost_i seA hsA ⟨rfl, rfl, rfl⟩
theorem sp_RHash {H : SH} {s : ByteArray} (hs : s.size ≤ 1000000) : WF F X f_loessref6_Hash [.string s] H (fun r H' => H' = H ∧ r = .int .u64 (hashOf s)) := by
  have hl := runes_len s
  refine WF_fn F_loessref6_Hash ?_
  refine WC_seq ?_
  refine WC_region ?_
  refine WO_step rfl (S_pure rfl ?_)
  refine WO_nil ?_
  refine KSeq_n ?_
  refine WC_seq ?_
  refine WC_region ?_
  refine WO_step rfl (S_pure rfl ?_)
  refine WO_nil ?_
  refine KSeq_n ?_
  refine WC_seq ?_
  refine WC_region ?_
  refine WO_step rfl (S_pure rfl ?_)
  refine WO_call rfl rfl rfl ?_
  refine (sp_Runes (by omega)).mono ?_
  rintro _ _ ⟨wR, vR, rfl, rfl⟩
  iterate 5 refine WO_step rfl (S_pure rfl ?_)
  refine WO_nil ?_
  refine KSeq_n ?_
  refine WC_seq ?_
  refine WC_seq ?_
  refine WC_region ?_
  refine WO_step rfl (S_pure rfl ?_)
  refine WO_nil ?_
  refine KSeq_n ?_
  refine WC_block ?_
  refine WC_post (WC_weak (lp_Hash_0 rdA (by omega) (runes s).length 0 14695981039346656037 (by omega) (by omega)) seA HSub.refl) ?_
  rintro x l' H' ⟨rfl, rfl, rfl⟩
  refine KBlock_h ?_
  refine KSeq_n ?_
  refine WC_seq ?_
  refine WC_region ?_
  iterate 5 refine WO_step rfl (S_pure rfl ?_)
  refine WO_nil ?_
  refine KSeq_n ?_
  refine WC_seq ?_
  refine WC_region ?_
  refine WO_step rfl (S_pure rfl ?_)
  first | refine WO_step rfl (S_mulN rfl rfl (by omega) ?_) | refine WO_step rfl (S_pure rfl ?_)
  refine WO_step rfl (S_pure rfl ?_)
  refine WO_nil ?_
  refine KSeq_n ?_
  refine WC_seq ?_
  refine WC_region ?_
  iterate 5 refine WO_step rfl (S_pure rfl ?_)
  refine WO_nil ?_
  refine KSeq_n ?_
  refine WC_ret ?_
  refine KFn_r (ResL.tmp rfl ResL.nil) ?_
  exact ⟨_, hsA, rfl, rfl⟩
theorem lp_Of_0 {H : SH} {s : ByteArray} {i7 : Nat} (hs : s.size ≤ 1000000) : ∀ (f pos : Nat) (a : List Int) (w : SV), s.size - pos ≤ f → a.length + f ≤ s.size → a ++ rns s f pos = runes s →
    WC F X (.loop L_runes_Of_0) [(7, .pointer (some ⟨i7, 0, none⟩)), (3, w.toV)] (.obj i7 (.iter s pos) :: SL w.toV TI32 a :: H)
      (KPost fun x l' H' => ∃ w : SV, x = .exit 0 ∧ l' = [(3, w.toV)] ∧ H' = SL w.toV TI32 (runes s) :: H) := by
  intro f
  induction f using Nat.strongRecOn with
  | _ f ih =>
    intro pos a w hf hla ha
    refine WC_loop ?_
    refine WC_seq ?_
    refine WC_region ?_
    refine WO_step rfl (S_next rfl pkA (fun hn8 => ?_) (fun hn8 => ?_))
    ·
     obtain ⟨f', rfl⟩ : ∃ m', f = m' + 1 := ⟨f - 1, by omega⟩
     have hw1 := Lib.width_pos s pos
     simp only [rns, if_pos hn8] at ha
     refine WO_step rfl (S_pure rfl ?_)
     refine WO_nil ?_
     refine KSeq_n ?_
     refine WC_seq ?_
     refine WC_cond rfl (fun _ => ?_) (fun h => ?_)
     rotate_left
     · exact absurd h (by decide)
     refine WC_skip ?_
     refine KSeq_n ?_
     refine WC_block ?_
     refine WC_seq ?_
     refine WC_region ?_
     iterate 2 refine WO_step rfl (S_pure rfl ?_)
     refine WO_nil ?_
     refine KSeq_n ?_
     refine WC_region ?_
     iterate 2 refine WO_step rfl (S_pure rfl ?_)
     refine WO_step rfl (S_lit1 (T := TI32) rfl rfl rfl rfl fun w13 => ?_)
     refine WO_step rfl (S_app rfl rfl pkA (by first | exact SRC.str rfl rfl | (apply RD.src; repeat (first | assumption | exact RD.head | exact RD.nil | apply RD.tail))) (by rfl) (by rfl) (by (try simp only [List.length_append, List.length_cons, List.length_nil]); omega) fun w14 => ?_)
     refine WO_step rfl (S_pure rfl ?_)
     refine WO_nil ?_
     refine KBlock_n ?_
     refine KLoop_n ?_
     exact WC_weak (ih f' (by omega) (pos + (Utf8.decode s pos).2) (a ++ [((Utf8.decode s pos).1 : Int)]) _ (by omega) (by simp; omega) (by simpa using ha)) seA hsA
    ·
     refine WO_step rfl (S_pure rfl ?_)
     refine WO_nil ?_
     refine KSeq_n ?_
     refine WC_seq ?_
     refine WC_cond rfl (fun h => ?_) (fun _ => ?_)
     · exact absurd h (by decide)
     refine WC_exit ?_
     refine KSeq_x ?_
     refine KLoop_x ?_
     first
       | exact absurd hb1 (by decide)
       | exact absurd hb2 (by decide)
       | (refine KPost_i (l' := [(3, w.toV)]) (H' := SL w.toV TI32 a :: H) seA hsA ⟨w, rfl, rfl, ?_⟩
          have e1 : rns s f pos = [] := by cases f with
            | zero => rfl
            | succ f => simp only [rns, if_neg hn8]
          rw [← ha, e1, List.append_nil])
theorem sp_rnOf {H : SH} {s : ByteArray} (hs : s.size ≤ 1000000) : WF F X f_runes_Of [.string s] H (fun r H' => ∃ w : SV, H' = SL w.toV TI32 (runes s) :: H ∧ r = w.toV) := by
  refine WF_fn F_runes_Of ?_
  refine WC_seq ?_
  refine WC_region ?_
  refine WO_step rfl (S_pure rfl ?_)
  refine WO_nil ?_
  refine KSeq_n ?_
  refine WC_seq ?_
  refine WC_region ?_
  refine WO_step rfl (S_pure rfl ?_)
  refine WO_nil ?_
  refine KSeq_n ?_
  refine WC_seq ?_
  refine WC_seq ?_
  refine WC_region ?_
  refine WO_step rfl (S_pure rfl ?_)
  refine WO_step rfl (S_iter rfl fun i7 => ?_)
  refine WO_nil ?_
  refine KSeq_n ?_
  refine WC_block ?_
  refine WC_view (H' := SL (SV.toV .nil) TI32 [] :: _) (fun h hh => (HAg.addNil hh)) ?_
  refine WC_post (WC_weak (lp_Of_0 (H := H) hs s.size 0 [] .nil (by omega) (by simp) rfl) seA hsA) ?_
  rintro x l' H' ⟨w, rfl, rfl, rfl⟩
  refine KBlock_h ?_
  refine KSeq_n ?_
  refine WC_seq ?_
  refine WC_region ?_
  iterate 2 refine WO_step rfl (S_pure rfl ?_)
  refine WO_nil ?_
  refine KSeq_n ?_
  refine WC_ret ?_
  refine KFn_r (ResL.tmp rfl ResL.nil) ?_
  exact ⟨_, hsA, _, rfl, rfl⟩
theorem lp_HashOf_0 {H : SH} {w : Value} {l : List Int} (hr : RD H w TI32 l) (hl : l.length ≤ 1000000) : ∀ (n a : Nat) (h : Int), l.length - a = n → a ≤ l.length →
    WC F X (.loop L_hash_Of_0) [(9, .int .i64 a), (7, w), (3, .int .u64 h), (8, .int .i64 l.length)] H
      (KPost fun x l' H' => x = .exit 0 ∧ l' = [(3, .int .u64 ((l.drop a).foldl hstep h))] ∧ H' = H) := by
  intro n
  induction n using Nat.strongRecOn with
  | _ n ih =>
    intro a h hn ha
    refine WC_loop ?_
    refine WC_seq ?_
    refine WC_region ?_
    refine WO_step rfl (S_pure rfl ?_)
    refine WO_nil ?_
    refine KSeq_n ?_
    refine WC_seq ?_
    refine WC_cond rfl (fun hb1 => ?_) (fun hb1 => ?_)
    ·
     try simp only [bsT] at hb1
     obtain ⟨x, hx⟩ := get_of_lt hb1
     rw [drop_get hx, List.foldl_cons]
     refine WC_skip ?_
     refine KSeq_n ?_
     refine WC_seq ?_
     refine WC_block ?_
     refine WC_seq ?_
     refine WC_region ?_
     refine WO_step rfl (S_idx rfl rfl rdA (by first | rfl | assumption | (symm; assumption)) (by rfl) (by first | assumption | omega | exact lt_of_get (by assumption) | (simp only [List.length_set]; first | assumption | omega | exact lt_of_get (by assumption))) fun hp11 => ?_)
     refine WO_step rfl (S_loadE rfl rdA (by first | rfl | assumption | (symm; assumption)) (by first | rfl | assumption | (symm; assumption)) (by first | rfl | assumption | (symm; assumption)) (by assumption) ?_)
     refine WO_step rfl (S_pure rfl ?_)
     refine WO_nil ?_
     refine KSeq_n ?_
     refine WC_region ?_
     iterate 2 refine WO_step rfl (S_pure rfl ?_)
     first | refine WO_step rfl (S_toU rfl (by omega) ?_) | refine WO_step rfl (S_pure rfl ?_)
     refine WO_step rfl (S_pure rfl ?_)
     first | refine WO_step rfl (S_mulN rfl rfl (by omega) ?_) | refine WO_step rfl (S_pure rfl ?_)
     refine WO_step rfl (S_pure rfl ?_)
     refine WO_nil ?_
     refine KBlock_n ?_
     refine KSeq_n ?_
     refine WC_region ?_
     first | refine WO_step rfl (S_addN (b := 1) rfl rfl (by omega) ?_) | refine WO_step rfl (S_pure rfl ?_)
     refine WO_step rfl (S_pure rfl ?_)
     refine WO_nil ?_
     refine KLoop_n ?_
     exact WC_weak (ih (l.length - (a + 1)) (by omega) (a + 1) (hstep h x) rfl (by omega)) seA hsA
    ·
     try simp only [bsT] at hb1
     refine WC_exit ?_
     refine KSeq_x ?_
     refine KLoop_x ?_
     rw [List.drop_of_length_le (by omega)]
     exact KPost_i seA hsA ⟨rfl, rfl, rfl⟩
theorem sp_HashOf {H : SH} {s : ByteArray} (hs : s.size ≤ 1000000) : WF F X f_hash_Of [.string s] H (fun r H' => H' = H ∧ r = .int .u64 (hashOf s)) := by
  have hl := runes_len s
  refine WF_fn F_hash_Of ?_
  refine WC_seq ?_
  refine WC_region ?_
  refine WO_step rfl (S_pure rfl ?_)
  refine WO_nil ?_
  refine KSeq_n ?_
  refine WC_seq ?_
  refine WC_region ?_
  refine WO_step rfl (S_pure rfl ?_)
  refine WO_nil ?_
  refine KSeq_n ?_
  refine WC_seq ?_
  refine WC_seq ?_
  refine WC_region ?_
  refine WO_step rfl (S_pure rfl ?_)
  refine WO_call rfl rfl rfl ?_
  refine (sp_rnOf (by omega)).mono ?_
  rintro _ _ ⟨wR, rfl, rfl⟩
  first | refine WO_step rfl (S_pure rfl ?_) | refine WO_step rfl (S_lenS rfl rdA ?_)
  refine WO_step rfl (S_pure rfl ?_)
  refine WO_nil ?_
  refine KSeq_n ?_
  refine WC_block ?_
  refine WC_post (WC_weak (lp_HashOf_0 rdA (by omega) (runes s).length 0 14695981039346656037 (by omega) (by omega)) seA HSub.refl) ?_
  rintro x l' H' ⟨rfl, rfl, rfl⟩
  refine KBlock_h ?_
  refine KSeq_n ?_
  refine WC_seq ?_
  refine WC_region ?_
  iterate 4 refine WO_step rfl (S_pure rfl ?_)
  first | refine WO_step rfl (S_mulN rfl rfl (by omega) ?_) | refine WO_step rfl (S_pure rfl ?_)
  refine WO_step rfl (S_pure rfl ?_)
  refine WO_nil ?_
  refine KSeq_n ?_
  refine WC_seq ?_
  refine WC_region ?_
  iterate 5 refine WO_step rfl (S_pure rfl ?_)
  refine WO_nil ?_
  refine KSeq_n ?_
  refine WC_ret ?_
  refine KFn_r (ResL.tmp rfl ResL.nil) ?_
  exact ⟨_, hsA, rfl, rfl⟩

end Go.Proofs.Ytpgidiompdabdaa.AM
