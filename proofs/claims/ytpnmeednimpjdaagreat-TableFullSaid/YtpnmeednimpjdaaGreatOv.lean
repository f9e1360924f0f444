/- Walks: what the functions compute. -/
import Derived.Test.YtpnmeednimpjdaaGreatTa
namespace Go.Proofs.YtpnmeednimpjdaaGreat.AM
open Go
set_option linter.unusedSimpArgs false
set_option linter.unusedVariables false
set_option maxRecDepth 4000
set_option linter.unusedSectionVars false
variable {X : Exts} [HX X]

/-! ### Bits as bytes -/
def b8 (f : Nat → Bool) : Nat := (f 0).toNat * 128 + (f 1).toNat * 64 + (f 2).toNat * 32 + (f 3).toNat * 16 + (f 4).toNat * 8 + (f 5).toNat * 4 + (f 6).toNat * 2 + (f 7).toNat
theorem b8_lt (f : Nat → Bool) : b8 f < 256 := by
  have h := fun i => Bool.toNat_le (f i)
  have := h 0; have := h 1; have := h 2; have := h 3; have := h 4; have := h 5; have := h 6; have := h 7
  unfold b8; omega
theorem b8_congr {f g : Nat → Bool} (h : ∀ i, i < 8 → f i = g i) : b8 f = b8 g := by
  unfold b8
  rw [h 0 (by omega), h 1 (by omega), h 2 (by omega), h 3 (by omega), h 4 (by omega), h 5 (by omega), h 6 (by omega), h 7 (by omega)]
theorem b8_or {f : Nat → Bool} {i : Nat} (hi : i < 8) (h : ∀ k, i ≤ k → k < 8 → f k = false) : b8 (fun k => if k = i then true else f k) = b8 f ||| 2 ^ (7 - i) := by
  have : i = 0 ∨ i = 1 ∨ i = 2 ∨ i = 3 ∨ i = 4 ∨ i = 5 ∨ i = 6 ∨ i = 7 := by omega
  rcases this with rfl | rfl | rfl | rfl | rfl | rfl | rfl | rfl <;> simp [b8, h] <;> cases f 0 <;> (try rfl) <;> cases f 1 <;> (try rfl) <;> cases f 2 <;> (try rfl) <;> cases f 3 <;> (try rfl) <;> cases f 4 <;> (try rfl) <;> cases f 5 <;> (try rfl) <;> cases f 6 <;> rfl
theorem b8_bit {f : Nat → Bool} {i : Nat} (hi : i < 8) : b8 f / 2 ^ (7 - i) % 2 = (f i).toNat := by
  have h := fun i => Bool.toNat_le (f i)
  have := h 0; have := h 1; have := h 2; have := h 3; have := h 4; have := h 5; have := h 6; have := h 7
  have : i = 0 ∨ i = 1 ∨ i = 2 ∨ i = 3 ∨ i = 4 ∨ i = 5 ∨ i = 6 ∨ i = 7 := by omega
  rcases this with rfl | rfl | rfl | rfl | rfl | rfl | rfl | rfl <;> simp [b8] <;> omega
theorem b8_of (b : Nat) (hb : b < 256) : b8 (fun i => decide (b / 2 ^ (7 - i) % 2 = 1)) = b := by
  have : ∀ b : Fin 256, b8 (fun i => decide (b.val / 2 ^ (7 - i) % 2 = 1)) = b.val := by decide +kernel
  exact this ⟨b, hb⟩
def bitv (bs : List Bool) (j : Nat) : Nat := b8 fun i => bs.getD (8 * j + i) false
def byts (bs : List Bool) (m : Nat) : List UInt8 := (List.range m).map fun j => UInt8.ofNat (bitv bs j)
theorem byts_len (bs : List Bool) (m : Nat) : (byts bs m).length = m := by simp [byts]
theorem byts_get {bs : List Bool} {m j : Nat} (hj : j < m) : (byts bs m)[j]? = some (UInt8.ofNat (bitv bs j)) := by
  unfold byts
  rw [List.getElem?_map, List.getElem?_range hj]; rfl
theorem bitv_byte (bs : List Bool) (j : Nat) : (UInt8.ofNat (bitv bs j)).toNat = bitv bs j := UInt8.toNat_ofNat_of_lt' (b8_lt _)
theorem getD_snoc (bs : List Bool) (b : Bool) (k : Nat) : (bs ++ [b]).getD k false = if k = bs.length then b else bs.getD k false := by
  simp only [List.getD_eq_getElem?_getD]
  by_cases h : k = bs.length
  · subst h; simp
  · rw [if_neg h]
    by_cases h2 : k < bs.length
    · rw [List.getElem?_append_left h2]
    · rw [List.getElem?_eq_none (by simp; omega), List.getElem?_eq_none (by omega)]
theorem getD_big {bs : List Bool} {k : Nat} (h : bs.length ≤ k) : bs.getD k false = false := by
  rw [List.getD_eq_getElem?_getD, List.getElem?_eq_none h]; rfl
theorem bitv_snoc (bs : List Bool) (b : Bool) (j : Nat) : bitv (bs ++ [b]) j = if b = true ∧ j = bs.length / 8 then bitv bs j ||| 2 ^ (7 - bs.length % 8) else bitv bs j := by
  unfold bitv
  by_cases h : b = true ∧ j = bs.length / 8
  · obtain ⟨rfl, rfl⟩ := h
    rw [if_pos ⟨rfl, rfl⟩, ← b8_or (i := bs.length % 8) (by omega) (fun k h1 h2 => getD_big (by omega))]
    exact b8_congr fun i hi => by
      rw [getD_snoc]
      by_cases e : i = bs.length % 8
      · rw [if_pos e, if_pos (by omega)]
      · rw [if_neg e, if_neg (by omega)]
  · rw [if_neg h]
    exact b8_congr fun i hi => by
      rw [getD_snoc]
      by_cases e : 8 * j + i = bs.length
      · rw [if_pos e, getD_big (by omega)]
        cases b with
        | false => rfl
        | true => exact absurd ⟨rfl, by omega⟩ h
      · rw [if_neg e]
theorem bitv_zero {bs : List Bool} {j : Nat} (h : bs.length ≤ 8 * j) : bitv bs j = 0 := by
  unfold bitv
  rw [b8_congr (g := fun _ => false) fun i _ => getD_big (by omega)]
  rfl
/-- One bit more, in a row of bytes that has room for it. -/
theorem byts_snoc (bs : List Bool) (b : Bool) {m : Nat} (hm : bs.length / 8 < m) : byts (bs ++ [b]) m = if b = true then (byts bs m).set (bs.length / 8) (UInt8.ofNat (bitv bs (bs.length / 8) ||| 2 ^ (7 - bs.length % 8))) else byts bs m := by
  refine List.ext_getElem? fun j => ?_
  by_cases hj : j < m
  · rw [byts_get hj, bitv_snoc]
    cases b with
    | false => simp [byts_get hj]
    | true =>
      simp only [true_and, if_true]
      rw [List.getElem?_set]
      by_cases e : bs.length / 8 = j
      · subst e; simp [byts_len, hj]
      · rw [if_neg e, if_neg (fun h => e h.symm), byts_get hj]
  · have h1 : (byts (bs ++ [b]) m)[j]? = none := List.getElem?_eq_none (by rw [byts_len]; omega)
    rw [h1]
    symm
    refine List.getElem?_eq_none ?_
    split
    · rw [List.length_set, byts_len]; omega
    · rw [byts_len]; omega
theorem byts_grow {bs : List Bool} {m : Nat} (h : bs.length ≤ 8 * m) : byts bs m ++ [0] = byts bs (m + 1) := by
  unfold byts
  rw [List.range_succ, List.map_append, List.map_singleton, bitv_zero h]
  rfl
def nby (n : Nat) : Nat := (n + 7) / 8
/-- A bit of some bytes. -/
def bitAt (p : List UInt8) (i : Nat) : Bool := decide ((p.getD (i / 8) 0).toNat / 2 ^ (7 - i % 8) % 2 = 1)
theorem bitAt_byts {bs : List Bool} {m i : Nat} (hm : i / 8 < m) : bitAt (byts bs m) i = bs.getD i false := by
  unfold bitAt
  rw [List.getD_eq_getElem?_getD, byts_get hm, Option.getD_some, bitv_byte]
  unfold bitv
  rw [b8_bit (by omega), show 8 * (i / 8) + i % 8 = i by omega]
  cases bs.getD i false <;> rfl
theorem byts_bitAt (p : List UInt8) : byts ((List.range (8 * p.length)).map (bitAt p)) p.length = p := by
  refine List.ext_getElem? fun j => ?_
  by_cases hj : j < p.length
  · rw [byts_get hj, List.getElem?_eq_getElem hj]
    congr 1
    have e : bitv ((List.range (8 * p.length)).map (bitAt p)) j = (p[j]).toNat := by
      unfold bitv
      rw [← b8_of (p[j]).toNat (UInt8.toNat_lt _)]
      exact b8_congr fun i hi => by
        rw [List.getD_eq_getElem?_getD, List.getElem?_map, List.getElem?_range (by omega)]
        simp only [Option.map_some, Option.getD_some]
        unfold bitAt
        rw [show (8 * j + i) / 8 = j by omega, show (8 * j + i) % 8 = i by omega, List.getD_eq_getElem?_getD, List.getElem?_eq_getElem hj]; rfl
    rw [e]
    exact UInt8.ofNat_toNat
  · rw [List.getElem?_eq_none (by rw [byts_len]; omega), List.getElem?_eq_none (by omega)]
theorem ofIntB {a : Nat} (ha : a < 256) : (BitVec.ofInt 8 (a : Int)).toNat = a := by rw [BitVec.ofInt_natCast, BitVec.toNat_ofNat]; omega
theorem S_orB {l : SE} {H : SH} {K : Value → SH → Prop} {x y : Opd} {a b : Nat} (hx : x.lv l = some (.int .u8 (a : Int))) (hy : y.lv l = some (.int .u8 (b : Int))) (ha : a < 256) (hb : b < 256) (k : K (.int .u8 ((a ||| b : Nat) : Int)) H) : Step (.bin .or x y) l H K :=
  S_pureE (v := .int .u8 (IntKind.wrap .u8 ((BitVec.ofInt 8 (a : Int) ||| BitVec.ofInt 8 (b : Int)).toNat : Int))) (by
    simp only [pev, hx, hy, binV, intBin, if_true]; rfl) (by
    have : a ||| b < 2 ^ 8 := Nat.or_lt_two_pow ha hb
    rw [BitVec.toNat_or, ofIntB ha, ofIntB hb, wrap_u8 (by omega) (by omega)]) k
theorem pow8 {m : Nat} (h : m ≤ 7) : 2 ^ m < 256 := by
  have : 2 ^ m ≤ 2 ^ 7 := Nat.pow_le_pow_right (by decide) h
  omega
theorem S_shl1B {l : SE} {H : SH} {K : Value → SH → Prop} {y : Opd} {m : Nat} {kd : IntKind} (hy : y.lv l = some (.int kd (m : Int))) (hm : m ≤ 7) (k : K (.int .u8 ((2 ^ m : Nat) : Int)) H) : Step (.bin .shl (.const (.int .u8 1)) y) l H K :=
  S_pureE (v := .int .u8 (IntKind.wrap .u8 ((1 : Int) * 2 ^ min (m : Int).toNat IntKind.u8.bits))) (by
    have h2 : (Opd.const (.int .u8 1)).lv l = some (.int .u8 1) := rfl
    simp only [pev, h2, hy, binV]; rw [if_neg (by omega)]) (by
    have e : ((1 : Int) * 2 ^ min (m : Int).toNat IntKind.u8.bits) = ((2 ^ m : Nat) : Int) := by
      rw [Int.toNat_natCast, show min m IntKind.u8.bits = m from Nat.min_eq_left (by show m ≤ 8; omega), Int.one_mul, Int.natCast_pow]; rfl
    have := pow8 hm
    rw [e, wrap_u8 (Int.natCast_nonneg _) (by omega)]) k
theorem S_shrB {l : SE} {H : SH} {K : Value → SH → Prop} {x y : Opd} {a m : Nat} {kd : IntKind} (hx : x.lv l = some (.int .u8 (a : Int))) (hy : y.lv l = some (.int kd (m : Int))) (hm : m ≤ 7) (k : K (.int .u8 ((a / 2 ^ m : Nat) : Int)) H) : Step (.bin .shr x y) l H K :=
  S_pureE (v := .int .u8 ((a : Int).fdiv (2 ^ min (m : Int).toNat IntKind.u8.bits))) (by
    simp only [pev, hx, hy, binV]; rw [if_neg (by omega)]) (by
    rw [Int.toNat_natCast, show min m IntKind.u8.bits = m from Nat.min_eq_left (by show m ≤ 8; omega), Int.fdiv_eq_ediv_of_nonneg _ (Int.le_of_lt (Int.pow_pos (by omega)))]
    congr 1) k
theorem S_and1B {l : SE} {H : SH} {K : Value → SH → Prop} {x : Opd} {a : Nat} (hx : x.lv l = some (.int .u8 (a : Int))) (ha : a < 256) (k : K (.int .u8 ((a % 2 : Nat) : Int)) H) : Step (.bin .and x (.const (.int .u8 1))) l H K :=
  S_pureE (v := .int .u8 (IntKind.wrap .u8 ((BitVec.ofInt 8 (a : Int) &&& BitVec.ofInt 8 1).toNat : Int))) (by
    have h2 : (Opd.const (.int .u8 1)).lv l = some (.int .u8 1) := rfl
    simp only [pev, hx, h2, binV, intBin, if_true]; rfl) (by
    rw [BitVec.toNat_and, ofIntB ha, show (BitVec.ofInt 8 1).toNat = 1 from rfl, Nat.and_one_is_mod, wrap_u8 (by omega) (by omega)]) k
theorem pow128 {i : Nat} (h : i < 8) : 128 / 2 ^ i = 2 ^ (7 - i) := by
  have : i = 0 ∨ i = 1 ∨ i = 2 ∨ i = 3 ∨ i = 4 ∨ i = 5 ∨ i = 6 ∨ i = 7 := by omega
  rcases this with rfl | rfl | rfl | rfl | rfl | rfl | rfl | rfl <;> rfl
/-- Bits, in an object. -/
abbrev BI (i : Nat) (w : SV) (n : Nat) : Res := .obj i (.row false 80 [w.toV, .int .i64 ((n : Nat) : Int)])
def BB (i : Nat) (w : SV) (bs : List Bool) (H : SH) : SH := BI i w bs.length :: SL w.toV TByte (byts bs (nby bs.length)) :: H
def TBool : Ty Bool := Ty.ofOne 4 1 (fun b => .bool b) (fun _ => rfl)
theorem S_storeBI0 {l : SE} {H H0 : SH} {K : Value → SH → Prop} {i n : Nat} {w u : SV} {a x : Opd} (ha : a.lv l = some (.pointer (some ⟨i, 0, none⟩))) (hx : x.lv l = some u.toV) (hp : Pick (BI i w n) H H0) (k : K undef (BI i u n :: H0)) : Step (.store 1 a x) l H K := by
  refine S_storeO ha hx hp (SV.cells1 _) (by rfl) (SV.ones _) ?_
  rw [show splice [w.toV, .int .i64 ((n : Nat) : Int)] 0 (AM.cells u.toV) = [u.toV, .int .i64 ((n : Nat) : Int)] by rw [SV.cells]; rfl]
  exact k
theorem bA (a b : List UInt8) : (⟨a.toArray⟩ : ByteArray) ++ ⟨b.toArray⟩ = ⟨(a ++ b).toArray⟩ := by
  apply ByteArray.ext; simp [ByteArray.data_append]
theorem bA_inj {a b : List UInt8} (h : (⟨a.toArray⟩ : ByteArray) = ⟨b.toArray⟩) : a = b := by
  have := congrArg (fun x : ByteArray => x.data.toList) h
  simpa using this
theorem sp_BEq {H : SH} {v w : Value} {xs ys : List UInt8} (hv : RD H v TByte xs) (hw : RD H w TByte ys) : WF F X f_bytes_Equal [v, w] H (fun r H' => H' = H ∧ r = .bool (decide (xs = ys))) := by
  refine WF_fn F_bytes_Equal ?_
  refine WC_seq (WC_region ?_)
  refine WO_step rfl (S_pure rfl ?_)
  refine WO_nil (KSeq_n (WC_seq (WC_region ?_)))
  refine WO_step rfl (S_pure rfl ?_)
  refine WO_step rfl (S_strOf rfl rdA (by rfl) (by rfl) ?_)
  refine WO_step rfl (S_pure rfl ?_)
  refine WO_step rfl (S_strOf rfl rdA (by rfl) (by rfl) ?_)
  first | refine WO_step rfl (S_eqS rfl rfl ?_) | refine WO_step rfl (S_pure rfl ?_)
  refine WO_step rfl (S_pure rfl ?_)
  refine WO_nil (KSeq_n (WC_ret ?_))
  refine KFn_r (ResL.tmp rfl ResL.nil) ?_
  refine ⟨_, HSub.refl, rfl, ?_⟩
  simp only [resV]
  congr 1
  rw [Bool.eq_iff_iff, decide_eq_true_eq, decide_eq_true_eq]
  exact ⟨fun h => bA_inj h, fun h => by rw [h]⟩
theorem sp_bPut {H H0 : SH} {i : Nat} {w : SV} {bs : List Bool} {b : Bool} (hp : HSub H (BB i w bs H0)) (hl : bs.length ≤ 10000) : WF F X f_bits_Bits_Put [.pointer (some ⟨i, 0, none⟩), .bool b] H (fun r H' => ∃ w' : SV, H' = BB i w' (bs ++ [b]) H0) := by
  refine WF.weak ?_ hp
  unfold BB
  have hbl := byts_len bs (nby bs.length)
  have hnb : nby bs.length ≤ 2000 := by unfold nby; omega
  refine WF_fn F_bits_Bits_Put ?_
  refine WC_seq (WC_seq (WC_region ?_))
  iterate 2 refine WO_step rfl (S_pure rfl ?_)
  refine WO_nil (KSeq_n ?_)
  refine WC_cond rfl (fun hb1 => ?_) (fun hb1 => ?_)
  ·
   try simp only [bsT] at hb1
   exact absurd hb1 (by simp)
   --stop
  ·
   try simp only [bsT] at hb1
   refine WC_skip (KSeq_n (WC_seq ?_))
   refine WC_post (P := fun x l' H' => ∃ w' : SV, x = .normal ∧ l' = [(0, .pointer (some ⟨i, 0, none⟩)), (1, .bool b)] ∧ H' = BI i w' bs.length :: SL w'.toV TByte (byts bs (nby (bs.length + 1))) :: H0) ?_ ?_
   ·
    refine WC_seq (WC_region ?_)
    iterate 3 refine WO_step rfl (S_pure rfl ?_)
    refine WO_step rfl (S_loadO rfl pkA (by rfl) (by rfl) ?_)
    refine WO_step rfl (S_remU (a := bs.length) (m := 8) rfl rfl (by omega) ?_)
    first | refine WO_step rfl (S_eqS rfl rfl ?_) | refine WO_step rfl (S_pure rfl ?_)
    refine WO_nil (KSeq_n ?_)
    refine WC_cond rfl (fun hb2 => ?_) (fun hb2 => ?_)
    ·
     try simp only [bsT] at hb2
     refine WC_region ?_
     iterate 4 refine WO_step rfl (S_pure rfl ?_)
     refine WO_step rfl (S_loadO rfl pkA (by rfl) (by rfl) ?_)
     refine WO_step rfl (S_lit1B (k := 0) rfl (by omega) fun w17 => ?_)
     refine WO_step rfl (S_app rfl rfl pkA (by first | exact SRC.str rfl rfl | (apply RD.src; repeat (first | assumption | exact RD.head | exact RD.nil | apply RD.tail))) (by rfl) (by rfl) (by rw [hbl]; simp only [List.length_cons, List.length_nil]; omega) fun w18 => ?_)
     iterate 2 refine WO_step rfl (S_pure rfl ?_)
     refine WO_step rfl (S_storeBI0 rfl rfl pkA ?_)
     refine WO_nil ?_
     have e8 : bs.length % 8 = 0 := by omega
     have e1 : nby (bs.length + 1) = nby bs.length + 1 := by unfold nby; omega
     exact KPost_i (H' := BI i w18 bs.length :: SL w18.toV TByte (byts bs (nby bs.length) ++ [UInt8.ofNat 0]) :: H0) seA hsA ⟨w18, rfl, rfl, by rw [e1, ← byts_grow (by unfold nby; omega)]; rfl⟩
    ·
     try simp only [bsT] at hb2
     refine WC_skip ?_
     have e8 : ¬ bs.length % 8 = 0 := by omega
     have e1 : nby (bs.length + 1) = nby bs.length := by unfold nby; omega
     exact KPost_i seA hsA ⟨w, rfl, rfl, by rw [e1]⟩
   ·
    rintro x l' H' ⟨w', rfl, rfl, rfl⟩
    have hbl2 := byts_len bs (nby (bs.length + 1))
    have hlt : bs.length / 8 < nby (bs.length + 1) := by unfold nby; omega
    refine KSeq_n (WC_seq (WC_seq (WC_region ?_)))
    refine WO_step rfl (S_pure rfl ?_)
    refine WO_nil (KSeq_n ?_)
    refine WC_cond rfl (fun hb3 => ?_) (fun hb3 => ?_)
    ·
     try simp only [bsT] at hb3
     subst hb3
     have hg := byts_get (bs := bs) hlt
     have hbv := b8_lt fun k => bs.getD (8 * (bs.length / 8) + k) false
     have hbb := bitv_byte bs (bs.length / 8)
     have hor : bitv bs (bs.length / 8) ||| 2 ^ (7 - bs.length % 8) < 256 := Nat.or_lt_two_pow (n := 8) hbv (pow8 (by omega))
     refine WC_region ?_
     iterate 3 refine WO_step rfl (S_pure rfl ?_)
     refine WO_step rfl (S_loadO rfl pkA (by rfl) (by rfl) ?_)
     iterate 3 refine WO_step rfl (S_pure rfl ?_)
     refine WO_step rfl (S_loadO rfl pkA (by rfl) (by rfl) ?_)
     refine WO_step rfl (S_quoN (a := bs.length) (m := 8) rfl rfl (by omega) (by omega) ?_)
     refine WO_step rfl (S_idx rfl rfl rdA (by first | rfl | assumption | (symm; assumption)) (by rfl) (by first | assumption | omega | exact lt_of_get (by assumption) | (simp only [List.length_set]; first | assumption | omega | exact lt_of_get (by assumption))) fun hp31 => ?_)
     refine WO_step rfl (S_loadE rfl rdA (by first | rfl | assumption | (symm; assumption)) (by first | rfl | assumption | (symm; assumption)) (by first | rfl | assumption | (symm; assumption)) hg ?_)
     iterate 3 refine WO_step rfl (S_pure rfl ?_)
     refine WO_step rfl (S_loadO rfl pkA (by rfl) (by rfl) ?_)
     refine WO_step rfl (S_remU (a := bs.length) (m := 8) rfl rfl (by omega) ?_)
     refine WO_step rfl (S_subN (a := 7) (b := bs.length % 8) rfl rfl (by omega) ?_)
     refine WO_step rfl (S_shl1B (m := 7 - bs.length % 8) rfl (by omega) ?_)
     refine WO_step rfl (S_orB (a := (UInt8.ofNat (bitv bs (bs.length / 8))).toNat) (b := 2 ^ (7 - bs.length % 8)) rfl rfl (by rw [hbb]; exact hbv) (pow8 (by omega)) ?_)
     rw [hbb]
     refine WO_step rfl (S_idx rfl rfl rdA (by first | rfl | assumption | (symm; assumption)) (by rfl) (by first | assumption | omega | exact lt_of_get (by assumption) | (simp only [List.length_set]; first | assumption | omega | exact lt_of_get (by assumption))) fun hp41 => ?_)
     refine WO_step rfl (S_storeW (y := UInt8.ofNat (bitv bs (bs.length / 8) ||| 2 ^ (7 - bs.length % 8))) rfl rfl pkA (by first | rfl | assumption | (symm; assumption)) (by rw [enc_B hor]; rfl) (by first | rfl | assumption | (symm; assumption)) (by rw [hbl2]; exact hlt) ?_)
     refine WO_nil (KSeq_n (WC_region ?_))
     iterate 3 refine WO_step rfl (S_pure rfl ?_)
     refine WO_step rfl (S_loadO rfl pkA (by rfl) (by rfl) ?_)
     first | refine WO_step rfl (S_addN (b := 1) rfl rfl (by omega) ?_) | refine WO_step rfl (S_pure rfl ?_)
     iterate 2 refine WO_step rfl (S_pure rfl ?_)
     refine WO_step rfl (S_storeO rfl rfl pkA (by first | rfl | exact SV.cells1 _) (by rfl) (by first | rfl | exact SV.ones _) ?_)
     refine WO_nil ?_
     refine KFn_n ResL.nil ?_
     have e2 := byts_snoc bs true hlt
     rw [if_pos rfl] at e2
     rw [← e2]
     refine ⟨BB i w' (bs ++ [true]) H0, ?_, w', rfl⟩
     unfold BB
     rw [List.length_append, List.length_singleton]
     exact hsA
    ·
     try simp only [bsT] at hb3
     refine WC_skip (KSeq_n (WC_region ?_))
     iterate 3 refine WO_step rfl (S_pure rfl ?_)
     refine WO_step rfl (S_loadO rfl pkA (by rfl) (by rfl) ?_)
     first | refine WO_step rfl (S_addN (b := 1) rfl rfl (by omega) ?_) | refine WO_step rfl (S_pure rfl ?_)
     iterate 2 refine WO_step rfl (S_pure rfl ?_)
     refine WO_step rfl (S_storeO rfl rfl pkA (by first | rfl | exact SV.cells1 _) (by rfl) (by first | rfl | exact SV.ones _) ?_)
     refine WO_nil ?_
     refine KFn_n ResL.nil ?_
     have hbf : b = false := by simpa using hb3
     subst hbf
     have e2 := byts_snoc bs false hlt
     rw [if_neg (by decide)] at e2
     rw [← e2]
     refine ⟨BB i w' (bs ++ [false]) H0, ?_, w', rfl⟩
     unfold BB
     rw [List.length_append, List.length_singleton]
     exact hsA
theorem sp_bLen {H H0 : SH} {i n : Nat} {w : SV} (hp : Pick (BI i w n) H H0) : WF F X f_bits_Bits_Len [.pointer (some ⟨i, 0, none⟩)] H (fun r H' => H' = H ∧ r = .int .i64 (n : Int)) := by
  refine WF_fn F_bits_Bits_Len ?_
  refine WC_seq (WC_region ?_)
  refine WO_step rfl (S_pure rfl ?_)
  refine WO_nil (KSeq_n (WC_seq (WC_seq (WC_region ?_))))
  iterate 2 refine WO_step rfl (S_pure rfl ?_)
  refine WO_nil (KSeq_n ?_)
  refine WC_cond rfl (fun hb1 => ?_) (fun hb1 => ?_)
  ·
   try simp only [bsT] at hb1
   exact absurd hb1 (by simp)
   --stop
  ·
   try simp only [bsT] at hb1
   refine WC_skip (KSeq_n (WC_seq (WC_region ?_)))
   iterate 3 refine WO_step rfl (S_pure rfl ?_)
   refine WO_step rfl (S_loadO rfl hp (by rfl) (by rfl) ?_)
   refine WO_step rfl (S_pure rfl ?_)
   refine WO_nil (KSeq_n (WC_ret ?_))
   refine KFn_r (ResL.tmp rfl ResL.nil) ?_
   exact ⟨_, hsA, rfl, rfl⟩
theorem WF_no {f : FuncId} {vs : List Value} {H : SH} {Q : Value → SH → Prop} (h : ∀ a, HAg H a → False) : WF F X f vs H Q := fun a ha => absurd ha (h a)
theorem RD.nil_len {α : Type} {T : Ty α} {H : SH} {a : AH} {xs : List α} (h : RD H (SV.toV .nil) T xs) (ha : HAg H a) : xs = [] := by
  rcases h.2 a ha with ⟨ro, t, hl, ⟨_, h0⟩ | ⟨i, o, c, e, _⟩⟩ | ⟨h0, _, _⟩
  · exact List.length_eq_zero_iff.1 h0
  · cases e
  · exact List.length_eq_zero_iff.1 h0
theorem sp_bClone {H : SH} {w : SV} {bs : List UInt8} (hv : RD H w.toV TByte bs) (hl : bs.length ≤ 100000) (h0 : 0 < bs.length) : WF F X f_bytes_Clone [w.toV] H (fun r H' => ∃ w' : SV, r = w'.toV ∧ H' = SL w'.toV TByte bs :: H) := by
  cases w with
  | nil => exact WF_no fun a ha => by rw [hv.nil_len ha] at h0; simp at h0
  | mk i0 o0 n0 e0 =>
  refine WF_fn F_bytes_Clone ?_
  refine WC_seq (WC_region ?_)
  refine WO_step rfl (S_pure rfl ?_)
  refine WO_nil (KSeq_n (WC_seq (WC_seq (WC_region ?_))))
  iterate 2 refine WO_step rfl (S_pure rfl ?_)
  refine WO_nil (KSeq_n ?_)
  refine WC_cond rfl (fun hb1 => ?_) (fun hb1 => ?_)
  ·
   try simp only [bsT] at hb1
   exact absurd hb1 (by simp)
   --stop
  ·
   try simp only [bsT] at hb1
   refine WC_skip (KSeq_n (WC_seq (WC_region ?_)))
   refine WO_step rfl (S_lit (vs := []) rfl rfl rfl fun w5 => ?_)
   refine WO_step rfl (S_pure rfl ?_)
   refine WO_step rfl (S_app (T := TByte) (xs := []) rfl rfl pkA (by first | exact SRC.str rfl rfl | (apply RD.src; repeat (first | assumption | exact RD.head | exact RD.nil | apply RD.tail))) (by rfl) (by rfl) (by simp; omega) fun w7 => ?_)
   refine WO_step rfl (S_pure rfl ?_)
   refine WO_nil (KSeq_n (WC_ret ?_))
   refine KFn_r (ResL.tmp rfl ResL.nil) ?_
   exact ⟨_, hsA, w7, rfl, rfl⟩
theorem sp_bBytes {H H0 : SH} {i : Nat} {w : SV} {bs : List Bool} (hp : HSub H (BB i w bs H0)) (hl : bs.length ≤ 10000) (h0 : 0 < bs.length) : WF F X f_bits_Bits_Bytes [.pointer (some ⟨i, 0, none⟩)] H (fun r H' => ∃ w' : SV, r = w'.toV ∧ H' = SL w'.toV TByte (byts bs (nby bs.length)) :: BB i w bs H0) := by
  refine WF.weak ?_ hp
  unfold BB
  have hbl := byts_len bs (nby bs.length)
  have hnb : nby bs.length ≤ 2000 ∧ 0 < nby bs.length := by unfold nby; omega
  refine WF_fn F_bits_Bits_Bytes ?_
  refine WC_seq (WC_region ?_)
  refine WO_step rfl (S_pure rfl ?_)
  refine WO_nil (KSeq_n (WC_seq (WC_seq (WC_region ?_))))
  iterate 2 refine WO_step rfl (S_pure rfl ?_)
  refine WO_nil (KSeq_n ?_)
  refine WC_cond rfl (fun hb1 => ?_) (fun hb1 => ?_)
  ·
   try simp only [bsT] at hb1
   exact absurd hb1 (by simp)
   --stop
  ·
   try simp only [bsT] at hb1
   refine WC_skip (KSeq_n (WC_seq (WC_region ?_)))
   iterate 3 refine WO_step rfl (S_pure rfl ?_)
   refine WO_step rfl (S_loadO rfl pkA (by rfl) (by rfl) ?_)
   refine WO_call rfl rfl rfl ?_
   refine (sp_bClone (bs := byts bs (nby bs.length)) rdA (by omega) (by omega)).mono ?_
   rintro _ _ ⟨w', rfl, rfl⟩
   refine WO_step rfl (S_pure rfl ?_)
   refine WO_nil (KSeq_n (WC_ret ?_))
   refine KFn_r (ResL.tmp rfl ResL.nil) ?_
   exact ⟨_, hsA, w', rfl, rfl⟩
theorem sp_bAt {H H0 : SH} {i k : Nat} {w : SV} {bs : List Bool} (hp : HSub H (BB i w bs H0)) (hl : bs.length ≤ 10000) (hk : k < bs.length) : WF F X f_bits_Bits_At [.pointer (some ⟨i, 0, none⟩), .int .i64 (k : Int)] H (fun r H' => H' = BB i w bs H0 ∧ r = .bool (bs.getD k false)) := by
  refine WF.weak ?_ hp
  unfold BB
  have hbl := byts_len bs (nby bs.length)
  have hlt : k / 8 < nby bs.length := by unfold nby; omega
  have hg := byts_get (bs := bs) hlt
  have hbb := bitv_byte bs (k / 8)
  have hbv := b8_lt fun i => bs.getD (8 * (k / 8) + i) false
  refine WF_fn F_bits_Bits_At ?_
  refine WC_seq (WC_region ?_)
  refine WO_step rfl (S_pure rfl ?_)
  refine WO_nil (KSeq_n (WC_seq (WC_region ?_)))
  iterate 3 refine WO_step rfl (S_pure rfl ?_)
  refine WO_cases (t := 7) rfl (fun hg1 => ?_) (fun hg1 => ?_)
  ·
   try simp only [bsT] at hg1
   iterate 2 refine WO_step rfl (S_pure rfl ?_)
   refine WO_call rfl rfl rfl ?_
   refine (sp_bLen (by repeat (first | exact hp | exact Pick.head | apply Pick.tail))).mono ?_
   rintro _ _ ⟨rfl, rfl⟩
   iterate 3 refine WO_step rfl (S_pure rfl ?_)
   refine WO_cases (t := 13) rfl (fun hg2 => ?_) (fun hg2 => ?_)
   ·
    try simp only [bsT] at hg2
    iterate 3 refine WO_step rfl (S_pure rfl ?_)
    refine WO_step rfl (S_loadO rfl pkA (by rfl) (by rfl) ?_)
    refine WO_step rfl (S_pure rfl ?_)
    refine WO_step rfl (S_quoN (a := k) (m := 8) rfl rfl (by omega) (by omega) ?_)
    refine WO_step rfl (S_idx rfl rfl rdA (by first | rfl | assumption | (symm; assumption)) (by rfl) (by first | assumption | omega | exact lt_of_get (by assumption) | (simp only [List.length_set]; first | assumption | omega | exact lt_of_get (by assumption))) fun hp20 => ?_)
    refine WO_step rfl (S_loadE rfl rdA (by first | rfl | assumption | (symm; assumption)) (by first | rfl | assumption | (symm; assumption)) (by first | rfl | assumption | (symm; assumption)) hg ?_)
    refine WO_step rfl (S_pure rfl ?_)
    refine WO_step rfl (S_remU (a := k) (m := 8) rfl rfl (by omega) ?_)
    refine WO_step rfl (S_subN (a := 7) (b := k % 8) rfl rfl (by omega) ?_)
    refine WO_step rfl (S_shrB (a := (UInt8.ofNat (bitv bs (k / 8))).toNat) (m := 7 - k % 8) rfl rfl (by omega) ?_)
    rw [hbb]
    have hq : bitv bs (k / 8) / 2 ^ (7 - k % 8) < 256 := Nat.lt_of_le_of_lt (Nat.div_le_self _ _) hbv
    have hm : bitv bs (k / 8) / 2 ^ (7 - k % 8) % 2 = (bs.getD k false).toNat := by
      have := b8_bit (f := fun i => bs.getD (8 * (k / 8) + i) false) (i := k % 8) (by omega)
      rw [show 8 * (k / 8) + k % 8 = k by omega] at this
      exact this
    refine WO_step rfl (S_and1B (a := bitv bs (k / 8) / 2 ^ (7 - k % 8)) rfl hq ?_)
    rw [hm]
    first | refine WO_step rfl (S_eqS rfl rfl ?_) | refine WO_step rfl (S_pure rfl ?_)
    iterate 2 refine WO_step rfl (S_pure rfl ?_)
    refine WO_nil (KSeq_n (WC_ret ?_))
    refine KFn_r (ResL.tmp rfl ResL.nil) ?_
    refine ⟨_, hsA, rfl, ?_⟩
    cases bs.getD k false <;> rfl
   ·
    try simp only [bsT] at hg2
    exfalso; omega
    --stop
  ·
   try simp only [bsT] at hg1
   exfalso; omega
   --stop
theorem lp_bOf {H : SH} {v : Value} {p : List UInt8} {i6 n : Nat} (hv : RD H v TByte p) (hn : n ≤ 8 * p.length) (hl : n ≤ 1000) : ∀ (m k : Nat) (w : SV), n - k = m → k ≤ n →
    WC F X (.loop L_bits_Of_0) [(20, .int .i64 (k : Int)), (19, .int .i64 (n : Int)), (0, v), (6, .pointer (some ⟨i6, 0, none⟩))] (BB i6 w ((List.range k).map (bitAt p)) H)
      (KPost fun y l' H' => ∃ w : SV, y = .exit 0 ∧ l' = [(0, v), (6, .pointer (some ⟨i6, 0, none⟩))] ∧ H' = BB i6 w ((List.range n).map (bitAt p)) H) := by
  intro m
  induction m using Nat.strongRecOn with
  | _ m ih =>
    intro k w hm hk
    have hbbl : ((List.range k).map (bitAt p)).length = k := by simp
    have hv2 : RD (BB i6 w ((List.range k).map (bitAt p)) H) v TByte p := hv.tail.tail
    refine WC_loop (WC_seq (WC_region ?_))
    refine WO_step rfl (S_pure rfl ?_)
    refine WO_nil (KSeq_n (WC_seq ?_))
    refine WC_cond rfl (fun hb1 => ?_) (fun hb1 => ?_)
    ·
     try simp only [bsT] at hb1
     obtain ⟨x, hx⟩ := get_of_lt (l := p) (a := k / 8) (by omega)
     have hx8 := UInt8.toNat_lt x
     refine WC_skip (KSeq_n (WC_seq (WC_block (WC_seq (WC_region ?_)))))
     iterate 2 refine WO_step rfl (S_pure rfl ?_)
     refine WO_nil (KSeq_n (WC_region ?_))
     iterate 3 refine WO_step rfl (S_pure rfl ?_)
     refine WO_step rfl (S_quoN (a := k) (m := 8) rfl rfl (by omega) (by omega) ?_)
     refine WO_step rfl (S_idx rfl rfl rdA (by first | rfl | assumption | (symm; assumption)) (by rfl) (by first | assumption | omega | exact lt_of_get (by assumption) | (simp only [List.length_set]; first | assumption | omega | exact lt_of_get (by assumption))) fun hp27 => ?_)
     refine WO_step rfl (S_loadE rfl rdA (by first | rfl | assumption | (symm; assumption)) (by first | rfl | assumption | (symm; assumption)) (by first | rfl | assumption | (symm; assumption)) (by assumption) ?_)
     refine WO_step rfl (S_pure rfl ?_)
     refine WO_step rfl (S_remU (a := k) (m := 8) rfl rfl (by omega) ?_)
     refine WO_step rfl (S_subN (a := 7) (b := k % 8) rfl rfl (by omega) ?_)
     refine WO_step rfl (S_shrB (a := x.toNat) (m := 7 - k % 8) rfl rfl (by omega) ?_)
     have hq : x.toNat / 2 ^ (7 - k % 8) < 256 := Nat.lt_of_le_of_lt (Nat.div_le_self _ _) hx8
     refine WO_step rfl (S_and1B (a := x.toNat / 2 ^ (7 - k % 8)) rfl hq ?_)
     have hbit : bitAt p k = decide (x.toNat / 2 ^ (7 - k % 8) % 2 = 1) := by
       unfold bitAt
       rw [List.getD_eq_getElem?_getD, hx]; rfl
     refine WO_step rfl (S_pureE (v := .bool ((((x.toNat / 2 ^ (7 - k % 8) % 2 : Nat) : Int)) == 1)) rfl (v' := .bool (bitAt p k)) (by
       rw [hbit]
       have : x.toNat / 2 ^ (7 - k % 8) % 2 < 2 := Nat.mod_lt _ (by omega)
       generalize x.toNat / 2 ^ (7 - k % 8) % 2 = q at *
       have : q = 0 ∨ q = 1 := by omega
       rcases this with rfl | rfl <;> rfl) ?_)
     refine WO_call rfl rfl rfl ?_
     refine (sp_bPut (i := i6) (w := w) (bs := (List.range k).map (bitAt p)) (H0 := H) HSub.refl (by rw [hbbl]; omega)).mono ?_
     rintro _ _ ⟨w', rfl⟩
     have hsn : (List.range k).map (bitAt p) ++ [bitAt p k] = (List.range (k + 1)).map (bitAt p) := by rw [List.range_succ, List.map_append]; rfl
     rw [hsn]
     refine WO_nil (KBlock_n (KSeq_n (WC_region ?_)))
     first | refine WO_step rfl (S_addN (b := 1) rfl rfl (by omega) ?_) | refine WO_step rfl (S_pure rfl ?_)
     refine WO_step rfl (S_pure rfl ?_)
     refine WO_nil (KLoop_n ?_)
     exact WC_weak (ih (n - (k + 1)) (by omega) (k + 1) w' rfl (by omega)) seA HSub.refl
    ·
     try simp only [bsT] at hb1
     refine WC_exit (KSeq_x (KLoop_x ?_))
     have ek : k = n := by omega
     subst ek
     exact KPost_i seA HSub.refl ⟨w, rfl, rfl, rfl⟩
theorem sp_bOf {H : SH} {v : Value} {p : List UInt8} (hv : RD H v TByte p) (hl : p.length ≤ 100) : WF F X f_bits_Of [v, .int .i64 ((8 * p.length : Nat) : Int)] H (fun r H' => ∃ (i : Nat) (w : SV), r = .tuple #[.pointer (some ⟨i, 0, none⟩), .bool true] ∧ H' = BB i w ((List.range (8 * p.length)).map (bitAt p)) H) := by
  refine WF_addNil (T := TByte) ?_
  refine WF_fn F_bits_Of ?_
  refine WC_seq (WC_region ?_)
  iterate 2 refine WO_step rfl (S_pure rfl ?_)
  refine WO_nil (KSeq_n (WC_seq (WC_seq (WC_region ?_))))
  iterate 3 refine WO_step rfl (S_pure rfl ?_)
  refine WO_cases (t := 10) rfl (fun hg1 => ?_) (fun hg1 => ?_)
  ·
   try simp only [bsT] at hg1
   exfalso; omega
   --stop
  ·
   try simp only [bsT] at hg1
   iterate 2 refine WO_step rfl (S_pure rfl ?_)
   first | refine WO_step rfl (S_pure rfl ?_) | refine WO_step rfl (S_lenS rfl rdA ?_)
   first | refine WO_step rfl (S_mulN (a := 8) rfl rfl (by omega) ?_) | refine WO_step rfl (S_pure rfl ?_)
   iterate 2 refine WO_step rfl (S_pure rfl ?_)
   refine WO_nil (KSeq_n ?_)
   refine WC_cond rfl (fun hb1 => ?_) (fun hb1 => ?_)
   ·
    try simp only [bsT] at hb1
    exfalso; omega
    --stop
   ·
    try simp only [bsT] at hb1
    refine WC_skip (KSeq_n (WC_seq (WC_region ?_)))
    refine WO_step rfl (S_pure rfl ?_)
    refine WO_step rfl (S_box rfl rfl fun i18 => ?_)
    refine WO_step rfl (S_pure rfl ?_)
    refine WO_nil (KSeq_n (WC_seq (WC_seq (WC_region ?_))))
    iterate 2 refine WO_step rfl (S_pure rfl ?_)
    refine WO_nil (KSeq_n (WC_block ?_))
    --out x0
    have e0 : BB i18 .nil ((List.range 0).map (bitAt p)) H = BI i18 .nil 0 :: SL (SV.toV .nil) TByte [] :: H := by simp [BB, byts, nby]
    refine WC_post (WC_weak (lp_bOf (H := H) (i6 := i18) (n := 8 * p.length) hv (Nat.le_refl _) (by omega) (8 * p.length) 0 .nil (by omega) (by omega)) seA (by rw [e0]; exact hsA)) ?_
    rintro y l' _ ⟨w, rfl, rfl, rfl⟩
    unfold BB
    have hbb : byts ((List.range (8 * p.length)).map (bitAt p)) (nby ((List.range (8 * p.length)).map (bitAt p)).length) = p := by
      rw [List.length_map, List.length_range, show nby (8 * p.length) = p.length by unfold nby; omega]
      exact byts_bitAt p
    refine KBlock_h (KSeq_n (WC_seq (WC_seq (WC_region ?_))))
    iterate 3 refine WO_step rfl (S_pure rfl ?_)
    refine WO_step rfl (S_loadO rfl pkA (by rfl) (by rfl) ?_)
    refine WO_step rfl (S_pure rfl ?_)
    refine WO_call rfl rfl rfl ?_
    refine (sp_BEq (xs := byts ((List.range (8 * p.length)).map (bitAt p)) (nby ((List.range (8 * p.length)).map (bitAt p)).length)) (ys := p) rdA rdA).mono ?_
    rintro _ _ ⟨rfl, rfl⟩
    rw [hbb]
    refine WO_step rfl (S_pure rfl ?_)
    refine WO_nil (KSeq_n ?_)
    refine WC_cond rfl (fun hb2 => ?_) (fun hb2 => ?_)
    ·
     try simp only [bsT] at hb2
     refine WC_seq (WC_region ?_)
     iterate 2 refine WO_step rfl (S_pure rfl ?_)
     refine WO_nil (KSeq_n (WC_ret (KSeq_r ?_)))
     refine KFn_r (ResL.tmp rfl (ResL.tmp rfl ResL.nil)) ?_
     exact absurd hb2 (by simp)
    ·
     try simp only [bsT] at hb2
     refine WC_skip (KSeq_n (WC_seq (WC_region ?_)))
     iterate 3 refine WO_step rfl (S_pure rfl ?_)
     refine WO_nil (KSeq_n (WC_ret ?_))
     refine KFn_r (ResL.tmp rfl (ResL.tmp rfl ResL.nil)) ?_
     exact ⟨_, HSub.refl, i18, w, rfl, rfl⟩
theorem byts_nil (m : Nat) : List.replicate m (0 : UInt8) = byts [] m := by
  refine List.ext_getElem? fun j => ?_
  by_cases hj : j < m
  · rw [byts_get hj, bitv_zero (by simp), List.getElem?_replicate, if_pos hj]; rfl
  · rw [List.getElem?_eq_none (by simp; omega), List.getElem?_eq_none (by rw [byts_len]; omega)]
theorem lp_rBy {H : SH} {v : Value} {bs : List Bool} {w : SV} (hv : RD H v TBool bs) (hl : bs.length ≤ 1000) : ∀ (m k : Nat), bs.length - k = m → k ≤ bs.length →
    WC F X (.loop L_loessref6_Bits_Bytes_0) [(4, .int .i64 (k : Int)), (0, v), (3, w.toV)] (SL w.toV TByte (byts (bs.take k) (nby bs.length)) :: H)
      (KPost fun y l' H' => y = .exit 0 ∧ l' = [(3, w.toV)] ∧ H' = SL w.toV TByte (byts bs (nby bs.length)) :: H) := by
  intro m
  induction m using Nat.strongRecOn with
  | _ m ih =>
    intro k hm hk
    have hbl := byts_len (bs.take k) (nby bs.length)
    have htl : (bs.take k).length = k := by rw [List.length_take]; omega
    refine WC_loop (WC_seq (WC_seq (WC_region ?_)))
    iterate 2 refine WO_step rfl (S_pure rfl ?_)
    first | refine WO_step rfl (S_pure rfl ?_) | refine WO_step rfl (S_lenS rfl rdA ?_)
    refine WO_step rfl (S_pure rfl ?_)
    refine WO_nil (KSeq_n ?_)
    refine WC_cond rfl (fun hb1 => ?_) (fun hb1 => ?_)
    ·
     try simp only [bsT] at hb1
     obtain ⟨x, hx⟩ := get_of_lt hb1
     have hlt : k / 8 < nby bs.length := by unfold nby; omega
     have hg := byts_get (bs := bs.take k) hlt
     have hbb := bitv_byte (bs.take k) (k / 8)
     have hbv := b8_lt fun i => (bs.take k).getD (8 * (k / 8) + i) false
     have hor : bitv (bs.take k) (k / 8) ||| 2 ^ (7 - k % 8) < 256 := Nat.or_lt_two_pow (n := 8) hbv (pow8 (by omega))
     have hsn := byts_snoc (bs.take k) x (m := nby bs.length) (by rw [htl]; exact hlt)
     rw [htl, show bs.take k ++ [x] = bs.take (k + 1) by rw [List.take_add_one, hx]; rfl] at hsn
     refine WC_skip (KSeq_n (WC_seq (WC_block (WC_seq (WC_region ?_)))))
     iterate 2 refine WO_step rfl (S_pure rfl ?_)
     refine WO_step rfl (S_idx rfl rfl rdA (by first | rfl | assumption | (symm; assumption)) (by rfl) (by first | assumption | omega | exact lt_of_get (by assumption) | (simp only [List.length_set]; first | assumption | omega | exact lt_of_get (by assumption))) fun hp18 => ?_)
     refine WO_step rfl (S_loadE rfl rdA (by first | rfl | assumption | (symm; assumption)) (by first | rfl | assumption | (symm; assumption)) (by first | rfl | assumption | (symm; assumption)) (by assumption) ?_)
     refine WO_nil (KSeq_n ?_)
     refine WC_cond rfl (fun hb2 => ?_) (fun hb2 => ?_)
     ·
      try simp only [bsT] at hb2
      refine WC_region ?_
      iterate 2 refine WO_step rfl (S_pure rfl ?_)
      refine WO_step rfl (S_quoN (a := k) (m := 8) rfl rfl (by omega) (by omega) ?_)
      refine WO_step rfl (S_idx rfl rfl rdA (by first | rfl | assumption | (symm; assumption)) (by rfl) (by first | assumption | omega | exact lt_of_get (by assumption) | (simp only [List.length_set]; first | assumption | omega | exact lt_of_get (by assumption))) fun hp23 => ?_)
      refine WO_step rfl (S_loadE rfl rdA (by first | rfl | assumption | (symm; assumption)) (by first | rfl | assumption | (symm; assumption)) (by first | rfl | assumption | (symm; assumption)) hg ?_)
      refine WO_step rfl (S_pure rfl ?_)
      refine WO_step rfl (S_remU (a := k) (m := 8) rfl rfl (by omega) ?_)
      first | refine WO_step rfl (S_toU rfl (by omega) ?_) | refine WO_step rfl (S_pure rfl ?_)
      refine WO_step rfl (S_pureE (v := .int .u8 ((128 : Int).fdiv (2 ^ min ((k % 8 : Nat) : Int).toNat IntKind.u8.bits))) rfl (v' := .int .u8 ((2 ^ (7 - k % 8) : Nat) : Int)) (by
        rw [Int.toNat_natCast, show min (k % 8) IntKind.u8.bits = k % 8 from Nat.min_eq_left (by show k % 8 ≤ 8; omega), ← pow128 (by omega)]
        congr 1) ?_)
      refine WO_step rfl (S_orB (a := (UInt8.ofNat (bitv (bs.take k) (k / 8))).toNat) (b := 2 ^ (7 - k % 8)) rfl rfl (by rw [hbb]; exact hbv) (pow8 (by omega)) ?_)
      rw [hbb]
      refine WO_step rfl (S_idx rfl rfl rdA (by first | rfl | assumption | (symm; assumption)) (by rfl) (by first | assumption | omega | exact lt_of_get (by assumption) | (simp only [List.length_set]; first | assumption | omega | exact lt_of_get (by assumption))) fun hp30 => ?_)
      refine WO_step rfl (S_storeW (y := UInt8.ofNat (bitv (bs.take k) (k / 8) ||| 2 ^ (7 - k % 8))) rfl rfl pkA (by first | rfl | assumption | (symm; assumption)) (by rw [enc_B hor]; rfl) (by first | rfl | assumption | (symm; assumption)) (by rw [hbl]; exact hlt) ?_)
      refine WO_nil (KBlock_n (KSeq_n (WC_region ?_)))
      refine WO_step rfl (S_pure rfl ?_)
      first | refine WO_step rfl (S_addN (b := 1) rfl rfl (by omega) ?_) | refine WO_step rfl (S_pure rfl ?_)
      refine WO_step rfl (S_pure rfl ?_)
      refine WO_nil (KLoop_n ?_)
      rw [hb2, if_pos rfl] at hsn
      have := ih (bs.length - (k + 1)) (by omega) (k + 1) rfl (by omega)
      rw [hsn] at this
      exact WC_weak this seA hsA
     ·
      try simp only [bsT] at hb2
      refine WC_skip (KBlock_n (KSeq_n (WC_region ?_)))
      refine WO_step rfl (S_pure rfl ?_)
      first | refine WO_step rfl (S_addN (b := 1) rfl rfl (by omega) ?_) | refine WO_step rfl (S_pure rfl ?_)
      refine WO_step rfl (S_pure rfl ?_)
      refine WO_nil (KLoop_n ?_)
      rw [hb2, if_neg (by decide)] at hsn
      have := ih (bs.length - (k + 1)) (by omega) (k + 1) rfl (by omega)
      rw [hsn] at this
      exact WC_weak this seA hsA
    ·
     try simp only [bsT] at hb1
     refine WC_exit (KSeq_x (KLoop_x ?_))
     have ek : k = bs.length := by omega
     subst ek
     rw [List.take_length]
     exact KPost_i seA hsA ⟨rfl, rfl, rfl⟩
theorem sp_rBy {H : SH} {v : Value} {bs : List Bool} (hv : RD H v TBool bs) (hl : bs.length ≤ 1000) : WF F X f_loessref6_Bits_Bytes [v] H (fun r H' => ∃ w : SV, r = w.toV ∧ H' = SL w.toV TByte (byts bs (nby bs.length)) :: H) := by
  refine WF_fn F_loessref6_Bits_Bytes ?_
  refine WC_seq (WC_region ?_)
  refine WO_step rfl (S_pure rfl ?_)
  refine WO_nil (KSeq_n (WC_seq (WC_region ?_)))
  refine WO_step rfl (S_pure rfl ?_)
  first | refine WO_step rfl (S_pure rfl ?_) | refine WO_step rfl (S_lenS rfl rdA ?_)
  first | refine WO_step rfl (S_addN (b := 7) rfl rfl (by omega) ?_) | refine WO_step rfl (S_pure rfl ?_)
  refine WO_step rfl (S_quoN (a := bs.length + 7) (m := 8) rfl rfl (by omega) (by omega) ?_)
  refine WO_step rfl (S_mkSlice (T := TByte) (z := 0) (n := nby bs.length) (c := nby bs.length) rfl rfl rfl rfl (Nat.le_refl _) (by unfold nby; omega) rfl rfl rfl fun w9 => ?_)
  rw [byts_nil]
  refine WO_step rfl (S_pure rfl ?_)
  refine WO_nil (KSeq_n (WC_seq (WC_seq (WC_region ?_))))
  refine WO_step rfl (S_pure rfl ?_)
  refine WO_nil (KSeq_n (WC_block ?_))
  --out x0
  refine WC_post (WC_weak (lp_rBy (H := H) (w := w9) hv hl bs.length 0 (by omega) (by omega)) seA hsA) ?_
  rintro y l' _ ⟨rfl, rfl, rfl⟩
  refine KBlock_h (KSeq_n (WC_seq (WC_region ?_)))
  iterate 2 refine WO_step rfl (S_pure rfl ?_)
  refine WO_nil (KSeq_n (WC_ret ?_))
  refine KFn_r (ResL.tmp rfl ResL.nil) ?_
  exact ⟨_, HSub.refl, w9, rfl, rfl⟩
/-! ### Tables in cuckoo order: rules, which may be -/
def TSlO : Ty SlT := Ty.ofAgg 6 40 64 (fun s => [.bool s.has, .string s.r.key, .bool s.r.gone, .int .i64 s.r.val.kind, .int .i64 s.r.val.n, .string s.r.val.s]) (fun _ => rfl) (fun _ => rfl)
def inB (xs : List ByteArray) (s : ByteArray) : Bool := xs.any fun y => decide (y = s)
theorem inB_iff {xs : List ByteArray} {s : ByteArray} : inB xs s = true ↔ s ∈ xs := by
  unfold inB
  rw [List.any_eq_true]
  constructor
  · rintro ⟨y, h1, h2⟩; rw [← of_decide_eq_true h2]; exact h1
  · intro h; exact ⟨s, h, decide_eq_true rfl⟩
theorem lp_sidx {H : SH} {v : Value} {xs : List ByteArray} {s : ByteArray} (hv : RD H v TStrT xs) (hL : xs.length ≤ 1000000) : ∀ (n i : Nat), xs.length - i = n → i ≤ xs.length → (∀ y ∈ xs.take i, y ≠ s) →
    WC F X (.loop L_slices_Index_string_0) [(8, .int .i64 (i : Int)), (7, .int .i64 (xs.length : Int)), (0, v), (1, .string s)] H
      (KPost fun x l' H' => H' = H ∧ ((x = .exit 0 ∧ l' = [] ∧ s ∉ xs) ∨ (x = .ret ∧ ∃ k : Nat, l' = [(4, .int .i64 (k : Int))] ∧ s ∈ xs))) := by
  intro n
  induction n using Nat.strongRecOn with
  | _ n ih =>
    intro i hn hi hno
    refine WC_loop (WC_seq (WC_region ?_))
    refine WO_step rfl (S_pure rfl ?_)
    refine WO_nil (KSeq_n (WC_seq ?_))
    refine WC_cond rfl (fun hb1 => ?_) (fun hb1 => ?_)
    ·
     try simp only [bsT] at hb1
     obtain ⟨y, hx⟩ := get_of_lt hb1
     refine WC_skip (KSeq_n (WC_seq (WC_block (WC_seq (WC_region ?_)))))
     iterate 2 refine WO_step rfl (S_pure rfl ?_)
     refine WO_nil (KSeq_n (WC_seq (WC_region ?_)))
     iterate 3 refine WO_step rfl (S_pure rfl ?_)
     refine WO_step rfl (S_idx rfl rfl rdA (by first | rfl | assumption | (symm; assumption)) (by rfl) (by first | assumption | omega | exact lt_of_get (by assumption) | (simp only [List.length_set]; first | assumption | omega | exact lt_of_get (by assumption))) fun hp14 => ?_)
     refine WO_step rfl (S_loadE rfl rdA (by first | rfl | assumption | (symm; assumption)) (by first | rfl | assumption | (symm; assumption)) (by first | rfl | assumption | (symm; assumption)) (by assumption) ?_)
     first | refine WO_step rfl (S_eqS rfl rfl ?_) | refine WO_step rfl (S_pure rfl ?_)
     refine WO_nil (KSeq_n ?_)
     refine WC_cond rfl (fun hb2 => ?_) (fun hb2 => ?_)
     ·
      try simp only [bsT] at hb2
      refine WC_seq (WC_region ?_)
      iterate 2 refine WO_step rfl (S_pure rfl ?_)
      refine WO_nil (KSeq_n (WC_ret (KBlock_r (KSeq_r (KLoop_r ?_)))))
      exact KPost_i (l' := [(4, .int .i64 (i : Int))]) seA hsA ⟨rfl, .inr ⟨rfl, i, rfl, by rw [hb2]; exact List.mem_of_getElem? hx⟩⟩
     ·
      try simp only [bsT] at hb2
      refine WC_skip (KBlock_n (KSeq_n (WC_region ?_)))
      first | refine WO_step rfl (S_addN (b := 1) rfl rfl (by omega) ?_) | refine WO_step rfl (S_pure rfl ?_)
      refine WO_step rfl (S_pure rfl ?_)
      refine WO_nil (KLoop_n ?_)
      refine WC_weak (ih (xs.length - (i + 1)) (by omega) (i + 1) rfl (by omega) (fun z hz => ?_)) seA hsA
      rw [List.take_add_one, hx] at hz
      rcases List.mem_append.1 hz with hz | hz
      · exact hno z hz
      · simp at hz; subst hz; exact fun e => hb2 e.symm
    ·
     try simp only [bsT] at hb1
     refine WC_exit (KSeq_x (KLoop_x ?_))
     have ei : i = xs.length := by omega
     subst ei
     exact KPost_i (l' := []) SubE.nil hsA ⟨rfl, .inl ⟨rfl, rfl, fun hm => hno s (by simpa using hm) rfl⟩⟩
theorem sp_sidx {H : SH} {v : Value} {xs : List ByteArray} {s : ByteArray} (hv : RD H v TStrT xs) (hL : xs.length ≤ 1000000) : WF F X f_slices_Index_string [v, .string s] H (fun r H' => H' = H ∧ ∃ J : Int, r = .int .i64 J ∧ (0 ≤ J ↔ s ∈ xs)) := by
  refine WF_fn F_slices_Index_string ?_
  refine WC_seq (WC_region ?_)
  refine WO_step rfl (S_pure rfl ?_)
  refine WO_nil (KSeq_n (WC_seq (WC_seq (WC_region ?_))))
  refine WO_step rfl (S_pure rfl ?_)
  first | refine WO_step rfl (S_pure rfl ?_) | refine WO_step rfl (S_lenS rfl rdA ?_)
  refine WO_step rfl (S_pure rfl ?_)
  refine WO_nil (KSeq_n (WC_block ?_))
  --out r x0
  refine WC_post (WC_weak (lp_sidx (s := s) hv hL xs.length 0 (by omega) (by omega) (by simp)) seA hsA) ?_
  rintro x l' _ ⟨rfl, ⟨rfl, rfl, hno⟩ | ⟨rfl, k, rfl, hin⟩⟩
  rotate_left
  ·
   refine KBlock_r (KSeq_r ?_)
   refine KFn_r (ResL.tmp rfl ResL.nil) ?_
   exact ⟨_, HSub.refl, rfl, _, rfl, by simp [hin]⟩
  ·
   refine KBlock_h (KSeq_n (WC_seq (WC_region ?_)))
   refine WO_step rfl (S_pure rfl ?_)
   refine WO_nil (KSeq_n (WC_ret ?_))
   refine KFn_r (ResL.tmp rfl ResL.nil) ?_
   exact ⟨_, HSub.refl, rfl, _, rfl, by simp [hno]⟩
theorem sp_sin {H : SH} {v : Value} {xs : List ByteArray} {s : ByteArray} (hv : RD H v TStrT xs) (hL : xs.length ≤ 1000000) : WF F X f_slices_Contains_string [v, .string s] H (fun r H' => H' = H ∧ r = .bool (inB xs s)) := by
  refine WF_fn F_slices_Contains_string ?_
  refine WC_seq (WC_region ?_)
  refine WO_step rfl (S_pure rfl ?_)
  refine WO_nil (KSeq_n (WC_seq (WC_region ?_)))
  iterate 2 refine WO_step rfl (S_pure rfl ?_)
  refine WO_call rfl rfl rfl ?_
  refine (sp_sidx (s := s) hv hL).mono ?_
  rintro _ _ ⟨rfl, J, rfl, hJ⟩
  iterate 2 refine WO_step rfl (S_pure rfl ?_)
  refine WO_nil (KSeq_n (WC_ret ?_))
  refine KFn_r (ResL.tmp rfl ResL.nil) ?_
  refine ⟨_, HSub.refl, rfl, ?_⟩
  simp only [resV]
  congr 1
  rw [Bool.eq_iff_iff, decide_eq_true_eq, inB_iff, ← hJ]
/-- The value of a table. -/
abbrev tabV (ts : List SlT) : Value := .agg (TSlT.cells ts).toArray
theorem S_loadAll {α : Type} {T : Ty α} {l : SE} {H H0 : SH} {K : Value → SH → Prop} {i n : Nat} {t : TypeId} {a : Opd} {xs : List α} (ha : a.lv l = some (.pointer (some ⟨i, 0, none⟩))) (hp : Pick (AO i t T xs) H H0) (hn : n = xs.length * T.es) (kk : K (.agg (T.cells xs).toArray) H) : Step (.load true n a) l H K := by
  have hc := T.cells_len xs
  refine S_loadO ha hp (by rw [Nat.ble_eq, hc]; omega) ?_ kk
  rw [List.drop_zero, List.take_of_length_le (by rw [hc]; omega)]; rfl
theorem S_storeAll {α : Type} {T : Ty α} {l : SE} {H H0 : SH} {K : Value → SH → Prop} {i n : Nat} {t : TypeId} {c : List Value} {a y : Opd} {xs : List α} (ha : a.lv l = some (.pointer (some ⟨i, 0, none⟩))) (hy : y.lv l = some (.agg (T.cells xs).toArray)) (hp : Pick (.obj i (.row false t c)) H H0) (hc : c.length = n) (hn : xs.length * T.es = n) (kk : K undef (AO i t T xs :: H0)) : Step (.store n a y) l H K := by
  have hl := T.cells_len xs
  have e : AM.cells (.agg (T.cells xs).toArray) = T.cells xs := by simp [AM.cells, Value.cells]
  refine S_storeO ha hy hp (by rw [e, hl, hn]) (by rw [Nat.ble_eq, hc]; omega) (by rw [e]; exact T.cells_all xs) ?_
  rw [e, splice_all (by rw [hl, hn, hc])]
  exact kk
theorem S_idxVE {l : SE} {H : SH} {K : Value → SH → Prop} {n es j : Nat} {x y : Opd} {kd : IntKind} {J : Int} {cs : List Value} (hx : x.lv l = some (.agg cs.toArray)) (hy : y.lv l = some (.int kd J)) (hJ : J = (j : Int)) (hj : j < n) (hb : j * es + es ≤ cs.length) (k : K (.agg ((cs.drop (j * es)).take es).toArray) H) : Step (.idxV n true es x y) l H K :=
  fun e h hA hH => by
    subst hJ
    refine ⟨_, h, H, ?_, hH, k⟩
    simp only [ev, Opd.lv_ev hA hx, Opd.lv_ev hA hy]
    rw [if_pos ⟨by omega, by omega, by simpa using hb⟩, Int.toNat_natCast]
    rfl
def bk (ts : List SlT) (b : Nat) : List SlT := (ts.drop (4 * b)).take 4
theorem bk_len {ts : List SlT} {b : Nat} (hl : ts.length = 32) (hb : b < 8) : (bk ts b).length = 4 := by
  unfold bk; rw [List.length_take, List.length_drop]; omega
theorem bk_get {ts : List SlT} {b s : Nat} (hs : s < 4) : (bk ts b)[s]? = ts[4 * b + s]? := by
  unfold bk
  rw [List.getElem?_take, if_pos hs, List.getElem?_drop]
theorem S_idxBk {l : SE} {H : SH} {K : Value → SH → Prop} {b : Nat} {x y : Opd} {kd : IntKind} {J : Int} {ts : List SlT} (hx : x.lv l = some (tabV ts)) (hy : y.lv l = some (.int kd J)) (hJ : J = (b : Int)) (hb : b < 8) (hl : ts.length = 32) (k : K (tabV (bk ts b)) H) : Step (.idxV 8 true 24 x y) l H K := by
  refine S_idxVE hx hy hJ hb (by rw [TSlT.cells_len, hl]; show b * 24 + 24 ≤ 32 * 6; omega) ?_
  have e : ((TSlT.cells ts).drop (b * 24)).take 24 = TSlT.cells (bk ts b) := by
    unfold bk
    rw [← TSlT.cells_take, ← TSlT.cells_drop]
    rw [show 4 * b * TSlT.es = b * 24 by show 4 * b * 6 = b * 24; omega]
    rfl
  rw [e]; exact k
theorem S_idxSl {l : SE} {H : SH} {K : Value → SH → Prop} {s : Nat} {x y : Opd} {kd : IntKind} {J : Int} {xs : List SlT} {z : SlT} (hx : x.lv l = some (tabV xs)) (hy : y.lv l = some (.int kd J)) (hJ : J = (s : Int)) (hs : s < 4) (hz : xs[s]? = some z) (k : K (TSlT.val z) H) : Step (.idxV 4 true 6 x y) l H K := by
  have hlt := (List.getElem?_eq_some_iff.1 hz).1
  refine S_idxVE hx hy hJ hs (by rw [TSlT.cells_len]; show s * 6 + 6 ≤ xs.length * 6; omega) ?_
  have e := TSlT.cells_at hz (off := 0) (n := 6) (Nat.le_refl _)
  rw [Nat.add_zero, List.drop_zero] at e
  have e2 : ((TSlT.cells xs).drop (s * 6)).take 6 = TSlT.enc z := by
    rw [show s * 6 = s * TSlT.es from rfl, e]; rfl
  rw [e2]; exact k
theorem S_neA {l : SE} {H : SH} {K : Value → SH → Prop} {x y : Opd} {ks : List SK} {a b : Array Value} {r : Bool} (hx : x.lv l = some (.agg a)) (hy : y.lv l = some (.agg b)) (h1 : a.size = ks.length) (h2 : b.size = ks.length) (hk : kEq ks a.toList b.toList = some r) (k : K (.bool (!r)) H) : Step (.eqA true ks x y) l H K :=
  S_pure (by simp only [pev, hx, hy, h1, h2, hk]; rfl) k
/-- May a key lie in a bucket? -/
def bel (k : ByteArray) (b : Nat) : Bool := decide (b = frst (kH k)) || decide (b = oth (frst (kH k)) (tagOf (kH k)))
/-- May a slot be, behind those keys? -/
def slOk (ks : List ByteArray) (b : Nat) (x : SlT) : Bool := if x.has then mayRec x.r && (bel x.r.key b && !inB ks x.r.key) else decide (x.r = rec0)
def OkTo (ts : List SlT) (k : Nat) : Prop := ∀ j x, j < k → ts[j]? = some x → slOk (tKeys ts j) (j / 4) x = true
def mayTab (ts : List SlT) : Bool := (List.range 32).all fun j => slOk (tKeys ts j) (j / 4) (ts.getD j slt0)
theorem mayTab_iff {ts : List SlT} (hl : ts.length = 32) : mayTab ts = true ↔ OkTo ts 32 := by
  unfold mayTab OkTo
  rw [List.all_eq_true]
  constructor
  · intro h j x hj hx
    have := h j (List.mem_range.2 hj)
    rwa [List.getD_eq_getElem?_getD, hx] at this
  · intro h j hj
    have hj := List.mem_range.1 hj
    obtain ⟨x, hx⟩ := get_of_lt (l := ts) (a := j) (by omega)
    rw [List.getD_eq_getElem?_getD, hx]
    exact h j x hj hx
theorem OkTo.zero (ts : List SlT) : OkTo ts 0 := fun j x h => absurd h (Nat.not_lt_zero _)
theorem OkTo.succ {ts : List SlT} {k : Nat} {x : SlT} (h : OkTo ts k) (hx : ts[k]? = some x) (ho : slOk (tKeys ts k) (k / 4) x = true) : OkTo ts (k + 1) := fun j y hj hy => by
  by_cases e : j = k
  · subst e; rw [hx] at hy; cases hy; exact ho
  · exact h j y (by omega) hy
theorem OkTo.bad {ts : List SlT} {k : Nat} {x : SlT} (hl : ts.length = 32) (hx : ts[k]? = some x) (ho : slOk (tKeys ts k) (k / 4) x = false) : mayTab ts = false := by
  have hk := (List.getElem?_eq_some_iff.1 hx).1
  cases hm : mayTab ts with
  | false => rfl
  | true => rw [(mayTab_iff hl).1 hm k x (by omega) hx] at ho; cases ho
theorem tKeys_len (ts : List SlT) (k : Nat) : (tKeys ts k).length ≤ k := by
  unfold tKeys
  rw [List.length_map]
  exact Nat.le_trans (List.length_filter_le _ _) (by rw [List.length_take]; omega)
def kSmall (ts : List SlT) : Prop := ∀ x ∈ ts, x.r.key.size ≤ 100000
theorem sp_bel {H : SH} {k : ByteArray} {b : Nat} (hs : k.size ≤ 1000000) : WF F X f_order_belongs [.string k, .int .i64 (b : Int)] H (fun r H' => H' = H ∧ r = .bool (bel k b)) := by
  have hk := kH_lt k
  have hf := frst_lt (kH k)
  have ht := tagOf_lt (kH k)
  refine WF_fn F_order_belongs ?_
  refine WC_seq (WC_region ?_)
  refine WO_step rfl (S_pure rfl ?_)
  refine WO_nil (KSeq_n (WC_seq (WC_region ?_)))
  refine WO_step rfl (S_pure rfl ?_)
  refine WO_call rfl rfl rfl ?_
  refine (sp_HashOf hs).mono ?_
  rintro _ _ ⟨rfl, rfl⟩
  rw [kH_eq]
  refine WO_step rfl (S_pure rfl ?_)
  refine WO_nil (KSeq_n (WC_seq (WC_region ?_)))
  refine WO_step rfl (S_pure rfl ?_)
  refine WO_call rfl rfl rfl ?_
  refine (sp_hFirst (by omega)).mono ?_
  rintro _ _ ⟨rfl, rfl⟩
  refine WO_step rfl (S_pure rfl ?_)
  refine WO_nil (KSeq_n (WC_seq (WC_region ?_)))
  iterate 2 refine WO_step rfl (S_pure rfl ?_)
  first | refine WO_step rfl (S_eqS rfl rfl ?_) | refine WO_step rfl (S_pure rfl ?_)
  refine WO_step rfl (S_pure rfl ?_)
  refine WO_cases (t := 14) rfl (fun hg1 => ?_) (fun hg1 => ?_)
  ·
   try simp only [bsT] at hg1
   iterate 6 refine WO_off rfl ?_
   iterate 2 refine WO_step rfl (S_pure rfl ?_)
   refine WO_nil (KSeq_n (WC_ret ?_))
   refine KFn_r (ResL.tmp rfl ResL.nil) ?_
   refine ⟨_, HSub.refl, rfl, ?_⟩
   unfold bel
   rw [decide_eq_true (show b = frst (kH k) by omega), Bool.true_or]; rfl
  ·
   try simp only [bsT] at hg1
   iterate 3 refine WO_step rfl (S_pure rfl ?_)
   refine WO_call rfl rfl rfl ?_
   refine (sp_hTag (by omega)).mono ?_
   rintro _ _ ⟨rfl, rfl⟩
   refine WO_call rfl rfl rfl ?_
   refine (sp_hOther (by assumption) (by assumption)).mono ?_
   rintro _ _ ⟨rfl, rfl⟩
   first | refine WO_step rfl (S_eqS rfl rfl ?_) | refine WO_step rfl (S_pure rfl ?_)
   iterate 2 refine WO_step rfl (S_pure rfl ?_)
   refine WO_nil (KSeq_n (WC_ret ?_))
   refine KFn_r (ResL.tmp rfl ResL.nil) ?_
   refine ⟨_, HSub.refl, rfl, ?_⟩
   unfold bel
   rw [decide_eq_false (show ¬ b = frst (kH k) by omega), Bool.false_or]
   by_cases h : b = oth (frst (kH k)) (tagOf (kH k))
   · simp [resV, ← h]
   · have h2 : ¬ ((b : Int) = ((oth (frst (kH k)) (tagOf (kH k)) : Nat) : Int)) := by omega
     simp [resV, h, h2]
theorem lp_oM1 {H : SH} {ts : List SlT} {b : Nat} (v1 v8 : Value) (hl : ts.length = 32) (hk : kSmall ts) (hb : b < 8) : ∀ (m s : Nat) (w : SV), 4 - s = m → s ≤ 4 → OkTo ts (4 * b + s) →
    WC F X (.loop L_order_May_1) [(14, .int .i64 (s : Int)), (13, tabV (bk ts b)), (9, .int .i64 (b : Int)), (4, .int .i64 (b : Int)), (8, v8), (1, v1), (3, w.toV)] (SL w.toV TStrT (tKeys ts (4 * b + s)) :: H)
      (KPost fun y l' H' => (∃ w : SV, y = .exit 2 ∧ l' = [(9, .int .i64 (b : Int)), (8, v8), (1, v1), (3, w.toV)] ∧ H' = SL w.toV TStrT (tKeys ts (4 * b + 4)) :: H ∧ OkTo ts (4 * b + 4)) ∨ (y = .ret ∧ l' = [(2, .bool false)] ∧ H' = H ∧ mayTab ts = false)) := by
  intro m
  induction m using Nat.strongRecOn with
  | _ m ih =>
    intro s w hm hs hok
    have hkl := tKeys_len ts (4 * b + s)
    refine WC_loop (WC_seq (WC_region ?_))
    refine WO_step rfl (S_pure rfl ?_)
    refine WO_nil (KSeq_n (WC_seq ?_))
    refine WC_cond rfl (fun hb1 => ?_) (fun hb1 => ?_)
    ·
     try simp only [bsT] at hb1
     obtain ⟨x, hx⟩ := get_of_lt (show 4 * b + s < ts.length by omega)
     have hsucc := tKeys_succ hx
     have hxs := hk x (List.mem_of_getElem? hx)
     have hdiv : (4 * b + s) / 4 = b := by omega
     refine WC_skip (KSeq_n (WC_seq (WC_block (WC_seq (WC_region ?_)))))
     refine WO_step rfl (S_idxSl (s := s) (z := x) rfl rfl rfl (by omega) (by rw [bk_get (by omega)]; exact hx) ?_)
     refine WO_step rfl (S_newT TSlO slt0 rfl rfl fun i7 => ?_)
     refine WO_step rfl (S_storeT (T := TSlO) (y := x) rfl rfl pkA (by rfl) (by rfl) ?_)
     refine WO_nil (KSeq_n (WC_seq (WC_seq (WC_region ?_))))
     refine WO_step rfl (S_pure rfl ?_)
     refine WO_step rfl (S_loadO rfl pkA (by rfl) (by rfl) ?_)
     refine WO_step rfl (S_pure rfl ?_)
     refine WO_nil (KSeq_n ?_)
     refine WC_cond rfl (fun hb2 => ?_) (fun hb2 => ?_)
     ·
      try simp only [bsT] at hb2
      have hhf : x.has = false := hb2
      refine WC_seq (WC_seq (WC_region ?_))
      refine WO_step rfl (S_pure rfl ?_)
      refine WO_step rfl (S_loadO (v := TRec.val x.r) rfl pkA (by rfl) (by rfl) ?_)
      refine WO_step rfl (S_pure rfl ?_)
      refine WO_step rfl (S_neA rfl rfl rfl rfl (kEq_rec x.r rec0) ?_)
      refine WO_nil (KSeq_n ?_)
      refine WC_cond rfl (fun hb3 => ?_) (fun hb3 => ?_)
      ·
       try simp only [bsT] at hb3
       refine WC_seq (WC_region ?_)
       refine WO_step rfl (S_pure rfl ?_)
       refine WO_nil (KSeq_n (WC_ret (KSeq_r (KSeq_r (KBlock_r (KSeq_r (KLoop_r ?_)))))))
       refine KPost_i (l' := [(2, .bool false)]) (H' := H) seA hsA (.inr ⟨rfl, rfl, rfl, OkTo.bad hl hx ?_⟩)
       unfold slOk
       rw [hhf]; simpa using hb3
      ·
       try simp only [bsT] at hb3
       refine WC_skip (KSeq_n (WC_exit (KSeq_x (KBlock_h (KSeq_n (WC_region ?_))))))
       first | refine WO_step rfl (S_addN (b := 1) rfl rfl (by omega) ?_) | refine WO_step rfl (S_pure rfl ?_)
       refine WO_step rfl (S_pure rfl ?_)
       refine WO_nil (KLoop_n ?_)
       have ho : slOk (tKeys ts (4 * b + s)) ((4 * b + s) / 4) x = true := by unfold slOk; rw [hhf]; simpa using hb3
       rw [hhf] at hsucc
       simp only [Bool.false_eq_true, if_false, List.append_nil] at hsucc
       have := ih (4 - (s + 1)) (by omega) (s + 1) w rfl (by omega) (hok.succ hx ho)
       rw [show 4 * b + (s + 1) = 4 * b + s + 1 by omega, hsucc] at this
       exact WC_weak this seA hsA
     ·
      try simp only [bsT] at hb2
      have hht : x.has = true := hb2
      refine WC_skip (KSeq_n (WC_seq (WC_seq (WC_region ?_))))
      refine WO_step rfl (S_pure rfl ?_)
      refine WO_step rfl (S_loadO (v := TRec.val x.r) rfl pkA (by rfl) (by rfl) ?_)
      refine WO_call rfl rfl rfl ?_
      refine sp_rMay.mono ?_
      rintro _ _ ⟨rfl, rfl⟩
      iterate 2 refine WO_step rfl (S_pure rfl ?_)
      refine WO_cases (t := 28) rfl (fun hg1 => ?_) (fun hg1 => ?_)
      ·
       try simp only [bsT] at hg1
       iterate 6 refine WO_off rfl ?_
       iterate 2 refine WO_step rfl (S_pure rfl ?_)
       iterate 5 refine WO_off rfl ?_
       refine WO_step rfl (S_pure rfl ?_)
       refine WO_nil (KSeq_n ?_)
       refine WC_cond rfl (fun _ => ?_) (fun h => ?_)
       rotate_left
       · exact absurd h (by decide)
       refine WC_seq (WC_region ?_)
       refine WO_step rfl (S_pure rfl ?_)
       refine WO_nil (KSeq_n (WC_ret (KSeq_r (KBlock_r (KSeq_r (KLoop_r ?_))))))
       refine KPost_i (l' := [(2, .bool false)]) (H' := H) seA hsA (.inr ⟨rfl, rfl, rfl, OkTo.bad hl hx ?_⟩)
       unfold slOk
       rw [hht, if_pos rfl]
       simp [hg1]
      ·
       try simp only [bsT] at hg1
       iterate 2 refine WO_step rfl (S_pure rfl ?_)
       refine WO_step rfl (S_loadO rfl pkA (by rfl) (by rfl) ?_)
       refine WO_step rfl (S_pure rfl ?_)
       refine WO_call rfl rfl rfl ?_
       refine (sp_bel (k := x.r.key) (by omega)).mono ?_
       rintro _ _ ⟨rfl, rfl⟩
       iterate 3 refine WO_step rfl (S_pure rfl ?_)
       refine WO_cases (t := 36) rfl (fun hg2 => ?_) (fun hg2 => ?_)
       ·
        try simp only [bsT] at hg2
        iterate 5 refine WO_off rfl ?_
        refine WO_step rfl (S_pure rfl ?_)
        refine WO_nil (KSeq_n ?_)
        refine WC_cond rfl (fun _ => ?_) (fun h => ?_)
        rotate_left
        · exact absurd h (by decide)
        refine WC_seq (WC_region ?_)
        refine WO_step rfl (S_pure rfl ?_)
        refine WO_nil (KSeq_n (WC_ret (KSeq_r (KBlock_r (KSeq_r (KLoop_r ?_))))))
        refine KPost_i (l' := [(2, .bool false)]) (H' := H) seA hsA (.inr ⟨rfl, rfl, rfl, OkTo.bad hl hx ?_⟩)
        unfold slOk
        rw [hht, if_pos rfl, hdiv]
        simp [hg2]
       ·
        try simp only [bsT] at hg2
        iterate 3 refine WO_step rfl (S_pure rfl ?_)
        refine WO_step rfl (S_loadO rfl pkA (by rfl) (by rfl) ?_)
        refine WO_call rfl rfl rfl ?_
        refine (sp_sin (xs := tKeys ts (4 * b + s)) (s := x.r.key) rdA (by omega)).mono ?_
        rintro _ _ ⟨rfl, rfl⟩
        refine WO_step rfl (S_pure rfl ?_)
        refine WO_nil (KSeq_n ?_)
        refine WC_cond rfl (fun hb4 => ?_) (fun hb4 => ?_)
        ·
         try simp only [bsT] at hb4
         refine WC_seq (WC_region ?_)
         refine WO_step rfl (S_pure rfl ?_)
         refine WO_nil (KSeq_n (WC_ret (KSeq_r (KBlock_r (KSeq_r (KLoop_r ?_))))))
         refine KPost_i (l' := [(2, .bool false)]) (H' := H) seA hsA (.inr ⟨rfl, rfl, rfl, OkTo.bad hl hx ?_⟩)
         unfold slOk
         rw [hht, if_pos rfl, hdiv]
         simp [hb4]
        ·
         try simp only [bsT] at hb4
         refine WC_skip (KSeq_n (WC_region ?_))
         iterate 3 refine WO_step rfl (S_pure rfl ?_)
         refine WO_step rfl (S_loadO rfl pkA (by rfl) (by rfl) ?_)
         refine WO_step rfl (S_lit1 (T := TStrT) (y := x.r.key) rfl rfl rfl rfl fun w47 => ?_)
         refine WO_step rfl (S_app rfl rfl pkA (by first | exact SRC.str rfl rfl | (apply RD.src; repeat (first | assumption | exact RD.head | exact RD.nil | apply RD.tail))) (by rfl) (by rfl) (by (try simp only [List.length_append, List.length_cons, List.length_nil]); omega) fun w48 => ?_)
         refine WO_step rfl (S_pure rfl ?_)
         refine WO_nil (KBlock_n (KSeq_n (WC_region ?_)))
         first | refine WO_step rfl (S_addN (b := 1) rfl rfl (by omega) ?_) | refine WO_step rfl (S_pure rfl ?_)
         refine WO_step rfl (S_pure rfl ?_)
         refine WO_nil (KLoop_n ?_)
         have ho : slOk (tKeys ts (4 * b + s)) ((4 * b + s) / 4) x = true := by
           unfold slOk
           rw [hht, if_pos rfl, hdiv]
           simp [hg1, hg2, hb4]
         rw [hht] at hsucc
         simp only [if_true] at hsucc
         have := ih (4 - (s + 1)) (by omega) (s + 1) w48 rfl (by omega) (hok.succ hx ho)
         rw [show 4 * b + (s + 1) = 4 * b + s + 1 by omega, hsucc] at this
         exact WC_weak this seA hsA
    ·
     try simp only [bsT] at hb1
     refine WC_exit (KSeq_x (KLoop_x ?_))
     have e4 : s = 4 := by omega
     subst e4
     exact KPost_i seA hsA (.inl ⟨w, rfl, rfl, rfl, hok⟩)
theorem lp_oM0 {H : SH} {ts : List SlT} (v1 : Value) (hl : ts.length = 32) (hk : kSmall ts) : ∀ (m b : Nat) (w : SV), 8 - b = m → b ≤ 8 → OkTo ts (4 * b) →
    WC F X (.loop L_order_May_0) [(9, .int .i64 (b : Int)), (8, tabV ts), (1, v1), (3, w.toV)] (SL w.toV TStrT (tKeys ts (4 * b)) :: H)
      (KPost fun y l' H' => (y = .exit 0 ∧ l' = [] ∧ H' = H ∧ mayTab ts = true) ∨ (y = .ret ∧ l' = [(2, .bool false)] ∧ H' = H ∧ mayTab ts = false)) := by
  intro m
  induction m using Nat.strongRecOn with
  | _ m ih =>
    intro b w hm hb hok
    refine WC_loop (WC_seq (WC_region ?_))
    refine WO_step rfl (S_pure rfl ?_)
    refine WO_nil (KSeq_n (WC_seq ?_))
    refine WC_cond rfl (fun hb1 => ?_) (fun hb1 => ?_)
    ·
     try simp only [bsT] at hb1
     have hb8 : b < 8 := by omega
     have hbkl := bk_len hl hb8
     refine WC_skip (KSeq_n (WC_seq (WC_block (WC_seq (WC_region ?_)))))
     refine WO_step rfl (S_pure rfl ?_)
     refine WO_step rfl (S_idxBk (b := b) rfl rfl rfl hb8 hl ?_)
     refine WO_step rfl (S_new fun i5 => ?_)
     refine WO_step rfl (S_pure rfl ?_)
     refine WO_step rfl (S_storeAll (T := TSlT) (xs := bk ts b) rfl rfl pkA (by rfl) (by rw [hbkl]; rfl) ?_)
     refine WO_nil (KSeq_n (WC_seq (WC_region ?_)))
     refine WO_step rfl (S_loadAll (T := TSlT) (xs := bk ts b) rfl pkA (by rw [hbkl]; rfl) ?_)
     refine WO_step rfl (S_pure rfl ?_)
     refine WO_nil (KSeq_n (WC_block ?_))
     --out r x2
     refine WC_post (WC_weak (lp_oM1 (H := H) (ts := ts) (b := b) v1 (tabV ts) hl hk hb8 4 0 w (by omega) (by omega) hok) seA hsA) ?_
     rintro y l' _ (⟨w', rfl, rfl, rfl, hok'⟩ | ⟨rfl, rfl, rfl, hno⟩)
     rotate_left
     ·
      refine KBlock_r (KBlock_r (KSeq_r (KLoop_r ?_)))
      exact KPost_i seA HSub.refl (.inr ⟨rfl, rfl, rfl, hno⟩)
     ·
      refine KBlock_h (KBlock_n (KSeq_n (WC_region ?_)))
      first | refine WO_step rfl (S_addN (b := 1) rfl rfl (by omega) ?_) | refine WO_step rfl (S_pure rfl ?_)
      refine WO_step rfl (S_pure rfl ?_)
      refine WO_nil (KLoop_n ?_)
      have := ih (8 - (b + 1)) (by omega) (b + 1) w' rfl (by omega) (by rw [show 4 * (b + 1) = 4 * b + 4 by omega]; exact hok')
      rw [show 4 * (b + 1) = 4 * b + 4 by omega] at this
      exact WC_weak this seA hsA
    ·
     try simp only [bsT] at hb1
     refine WC_exit (KSeq_x (KLoop_x ?_))
     have e8 : b = 8 := by omega
     subst e8
     exact KPost_i (l' := []) (H' := H) SubE.nil hsA (.inl ⟨rfl, rfl, rfl, (mayTab_iff hl).2 hok⟩)
theorem sp_oMay {H : SH} {ts : List SlT} (hl : ts.length = 32) (hk : kSmall ts) : WF F X f_order_May [tabV ts] H (fun r H' => H' = H ∧ r = .bool (mayTab ts)) := by
  refine WF_addNil (T := TStrT) ?_
  refine WF_fn F_order_May ?_
  refine WC_seq (WC_region ?_)
  refine WO_step rfl (S_boxA (T := TSlT) (xs := ts) rfl fun i1 => ?_)
  refine WO_step rfl (S_pure rfl ?_)
  refine WO_nil (KSeq_n (WC_seq (WC_region ?_)))
  refine WO_step rfl (S_pure rfl ?_)
  refine WO_nil (KSeq_n (WC_seq (WC_seq (WC_region ?_))))
  refine WO_step rfl (S_loadAll (T := TSlT) (xs := ts) rfl pkA (by rw [hl]; rfl) ?_)
  refine WO_step rfl (S_pure rfl ?_)
  refine WO_nil (KSeq_n (WC_block ?_))
  --out r x0
  refine WC_post (WC_weak (lp_oM0 (H := H) (ts := ts) (.pointer (some ⟨i1, 0, none⟩)) hl hk 8 0 .nil (by omega) (by omega) (OkTo.zero ts)) seA hsA) ?_
  rintro y l' _ (⟨rfl, rfl, rfl, hm⟩ | ⟨rfl, rfl, rfl, hm⟩)
  rotate_left
  ·
   refine KBlock_r (KSeq_r ?_)
   refine KFn_r (ResL.tmp rfl ResL.nil) ?_
   exact ⟨_, HSub.refl, rfl, by rw [hm]; rfl⟩
  ·
   refine KBlock_h (KSeq_n (WC_seq (WC_region ?_)))
   refine WO_step rfl (S_pure rfl ?_)
   refine WO_nil (KSeq_n (WC_ret ?_))
   refine KFn_r (ResL.tmp rfl ResL.nil) ?_
   exact ⟨_, HSub.refl, rfl, by rw [hm]; rfl⟩
/-! ### Which tables may be, as the document has it -/
theorem lp_rM2 {H : SH} {w : SV} {ks : List ByteArray} {i6 : Nat} {x : SlT} {v1 v4 v5 : Value} {H0 : SH} (hv : RD H w.toV TStrT ks) (hp : Pick (OB i6 TSlT x) H H0) (hL : ks.length ≤ 100) : ∀ (n a : Nat), ks.length - a = n → a ≤ ks.length → x.r.key ∉ ks.take a →
    WC F X (.loop L_loessref10_MayTable_2) [(9, .int .i64 (a : Int)), (3, w.toV), (6, .pointer (some ⟨i6, 0, none⟩)), (1, v1), (4, v4), (5, v5)] H
      (KPost fun y l' H' => H' = H ∧ ((y = .exit 4 ∧ l' = [(3, w.toV), (6, .pointer (some ⟨i6, 0, none⟩)), (1, v1), (4, v4), (5, v5)] ∧ x.r.key ∉ ks) ∨ (y = .ret ∧ l' = [(2, .bool false)] ∧ x.r.key ∈ ks))) := by
  intro n
  induction n using Nat.strongRecOn with
  | _ n ih =>
    intro a hn ha hno
    refine WC_loop (WC_seq (WC_seq (WC_region ?_)))
    iterate 2 refine WO_step rfl (S_pure rfl ?_)
    first | refine WO_step rfl (S_pure rfl ?_) | refine WO_step rfl (S_lenS rfl rdA ?_)
    refine WO_step rfl (S_pure rfl ?_)
    refine WO_nil (KSeq_n ?_)
    refine WC_cond rfl (fun hb1 => ?_) (fun hb1 => ?_)
    ·
     try simp only [bsT] at hb1
     obtain ⟨k, hk⟩ := get_of_lt hb1
     refine WC_skip (KSeq_n (WC_seq (WC_block (WC_seq (WC_region ?_)))))
     iterate 2 refine WO_step rfl (S_pure rfl ?_)
     refine WO_step rfl (S_idx rfl rfl rdA (by first | rfl | assumption | (symm; assumption)) (by rfl) (by first | assumption | omega | exact lt_of_get (by assumption) | (simp only [List.length_set]; first | assumption | omega | exact lt_of_get (by assumption))) fun hp62 => ?_)
     refine WO_step rfl (S_loadE rfl rdA (by first | rfl | assumption | (symm; assumption)) (by first | rfl | assumption | (symm; assumption)) (by first | rfl | assumption | (symm; assumption)) (by assumption) ?_)
     iterate 2 refine WO_step rfl (S_pure rfl ?_)
     refine WO_step rfl (S_loadO rfl hp (by rfl) (by rfl) ?_)
     first | refine WO_step rfl (S_eqS rfl rfl ?_) | refine WO_step rfl (S_pure rfl ?_)
     refine WO_nil (KSeq_n ?_)
     refine WC_cond rfl (fun hb2 => ?_) (fun hb2 => ?_)
     ·
      try simp only [bsT] at hb2
      refine WC_seq (WC_region ?_)
      refine WO_step rfl (S_pure rfl ?_)
      refine WO_nil (KSeq_n (WC_ret (KBlock_r (KSeq_r (KLoop_r ?_)))))
      exact KPost_i (l' := [(2, .bool false)]) seA hsA ⟨rfl, .inr ⟨rfl, rfl, by rw [← hb2]; exact List.mem_of_getElem? hk⟩⟩
     ·
      try simp only [bsT] at hb2
      refine WC_skip (KBlock_n (KSeq_n (WC_region ?_)))
      refine WO_step rfl (S_pure rfl ?_)
      first | refine WO_step rfl (S_addN (b := 1) rfl rfl (by omega) ?_) | refine WO_step rfl (S_pure rfl ?_)
      refine WO_step rfl (S_pure rfl ?_)
      refine WO_nil (KLoop_n ?_)
      refine WC_weak (ih (ks.length - (a + 1)) (by omega) (a + 1) rfl (by omega) (fun hm => ?_)) seA hsA
      rw [List.take_add_one, hk] at hm
      rcases List.mem_append.1 hm with hm | hm
      · exact hno hm
      · simp at hm; exact hb2 hm.symm
    ·
     try simp only [bsT] at hb1
     refine WC_exit (KSeq_x (KLoop_x ?_))
     exact KPost_i seA hsA ⟨rfl, .inl ⟨rfl, rfl, fun hm => hno (by rw [List.take_of_length_le (by omega)]; exact hm)⟩⟩
theorem lp_rM1 {H : SH} {ts : List SlT} {i1 b : Nat} (hl : ts.length = 32) (hk : kSmall ts) (hb : b < 8) : ∀ (n s : Nat) (w : SV), 4 - s = n → s ≤ 4 → OkTo ts (4 * b + s) →
    WC F X (.loop L_loessref10_MayTable_1) [(5, .int .i64 (s : Int)), (4, .int .i64 (b : Int)), (1, .pointer (some ⟨i1, 0, none⟩)), (3, w.toV)] (SL w.toV TStrT (tKeys ts (4 * b + s)) :: AO i1 33 TSlT ts :: H)
      (KPost fun y l' H' => (∃ w : SV, y = .exit 2 ∧ l' = [(4, .int .i64 (b : Int)), (1, .pointer (some ⟨i1, 0, none⟩)), (3, w.toV)] ∧ H' = SL w.toV TStrT (tKeys ts (4 * b + 4)) :: AO i1 33 TSlT ts :: H ∧ OkTo ts (4 * b + 4)) ∨ (y = .ret ∧ l' = [(2, .bool false)] ∧ H' = H ∧ mayTab ts = false)) := by
  intro n
  induction n using Nat.strongRecOn with
  | _ n ih =>
    intro s w hn hs hok
    have hkl := tKeys_len ts (4 * b + s)
    refine WC_loop (WC_seq (WC_seq (WC_region ?_)))
    iterate 2 refine WO_step rfl (S_pure rfl ?_)
    refine WO_nil (KSeq_n ?_)
    refine WC_cond rfl (fun hb1 => ?_) (fun hb1 => ?_)
    ·
     try simp only [bsT] at hb1
     obtain ⟨x, hx⟩ := get_of_lt (show 4 * b + s < ts.length by omega)
     have hsucc := tKeys_succ hx
     have hxs := hk x (List.mem_of_getElem? hx)
     have hdiv : (4 * b + s) / 4 = b := by omega
     refine WC_skip (KSeq_n (WC_seq (WC_block (WC_seq (WC_region ?_)))))
     iterate 2 refine WO_step rfl (S_pure rfl ?_)
     refine WO_step rfl (S_idxA (j := b) rfl rfl rfl hb ?_)
     refine WO_step rfl (S_idxA (j := s) rfl rfl rfl (by omega) ?_)
     refine WO_step rfl (S_loadA (T := TSlT) (k := 4 * b + s) rfl pkA (by show _ = (4 * b + s) * 6; omega) hx rfl rfl ?_)
     refine WO_step rfl (S_newT TSlT slt0 rfl rfl fun i6 => ?_)
     refine WO_step rfl (S_storeT (T := TSlT) (y := x) rfl rfl pkA (by rfl) (by rfl) ?_)
     refine WO_nil (KSeq_n (WC_seq (WC_seq (WC_region ?_))))
     refine WO_step rfl (S_pure rfl ?_)
     refine WO_step rfl (S_loadO rfl pkA (by rfl) (by rfl) ?_)
     refine WO_step rfl (S_pure rfl ?_)
     refine WO_nil (KSeq_n ?_)
     refine WC_cond rfl (fun hb2 => ?_) (fun hb2 => ?_)
     ·
      try simp only [bsT] at hb2
      have hhf : x.has = false := by simpa using hb2
      refine WC_seq (WC_seq (WC_region ?_))
      refine WO_step rfl (S_pure rfl ?_)
      refine WO_step rfl (S_loadO (v := TRec.val x.r) rfl pkA (by rfl) (by rfl) ?_)
      refine WO_step rfl (S_pure rfl ?_)
      refine WO_call rfl rfl rfl ?_
      refine (sp_Eq (a := x.r) (b := rec0)).mono ?_
      rintro _ _ ⟨rfl, rfl⟩
      refine WO_step rfl (S_pure rfl ?_)
      refine WO_nil (KSeq_n ?_)
      refine WC_cond rfl (fun hb3 => ?_) (fun hb3 => ?_)
      ·
       try simp only [bsT] at hb3
       refine WC_seq (WC_region ?_)
       refine WO_step rfl (S_pure rfl ?_)
       refine WO_nil (KSeq_n (WC_ret (KSeq_r (KSeq_r (KBlock_r (KSeq_r (KLoop_r ?_)))))))
       refine KPost_i (l' := [(2, .bool false)]) (H' := H) seA hsA (.inr ⟨rfl, rfl, rfl, OkTo.bad hl hx ?_⟩)
       unfold slOk
       rw [hhf]; simpa using hb3
      ·
       try simp only [bsT] at hb3
       refine WC_skip (KSeq_n (WC_exit (KSeq_x (KBlock_h (KSeq_n (WC_region ?_))))))
       refine WO_step rfl (S_pure rfl ?_)
       first | refine WO_step rfl (S_addN (b := 1) rfl rfl (by omega) ?_) | refine WO_step rfl (S_pure rfl ?_)
       refine WO_step rfl (S_pure rfl ?_)
       refine WO_nil (KLoop_n ?_)
       have ho : slOk (tKeys ts (4 * b + s)) ((4 * b + s) / 4) x = true := by unfold slOk; rw [hhf]; simpa using hb3
       rw [hhf] at hsucc
       simp only [Bool.false_eq_true, if_false, List.append_nil] at hsucc
       have := ih (4 - (s + 1)) (by omega) (s + 1) w rfl (by omega) (hok.succ hx ho)
       rw [show 4 * b + (s + 1) = 4 * b + s + 1 by omega, hsucc] at this
       exact WC_weak this seA hsA
     ·
      try simp only [bsT] at hb2
      have hht : x.has = true := by simpa using hb2
      have hkl2 := kH_lt x.r.key
      have hf8 := frst_lt (kH x.r.key)
      have ht8 := tagOf_lt (kH x.r.key)
      refine WC_skip (KSeq_n (WC_seq (WC_region ?_)))
      iterate 2 refine WO_step rfl (S_pure rfl ?_)
      refine WO_step rfl (S_loadO rfl pkA (by rfl) (by rfl) ?_)
      refine WO_call rfl rfl rfl ?_
      refine (sp_RHash (s := x.r.key) (by omega)).mono ?_
      rintro _ _ ⟨rfl, rfl⟩
      rw [kH_eq]
      refine WO_step rfl (S_pure rfl ?_)
      refine WO_nil (KSeq_n (WC_seq (WC_region ?_)))
      refine WO_step rfl (S_pure rfl ?_)
      refine WO_call rfl rfl rfl ?_
      refine (sp_rFirst (by omega)).mono ?_
      rintro _ _ ⟨rfl, rfl⟩
      refine WO_step rfl (S_pure rfl ?_)
      refine WO_nil (KSeq_n (WC_seq (WC_seq (WC_region ?_))))
      refine WO_step rfl (S_pure rfl ?_)
      refine WO_step rfl (S_loadO (v := TRec.val x.r) rfl pkA (by rfl) (by rfl) ?_)
      refine WO_call rfl rfl rfl ?_
      refine (sp_May (r := x.r)).mono ?_
      rintro _ _ ⟨rfl, rfl⟩
      iterate 2 refine WO_step rfl (S_pure rfl ?_)
      refine WO_cases (t := 41) rfl (fun hg1 => ?_) (fun hg1 => ?_)
      ·
       try simp only [bsT] at hg1
       iterate 11 refine WO_off rfl ?_
       refine WO_step rfl (S_pure rfl ?_)
       refine WO_nil (KSeq_n ?_)
       refine WC_cond rfl (fun _ => ?_) (fun h => ?_)
       rotate_left
       · exact absurd h (by decide)
       refine WC_seq (WC_region ?_)
       refine WO_step rfl (S_pure rfl ?_)
       refine WO_nil (KSeq_n (WC_ret (KSeq_r (KBlock_r (KSeq_r (KLoop_r ?_))))))
       refine KPost_i (l' := [(2, .bool false)]) (H' := H) seA hsA (.inr ⟨rfl, rfl, rfl, OkTo.bad hl hx ?_⟩)
       unfold slOk
       rw [hht, if_pos rfl]
       simp [hg1]
      ·
       try simp only [bsT] at hg1
       iterate 2 refine WO_step rfl (S_pure rfl ?_)
       first | refine WO_step rfl (S_neS rfl rfl ?_) | refine WO_step rfl (S_pure rfl ?_)
       refine WO_step rfl (S_pure rfl ?_)
       refine WO_cases (t := 45) rfl (fun hg2 => ?_) (fun hg2 => ?_)
       ·
        try simp only [bsT] at hg2
        iterate 3 refine WO_step rfl (S_pure rfl ?_)
        refine WO_call rfl rfl rfl ?_
        refine (sp_rTag (by omega)).mono ?_
        rintro _ _ ⟨rfl, rfl⟩
        refine WO_call rfl rfl rfl ?_
        refine (sp_rOther (by assumption) (by assumption)).mono ?_
        rintro _ _ ⟨rfl, rfl⟩
        first | refine WO_step rfl (S_neS rfl rfl ?_) | refine WO_step rfl (S_pure rfl ?_)
        iterate 2 refine WO_step rfl (S_pure rfl ?_)
        refine WO_nil (KSeq_n ?_)
        refine WC_cond rfl (fun hb4 => ?_) (fun hb4 => ?_)
        ·
         try simp only [bsT] at hb4
         refine WC_seq (WC_region ?_)
         refine WO_step rfl (S_pure rfl ?_)
         refine WO_nil (KSeq_n (WC_ret (KSeq_r (KBlock_r (KSeq_r (KLoop_r ?_))))))
         refine KPost_i (l' := [(2, .bool false)]) (H' := H) seA hsA (.inr ⟨rfl, rfl, rfl, OkTo.bad hl hx ?_⟩)
         unfold slOk
         rw [hht, if_pos rfl, hdiv]
         have hbel : bel x.r.key b = false := by
           unfold bel
           rw [decide_eq_false (show ¬ b = frst (kH x.r.key) by omega), decide_eq_false (show ¬ b = oth (frst (kH x.r.key)) (tagOf (kH x.r.key)) by omega)]; rfl
         simp [hbel]
        ·
         try simp only [bsT] at hb4
         refine WC_skip (KSeq_n (WC_seq (WC_seq (WC_region ?_))))
         refine WO_step rfl (S_pure rfl ?_)
         refine WO_nil (KSeq_n (WC_block ?_))
         --out r x4
         have hbel : bel x.r.key b = true := by
           unfold bel
           rw [Bool.or_eq_true, decide_eq_true_eq, decide_eq_true_eq]
           right
           have h4 := hb4
           simp at h4
           omega
         refine WC_post (WC_weak (lp_rM2 (H := OB i6 TSlT x :: SL w.toV TStrT (tKeys ts (4 * b + s)) :: AO i1 33 TSlT ts :: H) (i6 := i6) (x := x) (w := w) (v1 := .pointer (some ⟨i1, 0, none⟩)) (v4 := .int .i64 (b : Int)) (v5 := .int .i64 (s : Int)) rdA .head (by omega) (tKeys ts (4 * b + s)).length 0 (by omega) (by omega) (by simp)) seA hsA) ?_
         rintro y l' _ ⟨rfl, ⟨rfl, rfl, hno⟩ | ⟨rfl, rfl, hin⟩⟩
         rotate_left
         ·
          refine KBlock_r (KSeq_r (KBlock_r (KSeq_r (KLoop_r ?_))))
          refine KPost_i (l' := [(2, .bool false)]) (H' := H) seA hsA (.inr ⟨rfl, rfl, rfl, OkTo.bad hl hx ?_⟩)
          unfold slOk
          rw [hht, if_pos rfl, hdiv, inB_iff.2 hin]
          simp
         ·
          refine KBlock_h (KSeq_n (WC_region ?_))
          iterate 3 refine WO_step rfl (S_pure rfl ?_)
          refine WO_step rfl (S_loadO (v := .string x.r.key) rfl pkA (by rfl) (by rfl) ?_)
          refine WO_step rfl (S_lit1 (T := TStrT) (y := x.r.key) rfl rfl rfl rfl fun w72 => ?_)
          refine WO_step rfl (S_app rfl rfl pkA (by first | exact SRC.str rfl rfl | (apply RD.src; repeat (first | assumption | exact RD.head | exact RD.nil | apply RD.tail))) (by rfl) (by rfl) (by (try simp only [List.length_append, List.length_cons, List.length_nil]); omega) fun w73 => ?_)
          refine WO_step rfl (S_pure rfl ?_)
          refine WO_nil (KBlock_n (KSeq_n (WC_region ?_)))
          refine WO_step rfl (S_pure rfl ?_)
          first | refine WO_step rfl (S_addN (b := 1) rfl rfl (by omega) ?_) | refine WO_step rfl (S_pure rfl ?_)
          refine WO_step rfl (S_pure rfl ?_)
          refine WO_nil (KLoop_n ?_)
          have hnin : inB (tKeys ts (4 * b + s)) x.r.key = false := by
            cases h : inB (tKeys ts (4 * b + s)) x.r.key with
            | false => rfl
            | true => exact absurd (inB_iff.1 h) hno
          have hmr : mayRec x.r = true := by simpa using hg1
          have ho : slOk (tKeys ts (4 * b + s)) ((4 * b + s) / 4) x = true := by
            unfold slOk
            rw [hht, if_pos rfl, hdiv, hmr, hbel, hnin]; rfl
          rw [hht] at hsucc
          simp only [if_true] at hsucc
          have := ih (4 - (s + 1)) (by omega) (s + 1) w73 rfl (by omega) (hok.succ hx ho)
          rw [show 4 * b + (s + 1) = 4 * b + s + 1 by omega, hsucc] at this
          exact WC_weak this seA hsA
       ·
        try simp only [bsT] at hg2
        iterate 6 refine WO_off rfl ?_
        iterate 2 refine WO_step rfl (S_pure rfl ?_)
        refine WO_nil (KSeq_n ?_)
        refine WC_cond rfl (fun h => ?_) (fun _ => ?_)
        · exact absurd h (by decide)
        refine WC_skip (KSeq_n (WC_seq (WC_seq (WC_region ?_))))
        refine WO_step rfl (S_pure rfl ?_)
        refine WO_nil (KSeq_n (WC_block ?_))
        --out r x4
        have hbel : bel x.r.key b = true := by
          unfold bel
          rw [Bool.or_eq_true, decide_eq_true_eq, decide_eq_true_eq]
          left
          have h4 := hg2
          simp at h4
          omega
        refine WC_post (WC_weak (lp_rM2 (H := OB i6 TSlT x :: SL w.toV TStrT (tKeys ts (4 * b + s)) :: AO i1 33 TSlT ts :: H) (i6 := i6) (x := x) (w := w) (v1 := .pointer (some ⟨i1, 0, none⟩)) (v4 := .int .i64 (b : Int)) (v5 := .int .i64 (s : Int)) rdA .head (by omega) (tKeys ts (4 * b + s)).length 0 (by omega) (by omega) (by simp)) seA hsA) ?_
        rintro y l' _ ⟨rfl, ⟨rfl, rfl, hno⟩ | ⟨rfl, rfl, hin⟩⟩
        rotate_left
        ·
         refine KBlock_r (KSeq_r (KBlock_r (KSeq_r (KLoop_r ?_))))
         refine KPost_i (l' := [(2, .bool false)]) (H' := H) seA hsA (.inr ⟨rfl, rfl, rfl, OkTo.bad hl hx ?_⟩)
         unfold slOk
         rw [hht, if_pos rfl, hdiv, inB_iff.2 hin]
         simp
        ·
         refine KBlock_h (KSeq_n (WC_region ?_))
         iterate 3 refine WO_step rfl (S_pure rfl ?_)
         refine WO_step rfl (S_loadO (v := .string x.r.key) rfl pkA (by rfl) (by rfl) ?_)
         refine WO_step rfl (S_lit1 (T := TStrT) (y := x.r.key) rfl rfl rfl rfl fun w72 => ?_)
         refine WO_step rfl (S_app rfl rfl pkA (by first | exact SRC.str rfl rfl | (apply RD.src; repeat (first | assumption | exact RD.head | exact RD.nil | apply RD.tail))) (by rfl) (by rfl) (by (try simp only [List.length_append, List.length_cons, List.length_nil]); omega) fun w73 => ?_)
         refine WO_step rfl (S_pure rfl ?_)
         refine WO_nil (KBlock_n (KSeq_n (WC_region ?_)))
         refine WO_step rfl (S_pure rfl ?_)
         first | refine WO_step rfl (S_addN (b := 1) rfl rfl (by omega) ?_) | refine WO_step rfl (S_pure rfl ?_)
         refine WO_step rfl (S_pure rfl ?_)
         refine WO_nil (KLoop_n ?_)
         have hnin : inB (tKeys ts (4 * b + s)) x.r.key = false := by
           cases h : inB (tKeys ts (4 * b + s)) x.r.key with
           | false => rfl
           | true => exact absurd (inB_iff.1 h) hno
         have hmr : mayRec x.r = true := by simpa using hg1
         have ho : slOk (tKeys ts (4 * b + s)) ((4 * b + s) / 4) x = true := by
           unfold slOk
           rw [hht, if_pos rfl, hdiv, hmr, hbel, hnin]; rfl
         rw [hht] at hsucc
         simp only [if_true] at hsucc
         have := ih (4 - (s + 1)) (by omega) (s + 1) w73 rfl (by omega) (hok.succ hx ho)
         rw [show 4 * b + (s + 1) = 4 * b + s + 1 by omega, hsucc] at this
         exact WC_weak this seA hsA
    ·
     try simp only [bsT] at hb1
     refine WC_exit (KSeq_x (KLoop_x ?_))
     have e4 : s = 4 := by omega
     subst e4
     exact KPost_i seA hsA (.inl ⟨w, rfl, rfl, rfl, hok⟩)
theorem lp_rM0 {H : SH} {ts : List SlT} {i1 : Nat} (hl : ts.length = 32) (hk : kSmall ts) : ∀ (m b : Nat) (w : SV), 8 - b = m → b ≤ 8 → OkTo ts (4 * b) →
    WC F X (.loop L_loessref10_MayTable_0) [(4, .int .i64 (b : Int)), (1, .pointer (some ⟨i1, 0, none⟩)), (3, w.toV)] (SL w.toV TStrT (tKeys ts (4 * b)) :: AO i1 33 TSlT ts :: H)
      (KPost fun y l' H' => (y = .exit 0 ∧ l' = [] ∧ H' = H ∧ mayTab ts = true) ∨ (y = .ret ∧ l' = [(2, .bool false)] ∧ H' = H ∧ mayTab ts = false)) := by
  intro m
  induction m using Nat.strongRecOn with
  | _ m ih =>
    intro b w hm hb hok
    refine WC_loop (WC_seq (WC_seq (WC_region ?_)))
    iterate 2 refine WO_step rfl (S_pure rfl ?_)
    refine WO_nil (KSeq_n ?_)
    refine WC_cond rfl (fun hb1 => ?_) (fun hb1 => ?_)
    ·
     try simp only [bsT] at hb1
     refine WC_skip (KSeq_n (WC_seq (WC_block (WC_seq (WC_region ?_)))))
     refine WO_step rfl (S_pure rfl ?_)
     refine WO_nil (KSeq_n (WC_block ?_))
     --out r x2
     refine WC_post (WC_weak (lp_rM1 (H := H) (ts := ts) (i1 := i1) (b := b) hl hk (by omega) 4 0 w (by omega) (by omega) hok) seA hsA) ?_
     rintro y l' _ (⟨w', rfl, rfl, rfl, hok'⟩ | ⟨rfl, rfl, rfl, hno⟩)
     rotate_left
     ·
      refine KBlock_r (KBlock_r (KSeq_r (KLoop_r ?_)))
      exact KPost_i seA HSub.refl (.inr ⟨rfl, rfl, rfl, hno⟩)
     ·
      refine KBlock_h (KBlock_n (KSeq_n (WC_region ?_)))
      refine WO_step rfl (S_pure rfl ?_)
      first | refine WO_step rfl (S_addN (b := 1) rfl rfl (by omega) ?_) | refine WO_step rfl (S_pure rfl ?_)
      refine WO_step rfl (S_pure rfl ?_)
      refine WO_nil (KLoop_n ?_)
      have := ih (8 - (b + 1)) (by omega) (b + 1) w' rfl (by omega) (by rw [show 4 * (b + 1) = 4 * b + 4 by omega]; exact hok')
      rw [show 4 * (b + 1) = 4 * b + 4 by omega] at this
      exact WC_weak this seA hsA
    ·
     try simp only [bsT] at hb1
     refine WC_exit (KSeq_x (KLoop_x ?_))
     have e8 : b = 8 := by omega
     subst e8
     exact KPost_i (l' := []) (H' := H) SubE.nil hsA (.inl ⟨rfl, rfl, rfl, (mayTab_iff hl).2 hok⟩)
theorem sp_rMayT {H : SH} {ts : List SlT} (hl : ts.length = 32) (hk : kSmall ts) : WF F X f_loessref10_MayTable [tabV ts] H (fun r H' => H' = H ∧ r = .bool (mayTab ts)) := by
  refine WF_addNil (T := TStrT) ?_
  refine WF_fn F_loessref10_MayTable ?_
  refine WC_seq (WC_region ?_)
  refine WO_step rfl (S_boxA (T := TSlT) (xs := ts) rfl fun i1 => ?_)
  refine WO_step rfl (S_pure rfl ?_)
  refine WO_nil (KSeq_n (WC_seq (WC_region ?_)))
  refine WO_step rfl (S_pure rfl ?_)
  refine WO_nil (KSeq_n (WC_seq (WC_seq (WC_region ?_))))
  refine WO_step rfl (S_pure rfl ?_)
  refine WO_nil (KSeq_n (WC_block ?_))
  --out r x0
  refine WC_post (WC_weak (lp_rM0 (H := H) (ts := ts) (i1 := i1) hl hk 8 0 .nil (by omega) (by omega) (OkTo.zero ts)) seA hsA) ?_
  rintro y l' _ (⟨rfl, rfl, rfl, hm⟩ | ⟨rfl, rfl, rfl, hm⟩)
  rotate_left
  ·
   refine KBlock_r (KSeq_r ?_)
   refine KFn_r (ResL.tmp rfl ResL.nil) ?_
   exact ⟨_, HSub.refl, rfl, by rw [hm]; rfl⟩
  ·
   refine KBlock_h (KSeq_n (WC_seq (WC_region ?_)))
   refine WO_step rfl (S_pure rfl ?_)
   refine WO_nil (KSeq_n (WC_ret ?_))
   refine KFn_r (ResL.tmp rfl ResL.nil) ?_
   exact ⟨_, HSub.refl, rfl, by rw [hm]; rfl⟩

end Go.Proofs.YtpnmeednimpjdaaGreat.AM
