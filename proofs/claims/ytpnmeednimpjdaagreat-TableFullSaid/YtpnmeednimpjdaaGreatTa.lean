/- Walks: what the functions compute. -/
import Derived.Test.YtpnmeednimpjdaaGreatNewest
import Derived.Test.YtpnmeednimpjdaaGreatM3
import Derived.Test.YtpnmeednimpjdaaGreatAmZ
import Derived.Carry
namespace Go.Proofs.YtpnmeednimpjdaaGreat.AM
open Go
set_option linter.unusedSimpArgs false
set_option linter.unusedVariables false
set_option maxRecDepth 4000
set_option linter.unusedSectionVars false
variable {X : Exts} [HX X]

/-! ### Entries in buckets, plainly -/
structure Ent where
  has : Bool
  id : Int
  tag : Nat
  deriving DecidableEq
def ent0 : Ent := ⟨false, 0, 0⟩
def frst (h : Nat) : Nat := h % 8
def tagOf (h : Nat) : Nat := h / 256 % 32768
def oth (b t : Nat) : Nat := b ^^^ (1 + t % 7)
theorem oth_facts : ∀ b, b < 8 → ∀ t, t < 7 → (b ^^^ (1 + t)) < 8 ∧ (b ^^^ (1 + t)) ≠ b ∧ ((b ^^^ (1 + t)) ^^^ (1 + t)) = b := by decide
theorem oth_lt {b t : Nat} (hb : b < 8) : oth b t < 8 := (oth_facts b hb (t % 7) (Nat.mod_lt _ (by omega))).1
theorem oth_ne {b t : Nat} (hb : b < 8) : oth b t ≠ b := (oth_facts b hb (t % 7) (Nat.mod_lt _ (by omega))).2.1
theorem oth_oth {b t : Nat} (hb : b < 8) : oth (oth b t) t = b := (oth_facts b hb (t % 7) (Nat.mod_lt _ (by omega))).2.2
theorem frst_lt (h : Nat) : frst h < 8 := Nat.mod_lt _ (by omega)
theorem tagOf_lt (h : Nat) : tagOf h < 32768 := Nat.mod_lt _ (by omega)
/-! ### Hashes -/
theorem S_xorI {l : SE} {H : SH} {K : Value → SH → Prop} {x y : Opd} {a b : Nat} (hx : x.lv l = some (.int .i64 (a : Int))) (hy : y.lv l = some (.int .i64 (b : Int))) (ha : a < 256) (hb : b < 256) (k : K (.int .i64 ((a ^^^ b : Nat) : Int)) H) : Step (.bin .xor x y) l H K :=
  S_pureE (v := .int .i64 (IntKind.wrap .i64 ((BitVec.ofInt 64 (a : Int) ^^^ BitVec.ofInt 64 (b : Int)).toNat : Int))) (by
    simp only [pev, hx, hy, binV, intBin, if_true]; rfl) (by
    have : a ^^^ b < 2 ^ 8 := Nat.xor_lt_two_pow ha hb
    rw [BitVec.toNat_xor, ofIntU (by omega), ofIntU (by omega), wrap_i64 (by omega) (by omega)]) k
theorem S_shrI {l : SE} {H : SH} {K : Value → SH → Prop} {x y : Opd} {a m : Nat} {kd : IntKind} (hx : x.lv l = some (.int .i64 (a : Int))) (hy : y.lv l = some (.int kd (m : Int))) (hm : m ≤ 63) (k : K (.int .i64 ((a / 2 ^ m : Nat) : Int)) H) : Step (.bin .shr x y) l H K :=
  S_pureE (v := .int .i64 ((a : Int).fdiv (2 ^ min (m : Int).toNat IntKind.i64.bits))) (by
    simp only [pev, hx, hy, binV]; rw [if_neg (by omega)]) (by
    rw [Int.toNat_natCast, show min m IntKind.i64.bits = m from Nat.min_eq_left (by show m ≤ 64; omega), Int.fdiv_eq_ediv_of_nonneg _ (Int.le_of_lt (Int.pow_pos (by omega)))]
    congr 1) k
theorem S_and1I {l : SE} {H : SH} {K : Value → SH → Prop} {x : Opd} {a : Nat} (hx : x.lv l = some (.int .i64 (a : Int))) (ha : a < 256) (k : K (.int .i64 ((a % 2 : Nat) : Int)) H) : Step (.bin .and x (.const (.int .i64 1))) l H K :=
  S_pureE (v := .int .i64 (IntKind.wrap .i64 ((BitVec.ofInt 64 (a : Int) &&& BitVec.ofInt 64 1).toNat : Int))) (by
    have h2 : (Opd.const (.int .i64 1)).lv l = some (.int .i64 1) := rfl
    simp only [pev, hx, h2, binV, intBin, if_true]; rfl) (by
    rw [BitVec.toNat_and, ofIntU (by omega), show (BitVec.ofInt 64 1).toNat = 1 from rfl, Nat.and_one_is_mod, wrap_i64 (by omega) (by omega)]) k
theorem S_shr8 {l : SE} {H : SH} {K : Value → SH → Prop} {x : Opd} {a : Nat} (hx : x.lv l = some (.int .u64 (a : Int))) (k : K (.int .u64 ((a / 256 : Nat) : Int)) H) : Step (.bin .shr x (.const (.int .u64 8))) l H K :=
  S_pureE (v := .int .u64 ((a : Int).fdiv (2 ^ min (Int.toNat 8) IntKind.u64.bits))) (by
    have h2 : (Opd.const (.int .u64 8)).lv l = some (.int .u64 8) := rfl
    simp only [pev, hx, h2, binV]; rfl) (by
    have e : (2 ^ min (Int.toNat 8) IntKind.u64.bits : Int) = 256 := rfl
    have e2 : (a : Int).fdiv 256 = ((a / 256 : Nat) : Int) := by rw [Int.fdiv_eq_ediv_of_nonneg _ (by omega)]; omega
    rw [e, e2]) k
theorem S_quoN {l : SE} {H : SH} {K : Value → SH → Prop} {x : Opd} {a m : Nat} {M : Int} (hx : x.lv l = some (.int .i64 (a : Int))) (hM : M = (m : Int)) (ha : a < 9223372036854775808) (hm : 0 < m) (k : K (.int .i64 ((a / m : Nat) : Int)) H) : Step (.bin .quo x (.const (.int .i64 M))) l H K :=
  S_pureE (v := .int .i64 (IntKind.wrap .i64 ((a : Int).tdiv M))) (by
    have h2 : (Opd.const (.int .i64 M)).lv l = some (.int .i64 M) := rfl
    simp only [pev, hx, h2, binV, intBin, if_true]; rw [if_neg (by omega)]) (by
    have h := Nat.div_le_self a m
    rw [hM, ← Int.ofNat_tdiv]
    generalize a / m = q at *
    rw [wrap_i64 (by omega) (by omega)]) k
theorem tmod7 (t : Nat) : t % 7 < 7 := Nat.mod_lt _ (by omega)
theorem sp_hFirst {H : SH} {h : Nat} (hh : h < 18446744073709551616) : WF F X f_hash_First [.int .u64 (h : Int)] H (fun r H' => H' = H ∧ r = .int .i64 ((frst h : Nat) : Int)) := by
  have := frst_lt h
  refine WF_fn F_hash_First ?_
  refine WC_seq (WC_region ?_)
  refine WO_step rfl (S_pure rfl ?_)
  refine WO_nil (KSeq_n (WC_seq (WC_region ?_)))
  refine WO_step rfl (S_pure rfl ?_)
  refine WO_step rfl (S_remU (m := 8) rfl rfl (by omega) ?_)
  refine WO_step rfl (S_toI (a := h % 8) rfl (by omega) ?_)
  refine WO_step rfl (S_pure rfl ?_)
  refine WO_nil (KSeq_n (WC_ret ?_))
  refine KFn_r (ResL.tmp rfl ResL.nil) ?_
  exact ⟨_, hsA, rfl, rfl⟩
theorem sp_hTag {H : SH} {h : Nat} (hh : h < 18446744073709551616) : WF F X f_hash_Tag [.int .u64 (h : Int)] H (fun r H' => H' = H ∧ r = .int .i64 ((tagOf h : Nat) : Int)) := by
  refine WF_fn F_hash_Tag ?_
  refine WC_seq (WC_region ?_)
  refine WO_step rfl (S_pure rfl ?_)
  refine WO_nil (KSeq_n (WC_seq (WC_region ?_)))
  refine WO_step rfl (S_pure rfl ?_)
  refine WO_step rfl (S_shr8 rfl ?_)
  refine WO_step rfl (S_remU (m := 32768) rfl rfl (by omega) ?_)
  refine WO_step rfl (S_toI (a := h / 256 % 32768) rfl (by omega) ?_)
  refine WO_step rfl (S_pure rfl ?_)
  refine WO_nil (KSeq_n (WC_ret ?_))
  refine KFn_r (ResL.tmp rfl ResL.nil) ?_
  exact ⟨_, hsA, rfl, rfl⟩
theorem sp_hOther {H : SH} {b t : Nat} (hb : b < 8) (ht : t < 32768) : WF F X f_hash_Other [.int .i64 (b : Int), .int .i64 (t : Int)] H (fun r H' => H' = H ∧ r = .int .i64 ((oth b t : Nat) : Int)) := by
  have ht7 := tmod7 t
  refine WF_fn F_hash_Other ?_
  refine WC_seq (WC_region ?_)
  refine WO_step rfl (S_pure rfl ?_)
  refine WO_nil (KSeq_n (WC_seq (WC_seq (WC_region ?_))))
  iterate 3 refine WO_step rfl (S_pure rfl ?_)
  refine WO_cases (t := 7) rfl (fun hg1 => ?_) (fun hg1 => ?_)
  ·
   try simp only [bsT] at hg1
   exfalso; omega
   --stop
  ·
   try simp only [bsT] at hg1
   iterate 4 refine WO_step rfl (S_pure rfl ?_)
   refine WO_cases (t := 11) rfl (fun hg2 => ?_) (fun hg2 => ?_)
   ·
    try simp only [bsT] at hg2
    exfalso; omega
    --stop
   ·
    try simp only [bsT] at hg2
    iterate 4 refine WO_step rfl (S_pure rfl ?_)
    refine WO_cases (t := 15) rfl (fun hg3 => ?_) (fun hg3 => ?_)
    ·
     try simp only [bsT] at hg3
     exfalso; omega
     --stop
    ·
     try simp only [bsT] at hg3
     iterate 3 refine WO_step rfl (S_pure rfl ?_)
     refine WO_nil (KSeq_n ?_)
     refine WC_cond rfl (fun hb1 => ?_) (fun hb1 => ?_)
     ·
      try simp only [bsT] at hb1
      exfalso; omega
      --stop
     ·
      try simp only [bsT] at hb1
      refine WC_skip (KSeq_n (WC_seq (WC_region ?_)))
      iterate 2 refine WO_step rfl (S_pure rfl ?_)
      refine WO_step rfl (S_remU (m := 7) rfl rfl (by omega) ?_)
      refine WO_step rfl (S_addN (a := 1) (b := t % 7) rfl rfl (by omega) ?_)
      refine WO_step rfl (S_xorI (a := b) (b := 1 + t % 7) rfl rfl (by omega) (by omega) ?_)
      refine WO_step rfl (S_pure rfl ?_)
      refine WO_nil (KSeq_n (WC_ret ?_))
      refine KFn_r (ResL.tmp rfl ResL.nil) ?_
      exact ⟨_, hsA, rfl, rfl⟩
theorem sp_rFirst {H : SH} {h : Nat} (hh : h < 18446744073709551616) : WF F X f_loessref6_First [.int .u64 (h : Int)] H (fun r H' => H' = H ∧ r = .int .i64 ((frst h : Nat) : Int)) := by
  have := frst_lt h
  refine WF_fn F_loessref6_First ?_
  refine WC_seq (WC_region ?_)
  refine WO_step rfl (S_pure rfl ?_)
  refine WO_nil (KSeq_n (WC_seq (WC_region ?_)))
  refine WO_step rfl (S_pure rfl ?_)
  refine WO_step rfl (S_remU (m := 8) rfl rfl (by omega) ?_)
  refine WO_step rfl (S_toI (a := h % 8) rfl (by omega) ?_)
  refine WO_step rfl (S_pure rfl ?_)
  refine WO_nil (KSeq_n (WC_ret ?_))
  refine KFn_r (ResL.tmp rfl ResL.nil) ?_
  exact ⟨_, hsA, rfl, rfl⟩
theorem sp_rTag {H : SH} {h : Nat} (hh : h < 18446744073709551616) : WF F X f_loessref6_Tag [.int .u64 (h : Int)] H (fun r H' => H' = H ∧ r = .int .i64 ((tagOf h : Nat) : Int)) := by
  refine WF_fn F_loessref6_Tag ?_
  refine WC_seq (WC_region ?_)
  refine WO_step rfl (S_pure rfl ?_)
  refine WO_nil (KSeq_n (WC_seq (WC_region ?_)))
  refine WO_step rfl (S_pure rfl ?_)
  refine WO_step rfl (S_quoU (m := 256) rfl rfl (by omega) (by omega) ?_)
  refine WO_step rfl (S_remU (m := 32768) rfl rfl (by omega) ?_)
  refine WO_step rfl (S_toI (a := h / 256 % 32768) rfl (by omega) ?_)
  refine WO_step rfl (S_pure rfl ?_)
  refine WO_nil (KSeq_n (WC_ret ?_))
  refine KFn_r (ResL.tmp rfl ResL.nil) ?_
  exact ⟨_, hsA, rfl, rfl⟩
theorem sp_rOther {H : SH} {b t : Nat} (hb : b < 8) (ht : t < 32768) : WF F X f_loessref6_Other [.int .i64 (b : Int), .int .i64 (t : Int)] H (fun r H' => H' = H ∧ r = .int .i64 ((oth b t : Nat) : Int)) := by
  have ht7 := tmod7 t
  refine WF_fn F_loessref6_Other ?_
  refine WC_seq (WC_region ?_)
  refine WO_step rfl (S_pure rfl ?_)
  refine WO_nil (KSeq_n (WC_seq (WC_seq (WC_region ?_))))
  iterate 3 refine WO_step rfl (S_pure rfl ?_)
  refine WO_cases (t := 7) rfl (fun hg1 => ?_) (fun hg1 => ?_)
  ·
   try simp only [bsT] at hg1
   exfalso; omega
   --stop
  ·
   try simp only [bsT] at hg1
   iterate 4 refine WO_step rfl (S_pure rfl ?_)
   refine WO_cases (t := 11) rfl (fun hg2 => ?_) (fun hg2 => ?_)
   ·
    try simp only [bsT] at hg2
    exfalso; omega
    --stop
   ·
    try simp only [bsT] at hg2
    iterate 4 refine WO_step rfl (S_pure rfl ?_)
    refine WO_cases (t := 15) rfl (fun hg3 => ?_) (fun hg3 => ?_)
    ·
     try simp only [bsT] at hg3
     exfalso; omega
     --stop
    ·
     try simp only [bsT] at hg3
     iterate 3 refine WO_step rfl (S_pure rfl ?_)
     refine WO_nil (KSeq_n ?_)
     refine WC_cond rfl (fun hb1 => ?_) (fun hb1 => ?_)
     ·
      try simp only [bsT] at hb1
      exfalso; omega
      --stop
     ·
      try simp only [bsT] at hb1
      refine WC_skip (KSeq_n (WC_seq (WC_region ?_)))
      iterate 2 refine WO_step rfl (S_pure rfl ?_)
      refine WO_step rfl (S_remU (m := 7) rfl rfl (by omega) ?_)
      refine WO_step rfl (S_addN (a := 1) (b := t % 7) rfl rfl (by omega) ?_)
      refine WO_step rfl (S_xorI (a := b) (b := 1 + t % 7) rfl rfl (by omega) (by omega) ?_)
      refine WO_step rfl (S_pure rfl ?_)
      refine WO_nil (KSeq_n (WC_ret ?_))
      refine KFn_r (ResL.tmp rfl ResL.nil) ?_
      exact ⟨_, hsA, rfl, rfl⟩
/-! ### Tables, plainly -/
theorem hashOf_nat (s : ByteArray) : ∃ n : Nat, hashOf s = (n : Int) ∧ n < 18446744073709551616 := by
  have key : ∀ m : Int, ∃ n : Nat, IntKind.wrap .u64 m = (n : Int) ∧ n < 18446744073709551616 := fun m => by
    rw [wrapU]
    exact ⟨(m % 18446744073709551616).toNat, by omega, by omega⟩
  exact key _
def kH (s : ByteArray) : Nat := (hashOf s).toNat
theorem kH_eq (s : ByteArray) : hashOf s = ((kH s : Nat) : Int) := by
  obtain ⟨n, h1, _⟩ := hashOf_nat s
  unfold kH; rw [h1]; simp
theorem kH_lt (s : ByteArray) : kH s < 18446744073709551616 := by
  obtain ⟨n, h1, h2⟩ := hashOf_nat s
  unfold kH; rw [h1]; simpa using h2
theorem S_idxA {l : SE} {H : SH} {K : Value → SH → Prop} {n es i o j : Nat} {x y : Opd} {kd : IntKind} {J : Int} (hx : x.lv l = some (.pointer (some ⟨i, o, none⟩))) (hy : y.lv l = some (.int kd J)) (hJ : J = (j : Int)) (hj : j < n) (k : K (.pointer (some ⟨i, o + j * es, none⟩)) H) : Step (.idxA n es x y) l H K :=
  fun e h hA hH => by
    subst hJ
    exact ⟨_, h, H, by simp only [ev, Opd.lv_ev hA hx, Opd.lv_ev hA hy]; rw [if_pos ⟨by omega, by omega⟩, Int.toNat_natCast], hH, k⟩
structure SlT where
  has : Bool
  r : Rec
def slt0 : SlT := ⟨false, rec0⟩
def TSlT : Ty SlT := Ty.ofAgg 6 30 64 (fun s => [.bool s.has, .string s.r.key, .bool s.r.gone, .int .i64 s.r.val.kind, .int .i64 s.r.val.n, .string s.r.val.s]) (fun _ => rfl) (fun _ => rfl)
/-! ### Arrays in an object -/
def AO {α : Type} (i : Nat) (t : TypeId) (T : Ty α) (xs : List α) : Res := .obj i (.row false t (T.cells xs))
theorem S_loadAF {α : Type} {T : Ty α} {l : SE} {H H0 : SH} {K : Value → SH → Prop} {i o k off n : Nat} {agg : Bool} {t : TypeId} {a : Opd} {xs : List α} {x : α} {v : Value} (ha : a.lv l = some (.pointer (some ⟨i, o, none⟩))) (hp : Pick (AO i t T xs) H H0) (ho : o = k * T.es + off) (hx : xs[k]? = some x) (hb : off + n ≤ T.es) (hv : mkV agg (((T.enc x).drop off).take n) = some v) (kk : K v H) : Step (.load agg n a) l H K := by
  subst ho
  have hlt := (List.getElem?_eq_some_iff.1 hx).1
  have hc := T.cells_len xs
  have hm : k * T.es + T.es ≤ xs.length * T.es := by rw [← Nat.succ_mul]; exact Nat.mul_le_mul_right _ hlt
  exact S_loadO ha hp (by rw [Nat.ble_eq, hc]; omega) (by rw [T.cells_at hx hb]; exact hv) kk
theorem S_loadA {α : Type} {T : Ty α} {l : SE} {H H0 : SH} {K : Value → SH → Prop} {i o k n : Nat} {agg : Bool} {t : TypeId} {a : Opd} {xs : List α} {x : α} (ha : a.lv l = some (.pointer (some ⟨i, o, none⟩))) (hp : Pick (AO i t T xs) H H0) (ho : o = k * T.es) (hx : xs[k]? = some x) (hn : n = T.es) (hg : agg = T.agg) (kk : K (T.val x) H) : Step (.load agg n a) l H K := by
  subst hn hg
  refine S_loadAF (off := 0) ha hp (by rw [ho, Nat.add_zero]) hx (by omega) ?_ kk
  rw [List.drop_zero, ← T.len x, List.take_length]; exact T.hmk x
theorem S_storeA {α : Type} {T : Ty α} {l : SE} {H H0 : SH} {K : Value → SH → Prop} {i o k n : Nat} {t : TypeId} {a y : Opd} {xs : List α} {v : Value} {x : α} (ha : a.lv l = some (.pointer (some ⟨i, o, none⟩))) (hy : y.lv l = some v) (hp : Pick (AO i t T xs) H H0) (ho : o = k * T.es) (hk : k < xs.length) (hv : v = T.val x) (hn : n = T.es) (kk : K undef (AO i t T (xs.set k x) :: H0)) : Step (.store n a y) l H K := by
  subst ho hv hn
  have hc := T.cells_len xs
  have hm : k * T.es + T.es ≤ xs.length * T.es := by rw [← Nat.succ_mul]; exact Nat.mul_le_mul_right _ hk
  have e1 := T.cells_set (xs := xs) (j := k) (x := xs[k]) (y := x) (List.getElem?_eq_getElem hk) (off := 0) (vs := T.enc x) (by rw [splice_all (by rw [T.len, T.len])]) (by rw [T.len]; omega)
  refine S_storeO ha hy hp (by rw [T.hcells, T.len]) (by rw [Nat.ble_eq, hc]; omega) (by rw [T.hcells]; exact T.ones x) ?_
  rw [Nat.add_zero] at e1
  rw [T.hcells, e1]; exact kk
theorem S_boxA {α : Type} {T : Ty α} {l : SE} {H : SH} {K : Value → SH → Prop} {t : TypeId} {x : Opd} {xs : List α} (hx : x.lv l = some (.agg (T.cells xs).toArray)) (k : ∀ i, K (.pointer (some ⟨i, 0, none⟩)) (AO i t T xs :: H)) : Step (.box t x) l H K :=
  S_box hx (T.cells_all xs) k
def tKeys (ts : List SlT) (k : Nat) : List ByteArray := ((ts.take k).filter (·.has)).map (·.r.key)
def tRecs (ts : List SlT) (k : Nat) : List Rec := ((ts.take k).filter (·.has)).map (·.r)
theorem tKeys_succ {ts : List SlT} {k : Nat} {x : SlT} (hx : ts[k]? = some x) : tKeys ts (k + 1) = tKeys ts k ++ if x.has then [x.r.key] else [] := by
  unfold tKeys
  rw [List.take_add_one, hx, List.filter_append, List.map_append]
  congr 1
  cases h : x.has <;> simp [h]
theorem tRecs_succ {ts : List SlT} {k : Nat} {x : SlT} (hx : ts[k]? = some x) : tRecs ts (k + 1) = tRecs ts k ++ if x.has then [x.r] else [] := by
  unfold tRecs
  rw [List.take_add_one, hx, List.filter_append, List.map_append]
  congr 1
  cases h : x.has <;> simp [h]
def TStrT : Ty ByteArray := Ty.ofOne 9 16 (fun s => .string s) (fun _ => rfl)
theorem lp_Rcs {H : SH} {ts : List SlT} {i1 : Nat} (hl : ts.length = 32) : ∀ (n k : Nat) (u : SV), 32 - k = n → k ≤ 32 →
    WC F X (.loop L_loessref10_Records_0) [(4, .int .i64 (k : Int)), (1, .pointer (some ⟨i1, 0, none⟩)), (3, u.toV)] (SL u.toV TRec (newest (tRecs ts k)) :: AO i1 33 TSlT ts :: H) (KPost fun y l' H' => ∃ u : SV, y = .exit 0 ∧ l' = [(3, u.toV)] ∧ H' = SL u.toV TRec (newest (tRecs ts 32)) :: H) := by
  intro n
  induction n using Nat.strongRecOn with
  | _ n ih =>
    intro k u hn hk
    have hnl : (newest (tRecs ts k)).length ≤ 32 := by
      refine Nat.le_trans (newest_len _) ?_
      unfold tRecs
      rw [List.length_map]
      exact Nat.le_trans (List.length_filter_le _ _) (by rw [List.length_take]; omega)
    refine WC_loop (WC_seq (WC_seq (WC_region ?_)))
    iterate 2 refine WO_step rfl (S_pure rfl ?_)
    refine WO_nil (KSeq_n ?_)
    refine WC_cond rfl (fun hb1 => ?_) (fun hb1 => ?_)
    ·
     try simp only [bsT] at hb1
     obtain ⟨x, hx⟩ := get_of_lt (show k < ts.length by omega)
     have hsucc := tRecs_succ hx
     refine WC_skip (KSeq_n (WC_seq (WC_block (WC_seq (WC_region ?_)))))
     refine WO_step rfl (S_pure rfl ?_)
     refine WO_step rfl (S_quoN (a := k) (m := 4) rfl rfl (by omega) (by omega) ?_)
     refine WO_step rfl (S_pure rfl ?_)
     refine WO_step rfl (S_remU (a := k) (m := 4) rfl rfl (by omega) ?_)
     refine WO_step rfl (S_idxA (j := k / 4) rfl rfl rfl (by omega) ?_)
     refine WO_step rfl (S_idxA (j := k % 4) rfl rfl rfl (by omega) ?_)
     refine WO_step rfl (S_pure rfl ?_)
     refine WO_step rfl (S_loadAF (T := TSlT) (k := k) (off := 0) (v := .bool x.has) rfl pkA (by show _ = k * 6 + 0; omega) hx (by show 0 + 1 ≤ 6; omega) (by rfl) ?_)
     refine WO_nil (KSeq_n ?_)
     refine WC_cond rfl (fun hb2 => ?_) (fun hb2 => ?_)
     ·
      try simp only [bsT] at hb2
      refine WC_region ?_
      iterate 2 refine WO_step rfl (S_pure rfl ?_)
      refine WO_step rfl (S_quoN (a := k) (m := 4) rfl rfl (by omega) (by omega) ?_)
      refine WO_step rfl (S_pure rfl ?_)
      refine WO_step rfl (S_remU (a := k) (m := 4) rfl rfl (by omega) ?_)
      refine WO_step rfl (S_idxA (j := k / 4) rfl rfl rfl (by omega) ?_)
      refine WO_step rfl (S_idxA (j := k % 4) rfl rfl rfl (by omega) ?_)
      refine WO_step rfl (S_pure rfl ?_)
      refine WO_step rfl (S_loadAF (T := TSlT) (k := k) (off := 1) (v := TRec.val x.r) rfl pkA (by show _ = k * 6 + 1; omega) hx (by show 1 + 5 ≤ 6; omega) (by rfl) ?_)
      refine WO_call rfl rfl rfl ?_
      refine (sp_Set (l := newest (tRecs ts k)) (r := x.r) rdA (by omega)).mono ?_
      rintro _ _ ⟨u2, rfl, rfl⟩
      refine WO_step rfl (S_pure rfl ?_)
      refine WO_nil (KBlock_n (KSeq_n (WC_region ?_)))
      refine WO_step rfl (S_pure rfl ?_)
      first | refine WO_step rfl (S_addN (b := 1) rfl rfl (by omega) ?_) | refine WO_step rfl (S_pure rfl ?_)
      refine WO_step rfl (S_pure rfl ?_)
      refine WO_nil (KLoop_n ?_)
      rw [hb2] at hsucc
      simp only [if_true] at hsucc
      have := ih (32 - (k + 1)) (by omega) (k + 1) u2 rfl (by omega)
      rw [hsucc, newest_snoc] at this
      exact WC_weak this seA hsA
     ·
      try simp only [bsT] at hb2
      refine WC_skip (KBlock_n (KSeq_n (WC_region ?_)))
      refine WO_step rfl (S_pure rfl ?_)
      first | refine WO_step rfl (S_addN (b := 1) rfl rfl (by omega) ?_) | refine WO_step rfl (S_pure rfl ?_)
      refine WO_step rfl (S_pure rfl ?_)
      refine WO_nil (KLoop_n ?_)
      rw [hb2] at hsucc
      simp only [Bool.false_eq_true, if_false, List.append_nil] at hsucc
      have := ih (32 - (k + 1)) (by omega) (k + 1) u rfl (by omega)
      rw [hsucc] at this
      exact WC_weak this seA hsA
    ·
     try simp only [bsT] at hb1
     refine WC_exit (KSeq_x (KLoop_x ?_))
     have e : k = 32 := by omega
     subst e
     exact KPost_i (l' := [(3, u.toV)]) seA hsA ⟨u, rfl, rfl, rfl⟩
theorem sp_Records {H : SH} {ts : List SlT} (hl : ts.length = 32) : WF F X f_loessref10_Records [.agg (TSlT.cells ts).toArray] H (fun r H' => ∃ u : SV, r = u.toV ∧ H' = SL u.toV TRec (newest (tRecs ts 32)) :: H) := by
  refine WF_fn F_loessref10_Records ?_
  refine WC_seq (WC_region ?_)
  refine WO_step rfl (S_boxA (T := TSlT) (xs := ts) rfl fun i1 => ?_)
  refine WO_step rfl (S_pure rfl ?_)
  refine WO_nil (KSeq_n (WC_seq (WC_region ?_)))
  refine WO_step rfl (S_pure rfl ?_)
  refine WO_nil (KSeq_n (WC_seq (WC_seq (WC_region ?_))))
  refine WO_step rfl (S_pure rfl ?_)
  refine WO_nil (KSeq_n (WC_block ?_))
  --out x0
  refine WC_view (H' := SL (SV.toV .nil) TRec [] :: AO i1 33 TSlT ts :: H) (fun h hh => HAg.addNil hh) ?_
  refine WC_post (WC_weak (lp_Rcs (H := H) (i1 := i1) hl 32 0 .nil (by omega) (by omega)) seA hsA) ?_
  rintro y l' _ ⟨u, rfl, rfl, rfl⟩
  refine KBlock_h (KSeq_n (WC_seq (WC_region ?_)))
  iterate 2 refine WO_step rfl (S_pure rfl ?_)
  refine WO_nil (KSeq_n (WC_ret ?_))
  refine KFn_r (ResL.tmp rfl ResL.nil) ?_
  exact ⟨_, HSub.refl, u, rfl, rfl⟩

end Go.Proofs.YtpnmeednimpjdaaGreat.AM
