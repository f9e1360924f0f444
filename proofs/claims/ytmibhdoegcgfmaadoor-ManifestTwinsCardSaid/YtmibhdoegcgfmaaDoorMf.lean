/- Walks: what the functions compute. -/
import Derived.Test.YtmibhdoegcgfmaaDoorNum
import Derived.Test.YtmibhdoegcgfmaaDoorArith
import Derived.Test.YtmibhdoegcgfmaaDoorAmZ
import Derived.KernelRfl
import Derived.Carry
namespace Go.Proofs.YtmibhdoegcgfmaaDoor.AM
open Go
set_option linter.unusedSimpArgs false
set_option linter.unusedVariables false
set_option maxRecDepth 4000

/-! ### Names of files -/
theorem laidOut : laidOutB Tryd.prog = true := by kernel_rfl
theorem bA (a b : List UInt8) : (⟨a.toArray⟩ : ByteArray) ++ ⟨b.toArray⟩ = ⟨(a ++ b).toArray⟩ := by
  apply ByteArray.ext; simp [ByteArray.data_append]
theorem bA_size (a : List UInt8) : (⟨a.toArray⟩ : ByteArray).size = a.length := by simp [ByteArray.size]
theorem bA_inj {a b : List UInt8} (h : (⟨a.toArray⟩ : ByteArray) = ⟨b.toArray⟩) : a = b := by
  have := congrArg (fun x : ByteArray => x.data.toList) h
  simpa using this
def dz (u : Nat) : List UInt8 := if u = 0 then [] else Lib.decDigits u
theorem dz_step {u : Nat} (h : 0 < u) : dz u = dz (u / 10) ++ [UInt8.ofNat (48 + u % 10)] := by
  unfold dz
  rw [if_neg (by omega), Lib.decDigits]
  by_cases hu : u < 10
  · rw [dif_pos hu, if_pos (by omega), Nat.mod_eq_of_lt hu]; rfl
  · rw [dif_neg hu, if_neg (by omega)]
theorem dg_len : ∀ (f u : Nat), (dg f u).length ≤ f
  | 0, _ => Nat.le_refl _
  | f + 1, u => by
    rw [dg]; split
    · simp
    · have := dg_len f (u / 10); simp; omega
theorem dec_len {u : Nat} (h : u < 100000000000000000000) : (Lib.decDigits u).length ≤ 20 := by
  rw [← dg_eq 19 u h]; exact dg_len 20 u
theorem dz_len {u : Nat} (h : u < 100000000000000000000) : (dz u).length ≤ 20 := by
  unfold dz; split
  · exact Nat.zero_le _
  · exact dec_len h
def dval (l : List UInt8) : Nat := l.foldl (fun a b => a * 10 + (b.toNat - 48)) 0
theorem dval_dec (u : Nat) : dval (Lib.decDigits u) = u := by
  induction u using Nat.strongRecOn with
  | _ u ih =>
    have key : ∀ k, k < 10 → (UInt8.ofNat (48 + k)).toNat - 48 = k := fun k hk => by
      rw [UInt8.toNat_ofNat_of_lt' (by show 48 + k < 256; omega)]; omega
    rw [Lib.decDigits]
    by_cases hu : u < 10
    · rw [dif_pos hu]
      show 0 * 10 + ((UInt8.ofNat (48 + u)).toNat - 48) = u
      rw [key u hu]; omega
    · rw [dif_neg hu]
      have h1 := ih (u / 10) (by omega)
      unfold dval at h1 ⊢
      rw [List.foldl_append, h1]
      show u / 10 * 10 + ((UInt8.ofNat (48 + u % 10)).toNat - 48) = u
      rw [key _ (Nat.mod_lt _ (by omega))]; omega
def nm (k n : Nat) : List UInt8 := UInt8.ofNat k :: Lib.decDigits n
theorem nm_inj {k n j m : Nat} (hk : k < 256) (hj : j < 256) (h : nm k n = nm j m) : k = j ∧ n = m := by
  unfold nm at h
  injection h with h1 h2
  refine ⟨?_, ?_⟩
  · have := congrArg UInt8.toNat h1
    rwa [UInt8.toNat_ofNat_of_lt' hk, UInt8.toNat_ofNat_of_lt' hj] at this
  · have := congrArg dval h2
    rwa [dval_dec, dval_dec] at this
theorem nmb {x y A B : Nat} (hx : x < 256) (hy : y < 256) : decide ((⟨(nm x A).toArray⟩ : ByteArray) = ⟨(nm y B).toArray⟩) = (decide (x = y) && decide (A = B)) := by
  rw [Bool.eq_iff_iff]
  simp only [Bool.and_eq_true, decide_eq_true_eq]
  constructor
  · intro h; exact nm_inj hx hy (bA_inj h)
  · rintro ⟨rfl, rfl⟩; rfl
theorem S_quoN' {l : SE} {H : SH} {K : Value → SH → Prop} {x : Opd} {a m : Nat} {M : Int} (hx : x.lv l = some (.int .i64 (a : Int))) (hM : M = (m : Int)) (ha : a < 9223372036854775808) (hm : 0 < m) (k : K (.int .i64 ((a / m : Nat) : Int)) H) : Step (.bin .quo x (.const (.int .i64 M))) l H K :=
  S_pureE (v := .int .i64 (IntKind.wrap .i64 ((a : Int).tdiv M))) (by
    have h2 : (Opd.const (.int .i64 M)).lv l = some (.int .i64 M) := rfl
    simp only [pev, hx, h2, binV, intBin, if_true]; rw [if_neg (by omega)]) (by
    have h := Nat.div_le_self a m
    rw [hM, ← Int.ofNat_tdiv]
    generalize a / m = q at *
    rw [wrap_i64 (by omega) (by omega)]) k
theorem S_cat {l : SE} {H : SH} {K : Value → SH → Prop} {x y : Opd} {a b : List UInt8} (hx : x.lv l = some (.string ⟨a.toArray⟩)) (hy : y.lv l = some (.string ⟨b.toArray⟩)) (hb : a.length + b.length ≤ 1000000) (k : K (.string ⟨(a ++ b).toArray⟩) H) : Step (.bin .add x y) l H K :=
  S_pureE (v := .string ((⟨a.toArray⟩ : ByteArray) ++ ⟨b.toArray⟩)) (by simp only [pev, hx, hy, binV, strBin]; rw [if_pos (by rw [bA_size, bA_size]; omega)]) (by rw [bA]) k
theorem S_toBs {l : SE} {H : SH} {K : Value → SH → Prop} {x : Opd} {a : Nat} {kd : IntKind} (hx : x.lv l = some (.int kd (a : Int))) (ha : a < 256) (k : K (.int .u8 (a : Int)) H) : Step (.conv .u8 x) l H K :=
  S_pureE (v := .int .u8 (IntKind.wrap .u8 (a : Int))) (by simp only [pev, hx]) (by rw [wrap_u8 (by omega) (by omega)]) k
theorem S_idxSx' {l : SE} {H : SH} {K : Value → SH → Prop} {s : ByteArray} {x i : Opd} {kd : IntKind} {J : Int} {j : Nat} (hx : x.lv l = some (.string s)) (hi : i.lv l = some (.int kd J)) (hJ : J = (j : Int)) (hj : j < s.data.toList.length) (k : ∀ b : UInt8, b.toNat < 256 → K (.int .u8 ((b.toNat : Nat) : Int)) H) : Step (.idxS x i) l H K := by
  have hb := List.getElem?_eq_getElem hj
  exact S_idxS hx hi hJ hb (k _ (UInt8.toNat_lt _))
theorem sp_fmt {H : SH} {n : Nat} (h9 : n ≤ 9223372036854775807) : WF F X 32 [.int .i64 (n : Int), .int .i64 10] H (fun r H' => H' = H ∧ r = .string ⟨(Lib.decDigits n).toArray⟩) :=
  WF_ext fun a hH => ⟨_, a, H, fmtX_intro (by omega) (by omega), hH, rfl, by
    show Value.string ⟨(dg 20 (n : Int).toNat).toArray⟩ = _
    rw [Int.toNat_natCast, dg_eq 19 n (by omega)]⟩
theorem sp_Name {H : SH} {k n : Nat} (hk : k < 256) (h9 : n ≤ 9223372036854775807) : WF F X f_manifest_Name [.int .u8 (k : Int), .int .i64 (n : Int)] H (fun r H' => H' = H ∧ r = .string ⟨(nm k n).toArray⟩) := by
  have hdl := dec_len (u := n) (by omega)
  refine WF_fn F_manifest_Name ?_
  refine WC_seq ?_
  refine WC_region ?_
  refine WO_step rfl (S_pure rfl ?_)
  refine WO_nil ?_
  refine KSeq_n ?_
  refine WC_seq ?_
  refine WC_region ?_
  refine WO_step rfl (S_pure rfl ?_)
  refine WO_step rfl (S_lit1B (k := k) rfl hk fun w6 => ?_)
  refine WO_step rfl (S_strOf rfl (by repeat (first | assumption | exact RD.head | exact RD.nil | apply RD.tail)) (by rfl) (by rfl) ?_)
  refine WO_step rfl (S_pure rfl ?_)
  refine WO_call rfl rfl rfl ?_
  refine (sp_fmt (n := n) h9).mono ?_
  rintro _ _ ⟨rfl, rfl⟩
  refine WO_step rfl (S_cat (a := [UInt8.ofNat k]) (b := Lib.decDigits n) rfl rfl (by simp; omega) ?_)
  refine WO_step rfl (S_pure rfl ?_)
  refine WO_nil ?_
  refine KSeq_n ?_
  refine WC_ret ?_
  refine KFn_r (ResL.tmp rfl ResL.nil) ?_
  exact ⟨_, (by repeat (first | exact HSub.refl | refine HSub.pick (by repeat (first | exact Pick.head | apply Pick.tail)) ?_ | apply HSub.drop)), rfl, rfl⟩
theorem lp_name {H : SH} {id : Nat} (h9 : id ≤ 9223372036854775807) (v0 v1 : Value) : ∀ (m x : Nat) (s : List UInt8), x = m → x ≤ id → dz x ++ s = dz id → s.length ≤ 20 →
    WC F X (.loop L_loesslaw24_name_0) [(6, .int .i64 (x : Int)), (5, .string ⟨s.toArray⟩), (0, v0), (1, v1)] H
      (KPost fun y l' H' => y = .exit 0 ∧ l' = [(5, .string ⟨(dz id).toArray⟩), (0, v0), (1, v1)] ∧ H' = H) := by
  intro m
  induction m using Nat.strongRecOn with
  | _ m ih =>
    intro x s hm hx hs hl
    have hdl := dec_len (u := id) (by omega)
    have hzl := dz_len (u := id) (by omega)
    refine WC_loop ?_
    refine WC_seq ?_
    refine WC_seq ?_
    refine WC_region ?_
    refine WO_step rfl (S_pure rfl ?_)
    refine WO_step rfl (S_pure rfl ?_)
    refine WO_nil ?_
    refine KSeq_n ?_
    refine WC_cond rfl (fun hb1 => ?_) (fun hb1 => ?_)
    ·
      try simp only [decide_eq_true_eq, decide_eq_false_iff_not, Bool.not_eq_true', Bool.not_eq_false', beq_iff_eq, bne_iff_ne, beq_eq_false_iff_ne, Int.ofNat_lt, Int.ofNat_le, Int.ofNat_inj, ne_eq, gt_iff_lt, ge_iff_le] at hb1
      refine WC_skip ?_
      refine KSeq_n ?_
      refine WC_seq ?_
      refine WC_block ?_
      refine WC_region ?_
      refine WO_step rfl (S_pure rfl ?_)
      refine WO_step rfl (S_remU (a := x) (m := 10) rfl rfl (by omega) ?_)
      first | refine WO_step rfl (S_addN (a := 48) rfl rfl (by omega) ?_) | refine WO_step rfl (S_pure rfl ?_)
      refine WO_step rfl (S_toBs (a := 48 + x % 10) rfl (by omega) ?_)
      refine WO_step rfl (S_lit1B (k := 48 + x % 10) rfl (by omega) fun w16 => ?_)
      refine WO_step rfl (S_strOf rfl (by repeat (first | assumption | exact RD.head | exact RD.nil | apply RD.tail)) (by rfl) (by rfl) ?_)
      refine WO_step rfl (S_pure rfl ?_)
      refine WO_step rfl (S_cat (a := [UInt8.ofNat (48 + x % 10)]) (b := s) rfl rfl (by simp; omega) ?_)
      refine WO_step rfl (S_pure rfl ?_)
      refine WO_nil ?_
      refine KBlock_n ?_
      refine KSeq_n ?_
      refine WC_region ?_
      refine WO_step rfl (S_pure rfl ?_)
      refine WO_step rfl (S_quoN' (a := x) (m := 10) rfl rfl (by omega) (by omega) ?_)
      refine WO_step rfl (S_pure rfl ?_)
      refine WO_nil ?_
      refine KLoop_n ?_
      have hst := dz_step (u := x) (by omega)
      have hs2 : dz (x / 10) ++ (UInt8.ofNat (48 + x % 10) :: s) = dz id := by rw [← hs, hst]; simp
      have hl2 : (UInt8.ofNat (48 + x % 10) :: s).length ≤ 20 := by
        have := congrArg List.length hs2
        rw [List.length_append] at this
        omega
      exact WC_weak (ih (x / 10) (by omega) (x / 10) (UInt8.ofNat (48 + x % 10) :: s) rfl (by omega) hs2 hl2) (by repeat (first | exact SubE.nil | apply SubE.cons rfl)) (by repeat (first | exact HSub.refl | refine HSub.pick (by repeat (first | exact Pick.head | apply Pick.tail)) ?_ | apply HSub.drop))
    ·
      try simp only [decide_eq_true_eq, decide_eq_false_iff_not, Bool.not_eq_true', Bool.not_eq_false', beq_iff_eq, bne_iff_ne, beq_eq_false_iff_ne, Int.ofNat_lt, Int.ofNat_le, Int.ofNat_inj, ne_eq, gt_iff_lt, ge_iff_le] at hb1
      refine WC_exit ?_
      refine KSeq_x ?_
      refine KLoop_x ?_
      have hx0 : x = 0 := by omega
      subst hx0
      have hs2 : s = dz id := by rw [← hs]; rfl
      subst hs2
      exact KPost_i (by repeat (first | exact SubE.nil | apply SubE.cons rfl)) (by repeat (first | exact HSub.refl | refine HSub.pick (by repeat (first | exact Pick.head | apply Pick.tail)) ?_ | apply HSub.drop)) ⟨rfl, rfl, rfl⟩
theorem sp_name {H : SH} {k n : Nat} (hk : k < 256) (h9 : n ≤ 9223372036854775807) : WF F X f_loesslaw24_name [.int .u8 (k : Int), .int .i64 (n : Int)] H (fun r H' => H' = H ∧ r = .string ⟨(nm k n).toArray⟩) := by
  have hdl := dec_len (u := n) (by omega)
  have hzl := dz_len (u := n) (by omega)
  refine WF_fn F_loesslaw24_name ?_
  refine WC_seq ?_
  refine WC_region ?_
  refine WO_step rfl (S_pure rfl ?_)
  refine WO_nil ?_
  refine KSeq_n ?_
  refine WC_seq ?_
  refine WC_region ?_
  refine WO_step rfl (S_pure rfl ?_)
  refine WO_nil ?_
  refine KSeq_n ?_
  refine WC_seq ?_
  refine WC_seq ?_
  refine WC_region ?_
  refine WO_step rfl (S_pure rfl ?_)
  refine WO_step rfl (S_pure rfl ?_)
  refine WO_nil ?_
  refine KSeq_n ?_
  refine WC_block ?_
  --out x0
  refine WC_post (WC_weak (lp_name (H := H) (id := n) h9 _ _ n n [] rfl (by omega) (by simp) (by simp)) (by repeat (first | exact SubE.nil | apply SubE.cons rfl)) (by repeat (first | exact HSub.refl | refine HSub.pick (by repeat (first | exact Pick.head | apply Pick.tail)) ?_ | apply HSub.drop))) ?_
  rintro x l' _ ⟨rfl, rfl, rfl⟩
  refine KBlock_h ?_
  refine KSeq_n ?_
  refine WC_seq ?_
  refine WC_seq ?_
  refine WC_region ?_
  refine WO_step rfl (S_pure rfl ?_)
  first | refine WO_step rfl (S_eqS rfl rfl ?_) | refine WO_step rfl (S_pure rfl ?_)
  refine WO_nil ?_
  refine KSeq_n ?_
  refine WC_cond rfl (fun hb1 => ?_) (fun hb1 => ?_)
  ·
    try simp only [decide_eq_true_eq, decide_eq_false_iff_not, Bool.not_eq_true', Bool.not_eq_false', beq_iff_eq, bne_iff_ne, beq_eq_false_iff_ne, Int.ofNat_lt, Int.ofNat_le, Int.ofNat_inj, ne_eq, gt_iff_lt, ge_iff_le] at hb1
    refine WC_region ?_
    refine WO_step rfl (S_pure rfl ?_)
    refine WO_nil ?_
    refine KSeq_n ?_
    refine WC_seq ?_
    refine WC_region ?_
    refine WO_step rfl (S_pure rfl ?_)
    refine WO_step rfl (S_lit1B (k := k) rfl hk fun w23 => ?_)
    refine WO_step rfl (S_strOf rfl (by repeat (first | assumption | exact RD.head | exact RD.nil | apply RD.tail)) (by rfl) (by rfl) ?_)
    refine WO_step rfl (S_pure rfl ?_)
    first | refine WO_step rfl (S_cat (a := [UInt8.ofNat k]) (b := [48]) rfl rfl (by simp) ?_) | refine WO_step rfl (S_cat (a := [UInt8.ofNat k]) (b := dz n) rfl rfl (by simp; omega) ?_)
    refine WO_step rfl (S_pure rfl ?_)
    refine WO_nil ?_
    refine KSeq_n ?_
    refine WC_ret ?_
    refine KFn_r (ResL.tmp rfl ResL.nil) ?_
    have h0 : n = 0 := by omega
    subst h0
    refine ⟨_, (by repeat (first | exact HSub.refl | refine HSub.pick (by repeat (first | exact Pick.head | apply Pick.tail)) ?_ | apply HSub.drop)), rfl, ?_⟩
    have e : Lib.decDigits 0 = [48] := by rw [Lib.decDigits]; rfl
    simp [resV, nm, e]
  ·
    try simp only [decide_eq_true_eq, decide_eq_false_iff_not, Bool.not_eq_true', Bool.not_eq_false', beq_iff_eq, bne_iff_ne, beq_eq_false_iff_ne, Int.ofNat_lt, Int.ofNat_le, Int.ofNat_inj, ne_eq, gt_iff_lt, ge_iff_le] at hb1
    refine WC_skip ?_
    refine KSeq_n ?_
    refine WC_seq ?_
    refine WC_region ?_
    refine WO_step rfl (S_pure rfl ?_)
    refine WO_step rfl (S_lit1B (k := k) rfl hk fun w23 => ?_)
    refine WO_step rfl (S_strOf rfl (by repeat (first | assumption | exact RD.head | exact RD.nil | apply RD.tail)) (by rfl) (by rfl) ?_)
    refine WO_step rfl (S_pure rfl ?_)
    first | refine WO_step rfl (S_cat (a := [UInt8.ofNat k]) (b := [48]) rfl rfl (by simp) ?_) | refine WO_step rfl (S_cat (a := [UInt8.ofNat k]) (b := dz n) rfl rfl (by simp; omega) ?_)
    refine WO_step rfl (S_pure rfl ?_)
    refine WO_nil ?_
    refine KSeq_n ?_
    refine WC_ret ?_
    refine KFn_r (ResL.tmp rfl ResL.nil) ?_
    refine ⟨_, (by repeat (first | exact HSub.refl | refine HSub.pick (by repeat (first | exact Pick.head | apply Pick.tail)) ?_ | apply HSub.drop)), rfl, ?_⟩
    have e : dz n = Lib.decDigits n := by unfold dz; rw [if_neg (by omega)]
    simp [resV, nm, e]
set_option maxRecDepth 100000 in
theorem run_begun : (runF F0 (fmtX 32) 2000 f_loesslaw24_begun [] AH.empty).map (·.1) = some (.bool true) := by kernel_rfl
theorem sp_begun {H : SH} : WF F X f_loesslaw24_begun [] H (fun r H' => H' = H ∧ r = .bool true) :=
  WF_ext fun a hH => ⟨_, a, H, by have := groundT_intro (F0 := F0) (X0 := fmtX 32) (k := 2000) (pur := pur1) (h := a) (g := f_loesslaw24_begun) (by decide) rfl run_begun rfl; exact this, hH, rfl, rfl⟩
theorem law_ManifestNames {H : SH} {a b kI jI : Int} (_ : (Lit.int .i64 a).wf = true) (_ : (Lit.int .i64 b).wf = true) (hk : (Lit.int .u8 kI).wf = true) (hj : (Lit.int .u8 jI).wf = true) : WF F X f_loesslaw24_ManifestNames [.int .i64 a, .int .i64 b, .int .u8 kI, .int .u8 jI] H (fun v _ => v = .bool true) := by
  simp [Lit.wf, IntKind.min, IntKind.max, IntKind.bits, IntKind.signed] at hk hj
  obtain ⟨k, rfl⟩ : ∃ k : Nat, kI = (k : Int) := ⟨kI.toNat, by omega⟩
  obtain ⟨j, rfl⟩ : ∃ j : Nat, jI = (j : Int) := ⟨jI.toNat, by omega⟩
  refine WF_fn F_loesslaw24_ManifestNames ?_
  refine WC_seq ?_
  refine WC_region ?_
  refine WO_step rfl (S_pure rfl ?_)
  refine WO_nil ?_
  refine KSeq_n ?_
  refine WC_seq ?_
  refine WC_region ?_
  refine WO_call rfl rfl rfl ?_
  refine sp_begun.mono ?_
  rintro _ _ ⟨rfl, rfl⟩
  refine WO_step rfl (S_pure rfl ?_)
  refine WO_nil ?_
  refine KSeq_n ?_
  refine WC_seq ?_
  refine WC_seq ?_
  refine WC_region ?_
  refine WO_step rfl (S_pure rfl ?_)
  refine WO_step rfl (S_pure rfl ?_)
  refine WO_nil ?_
  refine KSeq_n ?_
  refine WC_cond rfl (fun hb1 => ?_) (fun hb1 => ?_)
  ·
    try simp only [decide_eq_true_eq, decide_eq_false_iff_not, Bool.not_eq_true', Bool.not_eq_false', beq_iff_eq, bne_iff_ne, beq_eq_false_iff_ne, Int.ofNat_lt, Int.ofNat_le, Int.ofNat_inj, ne_eq, gt_iff_lt, ge_iff_le] at hb1
    exact absurd hb1 (by simp)
    --stop
  ·
    try simp only [decide_eq_true_eq, decide_eq_false_iff_not, Bool.not_eq_true', Bool.not_eq_false', beq_iff_eq, bne_iff_ne, beq_eq_false_iff_ne, Int.ofNat_lt, Int.ofNat_le, Int.ofNat_inj, ne_eq, gt_iff_lt, ge_iff_le] at hb1
    refine WC_skip ?_
    refine KSeq_n ?_
    refine WC_seq ?_
    refine WC_seq ?_
    refine WC_region ?_
    refine WO_step rfl (S_pure rfl ?_)
    refine WO_step rfl (S_pure rfl ?_)
    refine WO_step rfl (S_pure rfl ?_)
    refine WO_cases (t := 17) rfl (fun hg1 => ?_) (fun hg1 => ?_)
    ·
      try simp only [decide_eq_true_eq, decide_eq_false_iff_not, Bool.not_eq_true', Bool.not_eq_false', beq_iff_eq, bne_iff_ne, beq_eq_false_iff_ne, Int.ofNat_lt, Int.ofNat_le, Int.ofNat_inj, ne_eq, gt_iff_lt, ge_iff_le] at hg1
      refine WO_off rfl ?_
      refine WO_off rfl ?_
      refine WO_step rfl (S_pure rfl ?_)
      refine WO_step rfl (S_pure rfl ?_)
      refine WO_off rfl ?_
      refine WO_off rfl ?_
      refine WO_step rfl (S_pure rfl ?_)
      refine WO_step rfl (S_pure rfl ?_)
      refine WO_off rfl ?_
      refine WO_off rfl ?_
      refine WO_step rfl (S_pure rfl ?_)
      refine WO_nil ?_
      refine KSeq_n ?_
      refine WC_cond rfl (fun _ => ?_) (fun h => ?_)
      rotate_left
      · exact absurd h (by decide)
      refine WC_seq ?_
      refine WC_region ?_
      refine WO_step rfl (S_pure rfl ?_)
      refine WO_nil ?_
      refine KSeq_n ?_
      refine WC_ret ?_
      refine KSeq_r ?_
      refine KFn_r (ResL.tmp rfl ResL.nil) ?_
      exact ⟨_, HSub.refl, rfl⟩
    ·
      try simp only [decide_eq_true_eq, decide_eq_false_iff_not, Bool.not_eq_true', Bool.not_eq_false', beq_iff_eq, bne_iff_ne, beq_eq_false_iff_ne, Int.ofNat_lt, Int.ofNat_le, Int.ofNat_inj, ne_eq, gt_iff_lt, ge_iff_le] at hg1
      refine WO_step rfl (S_pure rfl ?_)
      refine WO_step rfl (S_pure rfl ?_)
      refine WO_step rfl (S_pure rfl ?_)
      refine WO_step rfl (S_pure rfl ?_)
      refine WO_cases (t := 21) rfl (fun hg2 => ?_) (fun hg2 => ?_)
      ·
        try simp only [decide_eq_true_eq, decide_eq_false_iff_not, Bool.not_eq_true', Bool.not_eq_false', beq_iff_eq, bne_iff_ne, beq_eq_false_iff_ne, Int.ofNat_lt, Int.ofNat_le, Int.ofNat_inj, ne_eq, gt_iff_lt, ge_iff_le] at hg2
        refine WO_off rfl ?_
        refine WO_off rfl ?_
        refine WO_step rfl (S_pure rfl ?_)
        refine WO_step rfl (S_pure rfl ?_)
        refine WO_off rfl ?_
        refine WO_off rfl ?_
        refine WO_step rfl (S_pure rfl ?_)
        refine WO_nil ?_
        refine KSeq_n ?_
        refine WC_cond rfl (fun _ => ?_) (fun h => ?_)
        rotate_left
        · exact absurd h (by decide)
        refine WC_seq ?_
        refine WC_region ?_
        refine WO_step rfl (S_pure rfl ?_)
        refine WO_nil ?_
        refine KSeq_n ?_
        refine WC_ret ?_
        refine KSeq_r ?_
        refine KFn_r (ResL.tmp rfl ResL.nil) ?_
        exact ⟨_, HSub.refl, rfl⟩
      ·
        try simp only [decide_eq_true_eq, decide_eq_false_iff_not, Bool.not_eq_true', Bool.not_eq_false', beq_iff_eq, bne_iff_ne, beq_eq_false_iff_ne, Int.ofNat_lt, Int.ofNat_le, Int.ofNat_inj, ne_eq, gt_iff_lt, ge_iff_le] at hg2
        refine WO_step rfl (S_pure rfl ?_)
        refine WO_step rfl (S_pure rfl ?_)
        refine WO_step rfl (S_pure rfl ?_)
        refine WO_step rfl (S_pure rfl ?_)
        refine WO_cases (t := 25) rfl (fun hg3 => ?_) (fun hg3 => ?_)
        ·
          try simp only [decide_eq_true_eq, decide_eq_false_iff_not, Bool.not_eq_true', Bool.not_eq_false', beq_iff_eq, bne_iff_ne, beq_eq_false_iff_ne, Int.ofNat_lt, Int.ofNat_le, Int.ofNat_inj, ne_eq, gt_iff_lt, ge_iff_le] at hg3
          refine WO_off rfl ?_
          refine WO_off rfl ?_
          refine WO_step rfl (S_pure rfl ?_)
          refine WO_nil ?_
          refine KSeq_n ?_
          refine WC_cond rfl (fun _ => ?_) (fun h => ?_)
          rotate_left
          · exact absurd h (by decide)
          refine WC_seq ?_
          refine WC_region ?_
          refine WO_step rfl (S_pure rfl ?_)
          refine WO_nil ?_
          refine KSeq_n ?_
          refine WC_ret ?_
          refine KSeq_r ?_
          refine KFn_r (ResL.tmp rfl ResL.nil) ?_
          exact ⟨_, HSub.refl, rfl⟩
        ·
          try simp only [decide_eq_true_eq, decide_eq_false_iff_not, Bool.not_eq_true', Bool.not_eq_false', beq_iff_eq, bne_iff_ne, beq_eq_false_iff_ne, Int.ofNat_lt, Int.ofNat_le, Int.ofNat_inj, ne_eq, gt_iff_lt, ge_iff_le] at hg3
          refine WO_step rfl (S_pure rfl ?_)
          refine WO_step rfl (S_pure rfl ?_)
          refine WO_step rfl (S_pure rfl ?_)
          refine WO_nil ?_
          refine KSeq_n ?_
          refine WC_cond rfl (fun hb2 => ?_) (fun hb2 => ?_)
          ·
            try simp only [decide_eq_true_eq, decide_eq_false_iff_not, Bool.not_eq_true', Bool.not_eq_false', beq_iff_eq, bne_iff_ne, beq_eq_false_iff_ne, Int.ofNat_lt, Int.ofNat_le, Int.ofNat_inj, ne_eq, gt_iff_lt, ge_iff_le] at hb2
            refine WC_seq ?_
            refine WC_region ?_
            refine WO_step rfl (S_pure rfl ?_)
            refine WO_nil ?_
            refine KSeq_n ?_
            refine WC_ret ?_
            refine KSeq_r ?_
            refine KFn_r (ResL.tmp rfl ResL.nil) ?_
            exact ⟨_, HSub.refl, rfl⟩
          ·
            try simp only [decide_eq_true_eq, decide_eq_false_iff_not, Bool.not_eq_true', Bool.not_eq_false', beq_iff_eq, bne_iff_ne, beq_eq_false_iff_ne, Int.ofNat_lt, Int.ofNat_le, Int.ofNat_inj, ne_eq, gt_iff_lt, ge_iff_le] at hb2
            obtain ⟨A, rfl⟩ : ∃ A : Nat, a = (A : Int) := ⟨a.toNat, by omega⟩
            obtain ⟨B, rfl⟩ : ∃ B : Nat, b = (B : Int) := ⟨b.toNat, by omega⟩
            refine WC_skip ?_
            refine KSeq_n ?_
            refine WC_seq ?_
            refine WC_region ?_
            refine WO_step rfl (S_pure rfl ?_)
            refine WO_step rfl (S_remU (a := k) (m := 3) rfl rfl (by omega) ?_)
            refine WO_step rfl (S_idxSx' (j := k % 3) rfl rfl rfl (by show k % 3 < 3; omega) fun b31 h31 => ?_)
            refine WO_step rfl (S_pure rfl ?_)
            refine WO_step rfl (S_remU (a := j) (m := 3) rfl rfl (by omega) ?_)
            refine WO_step rfl (S_idxSx' (j := j % 3) rfl rfl rfl (by show j % 3 < 3; omega) fun b34 h34 => ?_)
            refine WO_step rfl (S_pure rfl ?_)
            refine WO_step rfl (S_pure rfl ?_)
            refine WO_nil ?_
            refine KSeq_n ?_
            refine WC_seq ?_
            refine WC_region ?_
            refine WO_step rfl (S_pure rfl ?_)
            refine WO_step rfl (S_pure rfl ?_)
            refine WO_call rfl rfl rfl ?_
            refine (sp_Name (by omega) (by omega)).mono ?_
            rintro _ _ ⟨rfl, rfl⟩
            refine WO_step rfl (S_pure rfl ?_)
            refine WO_step rfl (S_pure rfl ?_)
            refine WO_call rfl rfl rfl ?_
            refine (sp_name (by omega) (by omega)).mono ?_
            rintro _ _ ⟨rfl, rfl⟩
            first | refine WO_step rfl (S_eqS rfl rfl ?_) | refine WO_step rfl (S_pure rfl ?_)
            refine WO_step rfl (S_pure rfl ?_)
            refine WO_cases (t := 42) rfl (fun hg4 => ?_) (fun hg4 => ?_)
            ·
              try simp only [decide_eq_true_eq, decide_eq_false_iff_not, Bool.not_eq_true', Bool.not_eq_false', beq_iff_eq, bne_iff_ne, beq_eq_false_iff_ne, Int.ofNat_lt, Int.ofNat_le, Int.ofNat_inj, ne_eq, gt_iff_lt, ge_iff_le] at hg4
              refine WO_step rfl (S_pure rfl ?_)
              refine WO_step rfl (S_pure rfl ?_)
              refine WO_call rfl rfl rfl ?_
              refine (sp_Name (by omega) (by omega)).mono ?_
              rintro _ _ ⟨rfl, rfl⟩
              refine WO_step rfl (S_pure rfl ?_)
              refine WO_step rfl (S_pure rfl ?_)
              refine WO_call rfl rfl rfl ?_
              refine (sp_Name (by omega) (by omega)).mono ?_
              rintro _ _ ⟨rfl, rfl⟩
              first | refine WO_step rfl (S_eqS rfl rfl ?_) | refine WO_step rfl (S_pure rfl ?_)
              refine WO_step rfl (S_pure rfl ?_)
              refine WO_step rfl (S_pure rfl ?_)
              first | refine WO_step rfl (S_eqS rfl rfl ?_) | refine WO_step rfl (S_pure rfl ?_)
              refine WO_step rfl (S_pure rfl ?_)
              refine WO_cases (t := 53) rfl (fun hg5 => ?_) (fun hg5 => ?_)
              ·
                try simp only [decide_eq_true_eq, decide_eq_false_iff_not, Bool.not_eq_true', Bool.not_eq_false', beq_iff_eq, bne_iff_ne, beq_eq_false_iff_ne, Int.ofNat_lt, Int.ofNat_le, Int.ofNat_inj, ne_eq, gt_iff_lt, ge_iff_le] at hg5
                refine WO_step rfl (S_pure rfl ?_)
                refine WO_step rfl (S_pure rfl ?_)
                first | refine WO_step rfl (S_eqS rfl rfl ?_) | refine WO_step rfl (S_pure rfl ?_)
                refine WO_step rfl (S_pure rfl ?_)
                refine WO_step rfl (S_pure rfl ?_)
                refine WO_step rfl (S_pure rfl ?_)
                refine WO_step rfl (S_pure rfl ?_)
                refine WO_nil ?_
                refine KSeq_n ?_
                refine WC_ret ?_
                refine KFn_r (ResL.tmp rfl ResL.nil) ?_
                refine ⟨_, HSub.refl, ?_⟩
                show Value.bool _ = Value.bool true
                rw [if_neg (by decide), nmb h31 h34]
                by_cases h : A = B
                · simp [h, hg5]
                · have h2 : ¬((A : Int) = (B : Int)) := by omega
                  simp [h, hg5, h2]
              ·
                try simp only [decide_eq_true_eq, decide_eq_false_iff_not, Bool.not_eq_true', Bool.not_eq_false', beq_iff_eq, bne_iff_ne, beq_eq_false_iff_ne, Int.ofNat_lt, Int.ofNat_le, Int.ofNat_inj, ne_eq, gt_iff_lt, ge_iff_le] at hg5
                refine WO_off rfl ?_
                refine WO_off rfl ?_
                refine WO_off rfl ?_
                refine WO_step rfl (S_pure rfl ?_)
                refine WO_step rfl (S_pure rfl ?_)
                refine WO_step rfl (S_pure rfl ?_)
                refine WO_step rfl (S_pure rfl ?_)
                refine WO_nil ?_
                refine KSeq_n ?_
                refine WC_ret ?_
                refine KFn_r (ResL.tmp rfl ResL.nil) ?_
                refine ⟨_, HSub.refl, ?_⟩
                show Value.bool _ = Value.bool true
                rw [if_neg (by decide), nmb h31 h34]
                simp [hg5]
            ·
              try simp only [decide_eq_true_eq, decide_eq_false_iff_not, Bool.not_eq_true', Bool.not_eq_false', beq_iff_eq, bne_iff_ne, beq_eq_false_iff_ne, Int.ofNat_lt, Int.ofNat_le, Int.ofNat_inj, ne_eq, gt_iff_lt, ge_iff_le] at hg4
              refine WO_off rfl ?_
              refine WO_off rfl ?_
              refine WO_off rfl ?_
              refine WO_off rfl ?_
              refine WO_off rfl ?_
              refine WO_off rfl ?_
              refine WO_off rfl ?_
              refine WO_off rfl ?_
              refine WO_off rfl ?_
              refine WO_off rfl ?_
              refine WO_off rfl ?_
              refine WO_off rfl ?_
              refine WO_off rfl ?_
              refine WO_off rfl ?_
              refine WO_off rfl ?_
              refine WO_off rfl ?_
              refine WO_step rfl (S_pure rfl ?_)
              refine WO_step rfl (S_pure rfl ?_)
              refine WO_nil ?_
              refine KSeq_n ?_
              refine WC_ret ?_
              refine KFn_r (ResL.tmp rfl ResL.nil) ?_
              exact absurd trivial hg4
end Go.Proofs.YtmibhdoegcgfmaaDoor.AM
