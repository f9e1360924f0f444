/- Walks: what the functions compute. -/
import Derived.Test.YtnffcpafglfebaaC3
import Derived.Carry
import Derived.KernelRfl
import Derived.Test.YtnffcpafglfebaaAmZ
namespace Go.Proofs.Ytnffcpafglfebaa.AM
open Go
set_option linter.unusedSimpArgs false
set_option linter.unusedVariables false
set_option maxRecDepth 4000

/-! ### The law CuckooFull -/
theorem laidOut : laidOutB Try.prog = true := by kernel_rfl
theorem S_mulUN {l : SE} {H : SH} {K : Value → SH → Prop} {x y : Opd} {a b : Nat} (hx : x.lv l = some (.int .u64 (a : Int))) (hy : y.lv l = some (.int .u64 (b : Int))) (hb : a * b < 18446744073709551616) (k : K (.int .u64 ((a * b : Nat) : Int)) H) : Step (.bin .mul x y) l H K :=
  S_pureE (v := .int .u64 (IntKind.wrap .u64 ((a : Int) * (b : Int)))) (by simp only [pev, hx, hy, binV, intBin, if_true]) (by rw [← Int.natCast_mul, wrap_u64 (by omega) (by omega)]) k
theorem S_addUN {l : SE} {H : SH} {K : Value → SH → Prop} {x y : Opd} {a b : Nat} (hx : x.lv l = some (.int .u64 (a : Int))) (hy : y.lv l = some (.int .u64 (b : Int))) (hb : a + b < 18446744073709551616) (k : K (.int .u64 ((a + b : Nat) : Int)) H) : Step (.bin .add x y) l H K :=
  S_pureE (v := .int .u64 (IntKind.wrap .u64 ((a : Int) + (b : Int)))) (by simp only [pev, hx, hy, binV, intBin, if_true]) (by rw [← Int.natCast_add, wrap_u64 (by omega) (by omega)]) k
set_option maxRecDepth 100000 in
theorem run_begun : (runF F0 noX 2000 f_loesslaw17_begun [] AH.empty).map (·.1) = some (.bool true) := by kernel_rfl
theorem sp_begun {H : SH} : WF F X f_loesslaw17_begun [] H (fun r H' => H' = H ∧ r = .bool true) :=
  WF_ext fun a hH => ⟨_, a, H, groundX_intro (by decide) rfl run_begun rfl, hH, rfl, rfl⟩
theorem lp_Full {H : SH} {i8 N tag : Nat} {one : Bool} (hNb : N ≤ 40) (ht : tag < 32768) : ∀ (m i k n : Nat) (es : List Ent), N - i = m → i ≤ N → n ≤ i → Good es → FullI tag one es i k →
    WC F X (.loop L_loesslaw17_CuckooFull_0) [(10, .int .i64 (i : Int)), (0, .int .i64 (N : Int)), (1, .int .i64 (tag : Int)), (2, .bool one), (8, .pointer (some ⟨i8, 0, none⟩)), (9, .int .i64 (k : Int))] (DO i8 es n :: H)
      (KPost fun x l' H' => x = .exit 0 ∧ l' = [(9, .int .i64 ((min N (if one then 8 else 32) : Nat) : Int)), (0, .int .i64 (N : Int)), (2, .bool one)]) := by
  intro m
  induction m using Nat.strongRecOn with
  | _ m ih =>
    intro i k n es hm hi hn hg hf
    have hk : k ≤ i := by have := hf.1; omega
    refine WC_loop ?_
    refine WC_seq ?_
    refine WC_seq ?_
    refine WC_region ?_
    refine WO_step rfl (S_pure rfl ?_)
    refine WO_step rfl (S_pure rfl ?_)
    refine WO_step rfl (S_pure rfl ?_)
    refine WO_nil ?_
    refine KSeq_n ?_
    refine WC_cond rfl (fun hb1 => ?_) (fun hb1 => ?_)
    ·
      try simp only [decide_eq_true_eq, decide_eq_false_iff_not, Bool.not_eq_true', Bool.not_eq_false', beq_iff_eq, bne_iff_ne, beq_eq_false_iff_ne, Int.ofNat_lt, Int.ofNat_le, Int.ofNat_inj, ne_eq, gt_iff_lt, ge_iff_le] at hb1
      refine WC_skip ?_
      refine KSeq_n ?_
      refine WC_seq ?_
      refine WC_block ?_
      refine WC_seq ?_
      refine WC_region ?_
      refine WO_step rfl (S_pure rfl ?_)
      first | refine WO_step rfl (S_toU rfl (by omega) ?_) | refine WO_step rfl (S_pure rfl ?_)
      refine WO_step rfl (S_mulUN (a := tag) (b := 256) rfl rfl (by omega) ?_)
      refine WO_step rfl (S_pure rfl ?_)
      refine WO_nil ?_
      refine KSeq_n ?_
      refine WC_seq ?_
      refine WC_seq ?_
      refine WC_region ?_
      refine WO_step rfl (S_pure rfl ?_)
      refine WO_step rfl (S_pure rfl ?_)
      refine WO_nil ?_
      refine KSeq_n ?_
      refine WC_cond rfl (fun hb2 => ?_) (fun hb2 => ?_)
      ·
        try simp only [decide_eq_true_eq, decide_eq_false_iff_not, Bool.not_eq_true', Bool.not_eq_false', beq_iff_eq, bne_iff_ne, beq_eq_false_iff_ne, Int.ofNat_lt, Int.ofNat_le, Int.ofNat_inj, ne_eq, gt_iff_lt, ge_iff_le] at hb2
        refine WC_region ?_
        refine WO_step rfl (S_pure rfl ?_)
        refine WO_step rfl (S_pure rfl ?_)
        refine WO_step rfl (S_remU (m := 8) rfl rfl (by omega) ?_)
        refine WO_step rfl (S_toU (a := i % 8) rfl (by omega) ?_)
        refine WO_step rfl (S_addUN (a := tag * 256) (b := i % 8) rfl rfl (by omega) ?_)
        refine WO_step rfl (S_pure rfl ?_)
        refine WO_nil ?_
        refine KSeq_n ?_
        refine WC_seq ?_
        refine WC_region ?_
        refine WO_step rfl (S_pure rfl ?_)
        refine WO_step rfl (S_pure rfl ?_)
        refine WO_step rfl (S_pure rfl ?_)
        refine WO_call rfl rfl rfl ?_
        have eh : tag * 256 + i % 8 = hN tag i one := by simp [hN, hb2]
        refine (sp_ins hg (by repeat (first | exact hp | exact Pick.head | apply Pick.tail)) (by omega) (by omega)).mono ?_
        rintro _ _ ⟨es', n', ok, rfl, rfl, hg', hok, hno⟩
        rw [eh] at hok hno
        refine WO_nil ?_
        refine KSeq_n ?_
        refine WC_cond rfl (fun hb3 => ?_) (fun hb3 => ?_)
        ·
          try simp only [decide_eq_true_eq, decide_eq_false_iff_not, Bool.not_eq_true', Bool.not_eq_false', beq_iff_eq, bne_iff_ne, beq_eq_false_iff_ne, Int.ofNat_lt, Int.ofNat_le, Int.ofNat_inj, ne_eq, gt_iff_lt, ge_iff_le] at hb3
          refine WC_region ?_
          refine WO_step rfl (S_pure rfl ?_)
          first | refine WO_step rfl (S_addN (b := 1) rfl rfl (by omega) ?_) | refine WO_step rfl (S_pure rfl ?_)
          refine WO_step rfl (S_pure rfl ?_)
          refine WO_nil ?_
          refine KBlock_n ?_
          refine KSeq_n ?_
          refine WC_region ?_
          refine WO_step rfl (S_pure rfl ?_)
          first | refine WO_step rfl (S_addN (b := 1) rfl rfl (by omega) ?_) | refine WO_step rfl (S_pure rfl ?_)
          refine WO_step rfl (S_pure rfl ?_)
          refine WO_nil ?_
          refine KLoop_n ?_
          obtain ⟨h1, h2, h3⟩ := hok hb3
          exact WC_weak (ih (N - (i + 1)) (by omega) (i + 1) (k + 1) n' es' rfl (by omega) (by omega) hg' (hf.ok ht h3)) (by repeat (first | exact SubE.nil | apply SubE.cons rfl)) (by repeat (first | exact HSub.refl | refine HSub.pick (by repeat (first | exact Pick.head | apply Pick.tail)) ?_ | apply HSub.drop))
        ·
          try simp only [decide_eq_true_eq, decide_eq_false_iff_not, Bool.not_eq_true', Bool.not_eq_false', beq_iff_eq, bne_iff_ne, beq_eq_false_iff_ne, Int.ofNat_lt, Int.ofNat_le, Int.ofNat_inj, ne_eq, gt_iff_lt, ge_iff_le] at hb3
          refine WC_skip ?_
          refine KBlock_n ?_
          refine KSeq_n ?_
          refine WC_region ?_
          refine WO_step rfl (S_pure rfl ?_)
          first | refine WO_step rfl (S_addN (b := 1) rfl rfl (by omega) ?_) | refine WO_step rfl (S_pure rfl ?_)
          refine WO_step rfl (S_pure rfl ?_)
          refine WO_nil ?_
          refine KLoop_n ?_
          obtain ⟨rfl, h2, h3⟩ := hno (by simpa using hb3)
          exact WC_weak (ih (N - (i + 1)) (by omega) (i + 1) k n' es' rfl (by omega) (by omega) hg' (hf.no ht (h3 (by omega)))) (by repeat (first | exact SubE.nil | apply SubE.cons rfl)) (by repeat (first | exact HSub.refl | refine HSub.pick (by repeat (first | exact Pick.head | apply Pick.tail)) ?_ | apply HSub.drop))
      ·
        try simp only [decide_eq_true_eq, decide_eq_false_iff_not, Bool.not_eq_true', Bool.not_eq_false', beq_iff_eq, bne_iff_ne, beq_eq_false_iff_ne, Int.ofNat_lt, Int.ofNat_le, Int.ofNat_inj, ne_eq, gt_iff_lt, ge_iff_le] at hb2
        refine WC_skip ?_
        refine KSeq_n ?_
        refine WC_seq ?_
        refine WC_region ?_
        refine WO_step rfl (S_pure rfl ?_)
        refine WO_step rfl (S_pure rfl ?_)
        refine WO_step rfl (S_pure rfl ?_)
        refine WO_call rfl rfl rfl ?_
        have eh : tag * 256 = hN tag i one := by simp [hN, hb2]
        refine (sp_ins hg (by repeat (first | exact hp | exact Pick.head | apply Pick.tail)) (by omega) (by omega)).mono ?_
        rintro _ _ ⟨es', n', ok, rfl, rfl, hg', hok, hno⟩
        rw [eh] at hok hno
        refine WO_nil ?_
        refine KSeq_n ?_
        refine WC_cond rfl (fun hb4 => ?_) (fun hb4 => ?_)
        ·
          try simp only [decide_eq_true_eq, decide_eq_false_iff_not, Bool.not_eq_true', Bool.not_eq_false', beq_iff_eq, bne_iff_ne, beq_eq_false_iff_ne, Int.ofNat_lt, Int.ofNat_le, Int.ofNat_inj, ne_eq, gt_iff_lt, ge_iff_le] at hb4
          refine WC_region ?_
          refine WO_step rfl (S_pure rfl ?_)
          first | refine WO_step rfl (S_addN (b := 1) rfl rfl (by omega) ?_) | refine WO_step rfl (S_pure rfl ?_)
          refine WO_step rfl (S_pure rfl ?_)
          refine WO_nil ?_
          refine KBlock_n ?_
          refine KSeq_n ?_
          refine WC_region ?_
          refine WO_step rfl (S_pure rfl ?_)
          first | refine WO_step rfl (S_addN (b := 1) rfl rfl (by omega) ?_) | refine WO_step rfl (S_pure rfl ?_)
          refine WO_step rfl (S_pure rfl ?_)
          refine WO_nil ?_
          refine KLoop_n ?_
          obtain ⟨h1, h2, h3⟩ := hok hb4
          exact WC_weak (ih (N - (i + 1)) (by omega) (i + 1) (k + 1) n' es' rfl (by omega) (by omega) hg' (hf.ok ht h3)) (by repeat (first | exact SubE.nil | apply SubE.cons rfl)) (by repeat (first | exact HSub.refl | refine HSub.pick (by repeat (first | exact Pick.head | apply Pick.tail)) ?_ | apply HSub.drop))
        ·
          try simp only [decide_eq_true_eq, decide_eq_false_iff_not, Bool.not_eq_true', Bool.not_eq_false', beq_iff_eq, bne_iff_ne, beq_eq_false_iff_ne, Int.ofNat_lt, Int.ofNat_le, Int.ofNat_inj, ne_eq, gt_iff_lt, ge_iff_le] at hb4
          refine WC_skip ?_
          refine KBlock_n ?_
          refine KSeq_n ?_
          refine WC_region ?_
          refine WO_step rfl (S_pure rfl ?_)
          first | refine WO_step rfl (S_addN (b := 1) rfl rfl (by omega) ?_) | refine WO_step rfl (S_pure rfl ?_)
          refine WO_step rfl (S_pure rfl ?_)
          refine WO_nil ?_
          refine KLoop_n ?_
          obtain ⟨rfl, h2, h3⟩ := hno (by simpa using hb4)
          exact WC_weak (ih (N - (i + 1)) (by omega) (i + 1) k n' es' rfl (by omega) (by omega) hg' (hf.no ht (h3 (by omega)))) (by repeat (first | exact SubE.nil | apply SubE.cons rfl)) (by repeat (first | exact HSub.refl | refine HSub.pick (by repeat (first | exact Pick.head | apply Pick.tail)) ?_ | apply HSub.drop))
    ·
      try simp only [decide_eq_true_eq, decide_eq_false_iff_not, Bool.not_eq_true', Bool.not_eq_false', beq_iff_eq, bne_iff_ne, beq_eq_false_iff_ne, Int.ofNat_lt, Int.ofNat_le, Int.ofNat_inj, ne_eq, gt_iff_lt, ge_iff_le] at hb1
      refine WC_exit ?_
      refine KSeq_x ?_
      refine KLoop_x ?_
      have e : i = N := by omega
      subst e
      rw [← hf.1]
      exact KPost_i (by repeat (first | exact SubE.nil | apply SubE.cons rfl)) HSub.refl ⟨rfl, rfl⟩
theorem law_CuckooFull {H : SH} {n tag : Int} (_ : (Lit.int .i64 n).wf = true) (_ : (Lit.int .i64 tag).wf = true) (one : Bool) : WF F X f_loesslaw17_CuckooFull [.int .i64 n, .int .i64 tag, .bool one] H (fun v _ => v = .bool true) := by
  refine WF_fn F_loesslaw17_CuckooFull ?_
  refine WC_seq ?_
  refine WC_region ?_
  refine WO_step rfl (S_pure rfl ?_)
  refine WO_nil ?_
  refine KSeq_n ?_
  refine WC_seq ?_
  refine WC_region ?_
  refine WO_call rfl rfl rfl ?_
  refine sp_begun.mono ?_
  rintro _ _ ⟨rfl, rfl⟩
  refine WO_step rfl (S_pure rfl ?_)
  refine WO_nil ?_
  refine KSeq_n ?_
  refine WC_seq ?_
  refine WC_seq ?_
  refine WC_region ?_
  refine WO_step rfl (S_pure rfl ?_)
  refine WO_step rfl (S_pure rfl ?_)
  refine WO_nil ?_
  refine KSeq_n ?_
  refine WC_cond rfl (fun hb1 => ?_) (fun hb1 => ?_)
  ·
    try simp only [decide_eq_true_eq, decide_eq_false_iff_not, Bool.not_eq_true', Bool.not_eq_false', beq_iff_eq, bne_iff_ne, beq_eq_false_iff_ne, Int.ofNat_lt, Int.ofNat_le, Int.ofNat_inj, ne_eq, gt_iff_lt, ge_iff_le] at hb1
    exact absurd hb1 (by simp)
    --stop
  ·
    try simp only [decide_eq_true_eq, decide_eq_false_iff_not, Bool.not_eq_true', Bool.not_eq_false', beq_iff_eq, bne_iff_ne, beq_eq_false_iff_ne, Int.ofNat_lt, Int.ofNat_le, Int.ofNat_inj, ne_eq, gt_iff_lt, ge_iff_le] at hb1
    refine WC_skip ?_
    refine KSeq_n ?_
    refine WC_seq ?_
    refine WC_seq ?_
    refine WC_region ?_
    refine WO_step rfl (S_pure rfl ?_)
    refine WO_step rfl (S_pure rfl ?_)
    refine WO_step rfl (S_pure rfl ?_)
    refine WO_cases (t := 17) rfl (fun hg1 => ?_) (fun hg1 => ?_)
    ·
      try simp only [decide_eq_true_eq, decide_eq_false_iff_not, Bool.not_eq_true', Bool.not_eq_false', beq_iff_eq, bne_iff_ne, beq_eq_false_iff_ne, Int.ofNat_lt, Int.ofNat_le, Int.ofNat_inj, ne_eq, gt_iff_lt, ge_iff_le] at hg1
      refine WO_off rfl ?_
      refine WO_off rfl ?_
      refine WO_step rfl (S_pure rfl ?_)
      refine WO_step rfl (S_pure rfl ?_)
      refine WO_off rfl ?_
      refine WO_off rfl ?_
      refine WO_step rfl (S_pure rfl ?_)
      refine WO_step rfl (S_pure rfl ?_)
      refine WO_off rfl ?_
      refine WO_off rfl ?_
      refine WO_step rfl (S_pure rfl ?_)
      refine WO_nil ?_
      refine KSeq_n ?_
      refine WC_cond rfl (fun _ => ?_) (fun h => ?_)
      rotate_left
      · exact absurd h (by decide)
      refine WC_seq ?_
      refine WC_region ?_
      refine WO_step rfl (S_pure rfl ?_)
      refine WO_nil ?_
      refine KSeq_n ?_
      refine WC_ret ?_
      refine KSeq_r ?_
      refine KFn_r (ResL.tmp rfl ResL.nil) ?_
      exact ⟨_, HSub.refl, rfl⟩
    ·
      try simp only [decide_eq_true_eq, decide_eq_false_iff_not, Bool.not_eq_true', Bool.not_eq_false', beq_iff_eq, bne_iff_ne, beq_eq_false_iff_ne, Int.ofNat_lt, Int.ofNat_le, Int.ofNat_inj, ne_eq, gt_iff_lt, ge_iff_le] at hg1
      refine WO_step rfl (S_pure rfl ?_)
      refine WO_step rfl (S_pure rfl ?_)
      refine WO_step rfl (S_pure rfl ?_)
      refine WO_step rfl (S_pure rfl ?_)
      refine WO_cases (t := 21) rfl (fun hg2 => ?_) (fun hg2 => ?_)
      ·
        try simp only [decide_eq_true_eq, decide_eq_false_iff_not, Bool.not_eq_true', Bool.not_eq_false', beq_iff_eq, bne_iff_ne, beq_eq_false_iff_ne, Int.ofNat_lt, Int.ofNat_le, Int.ofNat_inj, ne_eq, gt_iff_lt, ge_iff_le] at hg2
        refine WO_off rfl ?_
        refine WO_off rfl ?_
        refine WO_step rfl (S_pure rfl ?_)
        refine WO_step rfl (S_pure rfl ?_)
        refine WO_off rfl ?_
        refine WO_off rfl ?_
        refine WO_step rfl (S_pure rfl ?_)
        refine WO_nil ?_
        refine KSeq_n ?_
        refine WC_cond rfl (fun _ => ?_) (fun h => ?_)
        rotate_left
        · exact absurd h (by decide)
        refine WC_seq ?_
        refine WC_region ?_
        refine WO_step rfl (S_pure rfl ?_)
        refine WO_nil ?_
        refine KSeq_n ?_
        refine WC_ret ?_
        refine KSeq_r ?_
        refine KFn_r (ResL.tmp rfl ResL.nil) ?_
        exact ⟨_, HSub.refl, rfl⟩
      ·
        try simp only [decide_eq_true_eq, decide_eq_false_iff_not, Bool.not_eq_true', Bool.not_eq_false', beq_iff_eq, bne_iff_ne, beq_eq_false_iff_ne, Int.ofNat_lt, Int.ofNat_le, Int.ofNat_inj, ne_eq, gt_iff_lt, ge_iff_le] at hg2
        refine WO_step rfl (S_pure rfl ?_)
        refine WO_step rfl (S_pure rfl ?_)
        refine WO_step rfl (S_pure rfl ?_)
        refine WO_step rfl (S_pure rfl ?_)
        refine WO_cases (t := 25) rfl (fun hg3 => ?_) (fun hg3 => ?_)
        ·
          try simp only [decide_eq_true_eq, decide_eq_false_iff_not, Bool.not_eq_true', Bool.not_eq_false', beq_iff_eq, bne_iff_ne, beq_eq_false_iff_ne, Int.ofNat_lt, Int.ofNat_le, Int.ofNat_inj, ne_eq, gt_iff_lt, ge_iff_le] at hg3
          refine WO_off rfl ?_
          refine WO_off rfl ?_
          refine WO_step rfl (S_pure rfl ?_)
          refine WO_nil ?_
          refine KSeq_n ?_
          refine WC_cond rfl (fun _ => ?_) (fun h => ?_)
          rotate_left
          · exact absurd h (by decide)
          refine WC_seq ?_
          refine WC_region ?_
          refine WO_step rfl (S_pure rfl ?_)
          refine WO_nil ?_
          refine KSeq_n ?_
          refine WC_ret ?_
          refine KSeq_r ?_
          refine KFn_r (ResL.tmp rfl ResL.nil) ?_
          exact ⟨_, HSub.refl, rfl⟩
        ·
          try simp only [decide_eq_true_eq, decide_eq_false_iff_not, Bool.not_eq_true', Bool.not_eq_false', beq_iff_eq, bne_iff_ne, beq_eq_false_iff_ne, Int.ofNat_lt, Int.ofNat_le, Int.ofNat_inj, ne_eq, gt_iff_lt, ge_iff_le] at hg3
          refine WO_step rfl (S_pure rfl ?_)
          refine WO_step rfl (S_pure rfl ?_)
          refine WO_step rfl (S_pure rfl ?_)
          refine WO_nil ?_
          refine KSeq_n ?_
          refine WC_cond rfl (fun hb2 => ?_) (fun hb2 => ?_)
          ·
            try simp only [decide_eq_true_eq, decide_eq_false_iff_not, Bool.not_eq_true', Bool.not_eq_false', beq_iff_eq, bne_iff_ne, beq_eq_false_iff_ne, Int.ofNat_lt, Int.ofNat_le, Int.ofNat_inj, ne_eq, gt_iff_lt, ge_iff_le] at hb2
            refine WC_seq ?_
            refine WC_region ?_
            refine WO_step rfl (S_pure rfl ?_)
            refine WO_nil ?_
            refine KSeq_n ?_
            refine WC_ret ?_
            refine KSeq_r ?_
            refine KFn_r (ResL.tmp rfl ResL.nil) ?_
            exact ⟨_, HSub.refl, rfl⟩
          ·
            try simp only [decide_eq_true_eq, decide_eq_false_iff_not, Bool.not_eq_true', Bool.not_eq_false', beq_iff_eq, bne_iff_ne, beq_eq_false_iff_ne, Int.ofNat_lt, Int.ofNat_le, Int.ofNat_inj, ne_eq, gt_iff_lt, ge_iff_le] at hb2
            refine WC_skip ?_
            refine KSeq_n ?_
            refine WC_seq ?_
            refine WC_region ?_
            refine WO_call rfl rfl rfl ?_
            refine sp_New.mono ?_
            rintro _ _ ⟨i29, rfl, rfl⟩
            refine WO_step rfl (S_pure rfl ?_)
            refine WO_nil ?_
            refine KSeq_n ?_
            refine WC_seq ?_
            refine WC_region ?_
            refine WO_step rfl (S_pure rfl ?_)
            refine WO_nil ?_
            refine KSeq_n ?_
            refine WC_seq ?_
            refine WC_seq ?_
            refine WC_region ?_
            refine WO_step rfl (S_pure rfl ?_)
            refine WO_nil ?_
            refine KSeq_n ?_
            refine WC_block ?_
            --out x0
            obtain ⟨N, rfl⟩ : ∃ N : Nat, n = (N : Int) := ⟨n.toNat, by omega⟩
            obtain ⟨T, rfl⟩ : ∃ T : Nat, tag = (T : Int) := ⟨tag.toNat, by omega⟩
            refine WC_post (WC_weak (lp_Full (i8 := i29) (N := N) (tag := T) (one := one) (by omega) (by omega) N 0 0 0 _ (by omega) (by omega) (by omega) Good.new (FullI.zero T one)) (by repeat (first | exact SubE.nil | apply SubE.cons rfl)) (by repeat (first | exact HSub.refl | refine HSub.pick (by repeat (first | exact Pick.head | apply Pick.tail)) ?_ | apply HSub.drop))) ?_
            rintro x l' H' ⟨rfl, rfl⟩
            refine KBlock_h ?_
            refine KSeq_n ?_
            refine WC_seq ?_
            refine WC_seq ?_
            refine WC_region ?_
            refine WO_step rfl (S_pure rfl ?_)
            refine WO_nil ?_
            refine KSeq_n ?_
            refine WC_cond rfl (fun hb3 => ?_) (fun hb3 => ?_)
            ·
              try simp only [decide_eq_true_eq, decide_eq_false_iff_not, Bool.not_eq_true', Bool.not_eq_false', beq_iff_eq, bne_iff_ne, beq_eq_false_iff_ne, Int.ofNat_lt, Int.ofNat_le, Int.ofNat_inj, ne_eq, gt_iff_lt, ge_iff_le] at hb3
              refine WC_seq ?_
              refine WC_region ?_
              refine WO_step rfl (S_pure rfl ?_)
              refine WO_step rfl (S_pure rfl ?_)
              refine WO_step rfl (S_pure rfl ?_)
              first | refine WO_step rfl (S_eqS rfl rfl ?_) | refine WO_step rfl (S_pure rfl ?_)
              refine WO_step rfl (S_pure rfl ?_)
              refine WO_nil ?_
              refine KSeq_n ?_
              refine WC_ret ?_
              refine KSeq_r ?_
              refine KFn_r (ResL.tmp rfl ResL.nil) ?_
              refine ⟨_, HSub.refl, ?_⟩
              simp only [resV, hb3, if_true, Bool.false_eq_true, if_false]
              congr 1
              rw [beq_iff_eq]
              split <;> omega
            ·
              try simp only [decide_eq_true_eq, decide_eq_false_iff_not, Bool.not_eq_true', Bool.not_eq_false', beq_iff_eq, bne_iff_ne, beq_eq_false_iff_ne, Int.ofNat_lt, Int.ofNat_le, Int.ofNat_inj, ne_eq, gt_iff_lt, ge_iff_le] at hb3
              refine WC_skip ?_
              refine KSeq_n ?_
              refine WC_seq ?_
              refine WC_region ?_
              refine WO_step rfl (S_pure rfl ?_)
              refine WO_step rfl (S_pure rfl ?_)
              refine WO_step rfl (S_pure rfl ?_)
              first | refine WO_step rfl (S_eqS rfl rfl ?_) | refine WO_step rfl (S_pure rfl ?_)
              refine WO_step rfl (S_pure rfl ?_)
              refine WO_nil ?_
              refine KSeq_n ?_
              refine WC_ret ?_
              refine KFn_r (ResL.tmp rfl ResL.nil) ?_
              refine ⟨_, HSub.refl, ?_⟩
              simp only [resV, hb3, Bool.false_eq_true, if_false]
              congr 1
              rw [beq_iff_eq]
              split <;> omega
end Go.Proofs.Ytnffcpafglfebaa.AM
