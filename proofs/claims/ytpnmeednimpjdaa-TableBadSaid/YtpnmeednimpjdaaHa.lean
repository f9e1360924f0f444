/- Walks: what the functions compute. -/
import Derived.Test.YtpnmeednimpjdaaHw
import Derived.Test.YtpnmeednimpjdaaOb
import Derived.Test.YtpnmeednimpjdaaFlat
import Derived.KernelRfl
namespace Go.Proofs.Ytpnmeednimpjdaa.AM
open Go
set_option linter.unusedSimpArgs false
set_option linter.unusedVariables false
set_option maxRecDepth 4000

/-! ### Tables that are read back, bytes that come in -/
theorem wf_cut {r : Rec} (hok : okRec r) : wfRec (cutRec r) := by
  obtain ⟨h0, h1, h2, h3⟩ := hok
  have a1 := cut_size r.key 20
  have a2 := cut_size r.val.s 30
  simp [Lit.wf, IntKind.min, IntKind.max, IntKind.bits, IntKind.signed] at h1 h2
  refine ⟨?_, ?_, ?_, ?_⟩ <;> simp only [cutRec, cutRaw] <;> omega
theorem FBoolT : Flat Try.prog 4 TBool (fun _ => True) := by
  refine ⟨by kernel_rfl, by decide, ?_, fun _ => rfl⟩
  intro H enc W base spare held fuel cs x h
  obtain ⟨n, hn⟩ := trod_bool' Try.underlying4 h
  exact ⟨n, hn, trivial⟩
/-! ### Bytes that come in -/
theorem FByte : Flat Try.prog 5 TByte (fun _ => True) := by
  refine ⟨by kernel_rfl, by decide, ?_, fun _ => rfl⟩
  intro H enc W base spare held fuel cs x h
  obtain ⟨n, hn, hw⟩ := trod_int' Try.underlying5 h
  simp [Lit.wf, IntKind.min, IntKind.max, IntKind.bits, IntKind.signed] at hw
  refine ⟨UInt8.ofNat n.toNat, ?_, trivial⟩
  rw [hn]
  show [Value.int .u8 n] = [encByte (UInt8.ofNat n.toNat)]
  rw [← enc_B (by omega)]; congr 2; omega
theorem sp_oDecG {H : SH} {v : Value} {W : List SlT} (g : GoodT W) (hv : RD H v TByte (encT W)) : WF F X 12 [v] H (fun r H' => H' = H ∧ r = .tuple #[tabV W, .int .i64 0]) := by
  have hel := encT_len g.1 g.2.1 g.2.2
  refine (sp_oDec hv (by omega)).mono ?_
  rintro _ _ ⟨ts2, e2, rfl, rfl, hl2, hw2, hD2⟩
  rcases hD2 with ⟨rfl, hm2, hb2', hu2⟩ | ⟨_, _, hno⟩
  · rw [hu2 W g.isT]; exact ⟨rfl, rfl⟩
  · exact absurd g.isT (hno W)
theorem sp_ShortT {H : SH} {v : Value} {bs : List UInt8} {n : Nat} (hv : RD H v TByte bs) : WF F X f_loesslaw1_Short [v, .int .i64 n] H (fun r H' => H' = H ∧ ∀ H0 : SH, RD H0 v TByte bs → RD H0 r TByte (bs.take n)) := by
  refine WF_fn F_loesslaw1_Short ?_
  refine WC_seq ?_
  refine WC_region ?_
  refine WO_step rfl (S_pure rfl ?_)
  refine WO_nil ?_
  refine KSeq_n ?_
  refine WC_seq ?_
  refine WC_seq ?_
  refine WC_region ?_
  refine WO_step rfl (S_pure rfl ?_)
  first | refine WO_step rfl (S_pure rfl ?_) | refine WO_step rfl (S_lenS rfl rdA ?_)
  iterate 2 refine WO_step rfl (S_pure rfl ?_)
  refine WO_nil ?_
  refine KSeq_n ?_
  refine WC_cond rfl (fun hb1 => ?_) (fun hb1 => ?_)
  ·
   try simp only [bsT] at hb1
   refine WC_seq ?_
   refine WC_region ?_
   iterate 2 refine WO_step rfl (S_pure rfl ?_)
   refine WO_step rfl (S_cutV (a := 0) (b := n) rfl rdA (by rfl) LB.dflt (LB.mk rfl rfl) LB.dflt (by omega) (by omega) (by omega) ?_)
   refine WO_step rfl (S_pure rfl ?_)
   refine WO_nil ?_
   refine KSeq_n ?_
   refine WC_ret ?_
   refine KSeq_r ?_
   refine KFn_r (ResL.tmp rfl ResL.nil) ?_
   exact ⟨_, hsA, rfl, fun H0 hv => by have := hv.subSl (es := 1) (lo := 0) (n := n - 0) rfl (by omega); exact this⟩
  ·
   try simp only [bsT] at hb1
   refine WC_skip ?_
   refine KSeq_n ?_
   refine WC_seq ?_
   refine WC_region ?_
   iterate 2 refine WO_step rfl (S_pure rfl ?_)
   refine WO_nil ?_
   refine KSeq_n ?_
   refine WC_ret ?_
   refine KFn_r (ResL.tmp rfl ResL.nil) ?_
   exact ⟨_, hsA, rfl, fun H0 hv => by rw [List.take_of_length_le (by omega)]; exact hv⟩
/-! ### A store's bytes, a store opened -/
theorem sp_hBytes {H : SH} {ts : List SlT} {i i2 : Nat} {wk wr wt : SV} (g : GoodT ts) : WF F X f_hashstore_Store_Bytes [.pointer (some ⟨i, 0, none⟩)] (STO i ts i2 wk wr wt H) (fun r H' => ∃ u : SV, r = u.toV ∧ H' = SL u.toV TByte (encT ts) :: STO i ts i2 wk wr wt H) := by
  have hl := g.1
  unfold STO
  refine WF_fn F_hashstore_Store_Bytes ?_
  refine WC_seq ?_
  refine WC_region ?_
  refine WO_step rfl (S_pure rfl ?_)
  refine WO_nil ?_
  refine KSeq_n ?_
  refine WC_seq ?_
  refine WC_seq ?_
  refine WC_region ?_
  iterate 2 refine WO_step rfl (S_pure rfl ?_)
  refine WO_nil ?_
  refine KSeq_n ?_
  refine WC_cond rfl (fun hb1 => ?_) (fun hb1 => ?_)
  ·
   try simp only [bsT] at hb1
   exact absurd hb1 (by simp)
   --stop
  ·
   try simp only [bsT] at hb1
   refine WC_skip ?_
   refine KSeq_n ?_
   refine WC_seq ?_
   refine WC_region ?_
   iterate 3 refine WO_step rfl (S_pure rfl ?_)
   refine WO_step rfl (S_loadSOt hl rfl pkA ?_)
   refine WO_call rfl rfl rfl ?_
   refine (sp_oEnc hl g.2.1).mono ?_
   rintro _ _ ⟨u, rfl, _, rfl⟩
   rw [if_pos g.2.2]
   refine WO_step rfl (S_pure rfl ?_)
   refine WO_nil ?_
   refine KSeq_n ?_
   refine WC_ret ?_
   refine KFn_r (ResL.tmp rfl ResL.nil) ?_
   exact ⟨_, hsA, u, rfl, rfl⟩
theorem sp_hOpenOk {H : SH} {v : Value} {W : List SlT} (g : GoodT W) (hv : RD H v TByte (encT W)) : WF F X f_hashstore_Open [v] H (fun r H' => ∃ (i i2 : Nat) (wk wr wt : SV), r = .tuple #[.pointer (some ⟨i, 0, none⟩), .int .i64 0] ∧ H' = STO i W i2 wk wr wt H) := by
  have hl := g.1
  refine WF_fn F_hashstore_Open ?_
  refine WC_seq ?_
  refine WC_region ?_
  iterate 2 refine WO_step rfl (S_pure rfl ?_)
  refine WO_nil ?_
  refine KSeq_n ?_
  refine WC_seq ?_
  refine WC_region ?_
  refine WO_step rfl (S_pure rfl ?_)
  refine WO_call rfl rfl rfl ?_
  refine (sp_oDecG g hv).mono ?_
  rintro _ _ ⟨rfl, rfl⟩
  iterate 3 refine WO_step rfl (S_pure rfl ?_)
  refine WO_step rfl (S_new fun i4 => ?_)
  refine WO_step rfl (S_storeAll (T := TSlT) (xs := W) rfl rfl pkA (by rfl) (by rw [hl]; rfl) ?_)
  refine WO_step rfl (S_pure rfl ?_)
  refine WO_nil ?_
  refine KSeq_n ?_
  refine WC_seq ?_
  refine WC_seq ?_
  refine WC_region ?_
  refine WO_step rfl (S_pure rfl ?_)
  first | refine WO_step rfl (S_neS rfl rfl ?_) | refine WO_step rfl (S_pure rfl ?_)
  refine WO_nil ?_
  refine KSeq_n ?_
  refine WC_cond rfl (fun hb1 => ?_) (fun hb1 => ?_)
  ·
   try simp only [bsT] at hb1
   exact absurd trivial hb1
   --stop
  ·
   try simp only [bsT] at hb1
   refine WC_skip ?_
   refine KSeq_n ?_
   refine WC_seq ?_
   refine WC_region ?_
   refine WO_step rfl (S_loadAll (T := TSlT) (xs := W) rfl pkA (by rw [hl]; rfl) ?_)
   refine WO_call rfl rfl rfl ?_
   refine (sp_hNewOk (ts := W) hl g.2.1 g.2.2).mono ?_
   rintro _ _ ⟨i, i2, wk, wr, wt, rfl, rfl⟩
   iterate 4 refine WO_step rfl (S_pure rfl ?_)
   refine WO_nil ?_
   refine KSeq_n ?_
   refine WC_ret ?_
   refine KFn_r (ResL.tmp rfl (ResL.tmp rfl ResL.nil)) ?_
   exact ⟨STO i W i2 wk wr wt _, (by unfold STO; exact hsA), i, i2, wk, wr, wt, rfl, rfl⟩
theorem sp_hOpenNo {H : SH} {v : Value} {bs : List UInt8} (hv : RD H v TByte bs) (hb : bs.length ≤ 100000) (hno : ∀ ts', ¬ IsT bs ts') : WF F X f_hashstore_Open [v] H (fun r H' => r = .tuple #[.pointer none, .int .i64 8] ∧ H' = H) := by
  refine WF_fn F_hashstore_Open ?_
  refine WC_seq ?_
  refine WC_region ?_
  iterate 2 refine WO_step rfl (S_pure rfl ?_)
  refine WO_nil ?_
  refine KSeq_n ?_
  refine WC_seq ?_
  refine WC_region ?_
  refine WO_step rfl (S_pure rfl ?_)
  refine WO_call rfl rfl rfl ?_
  refine (sp_oDec hv hb).mono ?_
  rintro _ _ ⟨W, e, rfl, rfl, hl, hw, hD⟩
  rcases hD with ⟨rfl, hm, hb', _⟩ | ⟨rfl, rfl, _⟩
  · exact absurd ⟨hl, hw, hm, hb'⟩ (hno W)
  iterate 3 refine WO_step rfl (S_pure rfl ?_)
  refine WO_step rfl (S_new fun i4 => ?_)
  refine WO_step rfl (S_storeAll (T := TSlT) (xs := zeroT) rfl rfl pkA (by rfl) (by rw [hl]; rfl) ?_)
  refine WO_step rfl (S_pure rfl ?_)
  refine WO_nil ?_
  refine KSeq_n ?_
  refine WC_seq ?_
  refine WC_seq ?_
  refine WC_region ?_
  refine WO_step rfl (S_pure rfl ?_)
  first | refine WO_step rfl (S_neS rfl rfl ?_) | refine WO_step rfl (S_pure rfl ?_)
  refine WO_nil ?_
  refine KSeq_n ?_
  refine WC_cond rfl (fun hb1 => ?_) (fun hb1 => ?_)
  ·
   try simp only [bsT] at hb1
   refine WC_seq ?_
   refine WC_region ?_
   iterate 3 refine WO_step rfl (S_pure rfl ?_)
   refine WO_nil ?_
   refine KSeq_n ?_
   refine WC_ret ?_
   refine KSeq_r ?_
   refine KFn_r (ResL.tmp rfl (ResL.tmp rfl ResL.nil)) ?_
   exact ⟨_, hsA, rfl, rfl⟩
  ·
   try simp only [bsT] at hb1
   exact absurd hb1 (by decide)
   --stop
/-! ### A store of one record -/
theorem WF_sub {f : FuncId} {vs : List Value} {H : SH} {Q : Value → SH → Prop} (h : WF F X f vs H (fun r H' => ∃ H'', HSub H' H'' ∧ Q r H'')) : WF F X f vs H Q := WF_view (h.mono fun _ _ ⟨H'', hs, q⟩ => ⟨H'', fun _ ha => hs.hag ha, q⟩)
theorem fnd_no {k : ByteArray} : ∀ {l : List Rec}, (∀ r ∈ l, r.key ≠ k) → fnd l k = none
  | [], _ => rfl
  | x :: l, h => by
    rw [fnd, if_neg (h x (List.mem_cons_self ..))]
    exact fnd_no fun r hr => h r (List.mem_cons_of_mem _ hr)
theorem bkR_mem {ts : List SlT} {b : Nat} (hb : b < 8) {r : Rec} (h : r ∈ bkR ts b) : r ∈ tRecs ts 32 := by
  rw [← bkR_sub hb] at h
  exact List.mem_of_mem_drop (List.mem_of_mem_take h)
theorem likeL_mem {ts : List SlT} {k : ByteArray} {r : Rec} (h : r ∈ likeL ts k) : r ∈ tRecs ts 32 := by
  unfold likeL likeB at h
  rcases List.mem_append.1 h with h | h
  · exact bkR_mem (frst_lt _) (List.mem_filter.1 h).1
  · exact bkR_mem (oth_lt (frst_lt _)) (List.mem_filter.1 h).1
theorem bk_set {ts : List SlT} {p b : Nat} {x : SlT} : bk (ts.set p x) b = if 4 * b ≤ p ∧ p < 4 * b + 4 then (bk ts b).set (p - 4 * b) x else bk ts b := by
  unfold bk
  rw [List.drop_set]
  by_cases h : p < 4 * b
  · rw [if_pos h, if_neg (by omega)]
  · rw [if_neg h, List.take_set]
    by_cases h2 : p < 4 * b + 4
    · rw [if_pos (by omega)]
    · rw [if_neg (by omega), List.set_eq_of_length_le (by rw [List.length_take]; omega)]
theorem bk_mem {ts : List SlT} {b : Nat} {x : SlT} (h : x ∈ bk ts b) : x ∈ ts := List.mem_of_mem_drop (List.mem_of_mem_take h)
theorem bkR_one {r : Rec} {p b : Nat} (hb : b < 8) : bkR (zeroT.set p ⟨true, r⟩) b = if 4 * b ≤ p ∧ p < 4 * b + 4 then [r] else [] := by
  unfold bkR
  rw [bk_set]
  have hz : ∀ y ∈ bk zeroT b, y.has = false := fun y hy => zeroT_has y (bk_mem hy)
  split
  · rw [filter_set rfl hz (by rw [bk_len zeroT_len hb]; omega)]; rfl
  · rw [List.filter_eq_nil_iff.2 (fun y hy => by rw [hz y hy]; decide)]; rfl
theorem likeL_A : likeL tsA kA = [goneR kA] := by
  have h8 := frst_lt (kH kA)
  have ho := oth_lt (t := tagOf (kH kA)) h8
  have hne := oth_ne (t := tagOf (kH kA)) h8
  unfold likeL tsA
  generalize oth (frst (kH kA)) (tagOf (kH kA)) = o at ho hne ⊢
  rw [bkR_one h8, bkR_one ho, if_pos (by omega), if_neg (by omega)]
  simp [likeB, goneR]
theorem tRecs_A : tRecs tsA 32 = [goneR kA] := by rw [tRecs_all tsA_good.1, tsA_filter]; rfl
theorem fnd_AA : fnd (likeL tsA kA) kA = some (goneR kA) := by rw [likeL_A]; exact if_pos rfl
def kB : ByteArray := ⟨#[98]⟩
theorem fnd_AB : fnd (likeL tsA kB) kB = none := fnd_no fun r hr => by
  have := likeL_mem hr
  rw [tRecs_A] at this
  rw [List.mem_singleton.1 this]
  decide
theorem noNil : ∀ ts', ¬ IsT [] ts' := fun ts' h => by
  have := h.l4
  simp at this
theorem sp_BegunT {H : SH} : WF F X f_loesslaw19_Begun [] H (fun r H' => H' = H ∧ r = .bool true) := by
  refine WF_fn F_loesslaw19_Begun ?_
  refine WC_seq ?_
  refine WC_region ?_
  refine WO_step rfl (S_pure rfl ?_)
  refine WO_nil ?_
  refine KSeq_n ?_
  refine WC_seq ?_
  refine WC_region ?_
  refine WO_call rfl rfl rfl ?_
  refine sp_begunT.mono ?_
  rintro _ _ ⟨rfl, rfl⟩
  refine WO_step rfl (S_pure rfl ?_)
  refine WO_nil ?_
  refine KSeq_n ?_
  refine WC_ret ?_
  refine KFn_r (ResL.tmp rfl ResL.nil) ?_
  exact ⟨_, hsA, rfl, rfl⟩
theorem sp_begunH {H : SH} : WF F X f_loesslaw20_begun [] H (fun r H' => H' = H ∧ r = .bool true) := by
  refine WF_addNil (T := TBool) (WF_addNil (T := TByte) ?_)
  have gA := tsA_good
  have hl := tsA_good.1
  refine WF_fn F_loesslaw20_begun ?_
  refine WC_seq ?_
  refine WC_region ?_
  refine WO_step rfl (S_pure rfl ?_)
  refine WO_nil ?_
  refine KSeq_n ?_
  refine WC_seq ?_
  refine WC_region ?_
  refine WO_step rfl (S_pure rfl ?_)
  refine WO_step rfl (S_lit1 (T := TRec) (y := goneR kA) rfl rfl rfl rfl fun w13 => ?_)
  refine WO_call rfl rfl rfl ?_
  refine (sp_Lay (l := [goneR kA]) (turn := []) rdA rdA).mono ?_
  rintro _ _ ⟨rfl, rfl⟩
  rw [tsA_lay]
  refine WO_call rfl rfl rfl ?_
  refine (sp_OfT hl).mono ?_
  rintro _ _ ⟨rfl, rfl⟩
  refine WO_step rfl (S_new fun i1 => ?_)
  refine WO_step rfl (S_storeAll (T := TSlT) (xs := tsA) rfl rfl pkA (by rfl) (by rw [hl]; rfl) ?_)
  refine WO_nil ?_
  refine KSeq_n ?_
  refine WC_seq ?_
  refine WC_region ?_
  refine WO_step rfl (S_loadAll (T := TSlT) (xs := tsA) rfl pkA (by rw [hl]; rfl) ?_)
  refine WO_call rfl rfl rfl ?_
  refine (WF.weak (sp_hNewOk (H := SL (SV.toV .nil) TByte [] :: H) (ts := tsA) hl gA.2.1 gA.2.2) hsA).mono ?_
  rintro _ _ ⟨i, i2, wk, wr, wt, rfl, rfl⟩
  iterate 5 refine WO_step rfl (S_pure rfl ?_)
  refine WO_nil ?_
  refine KSeq_n ?_
  refine WC_seq ?_
  refine WC_seq ?_
  refine WC_region ?_
  refine WO_step rfl (S_pure rfl ?_)
  first | refine WO_step rfl (S_neS rfl rfl ?_) | refine WO_step rfl (S_pure rfl ?_)
  refine WO_step rfl (S_pure rfl ?_)
  refine WO_cases (t := 23) rfl (fun hg1 => ?_) (fun hg1 => ?_)
  ·
   try simp only [bsT] at hg1
   iterate 2 refine WO_off rfl ?_
   refine WO_step rfl (S_pure rfl ?_)
   refine WO_nil ?_
   refine KSeq_n ?_
   refine WC_cond rfl (fun _ => ?_) (fun h => ?_)
   rotate_left
   · exact absurd h (by decide)
   refine WC_seq ?_
   refine WC_region ?_
   refine WO_step rfl (S_pure rfl ?_)
   refine WO_nil ?_
   refine KSeq_n ?_
   refine WC_ret ?_
   refine KSeq_r ?_
   refine KFn_r (ResL.tmp rfl ResL.nil) ?_
   exact absurd trivial hg1
  ·
   try simp only [bsT] at hg1
   iterate 3 refine WO_step rfl (S_pure rfl ?_)
   refine WO_nil ?_
   refine KSeq_n ?_
   refine WC_cond rfl (fun hb1 => ?_) (fun hb1 => ?_)
   ·
    try simp only [bsT] at hb1
    refine WC_seq ?_
    refine WC_region ?_
    refine WO_step rfl (S_pure rfl ?_)
    refine WO_nil ?_
    refine KSeq_n ?_
    refine WC_ret ?_
    refine KSeq_r ?_
    refine KFn_r (ResL.tmp rfl ResL.nil) ?_
    exact absurd hb1 (by simp)
   ·
    try simp only [bsT] at hb1
    refine WC_skip ?_
    refine KSeq_n ?_
    refine WC_seq ?_
    refine WC_region ?_
    refine WO_step rfl (S_pure rfl ?_)
    refine WO_call rfl rfl rfl ?_
    refine (WF.weak (sp_hGet (H := SL (SV.toV .nil) TByte [] :: H) (i := i) (i2 := i2) (wk := wk) (wr := wr) (wt := wt) (ts := tsA) (k := kA) hl (by decide)) (by unfold STO; exact hsA)).mono ?_
    rintro _ _ ⟨rfl, rfl⟩
    rw [fnd_AA]
    iterate 3 refine WO_step rfl (S_pure rfl ?_)
    refine WO_step rfl (S_newT TRec rec0 rfl rfl fun i4 => ?_)
    refine WO_step rfl (S_storeT (T := TRec) (y := goneR kA) rfl rfl pkA (by rfl) (by rfl) ?_)
    refine WO_step rfl (S_pure rfl ?_)
    refine WO_nil ?_
    refine KSeq_n ?_
    refine WC_seq ?_
    refine WC_region ?_
    refine WO_step rfl (S_pure rfl ?_)
    refine WO_call rfl rfl rfl ?_
    refine (WF.weak (sp_hGet (H := OB i4 TRec (goneR kA) :: SL (SV.toV .nil) TByte [] :: H) (i := i) (i2 := i2) (wk := wk) (wr := wr) (wt := wt) (ts := tsA) (k := kB) hl (by decide)) (by unfold STO; exact hsA)).mono ?_
    rintro _ _ ⟨rfl, rfl⟩
    rw [fnd_AB]
    iterate 3 refine WO_step rfl (S_pure rfl ?_)
    refine WO_step rfl (S_newT TRec rec0 rfl rfl fun i6 => ?_)
    refine WO_step rfl (S_storeT (T := TRec) (y := rec0) rfl rfl pkA (by rfl) (by rfl) ?_)
    refine WO_step rfl (S_pure rfl ?_)
    refine WO_nil ?_
    refine KSeq_n ?_
    refine WC_seq ?_
    refine WC_region ?_
    refine WO_step rfl (S_pure rfl ?_)
    refine WO_call rfl rfl rfl ?_
    refine (WF.weak (sp_hBytes (H := OB i4 TRec (goneR kA) :: SL (SV.toV .nil) TByte [] :: H) (i := i) (i2 := i2) (wk := wk) (wr := wr) (wt := wt) (ts := tsA) gA) (by unfold STO; exact hsA)).mono ?_
    rintro _ _ ⟨u, rfl, rfl⟩
    refine WO_call rfl rfl rfl ?_
    refine (sp_hOpenOk gA rdA).mono ?_
    rintro _ _ ⟨i', i2', wk', wr', wt', rfl, rfl⟩
    iterate 5 refine WO_step rfl (S_pure rfl ?_)
    refine WO_nil ?_
    refine KSeq_n ?_
    refine WC_seq ?_
    refine WC_region ?_
    refine WO_call rfl rfl rfl ?_
    refine (WF.weak (sp_hOpenNo (H := SL (SV.toV .nil) TByte [] :: STO i' tsA i2' wk' wr' wt' (STO i tsA i2 wk wr wt (OB i4 TRec (goneR kA) :: H))) (bs := []) rdA (by simp) noNil) (by unfold STO; exact hsA)).mono ?_
    rintro _ _ ⟨rfl, rfl⟩
    iterate 5 refine WO_step rfl (S_pure rfl ?_)
    refine WO_nil ?_
    refine KSeq_n ?_
    refine WC_seq ?_
    refine WC_region ?_
    refine WO_call rfl rfl rfl ?_
    refine sp_BegunT.mono ?_
    rintro _ _ ⟨rfl, rfl⟩
    refine WO_step rfl (S_pure rfl ?_)
    refine WO_cases (t := 48) rfl (fun hg2 => ?_) (fun hg2 => ?_)
    ·
     try simp only [bsT] at hg2
     iterate 3 refine WO_step rfl (S_pure rfl ?_)
     refine WO_cases (t := 51) rfl (fun hg3 => ?_) (fun hg3 => ?_)
     ·
      try simp only [bsT] at hg3
      refine WO_step rfl (S_pure rfl ?_)
      refine WO_step rfl (S_loadO rfl pkA (by rfl) (by rfl) ?_)
      iterate 2 refine WO_step rfl (S_pure rfl ?_)
      refine WO_cases (t := 55) rfl (fun hg4 => ?_) (fun hg4 => ?_)
      ·
       try simp only [bsT] at hg4
       iterate 4 refine WO_step rfl (S_pure rfl ?_)
       refine WO_cases (t := 59) rfl (fun hg5 => ?_) (fun hg5 => ?_)
       ·
        try simp only [bsT] at hg5
        refine WO_step rfl (S_pure rfl ?_)
        refine WO_call rfl rfl rfl ?_
        refine (WF.weak (sp_hReads (H := STO i' tsA i2' wk' wr' wt' (OB i4 TRec (goneR kA) :: H)) (i := i) (i2 := i2) (wk := wk) (wr := wr) (wt := wt) (ts := tsA) (k := kA) hl (by decide)) (by unfold STO; exact hsA)).mono ?_
        rintro _ _ ⟨rfl, rfl⟩
        rw [likeL_A]
        first | refine WO_step rfl (S_eqS rfl rfl ?_) | refine WO_step rfl (S_pure rfl ?_)
        iterate 2 refine WO_step rfl (S_pure rfl ?_)
        refine WO_cases (t := 64) rfl (fun hg6 => ?_) (fun hg6 => ?_)
        ·
         try simp only [bsT] at hg6
         refine WO_step rfl (S_pure rfl ?_)
         refine WO_call rfl rfl rfl ?_
         refine (sp_hLen (H := STO i' tsA i2' wk' wr' wt' (OB i4 TRec (goneR kA) :: H)) (i := i) (i2 := i2) (wk := wk) (wr := wr) (wt := wt) (ts := tsA) hl).mono ?_
         rintro _ _ ⟨rfl, rfl⟩
         rw [tRecs_A]
         first | refine WO_step rfl (S_eqS rfl rfl ?_) | refine WO_step rfl (S_pure rfl ?_)
         iterate 2 refine WO_step rfl (S_pure rfl ?_)
         refine WO_cases (t := 69) rfl (fun hg7 => ?_) (fun hg7 => ?_)
         ·
          try simp only [bsT] at hg7
          refine WO_step rfl (S_pure rfl ?_)
          first | refine WO_step rfl (S_eqS rfl rfl ?_) | refine WO_step rfl (S_pure rfl ?_)
          iterate 2 refine WO_step rfl (S_pure rfl ?_)
          refine WO_cases (t := 73) rfl (fun hg8 => ?_) (fun hg8 => ?_)
          ·
           try simp only [bsT] at hg8
           refine WO_step rfl (S_pure rfl ?_)
           refine WO_call rfl rfl rfl ?_
           refine (WF.weak (sp_hLen (H := STO i tsA i2 wk wr wt (OB i4 TRec (goneR kA) :: H)) (i := i') (i2 := i2') (wk := wk') (wr := wr') (wt := wt') (ts := tsA) hl) (by unfold STO; exact hsA)).mono ?_
           rintro _ _ ⟨rfl, rfl⟩
           rw [tRecs_A]
           first | refine WO_step rfl (S_eqS rfl rfl ?_) | refine WO_step rfl (S_pure rfl ?_)
           iterate 2 refine WO_step rfl (S_pure rfl ?_)
           refine WO_cases (t := 78) rfl (fun hg9 => ?_) (fun hg9 => ?_)
           ·
            try simp only [bsT] at hg9
            refine WO_step rfl (S_pure rfl ?_)
            first | refine WO_step rfl (S_eqS rfl rfl ?_) | refine WO_step rfl (S_pure rfl ?_)
            iterate 2 refine WO_step rfl (S_pure rfl ?_)
            refine WO_nil ?_
            refine KSeq_n ?_
            refine WC_ret ?_
            refine KFn_r (ResL.tmp rfl ResL.nil) ?_
            exact ⟨H, (by unfold STO; exact hsA), rfl, rfl⟩
           ·
            try simp only [bsT] at hg9
            iterate 2 refine WO_off rfl ?_
            iterate 2 refine WO_step rfl (S_pure rfl ?_)
            refine WO_nil ?_
            refine KSeq_n ?_
            refine WC_ret ?_
            refine KFn_r (ResL.tmp rfl ResL.nil) ?_
            exfalso
            first
              | exact hg9 rfl
              | exact hg9 trivial
              | exact hg8 rfl
              | exact hg8 trivial
              | exact hg7 rfl
              | exact hg7 trivial
              | exact hg6 rfl
              | exact hg6 trivial
              | exact hg5 rfl
              | exact hg5 trivial
              | exact hg4 rfl
              | exact hg4 trivial
              | exact hg3 rfl
              | exact hg3 trivial
              | exact hg2 rfl
              | exact hg2 trivial
              | exact absurd hg9 (by decide)
              | exact absurd hg9 (by simp)
              | exact absurd hg8 (by decide)
              | exact absurd hg8 (by simp)
              | exact absurd hg7 (by decide)
              | exact absurd hg7 (by simp)
              | exact absurd hg6 (by decide)
              | exact absurd hg6 (by simp)
              | exact absurd hg5 (by decide)
              | exact absurd hg5 (by simp)
              | exact absurd hg4 (by decide)
              | exact absurd hg4 (by simp)
              | exact absurd hg3 (by decide)
              | exact absurd hg3 (by simp)
              | exact absurd hg2 (by decide)
              | exact absurd hg2 (by simp)
          ·
           try simp only [bsT] at hg8
           iterate 3 refine WO_off rfl ?_
           iterate 2 refine WO_step rfl (S_pure rfl ?_)
           iterate 2 refine WO_off rfl ?_
           iterate 2 refine WO_step rfl (S_pure rfl ?_)
           refine WO_nil ?_
           refine KSeq_n ?_
           refine WC_ret ?_
           refine KFn_r (ResL.tmp rfl ResL.nil) ?_
           exfalso
           first
             | exact hg9 rfl
             | exact hg9 trivial
             | exact hg8 rfl
             | exact hg8 trivial
             | exact hg7 rfl
             | exact hg7 trivial
             | exact hg6 rfl
             | exact hg6 trivial
             | exact hg5 rfl
             | exact hg5 trivial
             | exact hg4 rfl
             | exact hg4 trivial
             | exact hg3 rfl
             | exact hg3 trivial
             | exact hg2 rfl
             | exact hg2 trivial
             | exact absurd hg9 (by decide)
             | exact absurd hg9 (by simp)
             | exact absurd hg8 (by decide)
             | exact absurd hg8 (by simp)
             | exact absurd hg7 (by decide)
             | exact absurd hg7 (by simp)
             | exact absurd hg6 (by decide)
             | exact absurd hg6 (by simp)
             | exact absurd hg5 (by decide)
             | exact absurd hg5 (by simp)
             | exact absurd hg4 (by decide)
             | exact absurd hg4 (by simp)
             | exact absurd hg3 (by decide)
             | exact absurd hg3 (by simp)
             | exact absurd hg2 (by decide)
             | exact absurd hg2 (by simp)
         ·
          try simp only [bsT] at hg7
          iterate 2 refine WO_off rfl ?_
          iterate 2 refine WO_step rfl (S_pure rfl ?_)
          iterate 3 refine WO_off rfl ?_
          iterate 2 refine WO_step rfl (S_pure rfl ?_)
          iterate 2 refine WO_off rfl ?_
          iterate 2 refine WO_step rfl (S_pure rfl ?_)
          refine WO_nil ?_
          refine KSeq_n ?_
          refine WC_ret ?_
          refine KFn_r (ResL.tmp rfl ResL.nil) ?_
          exfalso
          first
            | exact hg9 rfl
            | exact hg9 trivial
            | exact hg8 rfl
            | exact hg8 trivial
            | exact hg7 rfl
            | exact hg7 trivial
            | exact hg6 rfl
            | exact hg6 trivial
            | exact hg5 rfl
            | exact hg5 trivial
            | exact hg4 rfl
            | exact hg4 trivial
            | exact hg3 rfl
            | exact hg3 trivial
            | exact hg2 rfl
            | exact hg2 trivial
            | exact absurd hg9 (by decide)
            | exact absurd hg9 (by simp)
            | exact absurd hg8 (by decide)
            | exact absurd hg8 (by simp)
            | exact absurd hg7 (by decide)
            | exact absurd hg7 (by simp)
            | exact absurd hg6 (by decide)
            | exact absurd hg6 (by simp)
            | exact absurd hg5 (by decide)
            | exact absurd hg5 (by simp)
            | exact absurd hg4 (by decide)
            | exact absurd hg4 (by simp)
            | exact absurd hg3 (by decide)
            | exact absurd hg3 (by simp)
            | exact absurd hg2 (by decide)
            | exact absurd hg2 (by simp)
        ·
         try simp only [bsT] at hg6
         iterate 3 refine WO_off rfl ?_
         iterate 2 refine WO_step rfl (S_pure rfl ?_)
         iterate 2 refine WO_off rfl ?_
         iterate 2 refine WO_step rfl (S_pure rfl ?_)
         iterate 3 refine WO_off rfl ?_
         iterate 2 refine WO_step rfl (S_pure rfl ?_)
         iterate 2 refine WO_off rfl ?_
         iterate 2 refine WO_step rfl (S_pure rfl ?_)
         refine WO_nil ?_
         refine KSeq_n ?_
         refine WC_ret ?_
         refine KFn_r (ResL.tmp rfl ResL.nil) ?_
         exfalso
         first
           | exact hg9 rfl
           | exact hg9 trivial
           | exact hg8 rfl
           | exact hg8 trivial
           | exact hg7 rfl
           | exact hg7 trivial
           | exact hg6 rfl
           | exact hg6 trivial
           | exact hg5 rfl
           | exact hg5 trivial
           | exact hg4 rfl
           | exact hg4 trivial
           | exact hg3 rfl
           | exact hg3 trivial
           | exact hg2 rfl
           | exact hg2 trivial
           | exact absurd hg9 (by decide)
           | exact absurd hg9 (by simp)
           | exact absurd hg8 (by decide)
           | exact absurd hg8 (by simp)
           | exact absurd hg7 (by decide)
           | exact absurd hg7 (by simp)
           | exact absurd hg6 (by decide)
           | exact absurd hg6 (by simp)
           | exact absurd hg5 (by decide)
           | exact absurd hg5 (by simp)
           | exact absurd hg4 (by decide)
           | exact absurd hg4 (by simp)
           | exact absurd hg3 (by decide)
           | exact absurd hg3 (by simp)
           | exact absurd hg2 (by decide)
           | exact absurd hg2 (by simp)
       ·
        try simp only [bsT] at hg5
        iterate 3 refine WO_off rfl ?_
        iterate 2 refine WO_step rfl (S_pure rfl ?_)
        iterate 3 refine WO_off rfl ?_
        iterate 2 refine WO_step rfl (S_pure rfl ?_)
        iterate 2 refine WO_off rfl ?_
        iterate 2 refine WO_step rfl (S_pure rfl ?_)
        iterate 3 refine WO_off rfl ?_
        iterate 2 refine WO_step rfl (S_pure rfl ?_)
        iterate 2 refine WO_off rfl ?_
        iterate 2 refine WO_step rfl (S_pure rfl ?_)
        refine WO_nil ?_
        refine KSeq_n ?_
        refine WC_ret ?_
        refine KFn_r (ResL.tmp rfl ResL.nil) ?_
        exfalso
        first
          | exact hg9 rfl
          | exact hg9 trivial
          | exact hg8 rfl
          | exact hg8 trivial
          | exact hg7 rfl
          | exact hg7 trivial
          | exact hg6 rfl
          | exact hg6 trivial
          | exact hg5 rfl
          | exact hg5 trivial
          | exact hg4 rfl
          | exact hg4 trivial
          | exact hg3 rfl
          | exact hg3 trivial
          | exact hg2 rfl
          | exact hg2 trivial
          | exact absurd hg9 (by decide)
          | exact absurd hg9 (by simp)
          | exact absurd hg8 (by decide)
          | exact absurd hg8 (by simp)
          | exact absurd hg7 (by decide)
          | exact absurd hg7 (by simp)
          | exact absurd hg6 (by decide)
          | exact absurd hg6 (by simp)
          | exact absurd hg5 (by decide)
          | exact absurd hg5 (by simp)
          | exact absurd hg4 (by decide)
          | exact absurd hg4 (by simp)
          | exact absurd hg3 (by decide)
          | exact absurd hg3 (by simp)
          | exact absurd hg2 (by decide)
          | exact absurd hg2 (by simp)
      ·
       try simp only [bsT] at hg4
       iterate 2 refine WO_off rfl ?_
       iterate 2 refine WO_step rfl (S_pure rfl ?_)
       iterate 3 refine WO_off rfl ?_
       iterate 2 refine WO_step rfl (S_pure rfl ?_)
       iterate 3 refine WO_off rfl ?_
       iterate 2 refine WO_step rfl (S_pure rfl ?_)
       iterate 2 refine WO_off rfl ?_
       iterate 2 refine WO_step rfl (S_pure rfl ?_)
       iterate 3 refine WO_off rfl ?_
       iterate 2 refine WO_step rfl (S_pure rfl ?_)
       iterate 2 refine WO_off rfl ?_
       iterate 2 refine WO_step rfl (S_pure rfl ?_)
       refine WO_nil ?_
       refine KSeq_n ?_
       refine WC_ret ?_
       refine KFn_r (ResL.tmp rfl ResL.nil) ?_
       exfalso
       first
         | exact hg9 rfl
         | exact hg9 trivial
         | exact hg8 rfl
         | exact hg8 trivial
         | exact hg7 rfl
         | exact hg7 trivial
         | exact hg6 rfl
         | exact hg6 trivial
         | exact hg5 rfl
         | exact hg5 trivial
         | exact hg4 rfl
         | exact hg4 trivial
         | exact hg3 rfl
         | exact hg3 trivial
         | exact hg2 rfl
         | exact hg2 trivial
         | exact absurd hg9 (by decide)
         | exact absurd hg9 (by simp)
         | exact absurd hg8 (by decide)
         | exact absurd hg8 (by simp)
         | exact absurd hg7 (by decide)
         | exact absurd hg7 (by simp)
         | exact absurd hg6 (by decide)
         | exact absurd hg6 (by simp)
         | exact absurd hg5 (by decide)
         | exact absurd hg5 (by simp)
         | exact absurd hg4 (by decide)
         | exact absurd hg4 (by simp)
         | exact absurd hg3 (by decide)
         | exact absurd hg3 (by simp)
         | exact absurd hg2 (by decide)
         | exact absurd hg2 (by simp)
     ·
      try simp only [bsT] at hg3
      iterate 2 refine WO_off rfl ?_
      iterate 2 refine WO_step rfl (S_pure rfl ?_)
      iterate 2 refine WO_off rfl ?_
      iterate 2 refine WO_step rfl (S_pure rfl ?_)
      iterate 3 refine WO_off rfl ?_
      iterate 2 refine WO_step rfl (S_pure rfl ?_)
      iterate 3 refine WO_off rfl ?_
      iterate 2 refine WO_step rfl (S_pure rfl ?_)
      iterate 2 refine WO_off rfl ?_
      iterate 2 refine WO_step rfl (S_pure rfl ?_)
      iterate 3 refine WO_off rfl ?_
      iterate 2 refine WO_step rfl (S_pure rfl ?_)
      iterate 2 refine WO_off rfl ?_
      iterate 2 refine WO_step rfl (S_pure rfl ?_)
      refine WO_nil ?_
      refine KSeq_n ?_
      refine WC_ret ?_
      refine KFn_r (ResL.tmp rfl ResL.nil) ?_
      exfalso
      first
        | exact hg9 rfl
        | exact hg9 trivial
        | exact hg8 rfl
        | exact hg8 trivial
        | exact hg7 rfl
        | exact hg7 trivial
        | exact hg6 rfl
        | exact hg6 trivial
        | exact hg5 rfl
        | exact hg5 trivial
        | exact hg4 rfl
        | exact hg4 trivial
        | exact hg3 rfl
        | exact hg3 trivial
        | exact hg2 rfl
        | exact hg2 trivial
        | exact absurd hg9 (by decide)
        | exact absurd hg9 (by simp)
        | exact absurd hg8 (by decide)
        | exact absurd hg8 (by simp)
        | exact absurd hg7 (by decide)
        | exact absurd hg7 (by simp)
        | exact absurd hg6 (by decide)
        | exact absurd hg6 (by simp)
        | exact absurd hg5 (by decide)
        | exact absurd hg5 (by simp)
        | exact absurd hg4 (by decide)
        | exact absurd hg4 (by simp)
        | exact absurd hg3 (by decide)
        | exact absurd hg3 (by simp)
        | exact absurd hg2 (by decide)
        | exact absurd hg2 (by simp)
    ·
     try simp only [bsT] at hg2
     refine WO_off rfl ?_
     iterate 2 refine WO_step rfl (S_pure rfl ?_)
     iterate 2 refine WO_off rfl ?_
     iterate 2 refine WO_step rfl (S_pure rfl ?_)
     iterate 2 refine WO_off rfl ?_
     iterate 2 refine WO_step rfl (S_pure rfl ?_)
     iterate 3 refine WO_off rfl ?_
     iterate 2 refine WO_step rfl (S_pure rfl ?_)
     iterate 3 refine WO_off rfl ?_
     iterate 2 refine WO_step rfl (S_pure rfl ?_)
     iterate 2 refine WO_off rfl ?_
     iterate 2 refine WO_step rfl (S_pure rfl ?_)
     iterate 3 refine WO_off rfl ?_
     iterate 2 refine WO_step rfl (S_pure rfl ?_)
     iterate 2 refine WO_off rfl ?_
     iterate 2 refine WO_step rfl (S_pure rfl ?_)
     refine WO_nil ?_
     refine KSeq_n ?_
     refine WC_ret ?_
     refine KFn_r (ResL.tmp rfl ResL.nil) ?_
     exfalso
     first
       | exact hg9 rfl
       | exact hg9 trivial
       | exact hg8 rfl
       | exact hg8 trivial
       | exact hg7 rfl
       | exact hg7 trivial
       | exact hg6 rfl
       | exact hg6 trivial
       | exact hg5 rfl
       | exact hg5 trivial
       | exact hg4 rfl
       | exact hg4 trivial
       | exact hg3 rfl
       | exact hg3 trivial
       | exact hg2 rfl
       | exact hg2 trivial
       | exact absurd hg9 (by decide)
       | exact absurd hg9 (by simp)
       | exact absurd hg8 (by decide)
       | exact absurd hg8 (by simp)
       | exact absurd hg7 (by decide)
       | exact absurd hg7 (by simp)
       | exact absurd hg6 (by decide)
       | exact absurd hg6 (by simp)
       | exact absurd hg5 (by decide)
       | exact absurd hg5 (by simp)
       | exact absurd hg4 (by decide)
       | exact absurd hg4 (by simp)
       | exact absurd hg3 (by decide)
       | exact absurd hg3 (by simp)
       | exact absurd hg2 (by decide)
       | exact absurd hg2 (by simp)
/-! ### The law TableNone -/
theorem law_TableNone {H : SH} : WF F X f_loesslaw20_TableNone [] H (fun v _ => v = .bool true) := by
  have hl := zeroT_len
  refine WF_fn F_loesslaw20_TableNone ?_
  refine WC_seq ?_
  refine WC_region ?_
  refine WO_step rfl (S_pure rfl ?_)
  refine WO_nil ?_
  refine KSeq_n ?_
  refine WC_seq ?_
  refine WC_region ?_
  refine WO_step rfl (S_pure rfl ?_)
  refine WO_nil ?_
  refine KSeq_n ?_
  refine WC_seq ?_
  refine WC_region ?_
  refine WO_step rfl (S_pure rfl ?_)
  refine WO_call rfl rfl rfl ?_
  refine sp_hGetNil.mono ?_
  rintro _ _ ⟨rfl, rfl⟩
  iterate 3 refine WO_step rfl (S_pure rfl ?_)
  refine WO_step rfl (S_newT TRec rec0 rfl rfl fun i2 => ?_)
  refine WO_step rfl (S_storeT (T := TRec) (y := rec0) rfl rfl pkA (by rfl) (by rfl) ?_)
  refine WO_step rfl (S_pure rfl ?_)
  refine WO_nil ?_
  refine KSeq_n ?_
  refine WC_seq ?_
  refine WC_region ?_
  refine WO_step rfl (S_pureE (v := tabV zeroT) rfl rfl ?_)
  refine WO_call rfl rfl rfl ?_
  refine (sp_hNewOk (ts := zeroT) hl zeroT_wf zeroT_may).mono ?_
  rintro _ _ ⟨i, j2, wk, wr, wt, rfl, rfl⟩
  iterate 5 refine WO_step rfl (S_pure rfl ?_)
  refine WO_nil ?_
  refine KSeq_n ?_
  refine WC_seq ?_
  refine WC_region ?_
  refine WO_call rfl rfl rfl ?_
  refine sp_begunH.mono ?_
  rintro _ _ ⟨rfl, rfl⟩
  refine WO_step rfl (S_pure rfl ?_)
  refine WO_cases (t := 17) rfl (fun hg1 => ?_) (fun hg1 => ?_)
  ·
   try simp only [bsT] at hg1
   iterate 4 refine WO_step rfl (S_pure rfl ?_)
   refine WO_cases (t := 21) rfl (fun hg2 => ?_) (fun hg2 => ?_)
   ·
    try simp only [bsT] at hg2
    refine WO_step rfl (S_pure rfl ?_)
    refine WO_call rfl rfl rfl ?_
    refine sp_hReadsNil.mono ?_
    rintro _ _ ⟨rfl, rfl⟩
    first | refine WO_step rfl (S_eqS rfl rfl ?_) | refine WO_step rfl (S_pure rfl ?_)
    iterate 2 refine WO_step rfl (S_pure rfl ?_)
    refine WO_cases (t := 26) rfl (fun hg3 => ?_) (fun hg3 => ?_)
    ·
     try simp only [bsT] at hg3
     refine WO_step rfl (S_pure rfl ?_)
     refine WO_call rfl rfl rfl ?_
     refine sp_hListNil.mono ?_
     rintro _ _ ⟨rfl, rfl⟩
     first | refine WO_step rfl (S_pure rfl ?_) | refine WO_step rfl (S_lenS rfl rdA ?_)
     first | refine WO_step rfl (S_eqS rfl rfl ?_) | refine WO_step rfl (S_pure rfl ?_)
     iterate 2 refine WO_step rfl (S_pure rfl ?_)
     refine WO_cases (t := 32) rfl (fun hg4 => ?_) (fun hg4 => ?_)
     ·
      try simp only [bsT] at hg4
      refine WO_step rfl (S_pure rfl ?_)
      refine WO_call rfl rfl rfl ?_
      refine sp_hBytesNil.mono ?_
      rintro _ _ ⟨rfl, rfl⟩
      first | refine WO_step rfl (S_pure rfl ?_) | refine WO_step rfl (S_lenS rfl rdA ?_)
      first | refine WO_step rfl (S_eqS rfl rfl ?_) | refine WO_step rfl (S_pure rfl ?_)
      iterate 2 refine WO_step rfl (S_pure rfl ?_)
      refine WO_cases (t := 38) rfl (fun hg5 => ?_) (fun hg5 => ?_)
      ·
       try simp only [bsT] at hg5
       refine WO_step rfl (S_pure rfl ?_)
       refine WO_call rfl rfl rfl ?_
       refine sp_hLenNil.mono ?_
       rintro _ _ ⟨rfl, rfl⟩
       first | refine WO_step rfl (S_eqS rfl rfl ?_) | refine WO_step rfl (S_pure rfl ?_)
       iterate 2 refine WO_step rfl (S_pure rfl ?_)
       refine WO_cases (t := 43) rfl (fun hg6 => ?_) (fun hg6 => ?_)
       ·
        try simp only [bsT] at hg6
        refine WO_step rfl (S_pure rfl ?_)
        first | refine WO_step rfl (S_eqS rfl rfl ?_) | refine WO_step rfl (S_pure rfl ?_)
        iterate 2 refine WO_step rfl (S_pure rfl ?_)
        refine WO_cases (t := 47) rfl (fun hg7 => ?_) (fun hg7 => ?_)
        ·
         try simp only [bsT] at hg7
         refine WO_step rfl (S_pure rfl ?_)
         refine WO_call rfl rfl rfl ?_
         refine (sp_hLen (i := i) (i2 := j2) (wk := wk) (wr := wr) (wt := wt) (ts := zeroT) hl).mono ?_
         rintro _ _ ⟨rfl, rfl⟩
         first | refine WO_step rfl (S_eqS rfl rfl ?_) | refine WO_step rfl (S_pure rfl ?_)
         iterate 2 refine WO_step rfl (S_pure rfl ?_)
         refine WO_nil ?_
         refine KSeq_n ?_
         refine WC_ret ?_
         refine KFn_r (ResL.tmp rfl ResL.nil) ?_
         have e : tRecs zeroT 32 = [] := by rw [tRecs_all hl, List.filter_eq_nil_iff.2 (fun y hy => by rw [zeroT_has y hy]; decide)]; rfl
         rw [e]
         exact ⟨_, HSub.refl, rfl⟩
        ·
         try simp only [bsT] at hg7
         iterate 3 refine WO_off rfl ?_
         iterate 2 refine WO_step rfl (S_pure rfl ?_)
         refine WO_nil ?_
         refine KSeq_n ?_
         refine WC_ret ?_
         refine KFn_r (ResL.tmp rfl ResL.nil) ?_
         exfalso
         first
           | exact hg7 rfl
           | exact hg6 rfl
           | exact hg5 rfl
           | exact hg4 rfl
           | exact hg3 rfl
           | exact hg2 rfl
           | exact hg1 rfl
           | exact hg7 trivial
           | exact hg6 trivial
           | exact hg5 trivial
           | exact hg4 trivial
           | exact hg3 trivial
           | exact hg2 trivial
           | exact hg1 trivial
           | exact absurd hg7 (by simp)
           | exact absurd hg6 (by simp)
           | exact absurd hg5 (by simp)
           | exact absurd hg4 (by simp)
           | exact absurd hg3 (by simp)
           | exact absurd hg2 (by simp)
           | exact absurd hg1 (by simp)
       ·
        try simp only [bsT] at hg6
        iterate 2 refine WO_off rfl ?_
        iterate 2 refine WO_step rfl (S_pure rfl ?_)
        iterate 3 refine WO_off rfl ?_
        iterate 2 refine WO_step rfl (S_pure rfl ?_)
        refine WO_nil ?_
        refine KSeq_n ?_
        refine WC_ret ?_
        refine KFn_r (ResL.tmp rfl ResL.nil) ?_
        exfalso
        first
          | exact hg7 rfl
          | exact hg6 rfl
          | exact hg5 rfl
          | exact hg4 rfl
          | exact hg3 rfl
          | exact hg2 rfl
          | exact hg1 rfl
          | exact hg7 trivial
          | exact hg6 trivial
          | exact hg5 trivial
          | exact hg4 trivial
          | exact hg3 trivial
          | exact hg2 trivial
          | exact hg1 trivial
          | exact absurd hg7 (by simp)
          | exact absurd hg6 (by simp)
          | exact absurd hg5 (by simp)
          | exact absurd hg4 (by simp)
          | exact absurd hg3 (by simp)
          | exact absurd hg2 (by simp)
          | exact absurd hg1 (by simp)
      ·
       try simp only [bsT] at hg5
       iterate 3 refine WO_off rfl ?_
       iterate 2 refine WO_step rfl (S_pure rfl ?_)
       iterate 2 refine WO_off rfl ?_
       iterate 2 refine WO_step rfl (S_pure rfl ?_)
       iterate 3 refine WO_off rfl ?_
       iterate 2 refine WO_step rfl (S_pure rfl ?_)
       refine WO_nil ?_
       refine KSeq_n ?_
       refine WC_ret ?_
       refine KFn_r (ResL.tmp rfl ResL.nil) ?_
       exfalso
       first
         | exact hg7 rfl
         | exact hg6 rfl
         | exact hg5 rfl
         | exact hg4 rfl
         | exact hg3 rfl
         | exact hg2 rfl
         | exact hg1 rfl
         | exact hg7 trivial
         | exact hg6 trivial
         | exact hg5 trivial
         | exact hg4 trivial
         | exact hg3 trivial
         | exact hg2 trivial
         | exact hg1 trivial
         | exact absurd hg7 (by simp)
         | exact absurd hg6 (by simp)
         | exact absurd hg5 (by simp)
         | exact absurd hg4 (by simp)
         | exact absurd hg3 (by simp)
         | exact absurd hg2 (by simp)
         | exact absurd hg1 (by simp)
     ·
      try simp only [bsT] at hg4
      iterate 4 refine WO_off rfl ?_
      iterate 2 refine WO_step rfl (S_pure rfl ?_)
      iterate 3 refine WO_off rfl ?_
      iterate 2 refine WO_step rfl (S_pure rfl ?_)
      iterate 2 refine WO_off rfl ?_
      iterate 2 refine WO_step rfl (S_pure rfl ?_)
      iterate 3 refine WO_off rfl ?_
      iterate 2 refine WO_step rfl (S_pure rfl ?_)
      refine WO_nil ?_
      refine KSeq_n ?_
      refine WC_ret ?_
      refine KFn_r (ResL.tmp rfl ResL.nil) ?_
      exfalso
      first
        | exact hg7 rfl
        | exact hg6 rfl
        | exact hg5 rfl
        | exact hg4 rfl
        | exact hg3 rfl
        | exact hg2 rfl
        | exact hg1 rfl
        | exact hg7 trivial
        | exact hg6 trivial
        | exact hg5 trivial
        | exact hg4 trivial
        | exact hg3 trivial
        | exact hg2 trivial
        | exact hg1 trivial
        | exact absurd hg7 (by simp)
        | exact absurd hg6 (by simp)
        | exact absurd hg5 (by simp)
        | exact absurd hg4 (by simp)
        | exact absurd hg3 (by simp)
        | exact absurd hg2 (by simp)
        | exact absurd hg1 (by simp)
    ·
     try simp only [bsT] at hg3
     iterate 4 refine WO_off rfl ?_
     iterate 2 refine WO_step rfl (S_pure rfl ?_)
     iterate 4 refine WO_off rfl ?_
     iterate 2 refine WO_step rfl (S_pure rfl ?_)
     iterate 3 refine WO_off rfl ?_
     iterate 2 refine WO_step rfl (S_pure rfl ?_)
     iterate 2 refine WO_off rfl ?_
     iterate 2 refine WO_step rfl (S_pure rfl ?_)
     iterate 3 refine WO_off rfl ?_
     iterate 2 refine WO_step rfl (S_pure rfl ?_)
     refine WO_nil ?_
     refine KSeq_n ?_
     refine WC_ret ?_
     refine KFn_r (ResL.tmp rfl ResL.nil) ?_
     exfalso
     first
       | exact hg7 rfl
       | exact hg6 rfl
       | exact hg5 rfl
       | exact hg4 rfl
       | exact hg3 rfl
       | exact hg2 rfl
       | exact hg1 rfl
       | exact hg7 trivial
       | exact hg6 trivial
       | exact hg5 trivial
       | exact hg4 trivial
       | exact hg3 trivial
       | exact hg2 trivial
       | exact hg1 trivial
       | exact absurd hg7 (by simp)
       | exact absurd hg6 (by simp)
       | exact absurd hg5 (by simp)
       | exact absurd hg4 (by simp)
       | exact absurd hg3 (by simp)
       | exact absurd hg2 (by simp)
       | exact absurd hg1 (by simp)
   ·
    try simp only [bsT] at hg2
    iterate 3 refine WO_off rfl ?_
    iterate 2 refine WO_step rfl (S_pure rfl ?_)
    iterate 4 refine WO_off rfl ?_
    iterate 2 refine WO_step rfl (S_pure rfl ?_)
    iterate 4 refine WO_off rfl ?_
    iterate 2 refine WO_step rfl (S_pure rfl ?_)
    iterate 3 refine WO_off rfl ?_
    iterate 2 refine WO_step rfl (S_pure rfl ?_)
    iterate 2 refine WO_off rfl ?_
    iterate 2 refine WO_step rfl (S_pure rfl ?_)
    iterate 3 refine WO_off rfl ?_
    iterate 2 refine WO_step rfl (S_pure rfl ?_)
    refine WO_nil ?_
    refine KSeq_n ?_
    refine WC_ret ?_
    refine KFn_r (ResL.tmp rfl ResL.nil) ?_
    exfalso
    first
      | exact hg7 rfl
      | exact hg6 rfl
      | exact hg5 rfl
      | exact hg4 rfl
      | exact hg3 rfl
      | exact hg2 rfl
      | exact hg1 rfl
      | exact hg7 trivial
      | exact hg6 trivial
      | exact hg5 trivial
      | exact hg4 trivial
      | exact hg3 trivial
      | exact hg2 trivial
      | exact hg1 trivial
      | exact absurd hg7 (by simp)
      | exact absurd hg6 (by simp)
      | exact absurd hg5 (by simp)
      | exact absurd hg4 (by simp)
      | exact absurd hg3 (by simp)
      | exact absurd hg2 (by simp)
      | exact absurd hg1 (by simp)
  ·
   try simp only [bsT] at hg1
   iterate 2 refine WO_off rfl ?_
   iterate 2 refine WO_step rfl (S_pure rfl ?_)
   iterate 3 refine WO_off rfl ?_
   iterate 2 refine WO_step rfl (S_pure rfl ?_)
   iterate 4 refine WO_off rfl ?_
   iterate 2 refine WO_step rfl (S_pure rfl ?_)
   iterate 4 refine WO_off rfl ?_
   iterate 2 refine WO_step rfl (S_pure rfl ?_)
   iterate 3 refine WO_off rfl ?_
   iterate 2 refine WO_step rfl (S_pure rfl ?_)
   iterate 2 refine WO_off rfl ?_
   iterate 2 refine WO_step rfl (S_pure rfl ?_)
   iterate 3 refine WO_off rfl ?_
   iterate 2 refine WO_step rfl (S_pure rfl ?_)
   refine WO_nil ?_
   refine KSeq_n ?_
   refine WC_ret ?_
   refine KFn_r (ResL.tmp rfl ResL.nil) ?_
   exfalso
   first
     | exact hg7 rfl
     | exact hg6 rfl
     | exact hg5 rfl
     | exact hg4 rfl
     | exact hg3 rfl
     | exact hg2 rfl
     | exact hg1 rfl
     | exact hg7 trivial
     | exact hg6 trivial
     | exact hg5 trivial
     | exact hg4 trivial
     | exact hg3 trivial
     | exact hg2 trivial
     | exact hg1 trivial
     | exact absurd hg7 (by simp)
     | exact absurd hg6 (by simp)
     | exact absurd hg5 (by simp)
     | exact absurd hg4 (by simp)
     | exact absurd hg3 (by simp)
     | exact absurd hg2 (by simp)
     | exact absurd hg1 (by simp)
/-! ### The law TableBad -/
theorem wfT_set {ts : List SlT} {k : Nat} {z : SlT} (h : wfT ts) (hz : wfRec z.r) : wfT (ts.set k z) := fun y hy => by
  rcases List.mem_or_eq_of_mem_set hy with hy | rfl
  · exact h y hy
  · exact hz
theorem sp_hNewW {H : SH} {ts : List SlT} (hl : ts.length = 32) (hw : wfT ts) : WF F X 7 [tabV ts] H (fun r H' => H' = H ∧ ∃ p : Option _, r = .tuple #[.pointer p, .int .i64 (if mayTab ts = true then 0 else 1)] ∧ p.isSome = mayTab ts) := by
  cases hm : mayTab ts with
  | true =>
    refine WF_sub ((sp_hNewOk hl hw hm).mono ?_)
    rintro _ _ ⟨i, i2, wk, wr, wt, rfl, rfl⟩
    exact ⟨H, (by unfold STO; exact hsA), ⟨rfl, some _, rfl, rfl⟩⟩
  | false =>
    refine (sp_hNewNo hl hw hm).mono ?_
    rintro _ _ ⟨rfl, rfl⟩
    refine ⟨rfl, none, ?_, rfl⟩
    simp
theorem sp_hOpenW {H : SH} {v : Value} {bs : List UInt8} (ts : List SlT) (e : Int) (hts : (e = 0 ∧ GoodT ts ∧ bs = encT ts) ∨ (e = 8 ∧ ∀ ts', ¬ IsT bs ts')) (hv : RD H v TByte bs) (hb : bs.length ≤ 100000) : WF F X f_hashstore_Open [v] H (fun r H' => H' = H ∧ ∃ p : Option _, r = .tuple #[.pointer p, .int .i64 e] ∧ p.isSome = decide (e = 0)) := by
  rcases hts with ⟨rfl, g, rfl⟩ | ⟨rfl, hno⟩
  · refine WF_sub ((sp_hOpenOk g hv).mono ?_)
    rintro _ _ ⟨i, i2, wk, wr, wt, rfl, rfl⟩
    exact ⟨H, (by unfold STO; exact hsA), ⟨rfl, some _, rfl, rfl⟩⟩
  · refine (sp_hOpenNo hv hb hno).mono ?_
    rintro _ _ ⟨rfl, rfl⟩
    exact ⟨rfl, none, rfl, rfl⟩
theorem law_TableBad {H : SH} {v0 v1 v4 : Value} {l : List Rec} {turn : List Bool} {bs : List UInt8} {fr to : Int} (hv : RD H v0 TRec l) (hok : ∀ x ∈ l, okRec x) (ht : RD H v1 TBool turn) (_ : ∀ x ∈ turn, True) (hfr : (Lit.int .i64 fr).wf = true) (hto : (Lit.int .i64 to).wf = true) (hv4 : RD H v4 TByte bs) (_ : ∀ x ∈ bs, True) : WF F X f_loesslaw20_TableBad [v0, v1, .int .i64 fr, .int .i64 to, v4] H (fun v _ => v = .bool true) := by
  simp [Lit.wf, IntKind.min, IntKind.max, IntKind.bits, IntKind.signed] at hfr hto
  have hsl : (bs.take 50).length ≤ 50 := by simp; omega
  have g0 : GoodT (lay l turn) := lay_good (fun x hx => wf_cut (hok x hx)) turn
  generalize hW : lay l turn = W at g0
  have hl := g0.1
  have hw := g0.2.1
  have hcase : ∃ (ts : List SlT) (e : Int), (e = 0 ∧ GoodT ts ∧ bs.take 50 = encT ts) ∨ (e = 8 ∧ ∀ ts', ¬ IsT (bs.take 50) ts') := by
    by_cases h : ∃ ts', IsT (bs.take 50) ts'
    · obtain ⟨ts', h'⟩ := h; exact ⟨ts', 0, .inl ⟨rfl, ⟨h'.1, h'.2, h'.3⟩, h'.4⟩⟩
    · exact ⟨[], 8, .inr ⟨rfl, fun ts' ht => h ⟨ts', ht⟩⟩⟩
  obtain ⟨tsD, eD, hD⟩ := hcase
  refine WF_fn F_loesslaw20_TableBad ?_
  refine WC_seq ?_
  refine WC_region ?_
  refine WO_step rfl (S_pure rfl ?_)
  refine WO_nil ?_
  refine KSeq_n ?_
  refine WC_seq ?_
  refine WC_region ?_
  refine WO_call rfl rfl rfl ?_
  refine sp_begunH.mono ?_
  rintro _ _ ⟨rfl, rfl⟩
  refine WO_step rfl (S_pure rfl ?_)
  refine WO_nil ?_
  refine KSeq_n ?_
  refine WC_seq ?_
  refine WC_seq ?_
  refine WC_region ?_
  iterate 2 refine WO_step rfl (S_pure rfl ?_)
  refine WO_nil ?_
  refine KSeq_n ?_
  refine WC_cond rfl (fun hb1 => ?_) (fun hb1 => ?_)
  ·
   try simp only [bsT] at hb1
   exact absurd hb1 (by simp)
   --stop
  ·
   try simp only [bsT] at hb1
   refine WC_skip ?_
   refine KSeq_n ?_
   refine WC_seq ?_
   refine WC_seq ?_
   refine WC_region ?_
   iterate 3 refine WO_step rfl (S_pure rfl ?_)
   refine WO_cases (t := 26) rfl (fun hg1 => ?_) (fun hg1 => ?_)
   ·
    try simp only [bsT] at hg1
    iterate 2 refine WO_off rfl ?_
    refine WO_step rfl (S_pure rfl ?_)
    refine WO_nil ?_
    refine KSeq_n ?_
    refine WC_cond rfl (fun _ => ?_) (fun h => ?_)
    rotate_left
    · exact absurd h (by decide)
    refine WC_seq ?_
    refine WC_region ?_
    refine WO_step rfl (S_pure rfl ?_)
    refine WO_nil ?_
    refine KSeq_n ?_
    refine WC_ret ?_
    refine KSeq_r ?_
    refine KFn_r (ResL.tmp rfl ResL.nil) ?_
    exact ⟨_, HSub.refl, rfl⟩
   ·
    try simp only [bsT] at hg1
    iterate 3 refine WO_step rfl (S_pure rfl ?_)
    refine WO_nil ?_
    refine KSeq_n ?_
    refine WC_cond rfl (fun hb2 => ?_) (fun hb2 => ?_)
    ·
     try simp only [bsT] at hb2
     refine WC_seq ?_
     refine WC_region ?_
     refine WO_step rfl (S_pure rfl ?_)
     refine WO_nil ?_
     refine KSeq_n ?_
     refine WC_ret ?_
     refine KSeq_r ?_
     refine KFn_r (ResL.tmp rfl ResL.nil) ?_
     exact ⟨_, HSub.refl, rfl⟩
    ·
     try simp only [bsT] at hb2
     obtain ⟨fr, rfl⟩ : ∃ f : Nat, fr = (f : Int) := ⟨fr.toNat, by omega⟩
     obtain ⟨to, rfl⟩ : ∃ f : Nat, to = (f : Int) := ⟨to.toNat, by omega⟩
     obtain ⟨x, hx⟩ := get_of_lt (show fr % 32 < W.length by omega)
     have hwx := hw x (List.mem_of_getElem? hx)
     refine WC_skip ?_
     refine KSeq_n ?_
     refine WC_seq ?_
     refine WC_region ?_
     iterate 2 refine WO_step rfl (S_pure rfl ?_)
     refine WO_call rfl rfl rfl ?_
     refine (sp_Lay hv ht).mono ?_
     rintro _ _ ⟨rfl, rfl⟩
     rw [hW]
     refine WO_step rfl (S_new fun i12 => ?_)
     refine WO_step rfl (S_storeAll (T := TSlT) (xs := W) rfl rfl pkA (by rfl) (by rw [hl]; rfl) ?_)
     refine WO_nil ?_
     refine KSeq_n ?_
     refine WC_seq ?_
     refine WC_region ?_
     refine WO_step rfl (S_pure rfl ?_)
     refine WO_step rfl (S_remU (a := fr) (m := 32) rfl rfl (by omega) ?_)
     refine WO_step rfl (S_pure rfl ?_)
     refine WO_step rfl (S_remU (a := to) (m := 32) rfl rfl (by omega) ?_)
     iterate 2 refine WO_step rfl (S_pure rfl ?_)
     refine WO_nil ?_
     refine KSeq_n ?_
     refine WC_seq ?_
     refine WC_region ?_
     refine WO_step rfl (S_pure rfl ?_)
     refine WO_step rfl (S_quoN (a := to % 32) (m := 4) rfl rfl (by omega) (by omega) ?_)
     refine WO_step rfl (S_pure rfl ?_)
     refine WO_step rfl (S_remU (a := to % 32) (m := 4) rfl rfl (by omega) ?_)
     refine WO_step rfl (S_pure rfl ?_)
     refine WO_step rfl (S_quoN (a := fr % 32) (m := 4) rfl rfl (by omega) (by omega) ?_)
     refine WO_step rfl (S_pure rfl ?_)
     refine WO_step rfl (S_remU (a := fr % 32) (m := 4) rfl rfl (by omega) ?_)
     refine WO_step rfl (S_idxA (j := (fr % 32) / 4) rfl rfl rfl (by omega) ?_)
     refine WO_step rfl (S_idxA (j := (fr % 32) % 4) rfl rfl rfl (by omega) ?_)
     refine WO_step rfl (S_loadA (T := TSlT) (k := fr % 32) rfl pkA (by show _ = (fr % 32) * 6; omega) hx rfl rfl ?_)
     refine WO_step rfl (S_idxA (j := (to % 32) / 4) rfl rfl rfl (by omega) ?_)
     refine WO_step rfl (S_idxA (j := (to % 32) % 4) rfl rfl rfl (by omega) ?_)
     refine WO_step rfl (S_storeA (T := TSlT) (k := to % 32) (x := x) rfl rfl pkA (by show _ = (to % 32) * 6; omega) (by omega) (by rfl) rfl ?_)
     have hl' : (W.set (to % 32) x).length = 32 := by rw [List.length_set]; exact hl
     have hw' : wfT (W.set (to % 32) x) := wfT_set hw hwx
     generalize W.set (to % 32) x = W' at hl' hw'
     refine WO_nil ?_
     refine KSeq_n ?_
     refine WC_seq ?_
     refine WC_region ?_
     refine WO_step rfl (S_loadAll (T := TSlT) (xs := W') rfl pkA (by rw [hl']; rfl) ?_)
     refine WO_call rfl rfl rfl ?_
     refine (sp_OfT hl').mono ?_
     rintro _ _ ⟨rfl, rfl⟩
     refine WO_call rfl rfl rfl ?_
     refine (sp_hNewW hl' hw').mono ?_
     rintro _ _ ⟨rfl, p, rfl, hp⟩
     iterate 5 refine WO_step rfl (S_pure rfl ?_)
     refine WO_nil ?_
     refine KSeq_n ?_
     refine WC_seq ?_
     refine WC_seq ?_
     refine WC_region ?_
     refine WO_step rfl (S_pure rfl ?_)
     first | refine WO_step rfl (S_eqS rfl rfl ?_) | refine WO_step rfl (S_pure rfl ?_)
     refine WO_step rfl (S_loadAll (T := TSlT) (xs := W') rfl pkA (by rw [hl']; rfl) ?_)
     refine WO_call rfl rfl rfl ?_
     refine (sp_rMayT hl' hw'.small).mono ?_
     rintro _ _ ⟨rfl, rfl⟩
     iterate 2 refine WO_step rfl (S_pure rfl ?_)
     refine WO_cases (t := 61) rfl (fun hg2 => ?_) (fun hg2 => ?_)
     ·
      try simp only [bsT] at hg2
      iterate 10 refine WO_off rfl ?_
      refine WO_step rfl (S_pure rfl ?_)
      refine WO_nil ?_
      refine KSeq_n ?_
      refine WC_cond rfl (fun _ => ?_) (fun h => ?_)
      rotate_left
      · exact absurd h (by decide)
      refine WC_seq ?_
      refine WC_region ?_
      refine WO_step rfl (S_pure rfl ?_)
      refine WO_nil ?_
      refine KSeq_n ?_
      refine WC_ret ?_
      refine KSeq_r ?_
      refine KFn_r (ResL.tmp rfl ResL.nil) ?_
      exfalso
      revert hg2
      cases mayTab W' <;> simp
     ·
      try simp only [bsT] at hg2
      refine WO_step rfl (S_pure rfl ?_)
      first | refine WO_step rfl (S_neS rfl rfl ?_) | refine WO_step rfl (S_pure rfl ?_)
      refine WO_step rfl (S_pure rfl ?_)
      refine WO_cases (t := 64) rfl (fun hg3 => ?_) (fun hg3 => ?_)
      ·
       try simp only [bsT] at hg3
       refine WO_step rfl (S_pure rfl ?_)
       first | refine WO_step rfl (S_neS rfl rfl ?_) | refine WO_step rfl (S_pure rfl ?_)
       refine WO_step rfl (S_pure rfl ?_)
       refine WO_cases (t := 67) rfl (fun hg4 => ?_) (fun hg4 => ?_)
       ·
        try simp only [bsT] at hg4
        iterate 2 refine WO_off rfl ?_
        iterate 3 refine WO_step rfl (S_pure rfl ?_)
        refine WO_nil ?_
        refine KSeq_n ?_
        refine WC_cond rfl (fun _ => ?_) (fun h => ?_)
        rotate_left
        · exact absurd h (by decide)
        refine WC_seq ?_
        refine WC_region ?_
        refine WO_step rfl (S_pure rfl ?_)
        refine WO_nil ?_
        refine KSeq_n ?_
        refine WC_ret ?_
        refine KSeq_r ?_
        refine KFn_r (ResL.tmp rfl ResL.nil) ?_
        exfalso
        revert hg2 hg3 hg4
        cases mayTab W' <;> simp
       ·
        try simp only [bsT] at hg4
        refine WO_step rfl (S_pure rfl ?_)
        refine WO_step rfl (S_pureE (v := .bool p.isSome) (by cases p <;> rfl) rfl ?_)
        rw [hp]
        iterate 3 refine WO_step rfl (S_pure rfl ?_)
        refine WO_nil ?_
        refine KSeq_n ?_
        refine WC_cond rfl (fun hb3 => ?_) (fun hb3 => ?_)
        ·
         try simp only [bsT] at hb3
         refine WC_seq ?_
         refine WC_region ?_
         refine WO_step rfl (S_pure rfl ?_)
         refine WO_nil ?_
         refine KSeq_n ?_
         refine WC_ret ?_
         refine KSeq_r ?_
         refine KFn_r (ResL.tmp rfl ResL.nil) ?_
         exfalso
         revert hg2 hg3 hg4 hb3
         cases mayTab W' <;> simp
        ·
         try simp only [bsT] at hb3
         refine WC_skip ?_
         refine KSeq_n ?_
         refine WC_seq ?_
         refine WC_region ?_
         refine WO_step rfl (S_pure rfl ?_)
         refine WO_call rfl rfl rfl ?_
         refine (sp_ShortT (n := 50) (bs := bs) rdA).mono ?_
         rintro v17 _ ⟨rfl, hv17'⟩
         have hv17 := hv17' _ hv4
         refine WO_step rfl (S_pure rfl ?_)
         refine WO_nil ?_
         refine KSeq_n ?_
         refine WC_seq ?_
         refine WC_region ?_
         refine WO_step rfl (S_pure rfl ?_)
         refine WO_call rfl rfl rfl ?_
         refine (sp_hOpenW (bs := bs.take 50) tsD eD hD rdA (by omega)).mono ?_
         rintro _ _ ⟨rfl, q, rfl, hq⟩
         iterate 5 refine WO_step rfl (S_pure rfl ?_)
         refine WO_nil ?_
         refine KSeq_n ?_
         refine WC_seq ?_
         refine WC_region ?_
         refine WO_step rfl (S_pure rfl ?_)
         refine WO_call rfl rfl rfl ?_
         refine (sp_oDec (bs := bs.take 50) rdA (by omega)).mono ?_
         rintro _ _ ⟨W2, e2, rfl, rfl, hl2, hw2, hD2⟩
         iterate 3 refine WO_step rfl (S_pure rfl ?_)
         refine WO_step rfl (S_new fun i19 => ?_)
         refine WO_step rfl (S_storeAll (T := TSlT) (xs := W2) rfl rfl pkA (by rfl) (by rw [hl2]; rfl) ?_)
         refine WO_step rfl (S_pure rfl ?_)
         refine WO_nil ?_
         refine KSeq_n ?_
         refine WC_seq ?_
         refine WC_region ?_
         iterate 2 refine WO_step rfl (S_pure rfl ?_)
         first | refine WO_step rfl (S_eqS rfl rfl ?_) | refine WO_step rfl (S_pure rfl ?_)
         refine WO_step rfl (S_pure rfl ?_)
         refine WO_cases (t := 88) rfl (fun hg5 => ?_) (fun hg5 => ?_)
         ·
          try simp only [bsT] at hg5
          refine WO_step rfl (S_pure rfl ?_)
          first | refine WO_step rfl (S_eqS rfl rfl ?_) | refine WO_step rfl (S_pure rfl ?_)
          refine WO_step rfl (S_pure rfl ?_)
          refine WO_step rfl (S_pureE (v := .bool q.isSome) (by cases q <;> rfl) rfl ?_)
          rw [hq]
          iterate 3 refine WO_step rfl (S_pure rfl ?_)
          refine WO_nil ?_
          refine KSeq_n ?_
          refine WC_ret ?_
          refine KFn_r (ResL.tmp rfl ResL.nil) ?_
          have e2 : e2 = eD := by
            rcases hD with ⟨rfl, g, h⟩ | ⟨rfl, h⟩
            · rcases hD2 with ⟨h1, _⟩ | ⟨_, _, h3⟩
              · exact h1
              · exact absurd ⟨g.1, g.2.1, g.2.2, h⟩ (h3 tsD)
            · rcases hD2 with ⟨_, hm, hb, _⟩ | ⟨h1, _⟩
              · exact absurd ⟨hl2, hw2, hm, hb⟩ (h W2)
              · exact h1
          subst e2
          first
            | exact absurd rfl hg5
            | exact absurd rfl hg6
            | (exfalso; revert hg5; simp; done)
            | (exfalso; revert hg6; simp; done)
            | exact ⟨_, HSub.refl, by rcases hD with ⟨rfl, _⟩ | ⟨rfl, _⟩ <;> rfl⟩
         ·
          try simp only [bsT] at hg5
          iterate 5 refine WO_off rfl ?_
          iterate 2 refine WO_step rfl (S_pure rfl ?_)
          refine WO_nil ?_
          refine KSeq_n ?_
          refine WC_ret ?_
          refine KFn_r (ResL.tmp rfl ResL.nil) ?_
          have e2 : e2 = eD := by
            rcases hD with ⟨rfl, g, h⟩ | ⟨rfl, h⟩
            · rcases hD2 with ⟨h1, _⟩ | ⟨_, _, h3⟩
              · exact h1
              · exact absurd ⟨g.1, g.2.1, g.2.2, h⟩ (h3 tsD)
            · rcases hD2 with ⟨_, hm, hb, _⟩ | ⟨h1, _⟩
              · exact absurd ⟨hl2, hw2, hm, hb⟩ (h W2)
              · exact h1
          subst e2
          first
            | exact absurd rfl hg5
            | exact absurd rfl hg6
            | (exfalso; revert hg5; simp; done)
            | (exfalso; revert hg6; simp; done)
            | exact ⟨_, HSub.refl, by rcases hD with ⟨rfl, _⟩ | ⟨rfl, _⟩ <;> rfl⟩
      ·
       try simp only [bsT] at hg3
       iterate 6 refine WO_off rfl ?_
       iterate 2 refine WO_step rfl (S_pure rfl ?_)
       refine WO_nil ?_
       refine KSeq_n ?_
       refine WC_cond rfl (fun h => ?_) (fun _ => ?_)
       · exact absurd h (by decide)
       refine WC_skip ?_
       refine KSeq_n ?_
       refine WC_seq ?_
       refine WC_region ?_
       refine WO_step rfl (S_pure rfl ?_)
       refine WO_call rfl rfl rfl ?_
       refine (sp_ShortT (n := 50) (bs := bs) rdA).mono ?_
       rintro v17 _ ⟨rfl, hv17'⟩
       have hv17 := hv17' _ hv4
       refine WO_step rfl (S_pure rfl ?_)
       refine WO_nil ?_
       refine KSeq_n ?_
       refine WC_seq ?_
       refine WC_region ?_
       refine WO_step rfl (S_pure rfl ?_)
       refine WO_call rfl rfl rfl ?_
       refine (sp_hOpenW (bs := bs.take 50) tsD eD hD rdA (by omega)).mono ?_
       rintro _ _ ⟨rfl, q, rfl, hq⟩
       iterate 5 refine WO_step rfl (S_pure rfl ?_)
       refine WO_nil ?_
       refine KSeq_n ?_
       refine WC_seq ?_
       refine WC_region ?_
       refine WO_step rfl (S_pure rfl ?_)
       refine WO_call rfl rfl rfl ?_
       refine (sp_oDec (bs := bs.take 50) rdA (by omega)).mono ?_
       rintro _ _ ⟨W2, e2, rfl, rfl, hl2, hw2, hD2⟩
       iterate 3 refine WO_step rfl (S_pure rfl ?_)
       refine WO_step rfl (S_new fun i19 => ?_)
       refine WO_step rfl (S_storeAll (T := TSlT) (xs := W2) rfl rfl pkA (by rfl) (by rw [hl2]; rfl) ?_)
       refine WO_step rfl (S_pure rfl ?_)
       refine WO_nil ?_
       refine KSeq_n ?_
       refine WC_seq ?_
       refine WC_region ?_
       iterate 2 refine WO_step rfl (S_pure rfl ?_)
       first | refine WO_step rfl (S_eqS rfl rfl ?_) | refine WO_step rfl (S_pure rfl ?_)
       refine WO_step rfl (S_pure rfl ?_)
       refine WO_cases (t := 88) rfl (fun hg6 => ?_) (fun hg6 => ?_)
       ·
        try simp only [bsT] at hg6
        refine WO_step rfl (S_pure rfl ?_)
        first | refine WO_step rfl (S_eqS rfl rfl ?_) | refine WO_step rfl (S_pure rfl ?_)
        refine WO_step rfl (S_pure rfl ?_)
        refine WO_step rfl (S_pureE (v := .bool q.isSome) (by cases q <;> rfl) rfl ?_)
        rw [hq]
        iterate 3 refine WO_step rfl (S_pure rfl ?_)
        refine WO_nil ?_
        refine KSeq_n ?_
        refine WC_ret ?_
        refine KFn_r (ResL.tmp rfl ResL.nil) ?_
        have e2 : e2 = eD := by
          rcases hD with ⟨rfl, g, h⟩ | ⟨rfl, h⟩
          · rcases hD2 with ⟨h1, _⟩ | ⟨_, _, h3⟩
            · exact h1
            · exact absurd ⟨g.1, g.2.1, g.2.2, h⟩ (h3 tsD)
          · rcases hD2 with ⟨_, hm, hb, _⟩ | ⟨h1, _⟩
            · exact absurd ⟨hl2, hw2, hm, hb⟩ (h W2)
            · exact h1
        subst e2
        first
          | exact absurd rfl hg5
          | exact absurd rfl hg6
          | (exfalso; revert hg5; simp; done)
          | (exfalso; revert hg6; simp; done)
          | exact ⟨_, HSub.refl, by rcases hD with ⟨rfl, _⟩ | ⟨rfl, _⟩ <;> rfl⟩
       ·
        try simp only [bsT] at hg6
        iterate 5 refine WO_off rfl ?_
        iterate 2 refine WO_step rfl (S_pure rfl ?_)
        refine WO_nil ?_
        refine KSeq_n ?_
        refine WC_ret ?_
        refine KFn_r (ResL.tmp rfl ResL.nil) ?_
        have e2 : e2 = eD := by
          rcases hD with ⟨rfl, g, h⟩ | ⟨rfl, h⟩
          · rcases hD2 with ⟨h1, _⟩ | ⟨_, _, h3⟩
            · exact h1
            · exact absurd ⟨g.1, g.2.1, g.2.2, h⟩ (h3 tsD)
          · rcases hD2 with ⟨_, hm, hb, _⟩ | ⟨h1, _⟩
            · exact absurd ⟨hl2, hw2, hm, hb⟩ (h W2)
            · exact h1
        subst e2
        first
          | exact absurd rfl hg5
          | exact absurd rfl hg6
          | (exfalso; revert hg5; simp; done)
          | (exfalso; revert hg6; simp; done)
          | exact ⟨_, HSub.refl, by rcases hD with ⟨rfl, _⟩ | ⟨rfl, _⟩ <;> rfl⟩

end Go.Proofs.Ytpnmeednimpjdaa.AM
