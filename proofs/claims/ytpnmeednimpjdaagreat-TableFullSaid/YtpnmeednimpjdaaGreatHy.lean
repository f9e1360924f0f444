/- Walks: what the functions compute. -/
import Derived.Test.YtpnmeednimpjdaaGreatHw
import Derived.Test.YtpnmeednimpjdaaGreatOb
import Derived.Test.YtpnmeednimpjdaaGreatFlat
import Derived.KernelRfl
namespace Go.Proofs.YtpnmeednimpjdaaGreat.AM
open Go
set_option linter.unusedSimpArgs false
set_option linter.unusedVariables false
set_option maxRecDepth 4000

/-! ### Tables that are read back, bytes that come in -/
theorem wf_cut {r : Rec} (hok : okRec r) : wfRec (cutRec r) := by
  obtain ⟨h0, h1, h2, h3⟩ := hok
  have a1 := cut_size r.key 20
  have a2 := cut_size r.val.s 30
  simp [Lit.wf, IntKind.min, IntKind.max, IntKind.bits, IntKind.signed] at h1 h2
  refine ⟨?_, ?_, ?_, ?_⟩ <;> simp only [cutRec, cutRaw] <;> omega
theorem FBoolT : Flat Tryz.prog 4 TBool (fun _ => True) := by
  refine ⟨by kernel_rfl, by decide, ?_, fun _ => rfl⟩
  intro H enc W base spare held fuel cs x h
  obtain ⟨n, hn⟩ := trod_bool' Tryz.underlying4 h
  exact ⟨n, hn, trivial⟩
/-! ### Bytes that come in -/
theorem FByte : Flat Tryz.prog 5 TByte (fun _ => True) := by
  refine ⟨by kernel_rfl, by decide, ?_, fun _ => rfl⟩
  intro H enc W base spare held fuel cs x h
  obtain ⟨n, hn, hw⟩ := trod_int' Tryz.underlying5 h
  simp [Lit.wf, IntKind.min, IntKind.max, IntKind.bits, IntKind.signed] at hw
  refine ⟨UInt8.ofNat n.toNat, ?_, trivial⟩
  rw [hn]
  show [Value.int .u8 n] = [encByte (UInt8.ofNat n.toNat)]
  rw [← enc_B (by omega)]; congr 2; omega
theorem sp_oDecG {H : SH} {v : Value} {W : List SlT} (g : GoodT W) (hv : RD H v TByte (encT W)) : WF F X 44 [v] H (fun r H' => H' = H ∧ r = .tuple #[tabV W, .int .i64 0]) := by
  have hel := encT_len g.1 g.2.1 g.2.2
  refine (sp_oDec hv (by omega)).mono ?_
  rintro _ _ ⟨ts2, e2, rfl, rfl, hl2, hw2, hD2⟩
  rcases hD2 with ⟨rfl, hm2, hb2', hu2⟩ | ⟨_, _, hno⟩
  · rw [hu2 W g.isT]; exact ⟨rfl, rfl⟩
  · exact absurd g.isT (hno W)
/-! ### A store's bytes, a store opened -/
theorem sp_hBytes {H : SH} {ts : List SlT} {i i2 : Nat} {wk wr wt : SV} (g : GoodT ts) : WF F X f_hashstore_Store_Bytes [.pointer (some ⟨i, 0, none⟩)] (STO i ts i2 wk wr wt H) (fun r H' => ∃ u : SV, r = u.toV ∧ H' = SL u.toV TByte (encT ts) :: STO i ts i2 wk wr wt H) := by
  have hl := g.1
  unfold STO
  refine WF_fn F_hashstore_Store_Bytes ?_
  refine WC_seq (WC_region ?_)
  refine WO_step rfl (S_pure rfl ?_)
  refine WO_nil (KSeq_n (WC_seq (WC_seq (WC_region ?_))))
  iterate 2 refine WO_step rfl (S_pure rfl ?_)
  refine WO_nil (KSeq_n ?_)
  refine WC_cond rfl (fun hb1 => ?_) (fun hb1 => ?_)
  ·
   try simp only [bsT] at hb1
   exact absurd hb1 (by simp)
   --stop
  ·
   try simp only [bsT] at hb1
   refine WC_skip (KSeq_n (WC_seq (WC_region ?_)))
   iterate 3 refine WO_step rfl (S_pure rfl ?_)
   refine WO_step rfl (S_loadSOt hl rfl pkA ?_)
   refine WO_call rfl rfl rfl ?_
   refine (sp_oEnc hl g.2.1).mono ?_
   rintro _ _ ⟨u, rfl, _, rfl⟩
   rw [if_pos g.2.2]
   refine WO_step rfl (S_pure rfl ?_)
   refine WO_nil (KSeq_n (WC_ret ?_))
   refine KFn_r (ResL.tmp rfl ResL.nil) ?_
   exact ⟨_, hsA, u, rfl, rfl⟩
theorem sp_hOpenOk {H : SH} {v : Value} {W : List SlT} (g : GoodT W) (hv : RD H v TByte (encT W)) : WF F X f_hashstore_Open [v] H (fun r H' => ∃ (i i2 : Nat) (wk wr wt : SV), r = .tuple #[.pointer (some ⟨i, 0, none⟩), .int .i64 0] ∧ H' = STO i W i2 wk wr wt H) := by
  have hl := g.1
  refine WF_fn F_hashstore_Open ?_
  refine WC_seq (WC_region ?_)
  iterate 2 refine WO_step rfl (S_pure rfl ?_)
  refine WO_nil (KSeq_n (WC_seq (WC_region ?_)))
  refine WO_step rfl (S_pure rfl ?_)
  refine WO_call rfl rfl rfl ?_
  refine (sp_oDecG g hv).mono ?_
  rintro _ _ ⟨rfl, rfl⟩
  iterate 3 refine WO_step rfl (S_pure rfl ?_)
  refine WO_step rfl (S_new fun i4 => ?_)
  refine WO_step rfl (S_storeAll (T := TSlT) (xs := W) rfl rfl pkA (by rfl) (by rw [hl]; rfl) ?_)
  refine WO_step rfl (S_pure rfl ?_)
  refine WO_nil (KSeq_n (WC_seq (WC_seq (WC_region ?_))))
  refine WO_step rfl (S_pure rfl ?_)
  first | refine WO_step rfl (S_neS rfl rfl ?_) | refine WO_step rfl (S_pure rfl ?_)
  refine WO_nil (KSeq_n ?_)
  refine WC_cond rfl (fun hb1 => ?_) (fun hb1 => ?_)
  ·
   try simp only [bsT] at hb1
   exact absurd trivial hb1
   --stop
  ·
   try simp only [bsT] at hb1
   refine WC_skip (KSeq_n (WC_seq (WC_region ?_)))
   refine WO_step rfl (S_loadAll (T := TSlT) (xs := W) rfl pkA (by rw [hl]; rfl) ?_)
   refine WO_call rfl rfl rfl ?_
   refine (sp_hNewOk (ts := W) hl g.2.1 g.2.2).mono ?_
   rintro _ _ ⟨i, i2, wk, wr, wt, rfl, rfl⟩
   iterate 4 refine WO_step rfl (S_pure rfl ?_)
   refine WO_nil (KSeq_n (WC_ret ?_))
   refine KFn_r (ResL.tmp rfl (ResL.tmp rfl ResL.nil)) ?_
   exact ⟨STO i W i2 wk wr wt _, (by unfold STO; exact hsA), i, i2, wk, wr, wt, rfl, rfl⟩
theorem sp_hOpenNo {H : SH} {v : Value} {bs : List UInt8} (hv : RD H v TByte bs) (hb : bs.length ≤ 100000) (hno : ∀ ts', ¬ IsT bs ts') : WF F X f_hashstore_Open [v] H (fun r H' => r = .tuple #[.pointer none, .int .i64 8] ∧ H' = H) := by
  refine WF_fn F_hashstore_Open ?_
  refine WC_seq (WC_region ?_)
  iterate 2 refine WO_step rfl (S_pure rfl ?_)
  refine WO_nil (KSeq_n (WC_seq (WC_region ?_)))
  refine WO_step rfl (S_pure rfl ?_)
  refine WO_call rfl rfl rfl ?_
  refine (sp_oDec hv hb).mono ?_
  rintro _ _ ⟨W, e, rfl, rfl, hl, hw, hD⟩
  rcases hD with ⟨rfl, hm, hb', _⟩ | ⟨rfl, rfl, _⟩
  · exact absurd ⟨hl, hw, hm, hb'⟩ (hno W)
  iterate 3 refine WO_step rfl (S_pure rfl ?_)
  refine WO_step rfl (S_new fun i4 => ?_)
  refine WO_step rfl (S_storeAll (T := TSlT) (xs := zeroT) rfl rfl pkA (by rfl) (by rw [hl]; rfl) ?_)
  refine WO_step rfl (S_pure rfl ?_)
  refine WO_nil (KSeq_n (WC_seq (WC_seq (WC_region ?_))))
  refine WO_step rfl (S_pure rfl ?_)
  first | refine WO_step rfl (S_neS rfl rfl ?_) | refine WO_step rfl (S_pure rfl ?_)
  refine WO_nil (KSeq_n ?_)
  refine WC_cond rfl (fun hb1 => ?_) (fun hb1 => ?_)
  ·
   try simp only [bsT] at hb1
   refine WC_seq (WC_region ?_)
   iterate 3 refine WO_step rfl (S_pure rfl ?_)
   refine WO_nil (KSeq_n (WC_ret (KSeq_r ?_)))
   refine KFn_r (ResL.tmp rfl (ResL.tmp rfl ResL.nil)) ?_
   exact ⟨_, hsA, rfl, rfl⟩
  ·
   try simp only [bsT] at hb1
   exact absurd hb1 (by decide)
   --stop
/-! ### A store of one record -/
theorem WF_sub {f : FuncId} {vs : List Value} {H : SH} {Q : Value → SH → Prop} (h : WF F X f vs H (fun r H' => ∃ H'', HSub H' H'' ∧ Q r H'')) : WF F X f vs H Q := WF_view (h.mono fun _ _ ⟨H'', hs, q⟩ => ⟨H'', fun _ ha => hs.hag ha, q⟩)
theorem fnd_no {k : ByteArray} : ∀ {l : List Rec}, (∀ r ∈ l, r.key ≠ k) → fnd l k = none
  | [], _ => rfl
  | x :: l, h => by
    rw [fnd, if_neg (h x (List.mem_cons_self ..))]
    exact fnd_no fun r hr => h r (List.mem_cons_of_mem _ hr)
theorem bkR_mem {ts : List SlT} {b : Nat} (hb : b < 8) {r : Rec} (h : r ∈ bkR ts b) : r ∈ tRecs ts 32 := by
  rw [← bkR_sub hb] at h
  exact List.mem_of_mem_drop (List.mem_of_mem_take h)
theorem likeL_mem {ts : List SlT} {k : ByteArray} {r : Rec} (h : r ∈ likeL ts k) : r ∈ tRecs ts 32 := by
  unfold likeL likeB at h
  rcases List.mem_append.1 h with h | h
  · exact bkR_mem (frst_lt _) (List.mem_filter.1 h).1
  · exact bkR_mem (oth_lt (frst_lt _)) (List.mem_filter.1 h).1
theorem bk_set {ts : List SlT} {p b : Nat} {x : SlT} : bk (ts.set p x) b = if 4 * b ≤ p ∧ p < 4 * b + 4 then (bk ts b).set (p - 4 * b) x else bk ts b := by
  unfold bk
  rw [List.drop_set]
  by_cases h : p < 4 * b
  · rw [if_pos h, if_neg (by omega)]
  · rw [if_neg h, List.take_set]
    by_cases h2 : p < 4 * b + 4
    · rw [if_pos (by omega)]
    · rw [if_neg (by omega), List.set_eq_of_length_le (by rw [List.length_take]; omega)]
theorem bk_mem {ts : List SlT} {b : Nat} {x : SlT} (h : x ∈ bk ts b) : x ∈ ts := List.mem_of_mem_drop (List.mem_of_mem_take h)
theorem bkR_one {r : Rec} {p b : Nat} (hb : b < 8) : bkR (zeroT.set p ⟨true, r⟩) b = if 4 * b ≤ p ∧ p < 4 * b + 4 then [r] else [] := by
  unfold bkR
  rw [bk_set]
  have hz : ∀ y ∈ bk zeroT b, y.has = false := fun y hy => zeroT_has y (bk_mem hy)
  split
  · rw [filter_set rfl hz (by rw [bk_len zeroT_len hb]; omega)]; rfl
  · rw [List.filter_eq_nil_iff.2 (fun y hy => by rw [hz y hy]; decide)]; rfl
theorem likeL_A : likeL tsA kA = [goneR kA] := by
  have h8 := frst_lt (kH kA)
  have ho := oth_lt (t := tagOf (kH kA)) h8
  have hne := oth_ne (t := tagOf (kH kA)) h8
  unfold likeL tsA
  generalize oth (frst (kH kA)) (tagOf (kH kA)) = o at ho hne ⊢
  rw [bkR_one h8, bkR_one ho, if_pos (by omega), if_neg (by omega)]
  simp [likeB, goneR]
theorem tRecs_A : tRecs tsA 32 = [goneR kA] := by rw [tRecs_all tsA_good.1, tsA_filter]; rfl
theorem fnd_AA : fnd (likeL tsA kA) kA = some (goneR kA) := by rw [likeL_A]; exact if_pos rfl
def kB : ByteArray := ⟨#[98]⟩
theorem fnd_AB : fnd (likeL tsA kB) kB = none := fnd_no fun r hr => by
  have := likeL_mem hr
  rw [tRecs_A] at this
  rw [List.mem_singleton.1 this]
  decide
theorem noNil : ∀ ts', ¬ IsT [] ts' := fun ts' h => by
  have := h.l4
  simp at this
theorem sp_BegunT {H : SH} : WF F X f_loesslaw19_Begun [] H (fun r H' => H' = H ∧ r = .bool true) := by
  refine WF_fn F_loesslaw19_Begun ?_
  refine WC_seq (WC_region ?_)
  refine WO_step rfl (S_pure rfl ?_)
  refine WO_nil (KSeq_n (WC_seq (WC_region ?_)))
  refine WO_call rfl rfl rfl ?_
  refine sp_begunT.mono ?_
  rintro _ _ ⟨rfl, rfl⟩
  refine WO_step rfl (S_pure rfl ?_)
  refine WO_nil (KSeq_n (WC_ret ?_))
  refine KFn_r (ResL.tmp rfl ResL.nil) ?_
  exact ⟨_, hsA, rfl, rfl⟩
theorem sp_begunH {H : SH} : WF F X f_loesslaw20_begun [] H (fun r H' => H' = H ∧ r = .bool true) := by
  refine WF_addNil (T := TBool) (WF_addNil (T := TByte) ?_)
  have gA := tsA_good
  have hl := tsA_good.1
  refine WF_fn F_loesslaw20_begun ?_
  refine WC_seq (WC_region ?_)
  refine WO_step rfl (S_pure rfl ?_)
  refine WO_nil (KSeq_n (WC_seq (WC_region ?_)))
  refine WO_step rfl (S_pure rfl ?_)
  refine WO_step rfl (S_lit1 (T := TRec) (y := goneR kA) rfl rfl rfl rfl fun w13 => ?_)
  refine WO_call rfl rfl rfl ?_
  refine (sp_Lay (l := [goneR kA]) (turn := []) rdA rdA).mono ?_
  rintro _ _ ⟨rfl, rfl⟩
  rw [tsA_lay]
  refine WO_call rfl rfl rfl ?_
  refine (sp_OfT hl).mono ?_
  rintro _ _ ⟨rfl, rfl⟩
  refine WO_step rfl (S_new fun i1 => ?_)
  refine WO_step rfl (S_storeAll (T := TSlT) (xs := tsA) rfl rfl pkA (by rfl) (by rw [hl]; rfl) ?_)
  refine WO_nil (KSeq_n (WC_seq (WC_region ?_)))
  refine WO_step rfl (S_loadAll (T := TSlT) (xs := tsA) rfl pkA (by rw [hl]; rfl) ?_)
  refine WO_call rfl rfl rfl ?_
  refine (WF.weak (sp_hNewOk (H := SL (SV.toV .nil) TByte [] :: H) (ts := tsA) hl gA.2.1 gA.2.2) hsA).mono ?_
  rintro _ _ ⟨i, i2, wk, wr, wt, rfl, rfl⟩
  iterate 5 refine WO_step rfl (S_pure rfl ?_)
  refine WO_nil (KSeq_n (WC_seq (WC_seq (WC_region ?_))))
  refine WO_step rfl (S_pure rfl ?_)
  first | refine WO_step rfl (S_neS rfl rfl ?_) | refine WO_step rfl (S_pure rfl ?_)
  refine WO_step rfl (S_pure rfl ?_)
  refine WO_cases (t := 23) rfl (fun hg1 => ?_) (fun hg1 => ?_)
  ·
   try simp only [bsT] at hg1
   iterate 2 refine WO_off rfl ?_
   refine WO_step rfl (S_pure rfl ?_)
   refine WO_nil (KSeq_n ?_)
   refine WC_cond rfl (fun _ => ?_) (fun h => ?_)
   rotate_left
   · exact absurd h (by decide)
   refine WC_seq (WC_region ?_)
   refine WO_step rfl (S_pure rfl ?_)
   refine WO_nil (KSeq_n (WC_ret (KSeq_r ?_)))
   refine KFn_r (ResL.tmp rfl ResL.nil) ?_
   exact absurd trivial hg1
  ·
   try simp only [bsT] at hg1
   iterate 3 refine WO_step rfl (S_pure rfl ?_)
   refine WO_nil (KSeq_n ?_)
   refine WC_cond rfl (fun hb1 => ?_) (fun hb1 => ?_)
   ·
    try simp only [bsT] at hb1
    refine WC_seq (WC_region ?_)
    refine WO_step rfl (S_pure rfl ?_)
    refine WO_nil (KSeq_n (WC_ret (KSeq_r ?_)))
    refine KFn_r (ResL.tmp rfl ResL.nil) ?_
    exact absurd hb1 (by simp)
   ·
    try simp only [bsT] at hb1
    refine WC_skip (KSeq_n (WC_seq (WC_region ?_)))
    refine WO_step rfl (S_pure rfl ?_)
    refine WO_call rfl rfl rfl ?_
    refine (WF.weak (sp_hGet (H := SL (SV.toV .nil) TByte [] :: H) (i := i) (i2 := i2) (wk := wk) (wr := wr) (wt := wt) (ts := tsA) (k := kA) hl (by decide)) (by unfold STO; exact hsA)).mono ?_
    rintro _ _ ⟨rfl, rfl⟩
    rw [fnd_AA]
    iterate 3 refine WO_step rfl (S_pure rfl ?_)
    refine WO_step rfl (S_newT TRec rec0 rfl rfl fun i4 => ?_)
    refine WO_step rfl (S_storeT (T := TRec) (y := goneR kA) rfl rfl pkA (by rfl) (by rfl) ?_)
    refine WO_step rfl (S_pure rfl ?_)
    refine WO_nil (KSeq_n (WC_seq (WC_region ?_)))
    refine WO_step rfl (S_pure rfl ?_)
    refine WO_call rfl rfl rfl ?_
    refine (WF.weak (sp_hGet (H := OB i4 TRec (goneR kA) :: SL (SV.toV .nil) TByte [] :: H) (i := i) (i2 := i2) (wk := wk) (wr := wr) (wt := wt) (ts := tsA) (k := kB) hl (by decide)) (by unfold STO; exact hsA)).mono ?_
    rintro _ _ ⟨rfl, rfl⟩
    rw [fnd_AB]
    iterate 3 refine WO_step rfl (S_pure rfl ?_)
    refine WO_step rfl (S_newT TRec rec0 rfl rfl fun i6 => ?_)
    refine WO_step rfl (S_storeT (T := TRec) (y := rec0) rfl rfl pkA (by rfl) (by rfl) ?_)
    refine WO_step rfl (S_pure rfl ?_)
    refine WO_nil (KSeq_n (WC_seq (WC_region ?_)))
    refine WO_step rfl (S_pure rfl ?_)
    refine WO_call rfl rfl rfl ?_
    refine (WF.weak (sp_hBytes (H := OB i4 TRec (goneR kA) :: SL (SV.toV .nil) TByte [] :: H) (i := i) (i2 := i2) (wk := wk) (wr := wr) (wt := wt) (ts := tsA) gA) (by unfold STO; exact hsA)).mono ?_
    rintro _ _ ⟨u, rfl, rfl⟩
    refine WO_call rfl rfl rfl ?_
    refine (sp_hOpenOk gA rdA).mono ?_
    rintro _ _ ⟨i', i2', wk', wr', wt', rfl, rfl⟩
    iterate 5 refine WO_step rfl (S_pure rfl ?_)
    refine WO_nil (KSeq_n (WC_seq (WC_region ?_)))
    refine WO_call rfl rfl rfl ?_
    refine (WF.weak (sp_hOpenNo (H := SL (SV.toV .nil) TByte [] :: STO i' tsA i2' wk' wr' wt' (STO i tsA i2 wk wr wt (OB i4 TRec (goneR kA) :: H))) (bs := []) rdA (by simp) noNil) (by unfold STO; exact hsA)).mono ?_
    rintro _ _ ⟨rfl, rfl⟩
    iterate 5 refine WO_step rfl (S_pure rfl ?_)
    refine WO_nil (KSeq_n (WC_seq (WC_region ?_)))
    refine WO_call rfl rfl rfl ?_
    refine sp_BegunT.mono ?_
    rintro _ _ ⟨rfl, rfl⟩
    refine WO_step rfl (S_pure rfl ?_)
    refine WO_cases (t := 48) rfl (fun hg2 => ?_) (fun hg2 => ?_)
    ·
     try simp only [bsT] at hg2
     iterate 3 refine WO_step rfl (S_pure rfl ?_)
     refine WO_cases (t := 51) rfl (fun hg3 => ?_) (fun hg3 => ?_)
     ·
      try simp only [bsT] at hg3
      refine WO_step rfl (S_pure rfl ?_)
      refine WO_step rfl (S_loadO rfl pkA (by rfl) (by rfl) ?_)
      iterate 2 refine WO_step rfl (S_pure rfl ?_)
      refine WO_cases (t := 55) rfl (fun hg4 => ?_) (fun hg4 => ?_)
      ·
       try simp only [bsT] at hg4
       iterate 4 refine WO_step rfl (S_pure rfl ?_)
       refine WO_cases (t := 59) rfl (fun hg5 => ?_) (fun hg5 => ?_)
       ·
        try simp only [bsT] at hg5
        refine WO_step rfl (S_pure rfl ?_)
        refine WO_call rfl rfl rfl ?_
        refine (WF.weak (sp_hReads (H := STO i' tsA i2' wk' wr' wt' (OB i4 TRec (goneR kA) :: H)) (i := i) (i2 := i2) (wk := wk) (wr := wr) (wt := wt) (ts := tsA) (k := kA) hl (by decide)) (by unfold STO; exact hsA)).mono ?_
        rintro _ _ ⟨rfl, rfl⟩
        rw [likeL_A]
        first | refine WO_step rfl (S_eqS rfl rfl ?_) | refine WO_step rfl (S_pure rfl ?_)
        iterate 2 refine WO_step rfl (S_pure rfl ?_)
        refine WO_cases (t := 64) rfl (fun hg6 => ?_) (fun hg6 => ?_)
        ·
         try simp only [bsT] at hg6
         refine WO_step rfl (S_pure rfl ?_)
         refine WO_call rfl rfl rfl ?_
         refine (sp_hLen (H := STO i' tsA i2' wk' wr' wt' (OB i4 TRec (goneR kA) :: H)) (i := i) (i2 := i2) (wk := wk) (wr := wr) (wt := wt) (ts := tsA) hl).mono ?_
         rintro _ _ ⟨rfl, rfl⟩
         rw [tRecs_A]
         first | refine WO_step rfl (S_eqS rfl rfl ?_) | refine WO_step rfl (S_pure rfl ?_)
         iterate 2 refine WO_step rfl (S_pure rfl ?_)
         refine WO_cases (t := 69) rfl (fun hg7 => ?_) (fun hg7 => ?_)
         ·
          try simp only [bsT] at hg7
          refine WO_step rfl (S_pure rfl ?_)
          first | refine WO_step rfl (S_eqS rfl rfl ?_) | refine WO_step rfl (S_pure rfl ?_)
          iterate 2 refine WO_step rfl (S_pure rfl ?_)
          refine WO_cases (t := 73) rfl (fun hg8 => ?_) (fun hg8 => ?_)
          ·
           try simp only [bsT] at hg8
           refine WO_step rfl (S_pure rfl ?_)
           refine WO_call rfl rfl rfl ?_
           refine (WF.weak (sp_hLen (H := STO i tsA i2 wk wr wt (OB i4 TRec (goneR kA) :: H)) (i := i') (i2 := i2') (wk := wk') (wr := wr') (wt := wt') (ts := tsA) hl) (by unfold STO; exact hsA)).mono ?_
           rintro _ _ ⟨rfl, rfl⟩
           rw [tRecs_A]
           first | refine WO_step rfl (S_eqS rfl rfl ?_) | refine WO_step rfl (S_pure rfl ?_)
           iterate 2 refine WO_step rfl (S_pure rfl ?_)
           refine WO_cases (t := 78) rfl (fun hg9 => ?_) (fun hg9 => ?_)
           ·
            try simp only [bsT] at hg9
            refine WO_step rfl (S_pure rfl ?_)
            first | refine WO_step rfl (S_eqS rfl rfl ?_) | refine WO_step rfl (S_pure rfl ?_)
            iterate 2 refine WO_step rfl (S_pure rfl ?_)
            refine WO_nil (KSeq_n (WC_ret ?_))
            refine KFn_r (ResL.tmp rfl ResL.nil) ?_
            exact ⟨H, (by unfold STO; exact hsA), rfl, rfl⟩
           ·
            try simp only [bsT] at hg9
            iterate 2 refine WO_off rfl ?_
            iterate 2 refine WO_step rfl (S_pure rfl ?_)
            refine WO_nil (KSeq_n (WC_ret ?_))
            refine KFn_r (ResL.tmp rfl ResL.nil) ?_
            exfalso
            first
              | exact hg9 rfl
              | exact hg9 trivial
              | exact hg8 rfl
              | exact hg8 trivial
              | exact hg7 rfl
              | exact hg7 trivial
              | exact hg6 rfl
              | exact hg6 trivial
              | exact hg5 rfl
              | exact hg5 trivial
              | exact hg4 rfl
              | exact hg4 trivial
              | exact hg3 rfl
              | exact hg3 trivial
              | exact hg2 rfl
              | exact hg2 trivial
              | exact absurd hg9 (by decide)
              | exact absurd hg9 (by simp)
              | exact absurd hg8 (by decide)
              | exact absurd hg8 (by simp)
              | exact absurd hg7 (by decide)
              | exact absurd hg7 (by simp)
              | exact absurd hg6 (by decide)
              | exact absurd hg6 (by simp)
              | exact absurd hg5 (by decide)
              | exact absurd hg5 (by simp)
              | exact absurd hg4 (by decide)
              | exact absurd hg4 (by simp)
              | exact absurd hg3 (by decide)
              | exact absurd hg3 (by simp)
              | exact absurd hg2 (by decide)
              | exact absurd hg2 (by simp)
          ·
           try simp only [bsT] at hg8
           iterate 3 refine WO_off rfl ?_
           iterate 2 refine WO_step rfl (S_pure rfl ?_)
           iterate 2 refine WO_off rfl ?_
           iterate 2 refine WO_step rfl (S_pure rfl ?_)
           refine WO_nil (KSeq_n (WC_ret ?_))
           refine KFn_r (ResL.tmp rfl ResL.nil) ?_
           exfalso
           first
             | exact hg9 rfl
             | exact hg9 trivial
             | exact hg8 rfl
             | exact hg8 trivial
             | exact hg7 rfl
             | exact hg7 trivial
             | exact hg6 rfl
             | exact hg6 trivial
             | exact hg5 rfl
             | exact hg5 trivial
             | exact hg4 rfl
             | exact hg4 trivial
             | exact hg3 rfl
             | exact hg3 trivial
             | exact hg2 rfl
             | exact hg2 trivial
             | exact absurd hg9 (by decide)
             | exact absurd hg9 (by simp)
             | exact absurd hg8 (by decide)
             | exact absurd hg8 (by simp)
             | exact absurd hg7 (by decide)
             | exact absurd hg7 (by simp)
             | exact absurd hg6 (by decide)
             | exact absurd hg6 (by simp)
             | exact absurd hg5 (by decide)
             | exact absurd hg5 (by simp)
             | exact absurd hg4 (by decide)
             | exact absurd hg4 (by simp)
             | exact absurd hg3 (by decide)
             | exact absurd hg3 (by simp)
             | exact absurd hg2 (by decide)
             | exact absurd hg2 (by simp)
         ·
          try simp only [bsT] at hg7
          iterate 2 refine WO_off rfl ?_
          iterate 2 refine WO_step rfl (S_pure rfl ?_)
          iterate 3 refine WO_off rfl ?_
          iterate 2 refine WO_step rfl (S_pure rfl ?_)
          iterate 2 refine WO_off rfl ?_
          iterate 2 refine WO_step rfl (S_pure rfl ?_)
          refine WO_nil (KSeq_n (WC_ret ?_))
          refine KFn_r (ResL.tmp rfl ResL.nil) ?_
          exfalso
          first
            | exact hg9 rfl
            | exact hg9 trivial
            | exact hg8 rfl
            | exact hg8 trivial
            | exact hg7 rfl
            | exact hg7 trivial
            | exact hg6 rfl
            | exact hg6 trivial
            | exact hg5 rfl
            | exact hg5 trivial
            | exact hg4 rfl
            | exact hg4 trivial
            | exact hg3 rfl
            | exact hg3 trivial
            | exact hg2 rfl
            | exact hg2 trivial
            | exact absurd hg9 (by decide)
            | exact absurd hg9 (by simp)
            | exact absurd hg8 (by decide)
            | exact absurd hg8 (by simp)
            | exact absurd hg7 (by decide)
            | exact absurd hg7 (by simp)
            | exact absurd hg6 (by decide)
            | exact absurd hg6 (by simp)
            | exact absurd hg5 (by decide)
            | exact absurd hg5 (by simp)
            | exact absurd hg4 (by decide)
            | exact absurd hg4 (by simp)
            | exact absurd hg3 (by decide)
            | exact absurd hg3 (by simp)
            | exact absurd hg2 (by decide)
            | exact absurd hg2 (by simp)
        ·
         try simp only [bsT] at hg6
         iterate 3 refine WO_off rfl ?_
         iterate 2 refine WO_step rfl (S_pure rfl ?_)
         iterate 2 refine WO_off rfl ?_
         iterate 2 refine WO_step rfl (S_pure rfl ?_)
         iterate 3 refine WO_off rfl ?_
         iterate 2 refine WO_step rfl (S_pure rfl ?_)
         iterate 2 refine WO_off rfl ?_
         iterate 2 refine WO_step rfl (S_pure rfl ?_)
         refine WO_nil (KSeq_n (WC_ret ?_))
         refine KFn_r (ResL.tmp rfl ResL.nil) ?_
         exfalso
         first
           | exact hg9 rfl
           | exact hg9 trivial
           | exact hg8 rfl
           | exact hg8 trivial
           | exact hg7 rfl
           | exact hg7 trivial
           | exact hg6 rfl
           | exact hg6 trivial
           | exact hg5 rfl
           | exact hg5 trivial
           | exact hg4 rfl
           | exact hg4 trivial
           | exact hg3 rfl
           | exact hg3 trivial
           | exact hg2 rfl
           | exact hg2 trivial
           | exact absurd hg9 (by decide)
           | exact absurd hg9 (by simp)
           | exact absurd hg8 (by decide)
           | exact absurd hg8 (by simp)
           | exact absurd hg7 (by decide)
           | exact absurd hg7 (by simp)
           | exact absurd hg6 (by decide)
           | exact absurd hg6 (by simp)
           | exact absurd hg5 (by decide)
           | exact absurd hg5 (by simp)
           | exact absurd hg4 (by decide)
           | exact absurd hg4 (by simp)
           | exact absurd hg3 (by decide)
           | exact absurd hg3 (by simp)
           | exact absurd hg2 (by decide)
           | exact absurd hg2 (by simp)
       ·
        try simp only [bsT] at hg5
        iterate 3 refine WO_off rfl ?_
        iterate 2 refine WO_step rfl (S_pure rfl ?_)
        iterate 3 refine WO_off rfl ?_
        iterate 2 refine WO_step rfl (S_pure rfl ?_)
        iterate 2 refine WO_off rfl ?_
        iterate 2 refine WO_step rfl (S_pure rfl ?_)
        iterate 3 refine WO_off rfl ?_
        iterate 2 refine WO_step rfl (S_pure rfl ?_)
        iterate 2 refine WO_off rfl ?_
        iterate 2 refine WO_step rfl (S_pure rfl ?_)
        refine WO_nil (KSeq_n (WC_ret ?_))
        refine KFn_r (ResL.tmp rfl ResL.nil) ?_
        exfalso
        first
          | exact hg9 rfl
          | exact hg9 trivial
          | exact hg8 rfl
          | exact hg8 trivial
          | exact hg7 rfl
          | exact hg7 trivial
          | exact hg6 rfl
          | exact hg6 trivial
          | exact hg5 rfl
          | exact hg5 trivial
          | exact hg4 rfl
          | exact hg4 trivial
          | exact hg3 rfl
          | exact hg3 trivial
          | exact hg2 rfl
          | exact hg2 trivial
          | exact absurd hg9 (by decide)
          | exact absurd hg9 (by simp)
          | exact absurd hg8 (by decide)
          | exact absurd hg8 (by simp)
          | exact absurd hg7 (by decide)
          | exact absurd hg7 (by simp)
          | exact absurd hg6 (by decide)
          | exact absurd hg6 (by simp)
          | exact absurd hg5 (by decide)
          | exact absurd hg5 (by simp)
          | exact absurd hg4 (by decide)
          | exact absurd hg4 (by simp)
          | exact absurd hg3 (by decide)
          | exact absurd hg3 (by simp)
          | exact absurd hg2 (by decide)
          | exact absurd hg2 (by simp)
      ·
       try simp only [bsT] at hg4
       iterate 2 refine WO_off rfl ?_
       iterate 2 refine WO_step rfl (S_pure rfl ?_)
       iterate 3 refine WO_off rfl ?_
       iterate 2 refine WO_step rfl (S_pure rfl ?_)
       iterate 3 refine WO_off rfl ?_
       iterate 2 refine WO_step rfl (S_pure rfl ?_)
       iterate 2 refine WO_off rfl ?_
       iterate 2 refine WO_step rfl (S_pure rfl ?_)
       iterate 3 refine WO_off rfl ?_
       iterate 2 refine WO_step rfl (S_pure rfl ?_)
       iterate 2 refine WO_off rfl ?_
       iterate 2 refine WO_step rfl (S_pure rfl ?_)
       refine WO_nil (KSeq_n (WC_ret ?_))
       refine KFn_r (ResL.tmp rfl ResL.nil) ?_
       exfalso
       first
         | exact hg9 rfl
         | exact hg9 trivial
         | exact hg8 rfl
         | exact hg8 trivial
         | exact hg7 rfl
         | exact hg7 trivial
         | exact hg6 rfl
         | exact hg6 trivial
         | exact hg5 rfl
         | exact hg5 trivial
         | exact hg4 rfl
         | exact hg4 trivial
         | exact hg3 rfl
         | exact hg3 trivial
         | exact hg2 rfl
         | exact hg2 trivial
         | exact absurd hg9 (by decide)
         | exact absurd hg9 (by simp)
         | exact absurd hg8 (by decide)
         | exact absurd hg8 (by simp)
         | exact absurd hg7 (by decide)
         | exact absurd hg7 (by simp)
         | exact absurd hg6 (by decide)
         | exact absurd hg6 (by simp)
         | exact absurd hg5 (by decide)
         | exact absurd hg5 (by simp)
         | exact absurd hg4 (by decide)
         | exact absurd hg4 (by simp)
         | exact absurd hg3 (by decide)
         | exact absurd hg3 (by simp)
         | exact absurd hg2 (by decide)
         | exact absurd hg2 (by simp)
     ·
      try simp only [bsT] at hg3
      iterate 2 refine WO_off rfl ?_
      iterate 2 refine WO_step rfl (S_pure rfl ?_)
      iterate 2 refine WO_off rfl ?_
      iterate 2 refine WO_step rfl (S_pure rfl ?_)
      iterate 3 refine WO_off rfl ?_
      iterate 2 refine WO_step rfl (S_pure rfl ?_)
      iterate 3 refine WO_off rfl ?_
      iterate 2 refine WO_step rfl (S_pure rfl ?_)
      iterate 2 refine WO_off rfl ?_
      iterate 2 refine WO_step rfl (S_pure rfl ?_)
      iterate 3 refine WO_off rfl ?_
      iterate 2 refine WO_step rfl (S_pure rfl ?_)
      iterate 2 refine WO_off rfl ?_
      iterate 2 refine WO_step rfl (S_pure rfl ?_)
      refine WO_nil (KSeq_n (WC_ret ?_))
      refine KFn_r (ResL.tmp rfl ResL.nil) ?_
      exfalso
      first
        | exact hg9 rfl
        | exact hg9 trivial
        | exact hg8 rfl
        | exact hg8 trivial
        | exact hg7 rfl
        | exact hg7 trivial
        | exact hg6 rfl
        | exact hg6 trivial
        | exact hg5 rfl
        | exact hg5 trivial
        | exact hg4 rfl
        | exact hg4 trivial
        | exact hg3 rfl
        | exact hg3 trivial
        | exact hg2 rfl
        | exact hg2 trivial
        | exact absurd hg9 (by decide)
        | exact absurd hg9 (by simp)
        | exact absurd hg8 (by decide)
        | exact absurd hg8 (by simp)
        | exact absurd hg7 (by decide)
        | exact absurd hg7 (by simp)
        | exact absurd hg6 (by decide)
        | exact absurd hg6 (by simp)
        | exact absurd hg5 (by decide)
        | exact absurd hg5 (by simp)
        | exact absurd hg4 (by decide)
        | exact absurd hg4 (by simp)
        | exact absurd hg3 (by decide)
        | exact absurd hg3 (by simp)
        | exact absurd hg2 (by decide)
        | exact absurd hg2 (by simp)
    ·
     try simp only [bsT] at hg2
     refine WO_off rfl ?_
     iterate 2 refine WO_step rfl (S_pure rfl ?_)
     iterate 2 refine WO_off rfl ?_
     iterate 2 refine WO_step rfl (S_pure rfl ?_)
     iterate 2 refine WO_off rfl ?_
     iterate 2 refine WO_step rfl (S_pure rfl ?_)
     iterate 3 refine WO_off rfl ?_
     iterate 2 refine WO_step rfl (S_pure rfl ?_)
     iterate 3 refine WO_off rfl ?_
     iterate 2 refine WO_step rfl (S_pure rfl ?_)
     iterate 2 refine WO_off rfl ?_
     iterate 2 refine WO_step rfl (S_pure rfl ?_)
     iterate 3 refine WO_off rfl ?_
     iterate 2 refine WO_step rfl (S_pure rfl ?_)
     iterate 2 refine WO_off rfl ?_
     iterate 2 refine WO_step rfl (S_pure rfl ?_)
     refine WO_nil (KSeq_n (WC_ret ?_))
     refine KFn_r (ResL.tmp rfl ResL.nil) ?_
     exfalso
     first
       | exact hg9 rfl
       | exact hg9 trivial
       | exact hg8 rfl
       | exact hg8 trivial
       | exact hg7 rfl
       | exact hg7 trivial
       | exact hg6 rfl
       | exact hg6 trivial
       | exact hg5 rfl
       | exact hg5 trivial
       | exact hg4 rfl
       | exact hg4 trivial
       | exact hg3 rfl
       | exact hg3 trivial
       | exact hg2 rfl
       | exact hg2 trivial
       | exact absurd hg9 (by decide)
       | exact absurd hg9 (by simp)
       | exact absurd hg8 (by decide)
       | exact absurd hg8 (by simp)
       | exact absurd hg7 (by decide)
       | exact absurd hg7 (by simp)
       | exact absurd hg6 (by decide)
       | exact absurd hg6 (by simp)
       | exact absurd hg5 (by decide)
       | exact absurd hg5 (by simp)
       | exact absurd hg4 (by decide)
       | exact absurd hg4 (by simp)
       | exact absurd hg3 (by decide)
       | exact absurd hg3 (by simp)
       | exact absurd hg2 (by decide)
       | exact absurd hg2 (by simp)

end Go.Proofs.YtpnmeednimpjdaaGreat.AM
