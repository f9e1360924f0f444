/- Walks: what the functions compute. -/
import Derived.Test.YtpgidiompdabdaaGreatJg
import Derived.Test.YtpgidiompdabdaaGreatFlat
namespace Go.Proofs.YtpgidiompdabdaaGreat.AM
open Go
set_option linter.unusedSimpArgs false
set_option linter.unusedVariables false
set_option maxRecDepth 4000

/-! ### The law JobConvert, whole -/
theorem bothX_l {X1 X2 : Exts} {g : FuncId} {vs : List Value} {h : AH} {r : Value × AH} (h1 : X1 g vs h = some r) : bothX X1 X2 g vs h = some r := by unfold bothX; rw [h1]
theorem run_begunK : (runF F0 (keysX 45 61 44 9) 2000 f_loesslaw25_begun [] AH.empty).map (·.1) = some (.bool true) := by kernel_rfl
theorem sp_begunK {H : SH} : WF F X f_loesslaw25_begun [] H (fun r H' => H' = H ∧ r = .bool true) :=
  WF_ext fun a hH => ⟨_, a, H, bothX_l (groundK_intro (by decide) rfl run_begunK rfl), hH, rfl, rfl⟩
theorem S_minK {l : SE} {H : SH} {K : Value → SH → Prop} {x y : Opd} {n : Int} {r : Nat} (hx : x.lv l = some (.int .i64 n)) (hy : y.lv l = some (.int .i64 (r : Int))) (k : K (.int .i64 (if (r : Int) < n then (r : Int) else n)) H) : Step (.mm false [x, y]) l H K :=
  S_pureE (v := .int .i64 (if (r : Int) < n then (r : Int) else n)) (by simp only [pev, lvs, hx, hy, mmV]; rfl) rfl k
theorem S_maxK {l : SE} {H : SH} {K : Value → SH → Prop} {x : Opd} {n : Int} {a : Nat} (hx : x.lv l = some (.int .i64 n)) (ha : (if n > 0 then n else 0) = (a : Int)) (k : K (.int .i64 (a : Int)) H) : Step (.mm true [.const (.int .i64 0), x]) l H K :=
  S_pureE (v := .int .i64 (if n > 0 then n else 0)) (by
    have h2 : (Opd.const (.int .i64 0)).lv l = some (.int .i64 0) := rfl
    simp only [pev, lvs, hx, h2, mmV]; rfl) (by rw [ha]) k
theorem half_at {ts : List SlT} {d k : Nat} (hl : ts.length = 32) (hd : d ≤ 8) (hk : k < 32) : (ts.take (4 * d) ++ List.replicate (32 - 4 * d) slt0)[k]? = if k / 4 < d then ts[k]? else some slt0 := by
  by_cases h : k / 4 < d
  · rw [if_pos h, List.getElem?_append_left (by rw [List.length_take]; omega), List.getElem?_take, if_pos (by omega)]
  · rw [if_neg h, List.getElem?_append_right (by rw [List.length_take]; omega), List.getElem?_replicate, if_pos (by rw [List.length_take]; omega)]
theorem half_len {ts : List SlT} {d : Nat} (hl : ts.length = 32) (hd : d ≤ 8) : (ts.take (4 * d) ++ List.replicate (32 - 4 * d) slt0).length = 32 := by
  rw [List.length_append, List.length_take, List.length_replicate]; omega
theorem lp_KC2 {H : SH} {v1 v2 v14 : Value} {ns : List Int} {M : List Rec} {ts : List SlT} {j iD i9 i10 : Nat} (h1 : RD H v1 TInt ns) (hv : RD H v2 TRec M) (hM : M.length ≤ 100) (hl : ts.length = 32) : ∀ (K rr d : Nat) (w : SV) (l : List Rec) (es : List Ent), 12 - rr = K → rr ≤ 12 → d ≤ 8 → LogI es l →
    WC F X (.loop L_loesslaw25_JobConvert_2) [(17, .int .i64 (rr : Int)), (1, v1), (16, .int .i64 (d : Int)), (15, .pointer (some ⟨i9, 0, none⟩)), (2, v2), (8, .pointer (some ⟨j, 0, none⟩)), (10, .pointer (some ⟨i10, 0, none⟩)), (14, v14)] (CO i9 (cvt ts d) d :: AO i10 38 TSlT ts :: LO j iD w :: SL w.toV TRec l :: DO iD es l.length :: H)
      (KPost fun y l' H' => ∃ d, d ≤ 8 ∧ y = .exit 4 ∧ l' = [(15, .pointer (some ⟨i9, 0, none⟩)), (14, v14)] ∧ H' = CO i9 (cvt ts d) d :: H) := by
  intro K
  induction K using Nat.strongRecOn with
  | _ K ih =>
    intro rr d w l es hK hr hd g
    refine WC_loop (WC_seq (WC_seq (WC_region ?_)))
    iterate 2 refine WO_step rfl (S_pure rfl ?_)
    first | refine WO_step rfl (S_pure rfl ?_) | refine WO_step rfl (S_lenS rfl rdA ?_)
    iterate 2 refine WO_step rfl (S_pure rfl ?_)
    refine WO_cases (t := 74) rfl (fun hg1 => ?_) (fun hg1 => ?_)
    ·
     try simp only [bsT] at hg1
     obtain ⟨n, hn⟩ := get_of_lt hg1
     obtain ⟨k, hk⟩ : ∃ k : Nat, min (8 - d) n.toNat = k := ⟨_, rfl⟩
     iterate 3 refine WO_step rfl (S_pure rfl ?_)
     refine WO_nil (KSeq_n ?_)
     refine WC_cond rfl (fun hb1 => ?_) (fun hb1 => ?_)
     ·
      try simp only [bsT] at hb1
      refine WC_skip (KSeq_n (WC_seq (WC_block (WC_seq (WC_region ?_)))))
      iterate 2 refine WO_step rfl (S_pure rfl ?_)
      refine WO_step rfl (S_idx rfl rfl rdA (by first | rfl | assumption | (symm; assumption)) (by rfl) (by first | assumption | omega | exact lt_of_get (by assumption) | (simp only [List.length_set]; first | assumption | omega | exact lt_of_get (by assumption))) fun hp82 => ?_)
      refine WO_step rfl (S_loadE rfl rdA (by first | rfl | assumption | (symm; assumption)) (by first | rfl | assumption | (symm; assumption)) (by first | rfl | assumption | (symm; assumption)) (by assumption) ?_)
      refine WO_step rfl (S_pure rfl ?_)
      refine WO_nil (KSeq_n (WC_seq (WC_region ?_)))
      iterate 2 refine WO_step rfl (S_pure rfl ?_)
      first | refine WO_step rfl (S_subN (a := 8) rfl rfl (by omega) ?_) | refine WO_step rfl (S_pure rfl ?_)
      refine WO_step rfl (S_minK (n := n) (r := 8 - d) rfl rfl ?_)
      refine WO_step rfl (S_maxK (a := k) rfl (by split <;> split <;> omega) ?_)
      refine WO_step rfl (S_pure rfl ?_)
      refine WO_nil (KSeq_n (WC_seq (WC_seq (WC_region ?_))))
      iterate 2 refine WO_step rfl (S_pure rfl ?_)
      refine WO_call rfl rfl rfl ?_
      refine (WF.weak (sp_CWork (i := i9) (D := d) (n := n) (ts := ts) (H := AO i10 38 TSlT ts :: LO j iD w :: SL w.toV TRec l :: DO iD es l.length :: H) hl hd) hsA).mono ?_
      rintro _ _ ⟨rfl, rfl⟩
      rw [hk]
      refine WO_step rfl (S_pure rfl ?_)
      first | refine WO_step rfl (S_neS rfl rfl ?_) | refine WO_step rfl (S_pure rfl ?_)
      refine WO_nil (KSeq_n ?_)
      refine WC_cond rfl (fun hb2 => ?_) (fun hb2 => ?_)
      ·
       try simp only [bsT] at hb2
       refine WC_seq (WC_region ?_)
       refine WO_step rfl (S_pure rfl ?_)
       refine WO_nil (KSeq_n (WC_ret (KSeq_r (KBlock_r (KSeq_r (KLoop_r ?_))))))
       exact absurd hb2 (by simp)
      ·
       try simp only [bsT] at hb2
       refine WC_skip (KSeq_n (WC_seq (WC_region ?_)))
       iterate 2 refine WO_step rfl (S_pure rfl ?_)
       first | refine WO_step rfl (S_addN rfl rfl (by omega) ?_) | refine WO_step rfl (S_pure rfl ?_)
       refine WO_step rfl (S_pure rfl ?_)
       refine WO_nil (KSeq_n (WC_seq (WC_seq (WC_region ?_))))
       refine WO_step rfl (S_pure rfl ?_)
       refine WO_nil (KSeq_n (WC_block ?_))
       --out x6
       refine WC_post (WC_weak (lp_KC3 (H := CO i9 (cvt ts (d + k)) (d + k) :: AO i10 38 TSlT ts :: H) (v1 := v1) (v2 := v2) (v10 := .pointer (some ⟨i10, 0, none⟩)) (v14 := v14) (v15 := .pointer (some ⟨i9, 0, none⟩)) (v16 := .int .i64 ((d + k : Nat) : Int)) (M := M) (j := j) (iD := iD) (rr := rr) hv.tail.tail hM M.length 0 w l es (by omega) (by omega) g) seA hsA) ?_
       rintro y l' _ ⟨w, l, es, rfl, rfl, rfl, g⟩
       refine KBlock_h (KSeq_n (WC_seq (WC_region ?_)))
       refine WO_step rfl (S_pure rfl ?_)
       refine WO_call rfl rfl rfl ?_
       refine (WF.weak (sp_CTable (i := i9) (d := d + k) (ts := ts) (H := AO i10 38 TSlT ts :: LO j iD w :: SL w.toV TRec l :: DO iD es l.length :: H) hl (by omega)) hsA).mono ?_
       rintro _ _ ⟨rfl, rfl⟩
       refine WO_call rfl rfl rfl ?_
       have hhl := half_len (d := d + k) hl (by omega)
       refine (sp_BkT hhl).mono ?_
       rintro _ _ ⟨rfl, rfl⟩
       refine WO_step rfl (S_new fun i21 => ?_)
       refine WO_step rfl (S_storeTab (ts0 := zeroT) (ts := ts.take (4 * (d + k)) ++ List.replicate (32 - 4 * (d + k)) slt0) rfl rfl pkA zeroT_len hhl ?_)
       refine WO_nil (KSeq_n (WC_seq (WC_seq (WC_region ?_))))
       refine WO_step rfl (S_pure rfl ?_)
       refine WO_nil (KSeq_n (WC_block ?_))
       --out x8
       refine WC_post (WC_weak (lp_KC4 (H := CO i9 (cvt ts (d + k)) (d + k) :: LO j iD w :: SL w.toV TRec l :: DO iD es l.length :: H) (v1 := v1) (v2 := v2) (v8 := .pointer (some ⟨j, 0, none⟩)) (v14 := v14) (v15 := .pointer (some ⟨i9, 0, none⟩)) (tab := ts) (us := ts.take (4 * (d + k)) ++ List.replicate (32 - 4 * (d + k)) slt0) (d := d + k) (rr := rr) (i10 := i10) (by omega) hl hhl (fun q hq => half_at hl (by omega) hq) 32 0 (by omega) (by omega)) seA hsA) ?_
       rintro y l' _ ⟨rfl, rfl, rfl⟩
       refine KBlock_h (KSeq_n (WC_seq (WC_region ?_)))
       refine WO_step rfl (S_pure rfl ?_)
       refine WO_call rfl rfl rfl ?_
       refine (WF.weak (sp_CDone (i := i9) (d := d + k) (xs := cvt ts (d + k)) (H := AO i10 38 TSlT ts :: LO j iD w :: SL w.toV TRec l :: DO iD es l.length :: H) (cvt_len hl (by omega))) hsA).mono ?_
       rintro _ _ ⟨rfl, rfl⟩
       refine WO_step rfl (S_pure rfl ?_)
       first | refine WO_step rfl (S_eqS rfl rfl ?_) | refine WO_step rfl (S_pure rfl ?_)
       refine WO_step rfl (S_pure rfl ?_)
       refine WO_nil (KSeq_n ?_)
       refine WC_cond rfl (fun hb3 => ?_) (fun hb3 => ?_)
       ·
        try simp only [bsT] at hb3
        refine WC_seq (WC_region ?_)
        refine WO_step rfl (S_pure rfl ?_)
        refine WO_nil (KSeq_n (WC_ret (KBlock_r (KSeq_r (KLoop_r ?_)))))
        have hde : decide (d + k = 8) = (((d : Int) + (k : Int)) == 8) := by
          rw [Bool.eq_iff_iff]; simp; omega
        exact absurd hb3 (by simp [hde])
       ·
        try simp only [bsT] at hb3
        refine WC_skip (KBlock_n (KSeq_n (WC_region ?_)))
        refine WO_step rfl (S_pure rfl ?_)
        first | refine WO_step rfl (S_addN (b := 1) rfl rfl (by omega) ?_) | refine WO_step rfl (S_pure rfl ?_)
        refine WO_step rfl (S_pure rfl ?_)
        refine WO_nil (KLoop_n ?_)
        exact WC_weak (ih (12 - (rr + 1)) (by omega) (rr + 1) (d + k) w l es rfl (by omega) (by omega) g) seA hsA
     ·
      try simp only [bsT] at hb1
      refine WC_exit (KSeq_x (KLoop_x ?_))
      exact KPost_i (H' := CO i9 (cvt ts d) d :: H) seA hsA ⟨d, hd, rfl, rfl, rfl⟩
    ·
     try simp only [bsT] at hg1
     iterate 2 refine WO_off rfl ?_
     refine WO_step rfl (S_pure rfl ?_)
     refine WO_nil (KSeq_n ?_)
     refine WC_cond rfl (fun h => ?_) (fun _ => ?_)
     · exact absurd h (by decide)
     refine WC_exit (KSeq_x (KLoop_x ?_))
     exact KPost_i (H' := CO i9 (cvt ts d) d :: H) seA hsA ⟨d, hd, rfl, rfl, rfl⟩
theorem law_JobConvert {H : SH} {v v1 v2 : Value} {N0 M0 : List Rec} {ns : List Int} (hv : RD H v TRec N0) (hok : ∀ x ∈ N0, okRec x) (h1 : RD H v1 TInt ns) (_ : ∀ x ∈ ns, (Lit.int .i64 x).wf = true) (hv2 : RD H v2 TRec M0) (hok2 : ∀ x ∈ M0, okRec x) : WF F X f_loesslaw25_JobConvert [v, v1, v2] H (fun r _ => r = .bool true) := by
  refine WF_fn F_loesslaw25_JobConvert ?_
  refine WC_seq (WC_region ?_)
  refine WO_step rfl (S_pure rfl ?_)
  refine WO_nil (KSeq_n (WC_seq (WC_region ?_)))
  refine WO_call rfl rfl rfl ?_
  refine sp_begunK.mono ?_
  rintro _ H1 ⟨rfl, rfl⟩
  refine WO_step rfl (S_pure rfl ?_)
  refine WO_nil (KSeq_n (WC_seq (WC_seq (WC_region ?_))))
  iterate 2 refine WO_step rfl (S_pure rfl ?_)
  refine WO_nil (KSeq_n ?_)
  refine WC_cond rfl (fun hb1 => ?_) (fun hb1 => ?_)
  ·
   try simp only [bsT] at hb1
   exact absurd hb1 (by simp)
   --stop
  ·
   try simp only [bsT] at hb1
   refine WC_skip (KSeq_n (WC_seq (WC_region ?_)))
   refine WO_step rfl (S_pure rfl ?_)
   refine WO_call rfl rfl rfl ?_
   refine (sp_Recs (m := 40) hv (by omega)).mono ?_
   rintro _ _ ⟨w0, rfl, rfl⟩
   obtain ⟨N, hN⟩ : ∃ N, (N0.take 40).map cutRec = N := ⟨_, rfl⟩
   have hNl : N.length ≤ 40 := by rw [← hN, List.length_map, List.length_take]; omega
   rw [hN]
   refine WO_step rfl (S_pure rfl ?_)
   refine WO_call rfl rfl rfl ?_
   refine (sp_Recs (m := 5) hv2.tail (by omega)).mono ?_
   rintro _ _ ⟨w2, rfl, rfl⟩
   obtain ⟨M, hM⟩ : ∃ M, (M0.take 5).map cutRec = M := ⟨_, rfl⟩
   have hMl : M.length ≤ 5 := by rw [← hM, List.length_map, List.length_take]; omega
   rw [hM]
   iterate 2 refine WO_step rfl (S_pure rfl ?_)
   refine WO_nil (KSeq_n (WC_seq (WC_region ?_)))
   refine WO_call rfl rfl rfl ?_
   refine sp_lNew.mono ?_
   rintro _ _ ⟨jL, iL, rfl, rfl⟩
   refine WO_step rfl (S_pure rfl ?_)
   refine WO_nil (KSeq_n (WC_seq (WC_seq (WC_region ?_))))
   refine WO_step rfl (S_pure rfl ?_)
   refine WO_nil (KSeq_n (WC_block ?_))
   --out x0
   refine WC_post (WC_weak (lp_KC0 (H := SL w2.toV TRec M :: SL w0.toV TRec N :: H1) (v := w0.toV) (N := N) (v1 := v1) (v2 := w2.toV) (j := jL) (iD := iL) RD.head.tail (by omega) N.length 0 .nil [] _ (by omega) (by omega) LogI.new (by intro r hr; simp at hr) (by simp)) seA hsA) ?_
   rintro x l' _ ⟨w, l, es, rfl, rfl, rfl, hg, hal, _⟩
   have hlen := hg.len
   have hks : ∀ x ∈ l, x.key.size ≤ maxLen := fun x hx => by have := may_key (hal x hx); exact Nat.le_trans this (by decide)
   obtain ⟨ts, hts⟩ : ∃ ts, tabT es l = ts := ⟨_, rfl⟩
   have hl : ts.length = 32 := by rw [← hts]; exact tabT_len es l
   have hnw := tab_newest hg
   rw [hts] at hnw
   refine KBlock_h (KSeq_n (WC_seq (WC_region ?_)))
   refine WO_step rfl (S_new fun i10 => ?_)
   refine WO_nil (KSeq_n (WC_seq (WC_seq (WC_region ?_))))
   refine WO_step rfl (S_pure rfl ?_)
   refine WO_nil (KSeq_n (WC_block ?_))
   --out x2
   refine WC_post (WC_weak (lp_KC1 (H := SL w2.toV TRec M :: SL w0.toV TRec N :: H1) (v1 := v1) (v2 := w2.toV) (j := jL) (iD := iL) (n := l.length) (i10 := i10) (w := w) hg 32 0 zeroT (by omega) (by omega) zeroT_len (fun q hq => absurd hq (Nat.not_lt_zero _)) (fun q _ hq => by unfold zeroT; rw [List.getElem?_replicate, if_pos hq])) seA (by first | exact hsA | (show HSub (AO i10 38 TSlT zeroT :: _) _; exact hsA))) ?_
   rintro x l' _ ⟨rfl, rfl, rfl⟩
   rw [hts]
   refine KBlock_h (KSeq_n (WC_seq (WC_region ?_)))
   refine WO_step rfl (S_pure rfl ?_)
   refine WO_call rfl rfl rfl ?_
   refine (WF.weak (sp_lList (H := AO i10 38 TSlT ts :: SL w2.toV TRec M :: SL w0.toV TRec N :: H1) (w := w) (j := jL) (i := iL) (n := l.length) (es := es) (l := l) (by omega) hks) hsA).mono ?_
   rintro _ _ ⟨u, rfl, rfl⟩
   refine WO_step rfl (S_pure rfl ?_)
   refine WO_nil (KSeq_n (WC_seq (WC_region ?_)))
   refine WO_step rfl (S_pure rfl ?_)
   refine WO_call rfl rfl rfl ?_
   refine (WF.weak (sp_NewConvert (H := SL u.toV TRec (newest l) :: AO i10 38 TSlT ts :: SL w2.toV TRec M :: SL w0.toV TRec N :: H1) (j := jL) (i := iL) (n := l.length) (w := w) hg) hsA).mono ?_
   rintro _ _ ⟨i9, rfl, rfl⟩
   rw [hts]
   refine WO_step rfl (S_pure rfl ?_)
   refine WO_nil (KSeq_n (WC_seq (WC_region ?_)))
   refine WO_step rfl (S_pure rfl ?_)
   refine WO_nil (KSeq_n (WC_seq (WC_seq (WC_region ?_))))
   refine WO_step rfl (S_pure rfl ?_)
   refine WO_nil (KSeq_n (WC_block ?_))
   --out x4
   refine WC_post (WC_weak (lp_KC2 (H := SL u.toV TRec (newest l) :: SL w2.toV TRec M :: SL w0.toV TRec N :: H1) (v1 := v1) (v2 := w2.toV) (v14 := u.toV) (ns := ns) (M := M) (ts := ts) (j := jL) (iD := iL) (i9 := i9) (i10 := i10) h1.tail.tail.tail rdA (by omega) hl 12 0 0 w l es (by omega) (by omega) (by omega) hg) seA hsA) ?_
   rintro x l' _ ⟨d, hd, rfl, rfl, rfl⟩
   refine KBlock_h (KSeq_n (WC_seq (WC_region ?_)))
   refine WO_step rfl (S_pure rfl ?_)
   refine WO_call rfl rfl rfl ?_
   refine (WF.weak (sp_CWork (i := i9) (D := d) (n := 8) (ts := ts) (H := SL u.toV TRec (newest l) :: SL w2.toV TRec M :: SL w0.toV TRec N :: H1) hl hd) hsA).mono ?_
   rintro _ _ ⟨rfl, rfl⟩
   rw [show d + min (8 - d) (8 : Int).toNat = 8 by show d + min (8 - d) 8 = 8; omega]
   refine WO_nil (KSeq_n (WC_seq (WC_region ?_)))
   refine WO_step rfl (S_pure rfl ?_)
   refine WO_call rfl rfl rfl ?_
   refine (sp_CDone (xs := cvt ts 8) (cvt_len hl (by omega))).mono ?_
   rintro _ _ ⟨rfl, rfl⟩
   refine WO_step rfl (S_pure rfl ?_)
   refine WO_cases (t := 166) rfl (fun hg1 => ?_) (fun hg1 => ?_)
   ·
    try simp only [bsT] at hg1
    refine WO_step rfl (S_pure rfl ?_)
    refine WO_call rfl rfl rfl ?_
    refine (sp_CTable (i := i9) (d := 8) (ts := ts) hl (by omega)).mono ?_
    rintro _ _ ⟨rfl, rfl⟩
    rw [show ts.take (4 * 8) ++ List.replicate (32 - 4 * 8) slt0 = ts by rw [List.take_of_length_le (by omega)]; simp]
    refine WO_call rfl rfl rfl ?_
    refine (sp_BkT hl).mono ?_
    rintro _ _ ⟨rfl, rfl⟩
    refine WO_call rfl rfl rfl ?_
    refine (sp_Records hl).mono ?_
    rintro _ _ ⟨u2, rfl, rfl⟩
    rw [hnw]
    refine WO_step rfl (S_pure rfl ?_)
    refine WO_call rfl rfl rfl ?_
    refine (sp_EqRecs (l := newest l) (m := newest l) rdA rdA (by have := newest_len l; omega)).mono ?_
    rintro _ _ ⟨rfl, rfl⟩
    iterate 2 refine WO_step rfl (S_pure rfl ?_)
    refine WO_nil (KSeq_n (WC_ret ?_))
    refine KFn_r (ResL.tmp rfl ResL.nil) ?_
    exact ⟨_, HSub.refl, by simp [resV]⟩
   ·
    try simp only [bsT] at hg1
    iterate 6 refine WO_off rfl ?_
    iterate 2 refine WO_step rfl (S_pure rfl ?_)
    refine WO_nil (KSeq_n (WC_ret ?_))
    refine KFn_r (ResL.tmp rfl ResL.nil) ?_
    exact absurd hg1 (by simp)

end Go.Proofs.YtpgidiompdabdaaGreat.AM
