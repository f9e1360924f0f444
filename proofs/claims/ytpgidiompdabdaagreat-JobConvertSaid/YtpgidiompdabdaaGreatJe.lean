/- Walks: what the functions compute. -/
import Derived.Test.YtpgidiompdabdaaGreatLg7
namespace Go.Proofs.YtpgidiompdabdaaGreat.AM
open Go
set_option linter.unusedSimpArgs false
set_option linter.unusedVariables false
set_option maxRecDepth 4000

/-! ### Jobs that convert -/
/-- The value of a table. -/
abbrev tabV (ts : List SlT) : Value := .agg (TSlT.cells ts).toArray
theorem S_loadAll {α : Type} {T : Ty α} {l : SE} {H H0 : SH} {K : Value → SH → Prop} {i n : Nat} {t : TypeId} {a : Opd} {xs : List α} (ha : a.lv l = some (.pointer (some ⟨i, 0, none⟩))) (hp : Pick (AO i t T xs) H H0) (hn : n = xs.length * T.es) (kk : K (.agg (T.cells xs).toArray) H) : Step (.load true n a) l H K := by
  have hc := T.cells_len xs
  refine S_loadO ha hp (by rw [Nat.ble_eq, hc]; omega) ?_ kk
  rw [List.drop_zero, List.take_of_length_le (by rw [hc]; omega)]; rfl
theorem S_storeAll {α : Type} {T : Ty α} {l : SE} {H H0 : SH} {K : Value → SH → Prop} {i n : Nat} {t : TypeId} {c : List Value} {a y : Opd} {xs : List α} (ha : a.lv l = some (.pointer (some ⟨i, 0, none⟩))) (hy : y.lv l = some (.agg (T.cells xs).toArray)) (hp : Pick (.obj i (.row false t c)) H H0) (hc : c.length = n) (hn : xs.length * T.es = n) (kk : K undef (AO i t T xs :: H0)) : Step (.store n a y) l H K := by
  have hl := T.cells_len xs
  have e : AM.cells (.agg (T.cells xs).toArray) = T.cells xs := by simp [AM.cells, Value.cells]
  refine S_storeO ha hy hp (by rw [e, hl, hn]) (by rw [Nat.ble_eq, hc]; omega) (by rw [e]; exact T.cells_all xs) ?_
  rw [e, splice_all (by rw [hl, hn, hc])]
  exact kk
/-- A job: the slots that it has and those that it has made, and how many buckets are done. -/
def CO (i : Nat) (xs : List SlT) (d : Nat) : Res := .obj i (.row false 73 (TSlT.cells xs ++ [.int .i64 (d : Int)]))
theorem co_len {xs : List SlT} (hl : xs.length = 64) : (TSlT.cells xs).length = 384 := by rw [TSlT.cells_len, hl]; rfl
theorem S_loadCO {l : SE} {H H0 : SH} {K : Value → SH → Prop} {i o k m n d : Nat} {a : Opd} {xs : List SlT} (hl : xs.length = 64) (ha : a.lv l = some (.pointer (some ⟨i, o, none⟩))) (hp : Pick (CO i xs d) H H0) (ho : o = k * 6) (hn : n = m * 6) (hb : k + m ≤ 64) (kk : K (tabV ((xs.drop k).take m)) H) : Step (.load true n a) l H K := by
  have hc := co_len hl
  subst ho hn
  refine S_loadO ha hp (by rw [Nat.ble_eq, List.length_append, hc]; simp; omega) ?_ kk
  rw [List.drop_append_of_le_length (by omega), show k * 6 = k * TSlT.es from rfl, TSlT.cells_drop, List.take_append_of_le_length (by rw [TSlT.cells_len, List.length_drop]; show m * 6 ≤ (xs.length - k) * 6; omega), show m * 6 = m * TSlT.es from rfl, TSlT.cells_take]
  rfl
theorem S_loadCd {l : SE} {H H0 : SH} {K : Value → SH → Prop} {i o d : Nat} {a : Opd} {xs : List SlT} (hl : xs.length = 64) (ha : a.lv l = some (.pointer (some ⟨i, o, none⟩))) (hp : Pick (CO i xs d) H H0) (ho : o = 384) (kk : K (.int .i64 (d : Int)) H) : Step (.load false 1 a) l H K := by
  have hc := co_len hl
  subst ho
  refine S_loadO ha hp (by rw [Nat.ble_eq, List.length_append, hc]; simp) ?_ kk
  rw [List.drop_append, List.drop_of_length_le (by omega), hc]
  rfl
theorem S_storeCd {l : SE} {H H0 : SH} {K : Value → SH → Prop} {i o d d' : Nat} {a y : Opd} {xs : List SlT} (hl : xs.length = 64) (ha : a.lv l = some (.pointer (some ⟨i, o, none⟩))) (hy : y.lv l = some (.int .i64 (d' : Int))) (hp : Pick (CO i xs d) H H0) (ho : o = 384) (kk : K undef (CO i xs d' :: H0)) : Step (.store 1 a y) l H K := by
  have hc := co_len hl
  subst ho
  refine S_storeO ha hy hp rfl (by rw [Nat.ble_eq, List.length_append, hc]; simp) rfl ?_
  have e : splice (TSlT.cells xs ++ [.int .i64 (d : Int)]) 384 (AM.cells (.int .i64 (d' : Int))) = TSlT.cells xs ++ [.int .i64 (d' : Int)] := by
    have h := splice_mid (P := TSlT.cells xs) (M := [.int .i64 (d : Int)]) (S := []) (off := 0) (vs := [.int .i64 (d' : Int)]) (by simp)
    rw [hc] at h
    simpa [AM.cells, Value.cells, splice] using h
  rw [e]; exact kk
theorem S_storeCO {l : SE} {H H0 : SH} {K : Value → SH → Prop} {i o k m n d : Nat} {a y : Opd} {xs ys : List SlT} (hl : xs.length = 64) (ha : a.lv l = some (.pointer (some ⟨i, o, none⟩))) (hy : y.lv l = some (tabV ys)) (hp : Pick (CO i xs d) H H0) (ho : o = k * 6) (hm : ys.length = m) (hn : n = m * 6) (hb : k + m ≤ 64) (kk : K undef (CO i (xs.take k ++ ys ++ xs.drop (k + m)) d :: H0)) : Step (.store n a y) l H K := by
  have hc := co_len hl
  have hy6 := TSlT.cells_len ys
  rw [hm] at hy6
  have e : AM.cells (tabV ys) = TSlT.cells ys := by simp [AM.cells, Value.cells]
  subst ho hn
  refine S_storeO ha hy hp (by rw [e, hy6]; rfl) (by rw [Nat.ble_eq, List.length_append, hc]; simp; omega) (by rw [e]; exact TSlT.cells_all ys) ?_
  have e2 : splice (TSlT.cells xs ++ [.int .i64 (d : Int)]) (k * 6) (AM.cells (tabV ys)) = TSlT.cells (xs.take k ++ ys ++ xs.drop (k + m)) ++ [.int .i64 (d : Int)] := by
    have h := splice_mid (P := []) (M := TSlT.cells xs) (S := [.int .i64 (d : Int)]) (off := k * 6) (vs := TSlT.cells ys) (by rw [hy6, hc]; show k * 6 + m * 6 ≤ 384; omega)
    rw [List.nil_append, List.nil_append, List.length_nil, Nat.zero_add] at h
    rw [e, h]
    congr 1
    unfold splice
    rw [hy6, show k * 6 = k * TSlT.es from rfl, TSlT.cells_take, show k * TSlT.es + m * TSlT.es = (k + m) * TSlT.es from (Nat.add_mul ..).symm, TSlT.cells_drop, TSlT.cells_app, TSlT.cells_app]
  rw [e2]; exact kk
/-! ### Jobs that convert, walked -/
def cvt (ts : List SlT) (d : Nat) : List SlT := ts ++ (ts.take (4 * d) ++ List.replicate (32 - 4 * d) slt0)
theorem cvt_len {ts : List SlT} {d : Nat} (hl : ts.length = 32) (hd : d ≤ 8) : (cvt ts d).length = 64 := by
  unfold cvt; rw [List.length_append, List.length_append, List.length_take, List.length_replicate]; omega
theorem cvt_step {ts : List SlT} {d : Nat} (hl : ts.length = 32) (hd : d < 8) : (cvt ts d).take (32 + 4 * d) ++ ((cvt ts d).drop (4 * d)).take 4 ++ (cvt ts d).drop (32 + 4 * d + 4) = cvt ts (d + 1) := by
  have h1 : (cvt ts d).take (32 + 4 * d) = ts ++ ts.take (4 * d) := by
    unfold cvt
    rw [← List.append_assoc, List.take_append_of_le_length (by rw [List.length_append, List.length_take]; omega), List.take_of_length_le (by rw [List.length_append, List.length_take]; omega)]
  have h2 : ((cvt ts d).drop (4 * d)).take 4 = (ts.drop (4 * d)).take 4 := by
    unfold cvt
    rw [List.drop_append_of_le_length (by omega), List.take_append_of_le_length (by rw [List.length_drop]; omega)]
  have h3 : (cvt ts d).drop (32 + 4 * d + 4) = List.replicate (32 - 4 * (d + 1)) slt0 := by
    unfold cvt
    rw [← List.append_assoc, List.drop_append, List.drop_of_length_le (by rw [List.length_append, List.length_take]; omega), List.nil_append, List.length_append, List.length_take, List.drop_replicate]
    congr 1; omega
  rw [h1, h2, h3]
  unfold cvt
  rw [show 4 * (d + 1) = 4 * d + 4 by omega, List.take_add]
  simp
theorem ResL.tab {l : SE} {H H0 : SH} {t i : Nat} {ty : TypeId} {xs : List SlT} {rs : List (Nat × Option (Bool × Nat))} {vs : List Value} (h : lk l t = some (.pointer (some ⟨i, 0, none⟩))) (hm : Pick (AO i ty TSlT xs) H H0) (hl : xs.length = 32) (hr : ResL l H rs vs) : ResL l H ((t, some (true, 192)) :: rs) (tabV xs :: vs) := by
  have hc : (TSlT.cells xs).length = 192 := by rw [TSlT.cells_len, hl]; rfl
  refine ResL.cell h hm (by omega) ?_ hr
  rw [List.take_of_length_le (by omega)]; rfl
theorem sp_CDone {H : SH} {i d : Nat} {xs : List SlT} (hl : xs.length = 64) : WF F X f_job_Convert_Done [.pointer (some ⟨i, 0, none⟩)] (CO i xs d :: H) (fun r H' => H' = CO i xs d :: H ∧ r = .bool (decide (d = 8))) := by
  refine WF_fn F_job_Convert_Done ?_
  refine WC_seq (WC_region ?_)
  refine WO_step rfl (S_pure rfl ?_)
  refine WO_nil (KSeq_n (WC_seq (WC_region ?_)))
  iterate 3 refine WO_step rfl (S_pure rfl ?_)
  refine WO_cases (t := 5) rfl (fun hg1 => ?_) (fun hg1 => ?_)
  ·
   try simp only [bsT] at hg1
   exact absurd hg1 (by simp)
   --stop
  ·
   try simp only [bsT] at hg1
   iterate 3 refine WO_step rfl (S_pure rfl ?_)
   refine WO_step rfl (S_loadCd hl rfl pkA rfl ?_)
   first | refine WO_step rfl (S_eqS rfl rfl ?_) | refine WO_step rfl (S_pure rfl ?_)
   iterate 2 refine WO_step rfl (S_pure rfl ?_)
   refine WO_nil (KSeq_n (WC_ret ?_))
   refine KFn_r (ResL.tmp rfl ResL.nil) ?_
   refine ⟨_, hsA, rfl, ?_⟩
   simp only [resV]
   congr 1
   rw [Bool.eq_iff_iff]; simp; try omega
theorem sp_CTable {H : SH} {i d : Nat} {ts : List SlT} (hl : ts.length = 32) (hd : d ≤ 8) : WF F X f_job_Convert_Table [.pointer (some ⟨i, 0, none⟩)] (CO i (cvt ts d) d :: H) (fun r H' => H' = CO i (cvt ts d) d :: H ∧ r = tabV (ts.take (4 * d) ++ List.replicate (32 - 4 * d) slt0)) := by
  have hcl := cvt_len hl hd
  have hu : ((cvt ts d).drop 32).take 32 = ts.take (4 * d) ++ List.replicate (32 - 4 * d) slt0 := by
    unfold cvt
    rw [List.drop_append_of_le_length (by omega), List.drop_of_length_le (by omega), List.nil_append, List.take_of_length_le (by rw [List.length_append, List.length_take, List.length_replicate]; omega)]
  have hul : (ts.take (4 * d) ++ List.replicate (32 - 4 * d) slt0).length = 32 := by rw [List.length_append, List.length_take, List.length_replicate]; omega
  refine WF_fn F_job_Convert_Table ?_
  refine WC_seq (WC_region ?_)
  refine WO_step rfl (S_new fun i2 => ?_)
  refine WO_nil (KSeq_n (WC_seq (WC_seq (WC_region ?_))))
  iterate 2 refine WO_step rfl (S_pure rfl ?_)
  refine WO_nil (KSeq_n ?_)
  refine WC_cond rfl (fun hb1 => ?_) (fun hb1 => ?_)
  ·
   try simp only [bsT] at hb1
   exact absurd hb1 (by simp)
   --stop
  ·
   try simp only [bsT] at hb1
   refine WC_skip (KSeq_n (WC_seq (WC_region ?_)))
   iterate 3 refine WO_step rfl (S_pure rfl ?_)
   refine WO_step rfl (S_loadCO (k := 32) (m := 32) hcl rfl pkA rfl rfl (by omega) ?_)
   rw [hu]
   refine WO_step rfl (S_storeAll (T := TSlT) (xs := ts.take (4 * d) ++ List.replicate (32 - 4 * d) slt0) rfl rfl pkA (by rfl) (by rw [hul]; rfl) ?_)
   refine WO_nil (KSeq_n (WC_ret ?_))
   refine KFn_r (ResL.tab rfl pkA hul ResL.nil) ?_
   exact ⟨_, hsA, rfl, rfl⟩
theorem lp_CW {H : SH} {i N D : Nat} {n : Int} {ts : List SlT} (hN : N = n.toNat) (hl : ts.length = 32) (hD : D ≤ 8) : ∀ (K j : Nat), 8 - (D + j) = K → D + j ≤ 8 → j ≤ N →
    WC F X (.loop L_job_Convert_Work_0) [(5, .int .i64 (j : Int)), (0, .pointer (some ⟨i, 0, none⟩)), (1, .int .i64 n)] (CO i (cvt ts (D + j)) (D + j) :: H)
      (KPost fun y l' H' => y = .exit 0 ∧ l' = [(5, .int .i64 ((min (8 - D) N : Nat) : Int))] ∧ H' = CO i (cvt ts (D + min (8 - D) N)) (D + min (8 - D) N) :: H) := by
  intro K
  induction K using Nat.strongRecOn with
  | _ K ih =>
    intro j hK hj hjN
    have hcl := cvt_len hl hj
    refine WC_loop (WC_seq (WC_seq (WC_region ?_)))
    refine WO_step rfl (S_pure rfl ?_)
    refine WO_call rfl rfl rfl ?_
    refine (sp_CDone hcl).mono ?_
    rintro _ _ ⟨rfl, rfl⟩
    iterate 2 refine WO_step rfl (S_pure rfl ?_)
    refine WO_cases (t := 9) rfl (fun hg1 => ?_) (fun hg1 => ?_)
    ·
     try simp only [bsT] at hg1
     iterate 4 refine WO_step rfl (S_pure rfl ?_)
     refine WO_nil (KSeq_n ?_)
     refine WC_cond rfl (fun hb1 => ?_) (fun hb1 => ?_)
     ·
      try simp only [bsT] at hb1
      have hd8 : D + j < 8 := by first | omega | (simp at hg1; omega)
      have hbl : (((cvt ts (D + j)).drop (4 * (D + j))).take 4).length = 4 := by rw [List.length_take, List.length_drop]; omega
      have hcl2 := cvt_len (d := D + j + 1) hl (by omega)
      refine WC_skip (KSeq_n (WC_block (WC_seq (WC_region ?_))))
      iterate 4 refine WO_step rfl (S_pure rfl ?_)
      refine WO_step rfl (S_loadCd hcl rfl pkA rfl ?_)
      iterate 4 refine WO_step rfl (S_pure rfl ?_)
      refine WO_step rfl (S_loadCd hcl rfl pkA rfl ?_)
      iterate 2 refine WO_step rfl (S_pure rfl ?_)
      refine WO_step rfl (S_idxA (j := D + j) rfl rfl rfl (by omega) ?_)
      refine WO_step rfl (S_loadCO (k := 4 * (D + j)) (m := 4) hcl rfl pkA (by omega) rfl (by omega) ?_)
      iterate 2 refine WO_step rfl (S_pure rfl ?_)
      refine WO_step rfl (S_idxA (j := D + j) rfl rfl rfl (by omega) ?_)
      refine WO_step rfl (S_storeCO (k := 32 + 4 * (D + j)) (m := 4) hcl rfl rfl pkA (by omega) hbl rfl (by omega) ?_)
      rw [cvt_step hl hd8]
      refine WO_nil (KSeq_n (WC_seq (WC_region ?_)))
      iterate 3 refine WO_step rfl (S_pure rfl ?_)
      refine WO_step rfl (S_loadCd hcl2 rfl pkA rfl ?_)
      refine WO_step rfl (S_addN (a := D + j) (b := 1) rfl rfl (by omega) ?_)
      iterate 2 refine WO_step rfl (S_pure rfl ?_)
      refine WO_step rfl (S_storeCd hcl2 rfl rfl pkA rfl ?_)
      refine WO_nil (KSeq_n (WC_region ?_))
      refine WO_step rfl (S_pure rfl ?_)
      first | refine WO_step rfl (S_addN (b := 1) rfl rfl (by omega) ?_) | refine WO_step rfl (S_pure rfl ?_)
      refine WO_step rfl (S_pure rfl ?_)
      refine WO_nil (KBlock_n (KLoop_n ?_))
      exact WC_weak (ih (8 - (D + (j + 1))) (by omega) (j + 1) rfl (by omega) (by omega)) seA hsA
     ·
      try simp only [bsT] at hb1
      refine WC_exit (KSeq_x (KLoop_x ?_))
      have ej : min (8 - D) N = j := by omega
      rw [ej]
      exact KPost_i (H' := CO i (cvt ts (D + j)) (D + j) :: H) seA hsA ⟨rfl, rfl, rfl⟩
    ·
     try simp only [bsT] at hg1
     iterate 3 refine WO_off rfl ?_
     refine WO_step rfl (S_pure rfl ?_)
     refine WO_nil (KSeq_n ?_)
     refine WC_cond rfl (fun h => ?_) (fun _ => ?_)
     · exact absurd h (by decide)
     refine WC_exit (KSeq_x (KLoop_x ?_))
     have hd8 : D + j = 8 := by first | omega | (simp at hg1; omega)
     have ej : min (8 - D) N = j := by omega
     rw [ej]
     exact KPost_i (H' := CO i (cvt ts (D + j)) (D + j) :: H) seA hsA ⟨rfl, rfl, rfl⟩
theorem sp_CWork {H : SH} {i D : Nat} {n : Int} {ts : List SlT} (hl : ts.length = 32) (hD : D ≤ 8) : WF F X f_job_Convert_Work [.pointer (some ⟨i, 0, none⟩), .int .i64 n] (CO i (cvt ts D) D :: H) (fun r H' => r = .int .i64 ((min (8 - D) n.toNat : Nat) : Int) ∧ H' = CO i (cvt ts (D + min (8 - D) n.toNat)) (D + min (8 - D) n.toNat) :: H) := by
  refine WF_fn F_job_Convert_Work ?_
  refine WC_seq (WC_region ?_)
  refine WO_step rfl (S_pure rfl ?_)
  refine WO_nil (KSeq_n (WC_seq (WC_region ?_)))
  refine WO_step rfl (S_pure rfl ?_)
  refine WO_nil (KSeq_n (WC_seq (WC_block ?_)))
  --out x0
  refine WC_post (WC_weak (lp_CW (H := H) (i := i) (N := n.toNat) (D := D) (n := n) (ts := ts) rfl hl hD (8 - D) 0 rfl (by omega) (by omega)) seA hsA) ?_
  rintro y l' _ ⟨rfl, rfl, rfl⟩
  refine KBlock_h (KSeq_n (WC_seq (WC_region ?_)))
  iterate 2 refine WO_step rfl (S_pure rfl ?_)
  refine WO_nil (KSeq_n (WC_ret ?_))
  refine KFn_r (ResL.tmp rfl ResL.nil) ?_
  exact ⟨_, HSub.refl, rfl, rfl⟩
/-! ### A job made of a log -/
def mkS (ts : List SlT) (k : Nat) : List SlT := ts.take k ++ List.replicate (64 - k) slt0
theorem mkS_len {ts : List SlT} {k : Nat} (hl : ts.length = 32) (hk : k ≤ 32) : (mkS ts k).length = 64 := by
  unfold mkS; rw [List.length_append, List.length_take, List.length_replicate]; omega
theorem mkS_step {ts : List SlT} {k : Nat} {z : SlT} (hl : ts.length = 32) (hz : ts[k]? = some z) : (mkS ts k).take k ++ [z] ++ (mkS ts k).drop (k + 1) = mkS ts (k + 1) := by
  have hk := (List.getElem?_eq_some_iff.1 hz).1
  have h1 : (mkS ts k).take k = ts.take k := by
    unfold mkS
    rw [List.take_append_of_le_length (by rw [List.length_take]; omega), List.take_of_length_le (by rw [List.length_take]; omega)]
  have h2 : (mkS ts k).drop (k + 1) = List.replicate (64 - (k + 1)) slt0 := by
    unfold mkS
    rw [List.drop_append, List.drop_of_length_le (by rw [List.length_take]; omega), List.nil_append, List.length_take, List.drop_replicate]
    congr 1; omega
  rw [h1, h2]
  unfold mkS
  rw [List.take_add_one, hz]; rfl
theorem mkS_end {ts : List SlT} (hl : ts.length = 32) : mkS ts 32 = cvt ts 0 := by
  unfold mkS cvt
  rw [List.take_of_length_le (by omega)]; rfl
theorem lp_NC1 {H : SH} {j i n i9 b : Nat} {w : SV} {l : List Rec} {es : List Ent} (g : LogI es l) (hb : b < 8) : ∀ (m s : Nat), 4 - s = m → s ≤ 4 →
    WC F X (.loop L_job_NewConvert_1) [(13, .int .i64 (s : Int)), (4, .int .i64 (b : Int)), (10, .int .i64 (b : Int)), (0, .pointer (some ⟨j, 0, none⟩)), (3, .pointer (some ⟨i9, 0, none⟩))] (LO j i w :: SL w.toV TRec l :: DO i es n :: CO i9 (mkS (tabT es l) (b * 4 + s)) 0 :: H)
      (KPost fun y l' H' => y = .exit 2 ∧ l' = [(10, .int .i64 (b : Int)), (0, .pointer (some ⟨j, 0, none⟩)), (3, .pointer (some ⟨i9, 0, none⟩))] ∧ H' = LO j i w :: SL w.toV TRec l :: DO i es n :: CO i9 (mkS (tabT es l) (b * 4 + 4)) 0 :: H) := by
  have hl := tabT_len es l
  intro m
  induction m using Nat.strongRecOn with
  | _ m ih =>
    intro s hm hs
    have hcl := mkS_len (k := b * 4 + s) hl (by omega)
    refine WC_loop (WC_seq (WC_region ?_))
    refine WO_step rfl (S_pure rfl ?_)
    refine WO_nil (KSeq_n (WC_seq ?_))
    refine WC_cond rfl (fun hb1 => ?_) (fun hb1 => ?_)
    ·
     try simp only [bsT] at hb1
     have hz := tabT_at (es := es) (l := l) (k := b * 4 + s) (by omega)
     refine WC_skip (KSeq_n (WC_seq (WC_block (WC_seq (WC_region ?_)))))
     iterate 2 refine WO_step rfl (S_pure rfl ?_)
     refine WO_nil (KSeq_n (WC_seq (WC_region ?_)))
     iterate 3 refine WO_step rfl (S_pure rfl ?_)
     refine WO_call rfl rfl rfl ?_
     refine (sp_lSlot (H := CO i9 (mkS (tabT es l) (b * 4 + s)) 0 :: H) g hb (by omega)).mono ?_
     rintro _ _ ⟨rfl, rfl⟩
     iterate 3 refine WO_step rfl (S_pure rfl ?_)
     refine WO_step rfl (S_newT TRec rec0 rfl rfl fun i6 => ?_)
     refine WO_step rfl (S_storeT (T := TRec) (y := (sltOf es l (b * 4 + s)).r) rfl rfl pkA (by rfl) (by rfl) ?_)
     refine WO_step rfl (S_pure rfl ?_)
     refine WO_nil (KSeq_n (WC_region ?_))
     iterate 4 refine WO_step rfl (S_pure rfl ?_)
     refine WO_step rfl (S_loadO rfl pkA (by rfl) (by rfl) ?_)
     iterate 3 refine WO_step rfl (S_pure rfl ?_)
     refine WO_step rfl (S_idxA (j := b) rfl rfl rfl (by omega) ?_)
     refine WO_step rfl (S_idxA (j := s) rfl rfl rfl (by omega) ?_)
     refine WO_step rfl (S_storeCO (k := b * 4 + s) (m := 1) (ys := [sltOf es l (b * 4 + s)]) hcl rfl rfl pkA (by omega) rfl rfl (by omega) ?_)
     rw [mkS_step hl hz]
     refine WO_nil (KBlock_n (KSeq_n (WC_region ?_)))
     first | refine WO_step rfl (S_addN (b := 1) rfl rfl (by omega) ?_) | refine WO_step rfl (S_pure rfl ?_)
     refine WO_step rfl (S_pure rfl ?_)
     refine WO_nil (KLoop_n ?_)
     exact WC_weak (ih (4 - (s + 1)) (by omega) (s + 1) rfl (by omega)) seA hsA
    ·
     try simp only [bsT] at hb1
     refine WC_exit (KSeq_x (KLoop_x ?_))
     have es4 : s = 4 := by omega
     subst es4
     exact KPost_i (H' := LO j i w :: SL w.toV TRec l :: DO i es n :: CO i9 (mkS (tabT es l) (b * 4 + 4)) 0 :: H) seA hsA ⟨rfl, rfl, rfl⟩
theorem lp_NC0 {H : SH} {j i n i9 : Nat} {w : SV} {l : List Rec} {es : List Ent} (g : LogI es l) : ∀ (m b : Nat), 8 - b = m → b ≤ 8 →
    WC F X (.loop L_job_NewConvert_0) [(10, .int .i64 (b : Int)), (0, .pointer (some ⟨j, 0, none⟩)), (3, .pointer (some ⟨i9, 0, none⟩))] (LO j i w :: SL w.toV TRec l :: DO i es n :: CO i9 (mkS (tabT es l) (b * 4)) 0 :: H)
      (KPost fun y l' H' => y = .exit 0 ∧ l' = [(3, .pointer (some ⟨i9, 0, none⟩))] ∧ H' = LO j i w :: SL w.toV TRec l :: DO i es n :: CO i9 (cvt (tabT es l) 0) 0 :: H) := by
  intro m
  induction m using Nat.strongRecOn with
  | _ m ih =>
    intro b hm hb
    refine WC_loop (WC_seq (WC_region ?_))
    refine WO_step rfl (S_pure rfl ?_)
    refine WO_nil (KSeq_n (WC_seq ?_))
    refine WC_cond rfl (fun hb1 => ?_) (fun hb1 => ?_)
    ·
     try simp only [bsT] at hb1
     refine WC_skip (KSeq_n (WC_seq (WC_block (WC_seq (WC_region ?_)))))
     iterate 2 refine WO_step rfl (S_pure rfl ?_)
     refine WO_nil (KSeq_n (WC_seq (WC_region ?_)))
     refine WO_step rfl (S_pure rfl ?_)
     refine WO_nil (KSeq_n (WC_block ?_))
     --out x2
     refine WC_post (WC_weak (lp_NC1 (H := H) (j := j) (i := i) (n := n) (i9 := i9) (b := b) (w := w) g (by omega) 4 0 (by omega) (by omega)) seA hsA) ?_
     rintro y l' _ ⟨rfl, rfl, rfl⟩
     refine KBlock_h (KBlock_n (KSeq_n (WC_region ?_)))
     first | refine WO_step rfl (S_addN (b := 1) rfl rfl (by omega) ?_) | refine WO_step rfl (S_pure rfl ?_)
     refine WO_step rfl (S_pure rfl ?_)
     refine WO_nil (KLoop_n ?_)
     have := ih (8 - (b + 1)) (by omega) (b + 1) rfl (by omega)
     rw [show (b + 1) * 4 = b * 4 + 4 by omega] at this
     exact WC_weak this seA hsA
    ·
     try simp only [bsT] at hb1
     refine WC_exit (KSeq_x (KLoop_x ?_))
     have e8 : b = 8 := by omega
     subst e8
     rw [show 8 * 4 = 32 from rfl, mkS_end (tabT_len es l)]
     exact KPost_i (H' := LO j i w :: SL w.toV TRec l :: DO i es n :: CO i9 (cvt (tabT es l) 0) 0 :: H) seA hsA ⟨rfl, rfl, rfl⟩
theorem sp_NewConvert {H : SH} {j i n : Nat} {w : SV} {l : List Rec} {es : List Ent} (g : LogI es l) : WF F X f_job_NewConvert [.pointer (some ⟨j, 0, none⟩)] (LO j i w :: SL w.toV TRec l :: DO i es n :: H) (fun r H' => ∃ i9 : Nat, r = .pointer (some ⟨i9, 0, none⟩) ∧ H' = CO i9 (cvt (tabT es l) 0) 0 :: LO j i w :: SL w.toV TRec l :: DO i es n :: H) := by
  refine WF_fn F_job_NewConvert ?_
  refine WC_seq (WC_region ?_)
  refine WO_step rfl (S_pure rfl ?_)
  refine WO_nil (KSeq_n (WC_seq (WC_region ?_)))
  refine WO_step rfl (S_pure rfl ?_)
  refine WO_step rfl (S_box rfl (by rfl) fun i9 => ?_)
  refine WO_step rfl (S_pure rfl ?_)
  refine WO_nil (KSeq_n (WC_seq (WC_seq (WC_region ?_))))
  refine WO_step rfl (S_pure rfl ?_)
  refine WO_nil (KSeq_n (WC_block ?_))
  --out x0
  refine WC_post (WC_weak (lp_NC0 (H := H) (j := j) (i := i) (n := n) (i9 := i9) (w := w) g 8 0 (by omega) (by omega)) seA (by first | exact hsA | (show HSub (CO i9 (mkS (tabT es l) (0 * 4)) 0 :: _) _; exact hsA))) ?_
  rintro y l' _ ⟨rfl, rfl, rfl⟩
  refine KBlock_h (KSeq_n (WC_seq (WC_region ?_)))
  iterate 2 refine WO_step rfl (S_pure rfl ?_)
  refine WO_nil (KSeq_n (WC_ret ?_))
  refine KFn_r (ResL.tmp rfl ResL.nil) ?_
  exact ⟨CO i9 (cvt (tabT es l) 0) 0 :: LO j i w :: SL w.toV TRec l :: DO i es n :: H, hsA, i9, rfl, rfl⟩

end Go.Proofs.YtpgidiompdabdaaGreat.AM
