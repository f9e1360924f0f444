/- Walks: what the functions compute. -/
import Derived.Test.YtpnmeednimpjdaaGreatOx
import Derived.Test.YtpnmeednimpjdaaGreatAmU
namespace Go.Proofs.YtpnmeednimpjdaaGreat.AM
open Go
set_option linter.unusedSimpArgs false
set_option linter.unusedVariables false
set_option maxRecDepth 4000
set_option linter.unusedSectionVars false
variable {X : Exts} [HX X]

/-! ### Tables laid, compared -/
instance SlT.dec : DecidableEq SlT := fun a b => decidable_of_iff (a.has = b.has ∧ a.r = b.r) (by cases a; cases b; simp)
theorem TSlT_inj : ∀ x y : SlT, TSlT.enc x = TSlT.enc y → x = y := by
  intro x y h
  obtain ⟨a, ⟨b, c, ⟨d, e, f⟩⟩⟩ := x
  obtain ⟨a', ⟨b', c', ⟨d', e', f'⟩⟩⟩ := y
  simp [TSlT, Ty.ofAgg] at h
  obtain ⟨rfl, rfl, rfl, rfl, rfl, rfl⟩ := h
  rfl
theorem TRec_inj : ∀ x y : Rec, TRec.enc x = TRec.enc y → x = y := by
  intro x y h
  obtain ⟨b, c, ⟨d, e, f⟩⟩ := x
  obtain ⟨b', c', ⟨d', e', f'⟩⟩ := y
  simp [TRec, Ty.ofAgg] at h
  obtain ⟨rfl, rfl, rfl, rfl, rfl⟩ := h
  rfl
theorem tabV_inj {a b : List SlT} (h : tabV a = tabV b) : a = b := by
  injection h with h
  have h2 : TSlT.cells a = TSlT.cells b := by simpa using congrArg Array.toList h
  exact Ty.cells_inj TSlT_inj (by decide) h2
theorem tabV_g1 (a : List SlT) : g1 (tabV a) = true := by
  show ((TSlT.cells a).toArray.toList.all g0) = true
  rw [List.all_eq_true]
  intro v hv
  unfold Ty.cells at hv
  simp only [List.toList_toArray] at hv
  obtain ⟨x, _, hx⟩ := List.mem_flatMap.1 hv
  have : ∀ v ∈ TSlT.enc x, g0 v = true := by
    intro v hv
    simp [TSlT, Ty.ofAgg] at hv
    rcases hv with rfl | rfl | rfl | rfl | rfl | rfl <;> rfl
  exact this v hx
theorem lp_OfT {H : SH} {ts : List SlT} {i1 i2 i3 : Nat} (hl : ts.length = 32) : ∀ (m k : Nat) (xs : List SlT), 32 - k = m → k ≤ 32 → xs.length = 32 → (∀ j, j < k → xs[j]? = ts[j]?) →
    WC F X (.loop L_loesslaw19_Of_0) [(4, .int .i64 (k : Int)), (1, .pointer (some ⟨i1, 0, none⟩)), (2, .pointer (some ⟨i2, 0, none⟩)), (3, .pointer (some ⟨i3, 0, none⟩))] (AO i3 43 TSlT xs :: AO i2 43 TSlT zeroT :: AO i1 33 TSlT ts :: H)
      (KPost fun y l' H' => y = .exit 0 ∧ l' = [(2, .pointer (some ⟨i2, 0, none⟩)), (3, .pointer (some ⟨i3, 0, none⟩))] ∧ H' = AO i3 43 TSlT ts :: AO i2 43 TSlT zeroT :: H) := by
  intro m
  induction m using Nat.strongRecOn with
  | _ m ih =>
    intro k xs hm hk hxl hxs
    refine WC_loop (WC_seq (WC_seq (WC_region ?_)))
    iterate 2 refine WO_step rfl (S_pure rfl ?_)
    refine WO_nil (KSeq_n ?_)
    refine WC_cond rfl (fun hb1 => ?_) (fun hb1 => ?_)
    ·
     try simp only [bsT] at hb1
     obtain ⟨x, hx⟩ := get_of_lt (show k < ts.length by omega)
     refine WC_skip (KSeq_n (WC_seq (WC_block (WC_region ?_))))
     refine WO_step rfl (S_pure rfl ?_)
     refine WO_step rfl (S_quoN (a := k) (m := 4) rfl rfl (by omega) (by omega) ?_)
     refine WO_step rfl (S_pure rfl ?_)
     refine WO_step rfl (S_remU (a := k) (m := 4) rfl rfl (by omega) ?_)
     refine WO_step rfl (S_pure rfl ?_)
     refine WO_step rfl (S_quoN (a := k) (m := 4) rfl rfl (by omega) (by omega) ?_)
     refine WO_step rfl (S_pure rfl ?_)
     refine WO_step rfl (S_remU (a := k) (m := 4) rfl rfl (by omega) ?_)
     refine WO_step rfl (S_idxA (j := k / 4) rfl rfl rfl (by omega) ?_)
     refine WO_step rfl (S_idxA (j := k % 4) rfl rfl rfl (by omega) ?_)
     refine WO_step rfl (S_pure rfl ?_)
     refine WO_step rfl (S_loadAF (T := TSlT) (k := k) (off := 0) (v := .bool x.has) rfl pkA (by show _ = k * 6 + 0; omega) hx (by show 0 + 1 ≤ 6; omega) (by rfl) ?_)
     refine WO_step rfl (S_pure rfl ?_)
     refine WO_step rfl (S_quoN (a := k) (m := 4) rfl rfl (by omega) (by omega) ?_)
     refine WO_step rfl (S_pure rfl ?_)
     refine WO_step rfl (S_remU (a := k) (m := 4) rfl rfl (by omega) ?_)
     refine WO_step rfl (S_idxA (j := k / 4) rfl rfl rfl (by omega) ?_)
     refine WO_step rfl (S_idxA (j := k % 4) rfl rfl rfl (by omega) ?_)
     refine WO_step rfl (S_pure rfl ?_)
     refine WO_step rfl (S_loadAF (T := TSlT) (k := k) (off := 1) (v := TRec.val x.r) rfl pkA (by show _ = k * 6 + 1; omega) hx (by show 1 + 5 ≤ 6; omega) (by rfl) ?_)
     refine WO_step rfl (S_pure rfl ?_)
     refine WO_step rfl (S_idxA (j := k / 4) rfl rfl rfl (by omega) ?_)
     refine WO_step rfl (S_idxA (j := k % 4) rfl rfl rfl (by omega) ?_)
     refine WO_step rfl (S_storeA (T := TSlT) (k := k) (x := x) rfl rfl pkA (by show _ = k * 6; omega) (by omega) (by rfl) rfl ?_)
     refine WO_nil (KBlock_n (KSeq_n (WC_region ?_)))
     refine WO_step rfl (S_pure rfl ?_)
     first | refine WO_step rfl (S_addN (b := 1) rfl rfl (by omega) ?_) | refine WO_step rfl (S_pure rfl ?_)
     refine WO_step rfl (S_pure rfl ?_)
     refine WO_nil (KLoop_n ?_)
     refine WC_weak (ih (32 - (k + 1)) (by omega) (k + 1) (xs.set k x) rfl (by omega) (by rw [List.length_set]; exact hxl) (fun j hj => ?_)) seA hsA
     rw [List.getElem?_set]
     by_cases e : k = j
     · subst e; rw [if_pos rfl, if_pos (by omega), hx]
     · rw [if_neg e]; exact hxs j (by omega)
    ·
     try simp only [bsT] at hb1
     refine WC_exit (KSeq_x (KLoop_x ?_))
     have ek : k = 32 := by omega
     subst ek
     have e : xs = ts := by
       refine List.ext_getElem? fun j => ?_
       by_cases hj : j < 32
       · exact hxs j hj
       · rw [List.getElem?_eq_none (by omega), List.getElem?_eq_none (by omega)]
     subst e
     exact KPost_i seA hsA ⟨rfl, rfl, rfl⟩
theorem sp_OfT {H : SH} {ts : List SlT} (hl : ts.length = 32) : WF F X f_loesslaw19_Of [tabV ts] H (fun r H' => H' = H ∧ r = tabV ts) := by
  refine WF_fn F_loesslaw19_Of ?_
  refine WC_seq (WC_region ?_)
  refine WO_step rfl (S_boxA (T := TSlT) (xs := ts) rfl fun i1 => ?_)
  refine WO_step rfl (S_new fun i2 => ?_)
  refine WO_nil (KSeq_n (WC_seq (WC_region ?_)))
  refine WO_step rfl (S_new fun i3 => ?_)
  refine WO_nil (KSeq_n (WC_seq (WC_seq (WC_region ?_))))
  refine WO_step rfl (S_pure rfl ?_)
  refine WO_nil (KSeq_n (WC_block ?_))
  --out x0
  refine WC_view (H' := AO i3 43 TSlT zeroT :: AO i2 43 TSlT zeroT :: AO i1 33 TSlT ts :: H) (fun h hh => hh) ?_
  refine WC_post (WC_weak (lp_OfT (H := H) (ts := ts) (i1 := i1) (i2 := i2) (i3 := i3) hl 32 0 zeroT (by omega) (by omega) zeroT_len (fun j hj => absurd hj (Nat.not_lt_zero _))) seA HSub.refl) ?_
  rintro y l' _ ⟨rfl, rfl, rfl⟩
  refine KBlock_h (KSeq_n (WC_seq (WC_region ?_)))
  refine WO_step rfl (S_loadAll (T := TSlT) (xs := ts) rfl pkA (by rw [hl]; rfl) ?_)
  refine WO_step rfl (S_storeTab (ts0 := zeroT) (ts := ts) rfl rfl pkA zeroT_len hl ?_)
  refine WO_nil (KSeq_n (WC_ret ?_))
  refine KFn_r (ResL.tab rfl pkA (by first | assumption | exact zeroT_len) ResL.nil) ?_
  exact ⟨H, hsA, rfl, rfl⟩
theorem lp_BkT {H : SH} {ts : List SlT} {i1 i2 i3 : Nat} (hl : ts.length = 32) : ∀ (m k : Nat) (xs : List SlT), 32 - k = m → k ≤ 32 → xs.length = 32 → (∀ j, j < k → xs[j]? = ts[j]?) →
    WC F X (.loop L_loesslaw19_Back_0) [(4, .int .i64 (k : Int)), (1, .pointer (some ⟨i1, 0, none⟩)), (2, .pointer (some ⟨i2, 0, none⟩)), (3, .pointer (some ⟨i3, 0, none⟩))] (AO i3 33 TSlT xs :: AO i2 33 TSlT zeroT :: AO i1 43 TSlT ts :: H)
      (KPost fun y l' H' => y = .exit 0 ∧ l' = [(2, .pointer (some ⟨i2, 0, none⟩)), (3, .pointer (some ⟨i3, 0, none⟩))] ∧ H' = AO i3 33 TSlT ts :: AO i2 33 TSlT zeroT :: H) := by
  intro m
  induction m using Nat.strongRecOn with
  | _ m ih =>
    intro k xs hm hk hxl hxs
    refine WC_loop (WC_seq (WC_seq (WC_region ?_)))
    iterate 2 refine WO_step rfl (S_pure rfl ?_)
    refine WO_nil (KSeq_n ?_)
    refine WC_cond rfl (fun hb1 => ?_) (fun hb1 => ?_)
    ·
     try simp only [bsT] at hb1
     obtain ⟨x, hx⟩ := get_of_lt (show k < ts.length by omega)
     refine WC_skip (KSeq_n (WC_seq (WC_block (WC_region ?_))))
     refine WO_step rfl (S_pure rfl ?_)
     refine WO_step rfl (S_quoN (a := k) (m := 4) rfl rfl (by omega) (by omega) ?_)
     refine WO_step rfl (S_pure rfl ?_)
     refine WO_step rfl (S_remU (a := k) (m := 4) rfl rfl (by omega) ?_)
     refine WO_step rfl (S_pure rfl ?_)
     refine WO_step rfl (S_quoN (a := k) (m := 4) rfl rfl (by omega) (by omega) ?_)
     refine WO_step rfl (S_pure rfl ?_)
     refine WO_step rfl (S_remU (a := k) (m := 4) rfl rfl (by omega) ?_)
     refine WO_step rfl (S_idxA (j := k / 4) rfl rfl rfl (by omega) ?_)
     refine WO_step rfl (S_idxA (j := k % 4) rfl rfl rfl (by omega) ?_)
     refine WO_step rfl (S_pure rfl ?_)
     refine WO_step rfl (S_loadAF (T := TSlT) (k := k) (off := 0) (v := .bool x.has) rfl pkA (by show _ = k * 6 + 0; omega) hx (by show 0 + 1 ≤ 6; omega) (by rfl) ?_)
     refine WO_step rfl (S_pure rfl ?_)
     refine WO_step rfl (S_quoN (a := k) (m := 4) rfl rfl (by omega) (by omega) ?_)
     refine WO_step rfl (S_pure rfl ?_)
     refine WO_step rfl (S_remU (a := k) (m := 4) rfl rfl (by omega) ?_)
     refine WO_step rfl (S_idxA (j := k / 4) rfl rfl rfl (by omega) ?_)
     refine WO_step rfl (S_idxA (j := k % 4) rfl rfl rfl (by omega) ?_)
     refine WO_step rfl (S_pure rfl ?_)
     refine WO_step rfl (S_loadAF (T := TSlT) (k := k) (off := 1) (v := TRec.val x.r) rfl pkA (by show _ = k * 6 + 1; omega) hx (by show 1 + 5 ≤ 6; omega) (by rfl) ?_)
     refine WO_step rfl (S_pure rfl ?_)
     refine WO_step rfl (S_idxA (j := k / 4) rfl rfl rfl (by omega) ?_)
     refine WO_step rfl (S_idxA (j := k % 4) rfl rfl rfl (by omega) ?_)
     refine WO_step rfl (S_storeA (T := TSlT) (k := k) (x := x) rfl rfl pkA (by show _ = k * 6; omega) (by omega) (by rfl) rfl ?_)
     refine WO_nil (KBlock_n (KSeq_n (WC_region ?_)))
     refine WO_step rfl (S_pure rfl ?_)
     first | refine WO_step rfl (S_addN (b := 1) rfl rfl (by omega) ?_) | refine WO_step rfl (S_pure rfl ?_)
     refine WO_step rfl (S_pure rfl ?_)
     refine WO_nil (KLoop_n ?_)
     refine WC_weak (ih (32 - (k + 1)) (by omega) (k + 1) (xs.set k x) rfl (by omega) (by rw [List.length_set]; exact hxl) (fun j hj => ?_)) seA hsA
     rw [List.getElem?_set]
     by_cases e : k = j
     · subst e; rw [if_pos rfl, if_pos (by omega), hx]
     · rw [if_neg e]; exact hxs j (by omega)
    ·
     try simp only [bsT] at hb1
     refine WC_exit (KSeq_x (KLoop_x ?_))
     have ek : k = 32 := by omega
     subst ek
     have e : xs = ts := by
       refine List.ext_getElem? fun j => ?_
       by_cases hj : j < 32
       · exact hxs j hj
       · rw [List.getElem?_eq_none (by omega), List.getElem?_eq_none (by omega)]
     subst e
     exact KPost_i seA hsA ⟨rfl, rfl, rfl⟩
theorem sp_BkT {H : SH} {ts : List SlT} (hl : ts.length = 32) : WF F X f_loesslaw19_Back [tabV ts] H (fun r H' => H' = H ∧ r = tabV ts) := by
  refine WF_fn F_loesslaw19_Back ?_
  refine WC_seq (WC_region ?_)
  refine WO_step rfl (S_boxA (T := TSlT) (xs := ts) rfl fun i1 => ?_)
  refine WO_step rfl (S_new fun i2 => ?_)
  refine WO_nil (KSeq_n (WC_seq (WC_region ?_)))
  refine WO_step rfl (S_new fun i3 => ?_)
  refine WO_nil (KSeq_n (WC_seq (WC_seq (WC_region ?_))))
  refine WO_step rfl (S_pure rfl ?_)
  refine WO_nil (KSeq_n (WC_block ?_))
  --out x0
  refine WC_view (H' := AO i3 33 TSlT zeroT :: AO i2 33 TSlT zeroT :: AO i1 43 TSlT ts :: H) (fun h hh => hh) ?_
  refine WC_post (WC_weak (lp_BkT (H := H) (ts := ts) (i1 := i1) (i2 := i2) (i3 := i3) hl 32 0 zeroT (by omega) (by omega) zeroT_len (fun j hj => absurd hj (Nat.not_lt_zero _))) seA HSub.refl) ?_
  rintro y l' _ ⟨rfl, rfl, rfl⟩
  refine KBlock_h (KSeq_n (WC_seq (WC_region ?_)))
  refine WO_step rfl (S_loadAll (T := TSlT) (xs := ts) rfl pkA (by rw [hl]; rfl) ?_)
  refine WO_step rfl (S_storeTab (ts0 := zeroT) (ts := ts) rfl rfl pkA zeroT_len hl ?_)
  refine WO_nil (KSeq_n (WC_ret ?_))
  refine KFn_r (ResL.tab rfl pkA (by first | assumption | exact zeroT_len) ResL.nil) ?_
  exact ⟨H, hsA, rfl, rfl⟩
/-! ### Tables compared, by every order -/
theorem lp_eqT {H : SH} {xa xb : List SlT} {i2 i3 : Nat} (ha : xa.length = 32) (hb : xb.length = 32) : ∀ (m k : Nat), 32 - k = m → k ≤ 32 → xa.take k = xb.take k →
    WQ F X (.loop L_loesslaw19_eq_0) [(5, .int .i64 (k : Int)), (2, .pointer (some ⟨i2, 0, none⟩)), (3, .pointer (some ⟨i3, 0, none⟩))] (AO i3 33 TSlT xb :: AO i2 33 TSlT xa :: H)
      (KPost fun y l' H' => H' = H ∧ ((y = .exit 0 ∧ l' = [] ∧ xa = xb) ∨ (y = .ret ∧ l' = [(4, .bool false)] ∧ xa ≠ xb))) := by
  intro m
  induction m using Nat.strongRecOn with
  | _ m ih =>
    intro k hm hk heq
    refine WQ_loop (WQ_seq (WQ_seq (WQ_region ?_)))
    iterate 2 refine WO_step rfl (S_pure rfl ?_)
    refine WO_nil (QSeq_n ?_)
    refine WQ_cond rfl (fun hb1 => ?_) (fun hb1 => ?_)
    ·
     try simp only [bsT] at hb1
     obtain ⟨x, hx⟩ := get_of_lt (show k < xa.length by omega)
     obtain ⟨y, hy⟩ := get_of_lt (show k < xb.length by omega)
     have hne : ¬ x = y → xa ≠ xb := fun h e => by subst e; rw [hx] at hy; cases hy; exact h rfl
     refine WQ_skip (QSeq_n (WQ_seq (WQ_block (WQ_seq ?_))))
     refine WQ_post (P := fun x' l' H' => ∃ i6 i7, x' = .normal ∧ l' = [(5, .int .i64 (k : Int)), (2, .pointer (some ⟨i2, 0, none⟩)), (3, .pointer (some ⟨i3, 0, none⟩)), (6, .pointer (some ⟨i6, 0, none⟩)), (7, .pointer (some ⟨i7, 0, none⟩))] ∧ H' = OB i6 TSlT x :: OB i7 TSlT y :: AO i3 33 TSlT xb :: AO i2 33 TSlT xa :: H) ?_ ?_
     ·
      refine WQ_many ?_
      refine WTq_step ⟨rfl, rfl⟩ (S_pure rfl ?_)
      refine WTq_step ⟨rfl, rfl⟩ (S_quoN (a := k) (m := 4) rfl rfl (by omega) (by omega) ?_)
      refine WTq_step ⟨rfl, rfl⟩ (S_pure rfl ?_)
      refine WTq_step ⟨rfl, rfl⟩ (S_remU (a := k) (m := 4) rfl rfl (by omega) ?_)
      refine WTq_step ⟨rfl, rfl⟩ (S_idxA (j := k / 4) rfl rfl rfl (by omega) ?_)
      refine WTq_step ⟨rfl, rfl⟩ (S_idxA (j := k % 4) rfl rfl rfl (by omega) ?_)
      refine WTr_step ⟨rfl, rfl⟩ (S_loadA (T := TSlT) (k := k) rfl pkA (by show _ = k * 6; omega) hx rfl rfl ?_)
      refine WTq_step ⟨rfl, rfl⟩ (S_pure rfl ?_)
      refine WTq_step ⟨rfl, rfl⟩ (S_quoN (a := k) (m := 4) rfl rfl (by omega) (by omega) ?_)
      refine WTq_step ⟨rfl, rfl⟩ (S_pure rfl ?_)
      refine WTq_step ⟨rfl, rfl⟩ (S_remU (a := k) (m := 4) rfl rfl (by omega) ?_)
      refine WTq_step ⟨rfl, rfl⟩ (S_idxA (j := k / 4) rfl rfl rfl (by omega) ?_)
      refine WTq_step ⟨rfl, rfl⟩ (S_idxA (j := k % 4) rfl rfl rfl (by omega) ?_)
      refine WTr_step ⟨rfl, rfl⟩ (S_loadA (T := TSlT) (k := k) rfl pkA (by show _ = k * 6; omega) hy rfl rfl ?_)
      refine WT_alt ?_ ?_
      ·
       refine WTm_step ⟨rfl, rfl⟩ (S_newT TSlT slt0 rfl rfl fun i6 => ?_)
       refine And.intro ?_ ?_
       ·
        exact (by repeat (first | exact obT_nil | refine obT_skip rfl ?_ | refine obT_ob (ObR.of_step rfl (S_loadA (T := TSlT) (k := k) rfl pkA (by show _ = k * 6; omega) hx rfl rfl (by simp [eqV, eqVs, eqV0, TSlT, Ty.ofAgg, AM.cells, Value.cells]))) ?_ | refine obT_ob (ObR.of_step rfl (S_loadA (T := TSlT) (k := k) rfl pkA (by show _ = k * 6; omega) hy rfl rfl (by simp [eqV, eqVs, eqV0, TSlT, Ty.ofAgg, AM.cells, Value.cells]))) ?_))
       ·
        refine WTm_step ⟨rfl, rfl⟩ (S_newT TSlT slt0 rfl rfl fun i7 => ?_)
        refine And.intro ?_ ?_
        ·
         exact (by repeat (first | exact obT_nil | refine obT_skip rfl ?_ | refine obT_ob (ObR.of_step rfl (S_loadA (T := TSlT) (k := k) rfl pkA (by show _ = k * 6; omega) hx rfl rfl (by simp [eqV, eqVs, eqV0, TSlT, Ty.ofAgg, AM.cells, Value.cells]))) ?_ | refine obT_ob (ObR.of_step rfl (S_loadA (T := TSlT) (k := k) rfl pkA (by show _ = k * 6; omega) hy rfl rfl (by simp [eqV, eqVs, eqV0, TSlT, Ty.ofAgg, AM.cells, Value.cells]))) ?_))
        ·
         refine WTm_step ⟨rfl, rfl⟩ (S_storeT (T := TSlT) (y := x) rfl rfl pkA (by rfl) (by rfl) ?_)
         refine And.intro ?_ ?_
         ·
          exact (by repeat (first | exact obT_nil | refine obT_skip rfl ?_ | refine obT_ob (ObR.of_step rfl (S_loadA (T := TSlT) (k := k) rfl pkA (by show _ = k * 6; omega) hx rfl rfl (by simp [eqV, eqVs, eqV0, TSlT, Ty.ofAgg, AM.cells, Value.cells]))) ?_ | refine obT_ob (ObR.of_step rfl (S_loadA (T := TSlT) (k := k) rfl pkA (by show _ = k * 6; omega) hy rfl rfl (by simp [eqV, eqVs, eqV0, TSlT, Ty.ofAgg, AM.cells, Value.cells]))) ?_))
         ·
          refine WTm_step ⟨rfl, rfl⟩ (S_storeT (T := TSlT) (y := y) rfl rfl pkA (by rfl) (by rfl) ?_)
          refine And.intro ?_ ?_
          ·
           exact (by repeat (first | exact obT_nil | refine obT_skip rfl ?_ | refine obT_ob (ObR.of_step rfl (S_loadA (T := TSlT) (k := k) rfl pkA (by show _ = k * 6; omega) hx rfl rfl (by simp [eqV, eqVs, eqV0, TSlT, Ty.ofAgg, AM.cells, Value.cells]))) ?_ | refine obT_ob (ObR.of_step rfl (S_loadA (T := TSlT) (k := k) rfl pkA (by show _ = k * 6; omega) hy rfl rfl (by simp [eqV, eqVs, eqV0, TSlT, Ty.ofAgg, AM.cells, Value.cells]))) ?_))
          ·
           refine WT_leaf ?_
           exact KPost_i seA hsA ⟨i6, i7, rfl, rfl, rfl⟩
      ·
       refine WTm_step ⟨rfl, rfl⟩ (S_newT TSlT slt0 rfl rfl fun i7 => ?_)
       refine And.intro ?_ ?_
       ·
        exact (by repeat (first | exact obT_nil | refine obT_skip rfl ?_ | refine obT_ob (ObR.of_step rfl (S_loadA (T := TSlT) (k := k) rfl pkA (by show _ = k * 6; omega) hx rfl rfl (by simp [eqV, eqVs, eqV0, TSlT, Ty.ofAgg, AM.cells, Value.cells]))) ?_ | refine obT_ob (ObR.of_step rfl (S_loadA (T := TSlT) (k := k) rfl pkA (by show _ = k * 6; omega) hy rfl rfl (by simp [eqV, eqVs, eqV0, TSlT, Ty.ofAgg, AM.cells, Value.cells]))) ?_))
       ·
        refine WTm_step ⟨rfl, rfl⟩ (S_newT TSlT slt0 rfl rfl fun i6 => ?_)
        refine And.intro ?_ ?_
        ·
         exact (by repeat (first | exact obT_nil | refine obT_skip rfl ?_ | refine obT_ob (ObR.of_step rfl (S_loadA (T := TSlT) (k := k) rfl pkA (by show _ = k * 6; omega) hx rfl rfl (by simp [eqV, eqVs, eqV0, TSlT, Ty.ofAgg, AM.cells, Value.cells]))) ?_ | refine obT_ob (ObR.of_step rfl (S_loadA (T := TSlT) (k := k) rfl pkA (by show _ = k * 6; omega) hy rfl rfl (by simp [eqV, eqVs, eqV0, TSlT, Ty.ofAgg, AM.cells, Value.cells]))) ?_))
        ·
         refine WTm_step ⟨rfl, rfl⟩ (S_storeT (T := TSlT) (y := x) rfl rfl pkA (by rfl) (by rfl) ?_)
         refine And.intro ?_ ?_
         ·
          exact (by repeat (first | exact obT_nil | refine obT_skip rfl ?_ | refine obT_ob (ObR.of_step rfl (S_loadA (T := TSlT) (k := k) rfl pkA (by show _ = k * 6; omega) hx rfl rfl (by simp [eqV, eqVs, eqV0, TSlT, Ty.ofAgg, AM.cells, Value.cells]))) ?_ | refine obT_ob (ObR.of_step rfl (S_loadA (T := TSlT) (k := k) rfl pkA (by show _ = k * 6; omega) hy rfl rfl (by simp [eqV, eqVs, eqV0, TSlT, Ty.ofAgg, AM.cells, Value.cells]))) ?_))
         ·
          refine WTm_step ⟨rfl, rfl⟩ (S_storeT (T := TSlT) (y := y) rfl rfl pkA (by rfl) (by rfl) ?_)
          refine And.intro ?_ ?_
          ·
           exact (by repeat (first | exact obT_nil | refine obT_skip rfl ?_ | refine obT_ob (ObR.of_step rfl (S_loadA (T := TSlT) (k := k) rfl pkA (by show _ = k * 6; omega) hx rfl rfl (by simp [eqV, eqVs, eqV0, TSlT, Ty.ofAgg, AM.cells, Value.cells]))) ?_ | refine obT_ob (ObR.of_step rfl (S_loadA (T := TSlT) (k := k) rfl pkA (by show _ = k * 6; omega) hy rfl rfl (by simp [eqV, eqVs, eqV0, TSlT, Ty.ofAgg, AM.cells, Value.cells]))) ?_))
          ·
           refine WT_leaf ?_
           exact KPost_i seA hsA ⟨i6, i7, rfl, rfl, rfl⟩
     ·
      rintro x' l' H' ⟨i6, i7, rfl, rfl, rfl⟩
      refine QSeq_n (WQ_seq (WQ_region ?_))
      refine WO_step rfl (S_pure rfl ?_)
      refine WO_step rfl (S_loadO rfl pkA (by rfl) (by rfl) ?_)
      refine WO_step rfl (S_pure rfl ?_)
      refine WO_step rfl (S_loadO rfl pkA (by rfl) (by rfl) ?_)
      iterate 2 refine WO_step rfl (S_pure rfl ?_)
      refine WO_cases (t := 31) rfl (fun hg1 => ?_) (fun hg1 => ?_)
      ·
       try simp only [bsT] at hg1
       iterate 6 refine WO_off rfl ?_
       refine WO_step rfl (S_pure rfl ?_)
       refine WO_nil (QSeq_n ?_)
       refine WQ_cond rfl (fun _ => ?_) (fun h => ?_)
       rotate_left
       · exact absurd h (by decide)
       refine WQ_seq (WQ_region ?_)
       refine WO_step rfl (S_pure rfl ?_)
       refine WO_nil (QSeq_n (WQ_ret (KBlock_r (QSeq_r (QLoop_r ?_)))))
       refine KPost_i (l' := [(4, .bool false)]) (H' := H) seA hsA ⟨rfl, .inr ⟨rfl, rfl, hne fun e => ?_⟩⟩
       subst e
       exact absurd hg1 (by simp)
      ·
       try simp only [bsT] at hg1
       refine WO_step rfl (S_pure rfl ?_)
       refine WO_step rfl (S_loadO (v := TRec.val x.r) rfl pkA (by rfl) (by rfl) ?_)
       refine WO_step rfl (S_pure rfl ?_)
       refine WO_step rfl (S_loadO (v := TRec.val y.r) rfl pkA (by rfl) (by rfl) ?_)
       refine WO_call rfl rfl rfl ?_
       refine (sp_Eq (a := x.r) (b := y.r)).mono ?_
       rintro _ _ ⟨rfl, rfl⟩
       iterate 2 refine WO_step rfl (S_pure rfl ?_)
       refine WO_nil (QSeq_n ?_)
       refine WQ_cond rfl (fun hb2 => ?_) (fun hb2 => ?_)
       ·
        try simp only [bsT] at hb2
        refine WQ_seq (WQ_region ?_)
        refine WO_step rfl (S_pure rfl ?_)
        refine WO_nil (QSeq_n (WQ_ret (KBlock_r (QSeq_r (QLoop_r ?_)))))
        refine KPost_i (l' := [(4, .bool false)]) (H' := H) seA hsA ⟨rfl, .inr ⟨rfl, rfl, hne fun e => ?_⟩⟩
        subst e
        exact absurd hb2 (by simp)
       ·
        try simp only [bsT] at hb2
        refine WQ_skip (KBlock_n (QSeq_n (WQ_region ?_)))
        refine WO_step rfl (S_pure rfl ?_)
        first | refine WO_step rfl (S_addN (b := 1) rfl rfl (by omega) ?_) | refine WO_step rfl (S_pure rfl ?_)
        refine WO_step rfl (S_pure rfl ?_)
        refine WO_nil (QLoop_n ?_)
        have e1 : x = y := by
          obtain ⟨h1, r1⟩ := x
          obtain ⟨h2, r2⟩ := y
          have q1 : h1 = h2 := by simpa using hg1
          have q2 : r1 = r2 := by simpa using hb2
          subst q1 q2; rfl
        refine WQ_weak (ih (32 - (k + 1)) (by omega) (k + 1) rfl (by omega) ?_) seA hsA
        rw [List.take_add_one, List.take_add_one, hx, hy, heq, e1]
    ·
     try simp only [bsT] at hb1
     refine WQ_exit (QSeq_x (QLoop_x ?_))
     have ek : k = 32 := by omega
     subst ek
     rw [List.take_of_length_le (by omega), List.take_of_length_le (by omega)] at heq
     exact KPost_i (l' := []) (H' := H) SubE.nil hsA ⟨rfl, .inl ⟨rfl, rfl, heq⟩⟩
theorem sp_eqTQ {H : SH} {xa xb : List SlT} (ha : xa.length = 32) (hb : xb.length = 32) : WFQ F X f_loesslaw19_eq [tabV xa, tabV xb] H (fun r _ => r = .bool (decide (xa = xb))) := by
  refine WFQ_fn F_loesslaw19_eq ?_
  refine WQ_seq (WQ_region ?_)
  refine WO_step rfl (S_boxA (T := TSlT) (xs := xa) rfl fun i2 => ?_)
  refine WO_step rfl (S_boxA (T := TSlT) (xs := xb) rfl fun i3 => ?_)
  refine WO_step rfl (S_pure rfl ?_)
  refine WO_nil (QSeq_n (WQ_seq (WQ_seq (WQ_region ?_))))
  refine WO_step rfl (S_pure rfl ?_)
  refine WO_nil (QSeq_n (WQ_block ?_))
  --out r x0
  refine WQ_post (WQ_weak (lp_eqT (H := H) (xa := xa) (xb := xb) (i2 := i2) (i3 := i3) ha hb 32 0 (by omega) (by omega) (by simp)) seA hsA) ?_
  rintro y l' _ ⟨rfl, ⟨rfl, rfl, he⟩ | ⟨rfl, rfl, he⟩⟩
  rotate_left
  ·
   refine KBlock_r (QSeq_r ?_)
   refine KFn_r (ResL.tmp rfl ResL.nil) ?_
   exact ⟨_, HSub.refl, by simp [resV, he]⟩
  ·
   refine KBlock_h (QSeq_n (WQ_seq (WQ_region ?_)))
   refine WO_step rfl (S_pure rfl ?_)
   refine WO_nil (QSeq_n (WQ_ret ?_))
   refine KFn_r (ResL.tmp rfl ResL.nil) ?_
   exact ⟨_, HSub.refl, by simp [resV, he]⟩
/-! ### Tables laid -/
theorem eqVs_self : ∀ {l : List Value}, (∀ v ∈ l, eqV0 v v = true) → eqVs l l = true
  | [], _ => rfl
  | v :: l, h => by
    simp only [eqVs, Bool.and_eq_true]
    exact ⟨h v (by simp), eqVs_self fun u hu => h u (by simp [hu])⟩
theorem eqV_tab (ts : List SlT) : eqV (tabV ts) (tabV ts) = true := eqVs_self fun v hv => by
  unfold Ty.cells at hv
  simp only [List.toList_toArray] at hv
  obtain ⟨x, _, hx⟩ := List.mem_flatMap.1 hv
  have : ∀ v ∈ TSlT.enc x, eqV0 v v = true := by
    intro v hv
    simp [TSlT, Ty.ofAgg] at hv
    rcases hv with rfl | rfl | rfl | rfl | rfl | rfl <;> simp [eqV0]
  exact this v hx
def placeN (i b : Nat) (r : Rec) : Nat → List SlT → List SlT
  | 0, ts => ts
  | m + 1, ts => if (ts.getD (4 * b + (4 - (m + 1) + i) % 4) slt0).has then placeN i b r m ts else ts.set (4 * b + (4 - (m + 1) + i) % 4) ⟨true, r⟩
theorem placeN_len (i b : Nat) (r : Rec) : ∀ (m : Nat) (ts : List SlT), (placeN i b r m ts).length = ts.length
  | 0, ts => rfl
  | m + 1, ts => by
    rw [placeN]
    split
    · exact placeN_len i b r m ts
    · rw [List.length_set]
def bktOf (k : ByteArray) (tn : Bool) : Nat := if tn then oth (frst (kH k)) (tagOf (kH k)) else frst (kH k)
theorem bktOf_lt (k : ByteArray) (tn : Bool) : bktOf k tn < 8 := by
  unfold bktOf
  split
  · exact oth_lt (frst_lt _)
  · exact frst_lt _
def skipR (ts : List SlT) (r : Rec) : Bool := (fnd (newest (tRecs ts 32)) r.key).isSome || !mayRec r
def layStep (ts : List SlT) (i : Nat) (r : Rec) (tn : Bool) : List SlT := if skipR ts r then ts else placeN i (bktOf r.key tn) r 4 ts
def layN (l : List Rec) (turn : List Bool) : Nat → List SlT
  | 0 => zeroT
  | i + 1 => match l[i]? with
    | some r => layStep (layN l turn i) i (cutRec r) (turn.getD i false)
    | none => layN l turn i
def lay (l : List Rec) (turn : List Bool) : List SlT := layN l turn 40
theorem layN_len (l : List Rec) (turn : List Bool) : ∀ i, (layN l turn i).length = 32
  | 0 => zeroT_len
  | i + 1 => by
    rw [layN]
    split
    · unfold layStep
      split
      · exact layN_len l turn i
      · rw [placeN_len]; exact layN_len l turn i
    · exact layN_len l turn i
theorem layN_end {l : List Rec} {turn : List Bool} {i : Nat} (h : l.length ≤ i) : ∀ m, layN l turn (i + m) = layN l turn i
  | 0 => rfl
  | m + 1 => by
    rw [← Nat.add_assoc, layN, List.getElem?_eq_none (by omega)]
    exact layN_end h m
theorem lp_Lay1 {H : SH} {i5 i7 b i : Nat} {r : Rec} (v0 v1 v4 : Value) (hb : b < 8) (hi : i < 1000) : ∀ (m s : Nat) (ts : List SlT), 4 - s = m → s ≤ 4 → ts.length = 32 →
    WC F X (.loop L_loesslaw19_Lay_1) [(12, .int .i64 (s : Int)), (6, .int .i64 (i : Int)), (11, .int .i64 (b : Int)), (5, .pointer (some ⟨i5, 0, none⟩)), (7, .pointer (some ⟨i7, 0, none⟩)), (0, v0), (1, v1), (4, v4)] (AO i5 33 TSlT ts :: OB i7 TRec r :: H)
      (KPost fun y l' H' => y = .exit 2 ∧ l' = [(6, .int .i64 (i : Int)), (5, .pointer (some ⟨i5, 0, none⟩)), (0, v0), (1, v1), (4, v4)] ∧ H' = AO i5 33 TSlT (placeN i b r (4 - s) ts) :: H) := by
  intro m
  induction m using Nat.strongRecOn with
  | _ m ih =>
    intro s ts hm hs hl
    refine WC_loop (WC_seq (WC_seq (WC_region ?_)))
    iterate 2 refine WO_step rfl (S_pure rfl ?_)
    refine WO_nil (KSeq_n ?_)
    refine WC_cond rfl (fun hb1 => ?_) (fun hb1 => ?_)
    ·
     try simp only [bsT] at hb1
     have hs4 : s < 4 := by omega
     obtain ⟨x, hx⟩ := get_of_lt (show 4 * b + (s + i) % 4 < ts.length by omega)
     obtain ⟨q, hq⟩ : ∃ q, 4 - s = q + 1 := ⟨4 - s - 1, by omega⟩
     have hpl : placeN i b r (4 - s) ts = if x.has then placeN i b r q ts else ts.set (4 * b + (s + i) % 4) ⟨true, r⟩ := by
       rw [hq, placeN, show 4 - (q + 1) = s by omega, List.getD_eq_getElem?_getD, hx]; rfl
     refine WC_skip (KSeq_n (WC_seq (WC_block (WC_seq (WC_region ?_)))))
     iterate 2 refine WO_step rfl (S_pure rfl ?_)
     refine WO_step rfl (S_addN (a := s) (b := i) rfl rfl (by omega) ?_)
     refine WO_step rfl (S_remU (a := s + i) (m := 4) rfl rfl (by omega) ?_)
     refine WO_step rfl (S_pure rfl ?_)
     refine WO_nil (KSeq_n (WC_seq (WC_region ?_)))
     iterate 2 refine WO_step rfl (S_pure rfl ?_)
     refine WO_step rfl (S_idxA (j := b) rfl rfl rfl hb ?_)
     refine WO_step rfl (S_idxA (j := (s + i) % 4) rfl rfl rfl (by omega) ?_)
     refine WO_step rfl (S_pure rfl ?_)
     refine WO_step rfl (S_loadAF (T := TSlT) (k := 4 * b + (s + i) % 4) (off := 0) (v := .bool x.has) rfl pkA (by show _ = (4 * b + (s + i) % 4) * 6 + 0; omega) hx (by show 0 + 1 ≤ 6; omega) (by rfl) ?_)
     refine WO_step rfl (S_pure rfl ?_)
     refine WO_nil (KSeq_n ?_)
     refine WC_cond rfl (fun hb2 => ?_) (fun hb2 => ?_)
     ·
      try simp only [bsT] at hb2
      refine WC_seq (WC_region ?_)
      iterate 2 refine WO_step rfl (S_pure rfl ?_)
      refine WO_step rfl (S_loadT (T := TRec) (z := r) rfl pkA (by rfl) (by rfl) ?_)
      refine WO_step rfl (S_pure rfl ?_)
      refine WO_step rfl (S_idxA (j := b) rfl rfl rfl hb ?_)
      refine WO_step rfl (S_idxA (j := (s + i) % 4) rfl rfl rfl (by omega) ?_)
      refine WO_step rfl (S_storeA (T := TSlT) (k := 4 * b + (s + i) % 4) (x := ⟨true, r⟩) rfl rfl pkA (by show _ = (4 * b + (s + i) % 4) * 6; omega) (by omega) (by rfl) rfl ?_)
      refine WO_nil (KSeq_n (WC_exit ?_))
      refine KBlock_x (by decide) ?_
      refine KSeq_x (KLoop_x ?_)
      have hf : x.has = false := by simpa using hb2
      rw [hpl, hf]
      exact KPost_i seA hsA ⟨rfl, rfl, rfl⟩
     ·
      try simp only [bsT] at hb2
      refine WC_skip (KBlock_n (KSeq_n (WC_region ?_)))
      refine WO_step rfl (S_pure rfl ?_)
      first | refine WO_step rfl (S_addN (b := 1) rfl rfl (by omega) ?_) | refine WO_step rfl (S_pure rfl ?_)
      refine WO_step rfl (S_pure rfl ?_)
      refine WO_nil (KLoop_n ?_)
      have ht : x.has = true := by simpa using hb2
      rw [hpl, ht, if_pos rfl, show q = 4 - (s + 1) by omega]
      exact WC_weak (ih (4 - (s + 1)) (by omega) (s + 1) ts rfl (by omega) hl) seA hsA
    ·
     try simp only [bsT] at hb1
     refine WC_exit (KSeq_x (KLoop_x ?_))
     have e4 : s = 4 := by omega
     subst e4
     exact KPost_i seA hsA ⟨rfl, rfl, rfl⟩
theorem lp_Lay0 {H : SH} {v0 v1 v4 : Value} {l : List Rec} {turn : List Bool} {i5 : Nat} (N : Nat) (hN : N = 40) (hv : RD H v0 TRec l) (ht : RD H v1 TBool turn) : ∀ (m i : Nat), 40 - i = m → i ≤ 40 → i ≤ l.length →
    WQ F X (.loop L_loesslaw19_Lay_0) [(6, .int .i64 (i : Int)), (0, v0), (1, v1), (5, .pointer (some ⟨i5, 0, none⟩)), (4, v4)] (AO i5 33 TSlT (layN l turn i) :: H)
      (KPost fun y l' H' => y = .exit 0 ∧ l' = [(5, .pointer (some ⟨i5, 0, none⟩)), (4, v4)] ∧ H' = AO i5 33 TSlT (layN l turn N) :: H) := by
  intro m
  induction m using Nat.strongRecOn with
  | _ m ih =>
    intro i hm hi hil
    have hlN := layN_len l turn i
    have htr := tRecs_len (layN l turn i) 32
    have hnl := newest_len (tRecs (layN l turn i) 32)
    refine WQ_loop (WQ_seq (WQ_seq (WQ_region ?_)))
    iterate 2 refine WO_step rfl (S_pure rfl ?_)
    first | refine WO_step rfl (S_pure rfl ?_) | refine WO_step rfl (S_lenS rfl rdA ?_)
    iterate 2 refine WO_step rfl (S_pure rfl ?_)
    refine WO_cases (t := 18) rfl (fun hg1 => ?_) (fun hg1 => ?_)
    ·
     try simp only [bsT] at hg1
     obtain ⟨r0, hx⟩ := get_of_lt hg1
     obtain ⟨r, hr⟩ : ∃ r, cutRec r0 = r := ⟨_, rfl⟩
     have hrs : r.key.size ≤ 20 := by rw [← hr]; exact cut_size _ _
     have hst : layN l turn (i + 1) = layStep (layN l turn i) i r (turn.getD i false) := by rw [layN, hx, ← hr]
     iterate 3 refine WO_step rfl (S_pure rfl ?_)
     refine WO_nil (QSeq_n ?_)
     refine WQ_cond rfl (fun hb1 => ?_) (fun hb1 => ?_)
     ·
      try simp only [bsT] at hb1
      refine WQ_skip (QSeq_n (WQ_seq (WQ_block (WQ_seq (WQ_region ?_)))))
      iterate 2 refine WO_step rfl (S_pure rfl ?_)
      refine WO_step rfl (S_idx rfl rfl rdA (by first | rfl | assumption | (symm; assumption)) (by rfl) (by first | assumption | omega | exact lt_of_get (by assumption) | (simp only [List.length_set]; first | assumption | omega | exact lt_of_get (by assumption))) fun hp26 => ?_)
      refine WO_step rfl (S_loadE rfl rdA (by first | rfl | assumption | (symm; assumption)) (by first | rfl | assumption | (symm; assumption)) (by first | rfl | assumption | (symm; assumption)) (by assumption) ?_)
      refine WO_call rfl rfl rfl ?_
      refine (sp_Cut10 (r := r0)).mono ?_
      rintro _ _ ⟨rfl, rfl⟩
      rw [hr]
      refine WO_step rfl (S_newT TRec rec0 rfl rfl fun i7 => ?_)
      refine WO_step rfl (S_storeT (T := TRec) (y := r) rfl rfl pkA (by rfl) (by rfl) ?_)
      refine WO_nil (QSeq_n (WQ_seq (WQ_seq ?_)))
      refine WQ_post (P := fun x l' H' => ∃ fb : Bool, x = .normal ∧ l' = [(6, .int .i64 (i : Int)), (0, v0), (1, v1), (4, v4), (5, .pointer (some ⟨i5, 0, none⟩)), (7, .pointer (some ⟨i7, 0, none⟩)), (9, .bool fb)] ∧ fb = (fnd (newest (tRecs (layN l turn i) 32)) r.key).isSome ∧ H' = OB i7 TRec r :: AO i5 33 TSlT (layN l turn i) :: H) ?_ ?_
      ·
       refine WQ_many ?_
       refine WTr_step ⟨rfl, rfl⟩ (S_loadAll (T := TSlT) (xs := layN l turn i) rfl pkA (by rw [hlN]; rfl) ?_)
       refine WTq_step ⟨rfl, rfl⟩ (S_pure rfl ?_)
       refine WTr_step ⟨rfl, rfl⟩ (S_loadO (v := .string r.key) rfl pkA (by rfl) (by rfl) ?_)
       refine WT_alt ?_ ?_
       ·
        refine WTm_call rfl rfl rfl rfl ?_
        refine (sp_Records hlN).mono ?_
        rintro _ _ ⟨u31, rfl, rfl⟩
        refine And.intro ?_ ?_
        ·
         exact (by repeat (first | exact obT_nil | refine obT_skip rfl ?_ | refine obT_ob (ObR.of_step rfl (S_loadO (v := .string r.key) rfl pkA (by rfl) (by rfl) (by simp [eqV, eqV0]))) ?_ | refine obT_ob (ObR.of_step rfl (S_loadAll (T := TSlT) (xs := layN l turn i) rfl pkA (by rw [hlN]; rfl) (eqV_tab _))) ?_))
        ·
         refine WT_alt ?_ ?_
         ·
          refine WTm_call rfl rfl rfl rfl ?_
          refine (sp_Find (l := newest (tRecs (layN l turn i) 32)) (k := r.key) rdA (by omega)).mono ?_
          rintro _ _ ⟨rfl, rfl⟩
          refine And.intro ?_ ?_
          ·
           exact (by repeat (first | exact obT_nil | refine obT_skip rfl ?_ | refine obT_ob (ObR.of_step rfl (S_loadO (v := .string r.key) rfl pkA (by rfl) (by rfl) (by simp [eqV, eqV0]))) ?_ | refine obT_ob (ObR.of_step rfl (S_loadAll (T := TSlT) (xs := layN l turn i) rfl pkA (by rw [hlN]; rfl) (eqV_tab _))) ?_))
          ·
           refine WTq_step ⟨rfl, rfl⟩ (S_pure rfl ?_)
           refine WTq_step ⟨rfl, rfl⟩ (S_pure rfl ?_)
           refine WTq_step ⟨rfl, rfl⟩ (S_pure rfl ?_)
           refine WTm_step ⟨rfl, rfl⟩ (S_newT TRec rec0 rfl rfl fun i8 => ?_)
           refine And.intro ?_ ?_
           ·
            exact (by repeat (first | exact obT_nil | refine obT_skip rfl ?_ | refine obT_ob (ObR.of_step rfl (S_loadO (v := .string r.key) rfl pkA (by rfl) (by rfl) (by simp [eqV, eqV0]))) ?_ | refine obT_ob (ObR.of_step rfl (S_loadAll (T := TSlT) (xs := layN l turn i) rfl pkA (by rw [hlN]; rfl) (eqV_tab _))) ?_))
           ·
            refine WTm_step ⟨rfl, rfl⟩ (S_storeT (T := TRec) (y := ((fnd (newest (tRecs (layN l turn i) 32)) r.key).getD rec0)) rfl rfl pkA (by rfl) (by rfl) ?_)
            refine And.intro ?_ ?_
            ·
             exact (by repeat (first | exact obT_nil | refine obT_skip rfl ?_ | refine obT_ob (ObR.of_step rfl (S_loadO (v := .string r.key) rfl pkA (by rfl) (by rfl) (by simp [eqV, eqV0]))) ?_ | refine obT_ob (ObR.of_step rfl (S_loadAll (T := TSlT) (xs := layN l turn i) rfl pkA (by rw [hlN]; rfl) (eqV_tab _))) ?_))
            ·
             refine WTq_step ⟨rfl, rfl⟩ (S_pure rfl ?_)
             refine WT_leaf ?_
             exact KPost_i seA hsA ⟨_, rfl, rfl, rfl, rfl⟩
         ·
          refine WTm_step ⟨rfl, rfl⟩ (S_newT TRec rec0 rfl rfl fun i8 => ?_)
          refine And.intro ?_ ?_
          ·
           exact (by repeat (first | exact obT_nil | refine obT_skip rfl ?_ | refine obT_ob (ObR.of_step rfl (S_loadO (v := .string r.key) rfl pkA (by rfl) (by rfl) (by simp [eqV, eqV0]))) ?_ | refine obT_ob (ObR.of_step rfl (S_loadAll (T := TSlT) (xs := layN l turn i) rfl pkA (by rw [hlN]; rfl) (eqV_tab _))) ?_))
          ·
           refine WTm_call rfl rfl rfl rfl ?_
           refine (sp_Find (l := newest (tRecs (layN l turn i) 32)) (k := r.key) rdA (by omega)).mono ?_
           rintro _ _ ⟨rfl, rfl⟩
           refine And.intro ?_ ?_
           ·
            exact (by repeat (first | exact obT_nil | refine obT_skip rfl ?_ | refine obT_ob (ObR.of_step rfl (S_loadO (v := .string r.key) rfl pkA (by rfl) (by rfl) (by simp [eqV, eqV0]))) ?_ | refine obT_ob (ObR.of_step rfl (S_loadAll (T := TSlT) (xs := layN l turn i) rfl pkA (by rw [hlN]; rfl) (eqV_tab _))) ?_))
           ·
            refine WTq_step ⟨rfl, rfl⟩ (S_pure rfl ?_)
            refine WTq_step ⟨rfl, rfl⟩ (S_pure rfl ?_)
            refine WTq_step ⟨rfl, rfl⟩ (S_pure rfl ?_)
            refine WTm_step ⟨rfl, rfl⟩ (S_storeT (T := TRec) (y := ((fnd (newest (tRecs (layN l turn i) 32)) r.key).getD rec0)) rfl rfl pkA (by rfl) (by rfl) ?_)
            refine And.intro ?_ ?_
            ·
             exact (by repeat (first | exact obT_nil | refine obT_skip rfl ?_ | refine obT_ob (ObR.of_step rfl (S_loadO (v := .string r.key) rfl pkA (by rfl) (by rfl) (by simp [eqV, eqV0]))) ?_ | refine obT_ob (ObR.of_step rfl (S_loadAll (T := TSlT) (xs := layN l turn i) rfl pkA (by rw [hlN]; rfl) (eqV_tab _))) ?_))
            ·
             refine WTq_step ⟨rfl, rfl⟩ (S_pure rfl ?_)
             refine WT_leaf ?_
             exact KPost_i seA hsA ⟨_, rfl, rfl, rfl, rfl⟩
       ·
        refine WTm_step ⟨rfl, rfl⟩ (S_newT TRec rec0 rfl rfl fun i8 => ?_)
        refine And.intro ?_ ?_
        ·
         exact (by repeat (first | exact obT_nil | refine obT_skip rfl ?_ | refine obT_ob (ObR.of_step rfl (S_loadO (v := .string r.key) rfl pkA (by rfl) (by rfl) (by simp [eqV, eqV0]))) ?_ | refine obT_ob (ObR.of_step rfl (S_loadAll (T := TSlT) (xs := layN l turn i) rfl pkA (by rw [hlN]; rfl) (eqV_tab _))) ?_))
        ·
         refine WTm_call rfl rfl rfl rfl ?_
         refine (sp_Records hlN).mono ?_
         rintro _ _ ⟨u31, rfl, rfl⟩
         refine And.intro ?_ ?_
         ·
          exact (by repeat (first | exact obT_nil | refine obT_skip rfl ?_ | refine obT_ob (ObR.of_step rfl (S_loadO (v := .string r.key) rfl pkA (by rfl) (by rfl) (by simp [eqV, eqV0]))) ?_ | refine obT_ob (ObR.of_step rfl (S_loadAll (T := TSlT) (xs := layN l turn i) rfl pkA (by rw [hlN]; rfl) (eqV_tab _))) ?_))
         ·
          refine WTm_call rfl rfl rfl rfl ?_
          refine (sp_Find (l := newest (tRecs (layN l turn i) 32)) (k := r.key) rdA (by omega)).mono ?_
          rintro _ _ ⟨rfl, rfl⟩
          refine And.intro ?_ ?_
          ·
           exact (by repeat (first | exact obT_nil | refine obT_skip rfl ?_ | refine obT_ob (ObR.of_step rfl (S_loadO (v := .string r.key) rfl pkA (by rfl) (by rfl) (by simp [eqV, eqV0]))) ?_ | refine obT_ob (ObR.of_step rfl (S_loadAll (T := TSlT) (xs := layN l turn i) rfl pkA (by rw [hlN]; rfl) (eqV_tab _))) ?_))
          ·
           refine WTq_step ⟨rfl, rfl⟩ (S_pure rfl ?_)
           refine WTq_step ⟨rfl, rfl⟩ (S_pure rfl ?_)
           refine WTq_step ⟨rfl, rfl⟩ (S_pure rfl ?_)
           refine WTm_step ⟨rfl, rfl⟩ (S_storeT (T := TRec) (y := ((fnd (newest (tRecs (layN l turn i) 32)) r.key).getD rec0)) rfl rfl pkA (by rfl) (by rfl) ?_)
           refine And.intro ?_ ?_
           ·
            exact (by repeat (first | exact obT_nil | refine obT_skip rfl ?_ | refine obT_ob (ObR.of_step rfl (S_loadO (v := .string r.key) rfl pkA (by rfl) (by rfl) (by simp [eqV, eqV0]))) ?_ | refine obT_ob (ObR.of_step rfl (S_loadAll (T := TSlT) (xs := layN l turn i) rfl pkA (by rw [hlN]; rfl) (eqV_tab _))) ?_))
           ·
            refine WTq_step ⟨rfl, rfl⟩ (S_pure rfl ?_)
            refine WT_leaf ?_
            exact KPost_i seA hsA ⟨_, rfl, rfl, rfl, rfl⟩
      ·
       rintro x l' H' ⟨fb, rfl, rfl, hfb, rfl⟩
       refine QSeq_n (WQ_seq (WQ_region ?_))
       iterate 2 refine WO_step rfl (S_pure rfl ?_)
       refine WO_cases (t := 38) rfl (fun hg2 => ?_) (fun hg2 => ?_)
       ·
        try simp only [bsT] at hg2
        iterate 3 refine WO_off rfl ?_
        refine WO_step rfl (S_pure rfl ?_)
        refine WO_nil (QSeq_n ?_)
        refine WQ_cond rfl (fun _ => ?_) (fun h => ?_)
        rotate_left
        · exact absurd h (by decide)
        refine WQ_exit (QSeq_x (KBlock_h (QSeq_n (WQ_region ?_))))
        refine WO_step rfl (S_pure rfl ?_)
        first | refine WO_step rfl (S_addN (b := 1) rfl rfl (by omega) ?_) | refine WO_step rfl (S_pure rfl ?_)
        refine WO_step rfl (S_pure rfl ?_)
        refine WO_nil (QLoop_n ?_)
        have := ih (40 - (i + 1)) (by omega) (i + 1) rfl (by omega) (by omega)
        rw [hst, show layStep (layN l turn i) i r (turn.getD i false) = layN l turn i by unfold layStep skipR; rw [← hfb, hg2]; rfl] at this
        exact WQ_weak this seA hsA
       ·
        try simp only [bsT] at hg2
        refine WO_step rfl (S_loadT (T := TRec) (z := r) rfl pkA (by rfl) (by rfl) ?_)
        refine WO_call rfl rfl rfl ?_
        refine (sp_May (r := r)).mono ?_
        rintro _ _ ⟨rfl, rfl⟩
        iterate 2 refine WO_step rfl (S_pure rfl ?_)
        refine WO_nil (QSeq_n ?_)
        refine WQ_cond rfl (fun hb2 => ?_) (fun hb2 => ?_)
        ·
         try simp only [bsT] at hb2
         refine WQ_exit (QSeq_x (KBlock_h (QSeq_n (WQ_region ?_))))
         refine WO_step rfl (S_pure rfl ?_)
         first | refine WO_step rfl (S_addN (b := 1) rfl rfl (by omega) ?_) | refine WO_step rfl (S_pure rfl ?_)
         refine WO_step rfl (S_pure rfl ?_)
         refine WO_nil (QLoop_n ?_)
         have hmr : mayRec r = false := by simpa using hb2
         have := ih (40 - (i + 1)) (by omega) (i + 1) rfl (by omega) (by omega)
         rw [hst, show layStep (layN l turn i) i r (turn.getD i false) = layN l turn i by unfold layStep skipR; rw [hmr]; simp] at this
         exact WQ_weak this seA hsA
        ·
         try simp only [bsT] at hb2
         have hmr : mayRec r = true := by simpa using hb2
         have hst2 : layN l turn (i + 1) = placeN i (bktOf r.key (turn.getD i false)) r 4 (layN l turn i) := by
           rw [hst]
           unfold layStep skipR
           rw [← hfb, hg2, hmr]; rfl
         have hkl2 := kH_lt r.key
         have hf8 := frst_lt (kH r.key)
         have ht8 := tagOf_lt (kH r.key)
         refine WQ_skip (QSeq_n (WQ_seq (WQ_region ?_)))
         refine WO_step rfl (S_pure rfl ?_)
         refine WO_step rfl (S_loadO rfl pkA (by rfl) (by rfl) ?_)
         refine WO_call rfl rfl rfl ?_
         refine (sp_RHash (s := r.key) (by omega)).mono ?_
         rintro _ _ ⟨rfl, rfl⟩
         rw [kH_eq]
         refine WO_step rfl (S_pure rfl ?_)
         refine WO_nil (QSeq_n (WQ_seq (WQ_region ?_)))
         refine WO_step rfl (S_pure rfl ?_)
         refine WO_call rfl rfl rfl ?_
         refine (sp_rFirst (by omega)).mono ?_
         rintro _ _ ⟨rfl, rfl⟩
         refine WO_step rfl (S_pure rfl ?_)
         refine WO_nil (QSeq_n (WQ_seq ?_))
         refine WQ_post (P := fun x l' H' => ∃ q : Nat, x = .normal ∧ l' = [(6, .int .i64 (i : Int)), (0, v0), (1, v1), (4, v4), (5, .pointer (some ⟨i5, 0, none⟩)), (7, .pointer (some ⟨i7, 0, none⟩)), (11, .int .i64 (q : Int))] ∧ q = bktOf r.key (turn.getD i false) ∧ H' = OB i7 TRec r :: AO i5 33 TSlT (layN l turn i) :: H) ?_ ?_
         ·
          refine WQ_seq (WQ_region ?_)
          iterate 2 refine WO_step rfl (S_pure rfl ?_)
          first | refine WO_step rfl (S_pure rfl ?_) | refine WO_step rfl (S_lenS rfl rdA ?_)
          iterate 2 refine WO_step rfl (S_pure rfl ?_)
          refine WO_cases (t := 52) rfl (fun hg3 => ?_) (fun hg3 => ?_)
          ·
           try simp only [bsT] at hg3
           obtain ⟨tb, htb⟩ := get_of_lt hg3
           iterate 2 refine WO_step rfl (S_pure rfl ?_)
           refine WO_step rfl (S_idx rfl rfl rdA (by first | rfl | assumption | (symm; assumption)) (by rfl) (by first | assumption | omega | exact lt_of_get (by assumption) | (simp only [List.length_set]; first | assumption | omega | exact lt_of_get (by assumption))) fun hp55 => ?_)
           refine WO_step rfl (S_loadE rfl rdA (by first | rfl | assumption | (symm; assumption)) (by first | rfl | assumption | (symm; assumption)) (by first | rfl | assumption | (symm; assumption)) (by assumption) ?_)
           refine WO_step rfl (S_pure rfl ?_)
           refine WO_nil (QSeq_n ?_)
           refine WQ_cond rfl (fun hb3 => ?_) (fun hb3 => ?_)
           ·
            try simp only [bsT] at hb3
            refine WQ_region ?_
            iterate 2 refine WO_step rfl (S_pure rfl ?_)
            refine WO_call rfl rfl rfl ?_
            refine (sp_rTag (by omega)).mono ?_
            rintro _ _ ⟨rfl, rfl⟩
            refine WO_call rfl rfl rfl ?_
            refine (sp_rOther (by assumption) (by assumption)).mono ?_
            rintro _ _ ⟨rfl, rfl⟩
            refine WO_step rfl (S_pure rfl ?_)
            refine WO_nil ?_
            have e : turn.getD i false = true := by rw [List.getD_eq_getElem?_getD, htb]; exact hb3
            exact KPost_i seA hsA ⟨oth (frst (kH r.key)) (tagOf (kH r.key)), rfl, rfl, by unfold bktOf; rw [e, if_pos rfl], rfl⟩
           ·
            try simp only [bsT] at hb3
            refine WQ_skip ?_
            have e : turn.getD i false = false := by rw [List.getD_eq_getElem?_getD, htb]; exact hb3
            exact KPost_i seA hsA ⟨frst (kH r.key), rfl, rfl, by unfold bktOf; rw [e, if_neg (by decide)], rfl⟩
          ·
           try simp only [bsT] at hg3
           iterate 4 refine WO_off rfl ?_
           refine WO_step rfl (S_pure rfl ?_)
           refine WO_nil (QSeq_n ?_)
           refine WQ_cond rfl (fun h => ?_) (fun _ => ?_)
           · exact absurd h (by decide)
           refine WQ_skip ?_
           have e : turn.getD i false = false := by rw [List.getD_eq_getElem?_getD, List.getElem?_eq_none (by omega)]; rfl
           exact KPost_i seA hsA ⟨frst (kH r.key), rfl, rfl, by unfold bktOf; rw [e, if_neg (by decide)], rfl⟩
         ·
          rintro x l' H' ⟨q, rfl, rfl, hq, rfl⟩
          have hq8 : q < 8 := by rw [hq]; exact bktOf_lt _ _
          rw [← hq] at hst2
          refine QSeq_n (WQ_seq (WQ_region ?_))
          refine WO_step rfl (S_pure rfl ?_)
          refine WO_nil (QSeq_n (WQ_block ?_))
          --out x2
          refine WQ_post (WQ_weak (WQ_of (lp_Lay1 (H := H) (i5 := i5) (i7 := i7) (i := i) (r := r) (b := q) v0 v1 v4 hq8 (by omega) 4 0 (layN l turn i) (by omega) (by omega) hlN)) seA hsA) ?_
          rintro y l' _ ⟨rfl, rfl, rfl⟩
          rw [show 4 - 0 = 4 from rfl, ← hst2]
          refine KBlock_h (KBlock_n (QSeq_n (WQ_region ?_)))
          refine WO_step rfl (S_pure rfl ?_)
          first | refine WO_step rfl (S_addN (b := 1) rfl rfl (by omega) ?_) | refine WO_step rfl (S_pure rfl ?_)
          refine WO_step rfl (S_pure rfl ?_)
          refine WO_nil (QLoop_n ?_)
          exact WQ_weak (ih (40 - (i + 1)) (by omega) (i + 1) rfl (by omega) (by omega)) seA hsA
     ·
      try simp only [bsT] at hb1
      refine WQ_exit (QSeq_x (QLoop_x ?_))
      have e : layN l turn i = layN l turn N := by
        by_cases h40 : i = N
        · rw [h40]
        · have := layN_end (l := l) (turn := turn) (i := i) (by omega) (N - i)
          rw [show i + (N - i) = N by omega] at this
          exact this.symm
      rw [e]
      exact KPost_i seA hsA ⟨rfl, rfl, rfl⟩
    ·
     try simp only [bsT] at hg1
     iterate 2 refine WO_off rfl ?_
     refine WO_step rfl (S_pure rfl ?_)
     refine WO_nil (QSeq_n ?_)
     refine WQ_cond rfl (fun h => ?_) (fun _ => ?_)
     · exact absurd h (by decide)
     refine WQ_exit (QSeq_x (QLoop_x ?_))
     have e : layN l turn i = layN l turn N := by
       by_cases h40 : i = N
       · rw [h40]
       · have := layN_end (l := l) (turn := turn) (i := i) (by omega) (N - i)
         rw [show i + (N - i) = N by omega] at this
         exact this.symm
     rw [e]
     exact KPost_i seA hsA ⟨rfl, rfl, rfl⟩
theorem sp_LayQ {H : SH} {v0 v1 : Value} {l : List Rec} {turn : List Bool} (hv : RD H v0 TRec l) (ht : RD H v1 TBool turn) : WFQ F X f_loesslaw19_Lay [v0, v1] H (fun r _ => r = tabV (lay l turn)) := by
  refine WFQ_fn F_loesslaw19_Lay ?_
  refine WQ_seq (WQ_region ?_)
  refine WO_step rfl (S_new fun i4 => ?_)
  refine WO_nil (QSeq_n (WQ_seq (WQ_region ?_)))
  refine WO_step rfl (S_new fun i5 => ?_)
  refine WO_nil (QSeq_n (WQ_seq (WQ_seq (WQ_region ?_))))
  refine WO_step rfl (S_pure rfl ?_)
  refine WO_nil (QSeq_n (WQ_block ?_))
  --out x0
  refine WQ_view (H' := AO i5 33 TSlT (layN l turn 0) :: AO i4 33 TSlT zeroT :: H) (fun h hh => hh) ?_
  obtain ⟨N, hN⟩ : ∃ N : Nat, N = 40 := ⟨40, rfl⟩
  have hlay : layN l turn N = lay l turn := by rw [hN]; rfl
  refine WQ_post (WQ_weak (lp_Lay0 (H := AO i4 33 TSlT zeroT :: H) (i5 := i5) (v4 := .pointer (some ⟨i4, 0, none⟩)) N hN hv.tail ht.tail 40 0 (by omega) (by omega) (by omega)) seA HSub.refl) ?_
  rintro y l' _ ⟨rfl, rfl, rfl⟩
  rw [hlay]
  have hlyl : (lay l turn).length = 32 := by rw [← hlay]; exact layN_len _ _ _
  generalize lay l turn = LY at *
  refine KBlock_h (QSeq_n (WQ_seq (WQ_region ?_)))
  refine WO_step rfl (S_loadAll (T := TSlT) (xs := LY) rfl pkA (by rw [hlyl]; rfl) ?_)
  refine WO_step rfl (S_storeTab (ts0 := zeroT) (ts := LY) rfl rfl pkA zeroT_len hlyl ?_)
  refine WO_nil (QSeq_n (WQ_ret ?_))
  refine KFn_r (ResL.tab rfl pkA (by first | assumption | exact zeroT_len) ResL.nil) ?_
  exact ⟨_, HSub.refl, rfl⟩

end Go.Proofs.YtpnmeednimpjdaaGreat.AM
