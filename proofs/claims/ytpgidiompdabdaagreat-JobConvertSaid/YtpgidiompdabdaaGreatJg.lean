/- Walks: what the functions compute. -/
import Derived.Test.YtpgidiompdabdaaGreatJe
namespace Go.Proofs.YtpgidiompdabdaaGreat.AM
open Go
set_option linter.unusedSimpArgs false
set_option linter.unusedVariables false
set_option maxRecDepth 4000

/-! ### The law JobConvert -/
def AllMay (l : List Rec) : Prop := ∀ r ∈ l, mayRec r = true
theorem AllMay.put {l : List Rec} {r : Rec} (h : AllMay l) : AllMay (putF l r).2 := fun q hq => by
  by_cases hr : mayRec r = true
  · rcases put_mem hq with hq | rfl
    · exact h q hq
    · exact hr
  · unfold putF at hq
    rw [if_pos (by simpa using hr)] at hq
    exact h q hq
theorem put_len_leJ (l : List Rec) (r : Rec) : (putF l r).2.length ≤ l.length + 1 := by
  unfold putF
  split
  · simp
  · split <;> (try split) <;> simp
theorem lp_KC0 {H : SH} {v v1 v2 : Value} {N : List Rec} {j iD : Nat} (hv : RD H v TRec N) (hN : N.length ≤ 100) : ∀ (m a : Nat) (w : SV) (l : List Rec) (es : List Ent), N.length - a = m → a ≤ N.length → LogI es l → AllMay l → l.length ≤ a →
    WC F X (.loop L_loesslaw25_JobConvert_0) [(9, .int .i64 (a : Int)), (0, v), (8, .pointer (some ⟨j, 0, none⟩)), (1, v1), (2, v2)] (LO j iD w :: SL w.toV TRec l :: DO iD es l.length :: H)
      (KPost fun x l' H' => ∃ (w : SV) (l : List Rec) (es : List Ent), x = .exit 0 ∧ l' = [(8, .pointer (some ⟨j, 0, none⟩)), (1, v1), (2, v2)] ∧ H' = LO j iD w :: SL w.toV TRec l :: DO iD es l.length :: H ∧ LogI es l ∧ AllMay l ∧ l.length ≤ N.length) := by
  intro m
  induction m using Nat.strongRecOn with
  | _ m ih =>
    intro a w l es hm ha hg hal hla
    refine WC_loop (WC_seq (WC_seq (WC_region ?_)))
    iterate 2 refine WO_step rfl (S_pure rfl ?_)
    first | refine WO_step rfl (S_pure rfl ?_) | refine WO_step rfl (S_lenS rfl rdA ?_)
    refine WO_step rfl (S_pure rfl ?_)
    refine WO_nil (KSeq_n ?_)
    refine WC_cond rfl (fun hb1 => ?_) (fun hb1 => ?_)
    ·
     try simp only [bsT] at hb1
     obtain ⟨r, hr⟩ := get_of_lt hb1
     refine WC_skip (KSeq_n (WC_seq (WC_block (WC_region ?_))))
     iterate 3 refine WO_step rfl (S_pure rfl ?_)
     refine WO_step rfl (S_idx rfl rfl rdA (by first | rfl | assumption | (symm; assumption)) (by rfl) (by first | assumption | omega | exact lt_of_get (by assumption) | (simp only [List.length_set]; first | assumption | omega | exact lt_of_get (by assumption))) fun hp41 => ?_)
     refine WO_step rfl (S_loadE rfl rdA (by first | rfl | assumption | (symm; assumption)) (by first | rfl | assumption | (symm; assumption)) (by first | rfl | assumption | (symm; assumption)) (by assumption) ?_)
     refine WO_call rfl rfl rfl ?_
     refine (WF.weak (sp_lPut (H := H) (w := w) (i := iD) (j := j) (r := r) hg) hsA).mono ?_
     rintro _ _ ⟨es', w', rfl, rfl, hg'⟩
     refine WO_nil (KBlock_n (KSeq_n (WC_region ?_)))
     refine WO_step rfl (S_pure rfl ?_)
     first | refine WO_step rfl (S_addN (b := 1) rfl rfl (by omega) ?_) | refine WO_step rfl (S_pure rfl ?_)
     refine WO_step rfl (S_pure rfl ?_)
     refine WO_nil (KLoop_n ?_)
     exact WC_weak (ih (N.length - (a + 1)) (by omega) (a + 1) w' (putF l r).2 es' rfl (by omega) hg' hal.put (by have := put_len_leJ l r; omega)) seA hsA
    ·
     try simp only [bsT] at hb1
     refine WC_exit (KSeq_x (KLoop_x ?_))
     exact KPost_i seA hsA ⟨w, l, es, rfl, rfl, rfl, hg, hal, by omega⟩
theorem lp_KC1 {H : SH} {j iD n i10 : Nat} {w : SV} {l : List Rec} {es : List Ent} {v1 v2 : Value} (g : LogI es l) : ∀ (m k : Nat) (ts : List SlT), 32 - k = m → k ≤ 32 → ts.length = 32 → (∀ q, q < k → ts[q]? = some (sltOf es l q)) → (∀ q, k ≤ q → q < 32 → ts[q]? = some slt0) →
    WC F X (.loop L_loesslaw25_JobConvert_1) [(11, .int .i64 (k : Int)), (10, .pointer (some ⟨i10, 0, none⟩)), (8, .pointer (some ⟨j, 0, none⟩)), (1, v1), (2, v2)] (AO i10 38 TSlT ts :: LO j iD w :: SL w.toV TRec l :: DO iD es n :: H)
      (KPost fun y l' H' => y = .exit 2 ∧ l' = [(10, .pointer (some ⟨i10, 0, none⟩)), (8, .pointer (some ⟨j, 0, none⟩)), (1, v1), (2, v2)] ∧ H' = AO i10 38 TSlT (tabT es l) :: LO j iD w :: SL w.toV TRec l :: DO iD es n :: H) := by
  intro m
  induction m using Nat.strongRecOn with
  | _ m ih =>
    intro k ts hm hk hl hts htz
    refine WC_loop (WC_seq (WC_seq (WC_region ?_)))
    iterate 2 refine WO_step rfl (S_pure rfl ?_)
    refine WO_nil (KSeq_n ?_)
    refine WC_cond rfl (fun hb1 => ?_) (fun hb1 => ?_)
    ·
     try simp only [bsT] at hb1
     obtain ⟨x, hx⟩ : ∃ x, sltOf es l k = x := ⟨_, rfl⟩
     refine WC_skip (KSeq_n (WC_seq (WC_block (WC_seq (WC_region ?_)))))
     iterate 2 refine WO_step rfl (S_pure rfl ?_)
     refine WO_step rfl (S_quoN (a := k) (m := 4) rfl rfl (by omega) (by omega) ?_)
     refine WO_step rfl (S_pure rfl ?_)
     refine WO_step rfl (S_remU (a := k) (m := 4) rfl rfl (by omega) ?_)
     refine WO_call rfl rfl rfl ?_
     refine (WF.weak (sp_lSlot (H := AO i10 38 TSlT ts :: H) (j := j) (i := iD) (n := n) (w := w) (b := k / 4) (s := k % 4) g (by omega) (by omega)) hsA).mono ?_
     rintro _ _ ⟨rfl, rfl⟩
     rw [show k / 4 * 4 + k % 4 = k by omega, hx]
     iterate 3 refine WO_step rfl (S_pure rfl ?_)
     refine WO_step rfl (S_newT TRec rec0 rfl rfl fun i12 => ?_)
     refine WO_step rfl (S_storeT (T := TRec) (y := x.r) rfl rfl pkA (by rfl) (by rfl) ?_)
     refine WO_step rfl (S_pure rfl ?_)
     refine WO_nil (KSeq_n (WC_seq (WC_region ?_)))
     refine WO_step rfl (S_pure rfl ?_)
     refine WO_nil (KSeq_n ?_)
     refine WC_cond rfl (fun hb2 => ?_) (fun hb2 => ?_)
     ·
      try simp only [bsT] at hb2
      refine WC_region ?_
      refine WO_step rfl (S_pure rfl ?_)
      refine WO_step rfl (S_quoN (a := k) (m := 4) rfl rfl (by omega) (by omega) ?_)
      refine WO_step rfl (S_pure rfl ?_)
      refine WO_step rfl (S_remU (a := k) (m := 4) rfl rfl (by omega) ?_)
      refine WO_step rfl (S_loadT (T := TRec) (z := x.r) rfl pkA (by rfl) (by rfl) ?_)
      refine WO_step rfl (S_pure rfl ?_)
      refine WO_step rfl (S_idxA (j := k / 4) rfl rfl rfl (by omega) ?_)
      refine WO_step rfl (S_idxA (j := k % 4) rfl rfl rfl (by omega) ?_)
      refine WO_step rfl (S_storeA (T := TSlT) (k := k) (x := ⟨true, x.r⟩) rfl rfl pkA (by show _ = k * 6; omega) (by omega) (by rfl) rfl ?_)
      refine WO_nil (KBlock_n (KSeq_n (WC_region ?_)))
      refine WO_step rfl (S_pure rfl ?_)
      first | refine WO_step rfl (S_addN (b := 1) rfl rfl (by omega) ?_) | refine WO_step rfl (S_pure rfl ?_)
      refine WO_step rfl (S_pure rfl ?_)
      refine WO_nil (KLoop_n ?_)
      have hxt : x = ⟨true, x.r⟩ := by
        obtain ⟨h, r⟩ := x
        have : h = true := by simpa using hb2
        rw [this]
      refine WC_weak (ih (32 - (k + 1)) (by omega) (k + 1) (ts.set k ⟨true, x.r⟩) rfl (by omega) (by rw [List.length_set]; exact hl) (fun q hq => ?_) (fun q h1 h2 => ?_)) seA hsA
      · rw [List.getElem?_set]
        by_cases e : k = q
        · subst e
          rw [if_pos rfl, if_pos (by omega), hx, ← hxt]
        · rw [if_neg e]; exact hts q (by omega)
      · rw [List.getElem?_set_ne (by omega)]; exact htz q (by omega) h2
     ·
      try simp only [bsT] at hb2
      refine WC_skip (KBlock_n (KSeq_n (WC_region ?_)))
      refine WO_step rfl (S_pure rfl ?_)
      first | refine WO_step rfl (S_addN (b := 1) rfl rfl (by omega) ?_) | refine WO_step rfl (S_pure rfl ?_)
      refine WO_step rfl (S_pure rfl ?_)
      refine WO_nil (KLoop_n ?_)
      have hxf : x.has = false := by simpa using hb2
      have hx0 : x = slt0 := by
        rw [← hx] at hxf ⊢
        unfold sltOf at hxf ⊢
        split
        · rename_i h; rw [if_pos h] at hxf; cases hxf
        · rfl
      refine WC_weak (ih (32 - (k + 1)) (by omega) (k + 1) ts rfl (by omega) hl (fun q hq => ?_) (fun q h1 h2 => htz q (by omega) h2)) seA hsA
      by_cases e : k = q
      · subst e
        rw [hx, hx0]; exact htz _ (by omega) (by omega)
      · exact hts q (by omega)
    ·
     try simp only [bsT] at hb1
     refine WC_exit (KSeq_x (KLoop_x ?_))
     have ek : k = 32 := by omega
     subst ek
     have et : ts = tabT es l := by
       apply List.ext_getElem?
       intro q
       by_cases hq : q < 32
       · rw [hts q hq, tabT_at hq]
       · rw [List.getElem?_eq_none (by omega), List.getElem?_eq_none (by rw [tabT_len]; omega)]
     subst et
     exact KPost_i (H' := AO i10 38 TSlT (tabT es l) :: LO j iD w :: SL w.toV TRec l :: DO iD es n :: H) seA hsA ⟨rfl, rfl, rfl⟩
theorem lp_KC3 {H : SH} {v1 v2 v10 v14 v15 v16 : Value} {M : List Rec} {j iD rr : Nat} (hv : RD H v2 TRec M) (hM : M.length ≤ 100) : ∀ (m q : Nat) (w : SV) (l : List Rec) (es : List Ent), M.length - q = m → q ≤ M.length → LogI es l →
    WC F X (.loop L_loesslaw25_JobConvert_3) [(20, .int .i64 (q : Int)), (2, v2), (17, .int .i64 (rr : Int)), (8, .pointer (some ⟨j, 0, none⟩)), (1, v1), (10, v10), (14, v14), (15, v15), (16, v16)] (LO j iD w :: SL w.toV TRec l :: DO iD es l.length :: H)
      (KPost fun x l' H' => ∃ (w : SV) (l : List Rec) (es : List Ent), x = .exit 6 ∧ l' = [(2, v2), (17, .int .i64 (rr : Int)), (8, .pointer (some ⟨j, 0, none⟩)), (1, v1), (10, v10), (14, v14), (15, v15), (16, v16)] ∧ H' = LO j iD w :: SL w.toV TRec l :: DO iD es l.length :: H ∧ LogI es l) := by
  intro m
  induction m using Nat.strongRecOn with
  | _ m ih =>
    intro q w l es hm hq hg
    refine WC_loop (WC_seq (WC_seq (WC_region ?_)))
    iterate 2 refine WO_step rfl (S_pure rfl ?_)
    first | refine WO_step rfl (S_pure rfl ?_) | refine WO_step rfl (S_lenS rfl rdA ?_)
    iterate 2 refine WO_step rfl (S_pure rfl ?_)
    refine WO_cases (t := 101) rfl (fun hg1 => ?_) (fun hg1 => ?_)
    ·
     try simp only [bsT] at hg1
     refine WO_step rfl (S_pure rfl ?_)
     first | refine WO_step rfl (S_eqS rfl rfl ?_) | refine WO_step rfl (S_pure rfl ?_)
     refine WO_step rfl (S_pure rfl ?_)
     refine WO_nil (KSeq_n ?_)
     refine WC_cond rfl (fun hb1 => ?_) (fun hb1 => ?_)
     ·
      try simp only [bsT] at hb1
      obtain ⟨r, hr⟩ := get_of_lt hg1
      refine WC_skip (KSeq_n (WC_seq (WC_block (WC_region ?_))))
      iterate 3 refine WO_step rfl (S_pure rfl ?_)
      refine WO_step rfl (S_idx rfl rfl rdA (by first | rfl | assumption | (symm; assumption)) (by rfl) (by first | assumption | omega | exact lt_of_get (by assumption) | (simp only [List.length_set]; first | assumption | omega | exact lt_of_get (by assumption))) fun hp110 => ?_)
      refine WO_step rfl (S_loadE rfl rdA (by first | rfl | assumption | (symm; assumption)) (by first | rfl | assumption | (symm; assumption)) (by first | rfl | assumption | (symm; assumption)) (by assumption) ?_)
      refine WO_call rfl rfl rfl ?_
      refine (WF.weak (sp_lPut (H := H) (w := w) (i := iD) (j := j) (r := r) hg) hsA).mono ?_
      rintro _ _ ⟨es', w', rfl, rfl, hg'⟩
      refine WO_nil (KBlock_n (KSeq_n (WC_region ?_)))
      refine WO_step rfl (S_pure rfl ?_)
      first | refine WO_step rfl (S_addN (b := 1) rfl rfl (by omega) ?_) | refine WO_step rfl (S_pure rfl ?_)
      refine WO_step rfl (S_pure rfl ?_)
      refine WO_nil (KLoop_n ?_)
      exact WC_weak (ih (M.length - (q + 1)) (by omega) (q + 1) w' (putF l r).2 es' rfl (by omega) hg') seA hsA
     ·
      try simp only [bsT] at hb1
      refine WC_exit (KSeq_x (KLoop_x ?_))
      exact KPost_i seA hsA ⟨w, l, es, rfl, rfl, rfl, hg⟩
    ·
     try simp only [bsT] at hg1
     iterate 2 refine WO_off rfl ?_
     refine WO_step rfl (S_pure rfl ?_)
     refine WO_nil (KSeq_n ?_)
     refine WC_cond rfl (fun h => ?_) (fun _ => ?_)
     · exact absurd h (by decide)
     refine WC_exit (KSeq_x (KLoop_x ?_))
     exact KPost_i seA hsA ⟨w, l, es, rfl, rfl, rfl, hg⟩
theorem lp_KC4 {H : SH} {v1 v2 v8 v14 v15 : Value} {tab us : List SlT} {d rr i10 i21 : Nat} (hd : d ≤ 8) (ht : tab.length = 32) (hu : us.length = 32) (hus : ∀ k, k < 32 → us[k]? = if k / 4 < d then tab[k]? else some slt0) : ∀ (m k : Nat), 32 - k = m → k ≤ 32 →
    WC F X (.loop L_loesslaw25_JobConvert_4) [(22, .int .i64 (k : Int)), (16, .int .i64 (d : Int)), (10, .pointer (some ⟨i10, 0, none⟩)), (21, .pointer (some ⟨i21, 0, none⟩)), (15, v15), (17, .int .i64 (rr : Int)), (8, v8), (1, v1), (2, v2), (14, v14)] (AO i21 38 TSlT us :: AO i10 38 TSlT tab :: H)
      (KPost fun x l' H' => x = .exit 8 ∧ l' = [(16, .int .i64 (d : Int)), (10, .pointer (some ⟨i10, 0, none⟩)), (15, v15), (17, .int .i64 (rr : Int)), (8, v8), (1, v1), (2, v2), (14, v14)] ∧ H' = AO i10 38 TSlT tab :: H) := by
  intro m
  induction m using Nat.strongRecOn with
  | _ m ih =>
    intro k hm hk
    refine WC_loop (WC_seq (WC_seq (WC_region ?_)))
    iterate 2 refine WO_step rfl (S_pure rfl ?_)
    refine WO_nil (KSeq_n ?_)
    refine WC_cond rfl (fun hb1 => ?_) (fun hb1 => ?_)
    ·
     try simp only [bsT] at hb1
     obtain ⟨x, hx⟩ := get_of_lt (show k < tab.length by omega)
     obtain ⟨y, hy⟩ := get_of_lt (show k < us.length by omega)
     have hk' := hus k (by omega)
     rw [hx, hy] at hk'
     refine WC_skip (KSeq_n (WC_seq (WC_block (WC_seq (WC_region ?_)))))
     refine WO_step rfl (S_pure rfl ?_)
     refine WO_step rfl (S_newT TSlT slt0 rfl rfl fun i23 => ?_)
     refine WO_step rfl (S_storeO rfl rfl pkA (by first | rfl | exact SV.cells1 _) (by rfl) (by first | rfl | exact SV.ones _) ?_)
     refine WO_nil (KSeq_n (WC_seq (WC_seq (WC_region ?_))))
     refine WO_step rfl (S_pure rfl ?_)
     refine WO_step rfl (S_quoN (a := k) (m := 4) rfl rfl (by omega) (by omega) ?_)
     iterate 2 refine WO_step rfl (S_pure rfl ?_)
     refine WO_nil (KSeq_n ?_)
     refine WC_cond rfl (fun hb2 => ?_) (fun hb2 => ?_)
     ·
      try simp only [bsT] at hb2
      have hyx : y = x := by rw [if_pos (by omega)] at hk'; exact Option.some.inj hk'
      refine WC_region ?_
      refine WO_step rfl (S_pure rfl ?_)
      refine WO_step rfl (S_quoN (a := k) (m := 4) rfl rfl (by omega) (by omega) ?_)
      refine WO_step rfl (S_pure rfl ?_)
      refine WO_step rfl (S_remU (a := k) (m := 4) rfl rfl (by omega) ?_)
      refine WO_step rfl (S_idxA (j := k / 4) rfl rfl rfl (by omega) ?_)
      refine WO_step rfl (S_idxA (j := k % 4) rfl rfl rfl (by omega) ?_)
      refine WO_step rfl (S_loadA (T := TSlT) (k := k) rfl pkA (by show _ = k * 6; omega) hx rfl rfl ?_)
      refine WO_step rfl (S_storeO rfl rfl pkA (by first | rfl | exact SV.cells1 _) (by rfl) (by first | rfl | exact SV.ones _) ?_)
      refine WO_nil (KSeq_n (WC_seq (WC_region ?_)))
      refine WO_step rfl (S_pure rfl ?_)
      refine WO_step rfl (S_quoN (a := k) (m := 4) rfl rfl (by omega) (by omega) ?_)
      refine WO_step rfl (S_pure rfl ?_)
      refine WO_step rfl (S_remU (a := k) (m := 4) rfl rfl (by omega) ?_)
      refine WO_step rfl (S_idxA (j := k / 4) rfl rfl rfl (by omega) ?_)
      refine WO_step rfl (S_idxA (j := k % 4) rfl rfl rfl (by omega) ?_)
      refine WO_step rfl (S_pure rfl ?_)
      refine WO_step rfl (S_loadAF (T := TSlT) (k := k) (off := 0) (v := .bool y.has) rfl pkA (by show _ = k * 6 + 0; omega) hy (by show 0 + 1 ≤ 6; omega) (by rfl) ?_)
      refine WO_step rfl (S_pure rfl ?_)
      refine WO_step rfl (S_loadO rfl pkA (by rfl) (by rfl) ?_)
      iterate 2 refine WO_step rfl (S_pure rfl ?_)
      refine WO_cases (t := 143) rfl (fun hg1 => ?_) (fun hg1 => ?_)
      ·
       try simp only [bsT] at hg1
       iterate 12 refine WO_off rfl ?_
       refine WO_step rfl (S_pure rfl ?_)
       refine WO_nil (KSeq_n ?_)
       refine WC_cond rfl (fun _ => ?_) (fun h => ?_)
       rotate_left
       · exact absurd h (by decide)
       refine WC_seq (WC_region ?_)
       refine WO_step rfl (S_pure rfl ?_)
       refine WO_nil (KSeq_n (WC_ret (KBlock_r (KSeq_r (KLoop_r ?_)))))
       exact absurd hg1 (by rw [hyx]; simp)
      ·
       try simp only [bsT] at hg1
       refine WO_step rfl (S_pure rfl ?_)
       refine WO_step rfl (S_quoN (a := k) (m := 4) rfl rfl (by omega) (by omega) ?_)
       refine WO_step rfl (S_pure rfl ?_)
       refine WO_step rfl (S_remU (a := k) (m := 4) rfl rfl (by omega) ?_)
       refine WO_step rfl (S_idxA (j := k / 4) rfl rfl rfl (by omega) ?_)
       refine WO_step rfl (S_idxA (j := k % 4) rfl rfl rfl (by omega) ?_)
       refine WO_step rfl (S_pure rfl ?_)
       refine WO_step rfl (S_loadAF (T := TSlT) (k := k) (off := 1) (v := TRec.val y.r) rfl pkA (by show _ = k * 6 + 1; omega) hy (by show 1 + 5 ≤ 6; omega) (by rfl) ?_)
       refine WO_step rfl (S_pure rfl ?_)
       refine WO_step rfl (S_loadO rfl pkA (by rfl) (by rfl) ?_)
       refine WO_call rfl rfl rfl ?_
       refine (sp_Eq (a := y.r) (b := x.r)).mono ?_
       rintro _ _ ⟨rfl, rfl⟩
       iterate 2 refine WO_step rfl (S_pure rfl ?_)
       refine WO_nil (KSeq_n ?_)
       refine WC_cond rfl (fun hb3 => ?_) (fun hb3 => ?_)
       ·
        try simp only [bsT] at hb3
        refine WC_seq (WC_region ?_)
        refine WO_step rfl (S_pure rfl ?_)
        refine WO_nil (KSeq_n (WC_ret (KBlock_r (KSeq_r (KLoop_r ?_)))))
        exact absurd hb3 (by rw [hyx]; simp)
       ·
        try simp only [bsT] at hb3
        refine WC_skip (KBlock_n (KSeq_n (WC_region ?_)))
        refine WO_step rfl (S_pure rfl ?_)
        first | refine WO_step rfl (S_addN (b := 1) rfl rfl (by omega) ?_) | refine WO_step rfl (S_pure rfl ?_)
        refine WO_step rfl (S_pure rfl ?_)
        refine WO_nil (KLoop_n ?_)
        exact WC_weak (ih (32 - (k + 1)) (by omega) (k + 1) rfl (by omega)) seA hsA
     ·
      try simp only [bsT] at hb2
      have hy0 : y = slt0 := by rw [if_neg (by omega)] at hk'; exact Option.some.inj hk'
      refine WC_skip (KSeq_n (WC_seq (WC_region ?_)))
      refine WO_step rfl (S_pure rfl ?_)
      refine WO_step rfl (S_quoN (a := k) (m := 4) rfl rfl (by omega) (by omega) ?_)
      refine WO_step rfl (S_pure rfl ?_)
      refine WO_step rfl (S_remU (a := k) (m := 4) rfl rfl (by omega) ?_)
      refine WO_step rfl (S_idxA (j := k / 4) rfl rfl rfl (by omega) ?_)
      refine WO_step rfl (S_idxA (j := k % 4) rfl rfl rfl (by omega) ?_)
      refine WO_step rfl (S_pure rfl ?_)
      refine WO_step rfl (S_loadAF (T := TSlT) (k := k) (off := 0) (v := .bool y.has) rfl pkA (by show _ = k * 6 + 0; omega) hy (by show 0 + 1 ≤ 6; omega) (by rfl) ?_)
      refine WO_step rfl (S_pure rfl ?_)
      refine WO_step rfl (S_loadO rfl pkA (by rfl) (by rfl) ?_)
      iterate 2 refine WO_step rfl (S_pure rfl ?_)
      refine WO_cases (t := 143) rfl (fun hg2 => ?_) (fun hg2 => ?_)
      ·
       try simp only [bsT] at hg2
       iterate 12 refine WO_off rfl ?_
       refine WO_step rfl (S_pure rfl ?_)
       refine WO_nil (KSeq_n ?_)
       refine WC_cond rfl (fun _ => ?_) (fun h => ?_)
       rotate_left
       · exact absurd h (by decide)
       refine WC_seq (WC_region ?_)
       refine WO_step rfl (S_pure rfl ?_)
       refine WO_nil (KSeq_n (WC_ret (KBlock_r (KSeq_r (KLoop_r ?_)))))
       exact absurd hg2 (by rw [hy0]; simp [slt0])
      ·
       try simp only [bsT] at hg2
       refine WO_step rfl (S_pure rfl ?_)
       refine WO_step rfl (S_quoN (a := k) (m := 4) rfl rfl (by omega) (by omega) ?_)
       refine WO_step rfl (S_pure rfl ?_)
       refine WO_step rfl (S_remU (a := k) (m := 4) rfl rfl (by omega) ?_)
       refine WO_step rfl (S_idxA (j := k / 4) rfl rfl rfl (by omega) ?_)
       refine WO_step rfl (S_idxA (j := k % 4) rfl rfl rfl (by omega) ?_)
       refine WO_step rfl (S_pure rfl ?_)
       refine WO_step rfl (S_loadAF (T := TSlT) (k := k) (off := 1) (v := TRec.val y.r) rfl pkA (by show _ = k * 6 + 1; omega) hy (by show 1 + 5 ≤ 6; omega) (by rfl) ?_)
       refine WO_step rfl (S_pure rfl ?_)
       refine WO_step rfl (S_loadO rfl pkA (by rfl) (by rfl) ?_)
       refine WO_call rfl rfl rfl ?_
       refine (sp_Eq (a := y.r) (b := slt0.r)).mono ?_
       rintro _ _ ⟨rfl, rfl⟩
       iterate 2 refine WO_step rfl (S_pure rfl ?_)
       refine WO_nil (KSeq_n ?_)
       refine WC_cond rfl (fun hb4 => ?_) (fun hb4 => ?_)
       ·
        try simp only [bsT] at hb4
        refine WC_seq (WC_region ?_)
        refine WO_step rfl (S_pure rfl ?_)
        refine WO_nil (KSeq_n (WC_ret (KBlock_r (KSeq_r (KLoop_r ?_)))))
        exact absurd hb4 (by rw [hy0]; simp)
       ·
        try simp only [bsT] at hb4
        refine WC_skip (KBlock_n (KSeq_n (WC_region ?_)))
        refine WO_step rfl (S_pure rfl ?_)
        first | refine WO_step rfl (S_addN (b := 1) rfl rfl (by omega) ?_) | refine WO_step rfl (S_pure rfl ?_)
        refine WO_step rfl (S_pure rfl ?_)
        refine WO_nil (KLoop_n ?_)
        exact WC_weak (ih (32 - (k + 1)) (by omega) (k + 1) rfl (by omega)) seA hsA
    ·
     try simp only [bsT] at hb1
     refine WC_exit (KSeq_x (KLoop_x ?_))
     exact KPost_i (H' := AO i10 38 TSlT tab :: H) seA hsA ⟨rfl, rfl, rfl⟩
/-! ### Tables laid back -/
def zeroT : List SlT := List.replicate 32 slt0
theorem zeroT_len : zeroT.length = 32 := by simp [zeroT]
theorem S_storeTab {l : SE} {H H0 : SH} {K : Value → SH → Prop} {i : Nat} {t : TypeId} {a y : Opd} {ts0 ts : List SlT} (ha : a.lv l = some (.pointer (some ⟨i, 0, none⟩))) (hy : y.lv l = some (tabV ts)) (hp : Pick (AO i t TSlT ts0) H H0) (h0 : ts0.length = 32) (hl : ts.length = 32) (kk : K undef (AO i t TSlT ts :: H0)) : Step (.store 192 a y) l H K :=
  S_storeAll (T := TSlT) ha hy hp (by rw [TSlT.cells_len, h0]; rfl) (by rw [hl]; rfl) kk
theorem lp_BkT {H : SH} {ts : List SlT} {i1 i2 i3 : Nat} (hl : ts.length = 32) : ∀ (m k : Nat) (xs : List SlT), 32 - k = m → k ≤ 32 → xs.length = 32 → (∀ j, j < k → xs[j]? = ts[j]?) →
    WC F X (.loop L_loesslaw19_Back_0) [(4, .int .i64 (k : Int)), (1, .pointer (some ⟨i1, 0, none⟩)), (2, .pointer (some ⟨i2, 0, none⟩)), (3, .pointer (some ⟨i3, 0, none⟩))] (AO i3 38 TSlT xs :: AO i2 38 TSlT zeroT :: AO i1 49 TSlT ts :: H)
      (KPost fun y l' H' => y = .exit 0 ∧ l' = [(2, .pointer (some ⟨i2, 0, none⟩)), (3, .pointer (some ⟨i3, 0, none⟩))] ∧ H' = AO i3 38 TSlT ts :: AO i2 38 TSlT zeroT :: H) := by
  intro m
  induction m using Nat.strongRecOn with
  | _ m ih =>
    intro k xs hm hk hxl hxs
    refine WC_loop (WC_seq (WC_seq (WC_region ?_)))
    iterate 2 refine WO_step rfl (S_pure rfl ?_)
    refine WO_nil (KSeq_n ?_)
    refine WC_cond rfl (fun hb1 => ?_) (fun hb1 => ?_)
    ·
     try simp only [bsT] at hb1
     obtain ⟨x, hx⟩ := get_of_lt (show k < ts.length by omega)
     refine WC_skip (KSeq_n (WC_seq (WC_block (WC_region ?_))))
     refine WO_step rfl (S_pure rfl ?_)
     refine WO_step rfl (S_quoN (a := k) (m := 4) rfl rfl (by omega) (by omega) ?_)
     refine WO_step rfl (S_pure rfl ?_)
     refine WO_step rfl (S_remU (a := k) (m := 4) rfl rfl (by omega) ?_)
     refine WO_step rfl (S_pure rfl ?_)
     refine WO_step rfl (S_quoN (a := k) (m := 4) rfl rfl (by omega) (by omega) ?_)
     refine WO_step rfl (S_pure rfl ?_)
     refine WO_step rfl (S_remU (a := k) (m := 4) rfl rfl (by omega) ?_)
     refine WO_step rfl (S_idxA (j := k / 4) rfl rfl rfl (by omega) ?_)
     refine WO_step rfl (S_idxA (j := k % 4) rfl rfl rfl (by omega) ?_)
     refine WO_step rfl (S_pure rfl ?_)
     refine WO_step rfl (S_loadAF (T := TSlT) (k := k) (off := 0) (v := .bool x.has) rfl pkA (by show _ = k * 6 + 0; omega) hx (by show 0 + 1 ≤ 6; omega) (by rfl) ?_)
     refine WO_step rfl (S_pure rfl ?_)
     refine WO_step rfl (S_quoN (a := k) (m := 4) rfl rfl (by omega) (by omega) ?_)
     refine WO_step rfl (S_pure rfl ?_)
     refine WO_step rfl (S_remU (a := k) (m := 4) rfl rfl (by omega) ?_)
     refine WO_step rfl (S_idxA (j := k / 4) rfl rfl rfl (by omega) ?_)
     refine WO_step rfl (S_idxA (j := k % 4) rfl rfl rfl (by omega) ?_)
     refine WO_step rfl (S_pure rfl ?_)
     refine WO_step rfl (S_loadAF (T := TSlT) (k := k) (off := 1) (v := TRec.val x.r) rfl pkA (by show _ = k * 6 + 1; omega) hx (by show 1 + 5 ≤ 6; omega) (by rfl) ?_)
     refine WO_step rfl (S_pure rfl ?_)
     refine WO_step rfl (S_idxA (j := k / 4) rfl rfl rfl (by omega) ?_)
     refine WO_step rfl (S_idxA (j := k % 4) rfl rfl rfl (by omega) ?_)
     refine WO_step rfl (S_storeA (T := TSlT) (k := k) (x := x) rfl rfl pkA (by show _ = k * 6; omega) (by omega) (by rfl) rfl ?_)
     refine WO_nil (KBlock_n (KSeq_n (WC_region ?_)))
     refine WO_step rfl (S_pure rfl ?_)
     first | refine WO_step rfl (S_addN (b := 1) rfl rfl (by omega) ?_) | refine WO_step rfl (S_pure rfl ?_)
     refine WO_step rfl (S_pure rfl ?_)
     refine WO_nil (KLoop_n ?_)
     refine WC_weak (ih (32 - (k + 1)) (by omega) (k + 1) (xs.set k x) rfl (by omega) (by rw [List.length_set]; exact hxl) (fun j hj => ?_)) seA hsA
     rw [List.getElem?_set]
     by_cases e : k = j
     · subst e; rw [if_pos rfl, if_pos (by omega), hx]
     · rw [if_neg e]; exact hxs j (by omega)
    ·
     try simp only [bsT] at hb1
     refine WC_exit (KSeq_x (KLoop_x ?_))
     have ek : k = 32 := by omega
     subst ek
     have e : xs = ts := by
       refine List.ext_getElem? fun j => ?_
       by_cases hj : j < 32
       · exact hxs j hj
       · rw [List.getElem?_eq_none (by omega), List.getElem?_eq_none (by omega)]
     subst e
     exact KPost_i seA hsA ⟨rfl, rfl, rfl⟩
theorem sp_BkT {H : SH} {ts : List SlT} (hl : ts.length = 32) : WF F X f_loesslaw19_Back [tabV ts] H (fun r H' => H' = H ∧ r = tabV ts) := by
  refine WF_fn F_loesslaw19_Back ?_
  refine WC_seq (WC_region ?_)
  refine WO_step rfl (S_boxA (T := TSlT) (xs := ts) rfl fun i1 => ?_)
  refine WO_step rfl (S_new fun i2 => ?_)
  refine WO_nil (KSeq_n (WC_seq (WC_region ?_)))
  refine WO_step rfl (S_new fun i3 => ?_)
  refine WO_nil (KSeq_n (WC_seq (WC_seq (WC_region ?_))))
  refine WO_step rfl (S_pure rfl ?_)
  refine WO_nil (KSeq_n (WC_block ?_))
  --out x0
  refine WC_view (H' := AO i3 38 TSlT zeroT :: AO i2 38 TSlT zeroT :: AO i1 49 TSlT ts :: H) (fun h hh => hh) ?_
  refine WC_post (WC_weak (lp_BkT (H := H) (ts := ts) (i1 := i1) (i2 := i2) (i3 := i3) hl 32 0 zeroT (by omega) (by omega) zeroT_len (fun j hj => absurd hj (Nat.not_lt_zero _))) seA HSub.refl) ?_
  rintro y l' _ ⟨rfl, rfl, rfl⟩
  refine KBlock_h (KSeq_n (WC_seq (WC_region ?_)))
  refine WO_step rfl (S_loadAll (T := TSlT) (xs := ts) rfl pkA (by rw [hl]; rfl) ?_)
  refine WO_step rfl (S_storeTab (ts0 := zeroT) (ts := ts) rfl rfl pkA zeroT_len hl ?_)
  refine WO_nil (KSeq_n (WC_ret ?_))
  refine KFn_r (ResL.tab rfl pkA (by first | assumption | exact zeroT_len) ResL.nil) ?_
  exact ⟨H, hsA, rfl, rfl⟩

end Go.Proofs.YtpgidiompdabdaaGreat.AM
