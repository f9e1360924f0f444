/- Walks: what the functions compute. -/
import Derived.Test.YtpnmeednimpjdaaGreatOx
namespace Go.Proofs.YtpnmeednimpjdaaGreat.AM
open Go
set_option linter.unusedSimpArgs false
set_option linter.unusedVariables false
set_option maxRecDepth 4000
set_option linter.unusedSectionVars false
variable {X : Exts} [HX X]

/-! ### Stores of tables -/
def rk (ts : List SlT) (i : Nat) : Nat := ((ts.take i).filter (·.has)).length
def ranksL (ts : List SlT) (n : Nat) : List Int := (List.range n).map fun i => ((rk ts i : Nat) : Int)
theorem ranksL_len (ts : List SlT) (n : Nat) : (ranksL ts n).length = n := by simp [ranksL]
theorem ranksL_get {ts : List SlT} {n i : Nat} (h : i < n) : (ranksL ts n)[i]? = some ((rk ts i : Nat) : Int) := by
  unfold ranksL; rw [List.getElem?_map, List.getElem?_range h]; rfl
theorem ranksL_snoc (ts : List SlT) (n : Nat) : ranksL ts n ++ [((rk ts n : Nat) : Int)] = ranksL ts (n + 1) := by
  unfold ranksL; rw [List.range_succ, List.map_append]; rfl
theorem rk_succ {ts : List SlT} {k : Nat} {x : SlT} (hx : ts[k]? = some x) : rk ts (k + 1) = rk ts k + if x.has then 1 else 0 := by
  unfold rk
  rw [List.take_add_one, hx, List.filter_append, List.length_append]
  congr 1
  cases h : x.has <;> simp [h]
theorem rk_le (ts : List SlT) (k : Nat) : rk ts k ≤ k := by
  unfold rk
  exact Nat.le_trans (List.length_filter_le _ _) (by rw [List.length_take]; omega)
theorem rk_tRecs (ts : List SlT) (k : Nat) : (tRecs ts k).length = rk ts k := by unfold tRecs rk; rw [List.length_map]
def tgs (l : List Rec) : List Int := l.map fun r => ((tagOf (kH r.key) : Nat) : Int)
theorem tgs_len (l : List Rec) : (tgs l).length = l.length := by simp [tgs]
theorem tgs_snoc (l : List Rec) (r : Rec) : tgs (l ++ [r]) = tgs l ++ [((tagOf (kH r.key) : Nat) : Int)] := by simp [tgs]
abbrev RKO (i : Nat) (w : SV) : Res := .obj i (.row false 113 [w.toV])
theorem S_max0 {l : SE} {H : SH} {K : Value → SH → Prop} {x : Opd} {a : Nat} (hx : x.lv l = some (.int .i64 (a : Int))) (k : K (.int .i64 (a : Int)) H) : Step (.mm true [x, .const (.int .i64 0)]) l H K :=
  S_pureE (v := .int .i64 (if (0 : Int) > (a : Int) then 0 else (a : Int))) (by
    have h2 : (Opd.const (.int .i64 0)).lv l = some (.int .i64 0) := rfl
    simp only [pev, lvs, hx, h2, mmV]; rfl) (by rw [if_neg (by omega)]) k
theorem S_max0L {l : SE} {H : SH} {K : Value → SH → Prop} {x : Opd} {a : Nat} (hx : x.lv l = some (.int .i64 (a : Int))) (k : K (.int .i64 (a : Int)) H) : Step (.mm true [.const (.int .i64 0), x]) l H K :=
  S_pureE (v := .int .i64 (if (a : Int) > (0 : Int) then (a : Int) else 0)) (by
    have h2 : (Opd.const (.int .i64 0)).lv l = some (.int .i64 0) := rfl
    simp only [pev, lvs, hx, h2, mmV]; rfl) (by congr 1; split <;> omega) k
theorem S_minL {l : SE} {H : SH} {K : Value → SH → Prop} {x y : Opd} {a b : Nat} (hx : x.lv l = some (.int .i64 (a : Int))) (hy : y.lv l = some (.int .i64 (b : Int))) (hab : a ≤ b) (k : K (.int .i64 (a : Int)) H) : Step (.mm false [x, y]) l H K :=
  S_pureE (v := .int .i64 (if (b : Int) < (a : Int) then (b : Int) else (a : Int))) (by
    simp only [pev, lvs, hx, hy, mmV]; rfl) (by rw [if_neg (by omega)]) k
theorem sp_rkLen {H H0 : SH} {i : Nat} {w : SV} {l : List Int} (hp : Pick (RKO i w) H H0) (hv : RD H w.toV TInt l) (hl : 0 < l.length ∧ l.length ≤ 1000) : WF F X f_rank_Rank_Len [.pointer (some ⟨i, 0, none⟩)] H (fun r H' => H' = H ∧ r = .int .i64 ((l.length - 1 : Nat) : Int)) := by
  refine WF_fn F_rank_Rank_Len ?_
  refine WC_seq (WC_region ?_)
  refine WO_step rfl (S_pure rfl ?_)
  refine WO_nil (KSeq_n (WC_seq (WC_seq (WC_region ?_))))
  iterate 2 refine WO_step rfl (S_pure rfl ?_)
  refine WO_nil (KSeq_n ?_)
  refine WC_cond rfl (fun hb1 => ?_) (fun hb1 => ?_)
  ·
   try simp only [bsT] at hb1
   exact absurd hb1 (by simp)
   --stop
  ·
   try simp only [bsT] at hb1
   refine WC_skip (KSeq_n (WC_seq (WC_region ?_)))
   iterate 3 refine WO_step rfl (S_pure rfl ?_)
   refine WO_step rfl (S_loadO rfl hp (by rfl) (by rfl) ?_)
   first | refine WO_step rfl (S_pure rfl ?_) | refine WO_step rfl (S_lenS rfl rdA ?_)
   refine WO_step rfl (S_subN (a := l.length) (b := 1) rfl rfl (by omega) ?_)
   refine WO_step rfl (S_max0L (a := l.length - 1) rfl ?_)
   refine WO_step rfl (S_pure rfl ?_)
   refine WO_nil (KSeq_n (WC_ret ?_))
   refine KFn_r (ResL.tmp rfl ResL.nil) ?_
   exact ⟨_, hsA, rfl, rfl⟩
theorem sp_Ones {H H0 : SH} {i k : Nat} {w : SV} {ts : List SlT} (hp : Pick (RKO i w) H H0) (hv : RD H w.toV TInt (ranksL ts 33)) (hk : k ≤ 32) : WF F X f_rank_Rank_Ones [.pointer (some ⟨i, 0, none⟩), .int .i64 (k : Int)] H (fun r H' => H' = H ∧ r = .int .i64 ((rk ts k : Nat) : Int)) := by
  have hl := ranksL_len ts 33
  have hg := ranksL_get (ts := ts) (n := 33) (i := k) (by omega)
  refine WF_fn F_rank_Rank_Ones ?_
  refine WC_seq (WC_region ?_)
  refine WO_step rfl (S_pure rfl ?_)
  refine WO_nil (KSeq_n (WC_seq (WC_seq (WC_region ?_))))
  iterate 3 refine WO_step rfl (S_pure rfl ?_)
  refine WO_cases (t := 7) rfl (fun hg1 => ?_) (fun hg1 => ?_)
  ·
   try simp only [bsT] at hg1
   exact absurd hg1 (by simp)
   --stop
  ·
   try simp only [bsT] at hg1
   iterate 3 refine WO_step rfl (S_pure rfl ?_)
   refine WO_step rfl (S_loadO rfl hp (by rfl) (by rfl) ?_)
   first | refine WO_step rfl (S_pure rfl ?_) | refine WO_step rfl (S_lenS rfl rdA ?_)
   first | refine WO_step rfl (S_eqS rfl rfl ?_) | refine WO_step rfl (S_pure rfl ?_)
   refine WO_step rfl (S_pure rfl ?_)
   refine WO_nil (KSeq_n ?_)
   refine WC_cond rfl (fun hb1 => ?_) (fun hb1 => ?_)
   ·
    try simp only [bsT] at hb1
    exfalso
    revert hb1
    rw [hl]; simp
    --stop
   ·
    try simp only [bsT] at hb1
    refine WC_skip (KSeq_n (WC_seq (WC_drawn ?_)))
    refine WD_step rfl (S_pure rfl ?_)
    refine WD_step rfl (S_pure rfl ?_)
    refine WD_step rfl (S_pure rfl ?_)
    refine WD_step rfl (S_loadO rfl hp (by rfl) (by rfl) ?_)
    refine WD_step rfl (S_pure rfl ?_)
    refine WD_step rfl (S_max0 (a := k) rfl ?_)
    refine WD_step rfl (S_pure rfl ?_)
    refine WD_call rfl rfl rfl ?_
    refine (sp_rkLen (l := ranksL ts 33) hp hv (by omega)).mono ?_
    rintro _ _ ⟨rfl, rfl⟩
    rw [hl]
    refine WD_step rfl (S_minL (a := k) (b := 33 - 1) rfl rfl (by omega) ?_)
    refine WD_step rfl (S_idx rfl rfl rdA (by first | rfl | assumption | (symm; assumption)) (by rfl) (by first | assumption | omega | exact lt_of_get (by assumption) | (simp only [List.length_set]; first | assumption | omega | exact lt_of_get (by assumption))) fun hp24 => ?_)
    refine WD_step rfl (S_loadE rfl rdA (by first | rfl | assumption | (symm; assumption)) (by first | rfl | assumption | (symm; assumption)) (by first | rfl | assumption | (symm; assumption)) hg ?_)
    refine WD_step rfl (S_pure rfl ?_)
    refine WD_nil ?_
    refine ⟨?_, ?_⟩
    ·
     exact ⟨ObR.of_step rfl (S_loadO rfl hp (by rfl) (by rfl) (by cases w <;> simp [eqV, eqV0, SV.toV])), trivial⟩
    ·
     refine KSeq_n (WC_ret ?_)
     refine KFn_r (ResL.tmp rfl ResL.nil) ?_
     exact ⟨_, HSub.refl, rfl, rfl⟩
theorem lp_rkN {H : SH} {ts : List SlT} {i3 i0 : Nat} {w0 : SV} (hl : ts.length = 32) : ∀ (m k : Nat) (w : SV), 32 - k = m → k ≤ 32 →
    WC F X (.loop L_rank_New_0) [(11, .int .i64 (k : Int)), (10, .int .i64 ((32 : Nat) : Int)), (0, .pointer (some ⟨i0, 0, none⟩)), (3, .pointer (some ⟨i3, 0, none⟩))] (RKO i3 w :: SL w.toV TInt (ranksL ts (k + 1)) :: BB i0 w0 (ts.map (·.has)) H)
      (KPost fun y l' H' => ∃ w : SV, y = .exit 0 ∧ l' = [(3, .pointer (some ⟨i3, 0, none⟩))] ∧ H' = RKO i3 w :: SL w.toV TInt (ranksL ts 33) :: H) := by
  intro m
  induction m using Nat.strongRecOn with
  | _ m ih =>
    intro k w hm hk
    have hrl := ranksL_len ts (k + 1)
    have hhl : (ts.map (·.has)).length = 32 := by simp [hl]
    have hrk := rk_le ts k
    unfold BB
    refine WC_loop (WC_seq (WC_region ?_))
    refine WO_step rfl (S_pure rfl ?_)
    refine WO_nil (KSeq_n (WC_seq ?_))
    refine WC_cond rfl (fun hb1 => ?_) (fun hb1 => ?_)
    ·
     try simp only [bsT] at hb1
     obtain ⟨x, hx⟩ := get_of_lt (show k < ts.length by omega)
     have hg := ranksL_get (ts := ts) (n := k + 1) (i := k) (by omega)
     have hsn := ranksL_snoc ts (k + 1)
     have hrs := rk_succ hx
     refine WC_skip (KSeq_n (WC_seq (WC_block (WC_seq (WC_region ?_)))))
     iterate 2 refine WO_step rfl (S_pure rfl ?_)
     refine WO_nil (KSeq_n (WC_seq (WC_region ?_)))
     iterate 3 refine WO_step rfl (S_pure rfl ?_)
     refine WO_step rfl (S_loadO rfl pkA (by rfl) (by rfl) ?_)
     refine WO_step rfl (S_pure rfl ?_)
     refine WO_step rfl (S_idx rfl rfl rdA (by first | rfl | assumption | (symm; assumption)) (by rfl) (by first | assumption | omega | exact lt_of_get (by assumption) | (simp only [List.length_set]; first | assumption | omega | exact lt_of_get (by assumption))) fun hp19 => ?_)
     refine WO_step rfl (S_loadE rfl rdA (by first | rfl | assumption | (symm; assumption)) (by first | rfl | assumption | (symm; assumption)) (by first | rfl | assumption | (symm; assumption)) hg ?_)
     refine WO_step rfl (S_pure rfl ?_)
     refine WO_nil (KSeq_n (WC_seq ?_))
     refine WC_post (P := fun y l' H' => y = .normal ∧ l' = [(11, .int .i64 (k : Int)), (10, .int .i64 ((32 : Nat) : Int)), (0, .pointer (some ⟨i0, 0, none⟩)), (3, .pointer (some ⟨i3, 0, none⟩)), (5, .int .i64 ((rk ts (k + 1) : Nat) : Int))] ∧ H' = RKO i3 w :: SL w.toV TInt (ranksL ts (k + 1)) :: BB i0 w0 (ts.map (·.has)) H) ?_ ?_
     ·
      refine WC_seq (WC_region ?_)
      iterate 2 refine WO_step rfl (S_pure rfl ?_)
      refine WO_call rfl rfl rfl ?_
      refine (sp_bAt (i := i0) (k := k) (w := w0) (bs := ts.map (·.has)) (H0 := RKO i3 w :: SL w.toV TInt (ranksL ts (k + 1)) :: H) (by unfold BB; exact hsA) (by omega) (by omega)).mono ?_
      rintro _ _ ⟨rfl, rfl⟩
      rw [show (ts.map (·.has)).getD k false = x.has by rw [List.getD_eq_getElem?_getD, List.getElem?_map, hx]; rfl]
      unfold BB
      refine WO_nil (KSeq_n ?_)
      refine WC_cond rfl (fun hb2 => ?_) (fun hb2 => ?_)
      ·
       try simp only [bsT] at hb2
       refine WC_region ?_
       refine WO_step rfl (S_pure rfl ?_)
       refine WO_step rfl (S_addN (a := rk ts k) (b := 1) rfl rfl (by omega) ?_)
       refine WO_step rfl (S_pure rfl ?_)
       refine WO_nil ?_
       have e : rk ts (k + 1) = rk ts k + 1 := by rw [hrs, hb2]; rfl
       exact KPost_i (H' := RKO i3 w :: SL w.toV TInt (ranksL ts (k + 1)) :: BB i0 w0 (ts.map (·.has)) H) (l' := [(11, .int .i64 (k : Int)), (10, .int .i64 ((32 : Nat) : Int)), (0, .pointer (some ⟨i0, 0, none⟩)), (3, .pointer (some ⟨i3, 0, none⟩)), (5, .int .i64 ((rk ts k + 1 : Nat) : Int))]) seA (by unfold BB; exact hsA) ⟨rfl, by rw [e], rfl⟩
      ·
       try simp only [bsT] at hb2
       refine WC_skip ?_
       have e : rk ts (k + 1) = rk ts k := by rw [hrs, hb2]; rfl
       exact KPost_i (H' := RKO i3 w :: SL w.toV TInt (ranksL ts (k + 1)) :: BB i0 w0 (ts.map (·.has)) H) (l' := [(11, .int .i64 (k : Int)), (10, .int .i64 ((32 : Nat) : Int)), (0, .pointer (some ⟨i0, 0, none⟩)), (3, .pointer (some ⟨i3, 0, none⟩)), (5, .int .i64 ((rk ts k : Nat) : Int))]) seA (by unfold BB; exact hsA) ⟨rfl, by rw [e], rfl⟩
     ·
      rintro y l' H' ⟨rfl, rfl, rfl⟩
      unfold BB
      refine KSeq_n (WC_region ?_)
      iterate 4 refine WO_step rfl (S_pure rfl ?_)
      refine WO_step rfl (S_loadO rfl pkA (by rfl) (by rfl) ?_)
      refine WO_step rfl (S_pure rfl ?_)
      refine WO_step rfl (S_lit1 (T := TInt) (y := ((rk ts (k + 1) : Nat) : Int)) rfl rfl rfl rfl fun w32 => ?_)
      refine WO_step rfl (S_app rfl rfl pkA (by first | exact SRC.str rfl rfl | (apply RD.src; repeat (first | assumption | exact RD.head | exact RD.nil | apply RD.tail))) (by rfl) (by rfl) (by (try simp only [List.length_append, List.length_cons, List.length_nil]); omega) fun w33 => ?_)
      iterate 2 refine WO_step rfl (S_pure rfl ?_)
      refine WO_step rfl (S_storeO rfl rfl pkA (SV.cells1 _) (by rfl) (SV.ones _) ?_)
      refine WO_nil (KBlock_n (KSeq_n (WC_region ?_)))
      first | refine WO_step rfl (S_addN (b := 1) rfl rfl (by omega) ?_) | refine WO_step rfl (S_pure rfl ?_)
      refine WO_step rfl (S_pure rfl ?_)
      refine WO_nil (KLoop_n ?_)
      have := ih (32 - (k + 1)) (by omega) (k + 1) w33 rfl (by omega)
      rw [← hsn] at this
      unfold BB at this
      refine WC_weak this seA ?_
      rw [show splice [w.toV] 0 (AM.cells w33.toV) = [w33.toV] by rw [SV.cells]; rfl]
      exact hsA
    ·
     try simp only [bsT] at hb1
     refine WC_exit (KSeq_x (KLoop_x ?_))
     have ek : k = 32 := by omega
     subst ek
     exact KPost_i (H' := RKO i3 w :: SL w.toV TInt (ranksL ts 33) :: H) seA hsA ⟨w, rfl, rfl, rfl⟩
theorem sp_rkNew {H : SH} {ts : List SlT} {i0 : Nat} {w0 : SV} (hl : ts.length = 32) : WF F X f_rank_New [.pointer (some ⟨i0, 0, none⟩)] (BB i0 w0 (ts.map (·.has)) H) (fun r H' => ∃ (i : Nat) (w : SV), r = .pointer (some ⟨i, 0, none⟩) ∧ H' = RKO i w :: SL w.toV TInt (ranksL ts 33) :: H) := by
  have hhl : (ts.map (·.has)).length = 32 := by simp [hl]
  unfold BB
  refine WF_fn F_rank_New ?_
  refine WC_seq (WC_region ?_)
  refine WO_step rfl (S_pure rfl ?_)
  refine WO_nil (KSeq_n (WC_seq (WC_region ?_)))
  refine WO_step rfl (S_lit1 (T := TInt) (y := 0) rfl rfl rfl rfl fun w6 => ?_)
  refine WO_step rfl (S_pureE (v := .agg #[w6.toV]) (by cases w6 <;> rfl) rfl ?_)
  refine WO_step rfl (S_box rfl (by cases w6 <;> rfl) fun i8 => ?_)
  refine WO_step rfl (S_pure rfl ?_)
  refine WO_nil (KSeq_n (WC_seq (WC_seq (WC_region ?_))))
  refine WO_step rfl (S_pure rfl ?_)
  refine WO_call rfl rfl rfl ?_
  refine (sp_bLen (n := (ts.map (·.has)).length) (w := w0) pkA).mono ?_
  rintro _ _ ⟨rfl, rfl⟩
  rw [hhl]
  refine WO_step rfl (S_pure rfl ?_)
  refine WO_nil (KSeq_n (WC_block ?_))
  --out x0
  refine WC_post (WC_weak (lp_rkN (H := H) (ts := ts) (i3 := i8) (i0 := i0) (w0 := w0) hl 32 0 w6 (by omega) (by omega)) seA (by rw [show ranksL ts (0 + 1) = [0] from rfl]; unfold BB; rw [hhl]; exact hsA)) ?_
  rintro y l' _ ⟨w, rfl, rfl, rfl⟩
  refine KBlock_h (KSeq_n (WC_seq (WC_region ?_)))
  iterate 2 refine WO_step rfl (S_pure rfl ?_)
  refine WO_nil (KSeq_n (WC_ret ?_))
  refine KFn_r (ResL.tmp rfl ResL.nil) ?_
  exact ⟨_, HSub.refl, i8, w, rfl, rfl⟩
/-! ### A store of a table, built -/
def SO (i : Nat) (ts : List SlT) (L : List Value) : Res := .obj i (.row false 77 (TSlT.cells ts ++ L))
theorem tc_len {ts : List SlT} (hl : ts.length = 32) : (TSlT.cells ts).length = 192 := by rw [TSlT.cells_len, hl]; rfl
theorem S_loadSO {l : SE} {H H0 : SH} {K : Value → SH → Prop} {i o j : Nat} {a : Opd} {ts : List SlT} {L : List Value} {v : Value} (hl : ts.length = 32) (ha : a.lv l = some (.pointer (some ⟨i, o, none⟩))) (hp : Pick (SO i ts L) H H0) (ho : o = 192 + j) (hv : L[j]? = some v) (k : K v H) : Step (.load false 1 a) l H K := by
  have hc := tc_len hl
  have hj := (List.getElem?_eq_some_iff.1 hv).1
  subst ho
  refine S_loadO ha hp (by rw [Nat.ble_eq, List.length_append, hc]; omega) ?_ k
  rw [List.drop_append, List.drop_of_length_le (by omega), List.nil_append, hc, show 192 + j - 192 = j by omega, drop_get hv]
  rfl
theorem S_loadSOt {l : SE} {H H0 : SH} {K : Value → SH → Prop} {i : Nat} {a : Opd} {ts : List SlT} {L : List Value} (hl : ts.length = 32) (ha : a.lv l = some (.pointer (some ⟨i, 0, none⟩))) (hp : Pick (SO i ts L) H H0) (k : K (tabV ts) H) : Step (.load true 192 a) l H K := by
  have hc := tc_len hl
  refine S_loadO ha hp (by rw [Nat.ble_eq, List.length_append, hc]; omega) ?_ k
  rw [List.drop_zero, List.take_append_of_le_length (by omega), List.take_of_length_le (by omega)]; rfl
theorem S_storeSO {l : SE} {H H0 : SH} {K : Value → SH → Prop} {i o j : Nat} {a x : Opd} {ts : List SlT} {L : List Value} {v : Value} (hl : ts.length = 32) (ha : a.lv l = some (.pointer (some ⟨i, o, none⟩))) (hx : x.lv l = some v) (hp : Pick (SO i ts L) H H0) (ho : o = 192 + j) (hj : j < L.length) (hv : AM.cells v = [v]) (h1 : AM.one v = true) (k : K undef (SO i ts (L.set j v) :: H0)) : Step (.store 1 a x) l H K := by
  have hc := tc_len hl
  subst ho
  refine S_storeO ha hx hp (by rw [hv]; rfl) (by rw [Nat.ble_eq, List.length_append, hc]; omega) (by rw [hv]; simp [h1]) ?_
  have e : splice (TSlT.cells ts ++ L) (192 + j) (AM.cells v) = TSlT.cells ts ++ L.set j v := by
    have h2 := splice_mid (P := TSlT.cells ts) (M := L) (S := []) (vs := [v]) (off := j) (by simp; omega)
    rw [List.append_nil, List.append_nil, hc] at h2
    rw [hv, h2]
    congr 1
    unfold splice
    rw [List.set_eq_take_append_cons_drop, if_pos hj]
    simp
  rw [e]; exact k
theorem S_buildSO {l : SE} {H : SH} {K : Value → SH → Prop} {zs : List Value} {x : Opd} {ts : List SlT} {p q r : Value} (hx : x.lv l = some (tabV ts)) (hl : ts.length = 32) (hz : zs.length = 195) (hd : zs.drop 192 = [p, q, r]) (k : K (.agg (TSlT.cells ts ++ [p, q, r]).toArray) H) : Step (.build zs [(0, (192, x))]) l H K := by
  have hc := tc_len hl
  have e : AM.cells (tabV ts) = TSlT.cells ts := by simp [AM.cells, Value.cells]
  refine S_pureE (v := .agg (splice zs 0 (TSlT.cells ts)).toArray) ?_ ?_ k
  · simp only [pev, lfill, hx]
    rw [e, if_pos ⟨hc, by omega⟩]
  · unfold splice
    rw [List.take_zero, List.nil_append, hc, hd]
theorem S_boxSO {l : SE} {H : SH} {K : Value → SH → Prop} {x : Opd} {ts : List SlT} {L : List Value} (hx : x.lv l = some (.agg (TSlT.cells ts ++ L).toArray)) (hL : L.all AM.one = true) (k : ∀ i, K (.pointer (some ⟨i, 0, none⟩)) (SO i ts L :: H)) : Step (.box 77 x) l H K := by
  have e : AM.cells (.agg (TSlT.cells ts ++ L).toArray) = TSlT.cells ts ++ L := by simp [AM.cells, Value.cells]
  refine S_box hx (by rw [e, List.all_append, TSlT.cells_all, hL]; rfl) fun i => ?_
  rw [e]; exact k i
/-- A store of a table. -/
def STO (i : Nat) (ts : List SlT) (i2 : Nat) (wk wr wt : SV) (H : SH) : SH := SO i ts [.pointer (some ⟨i2, 0, none⟩), wr.toV, wt.toV] :: RKO i2 wk :: SL wk.toV TInt (ranksL ts 33) :: SL wr.toV TRec (tRecs ts 32) :: SL wt.toV TInt (tgs (tRecs ts 32)) :: H
theorem lp_hN1 {H : SH} {ts : List SlT} {b i4 i5 : Nat} (v18 : Value) (hl : ts.length = 32) (hk : kSmall ts) (hb : b < 8) : ∀ (m s : Nat) (w wr wt : SV), 4 - s = m → s ≤ 4 →
    WC F X (.loop L_hashstore_New_1) [(23, .int .i64 (s : Int)), (22, tabV (bk ts b)), (19, .int .i64 (b : Int)), (18, v18), (4, .pointer (some ⟨i4, 0, none⟩)), (5, .pointer (some ⟨i5, 0, none⟩))] (SO i4 ts [.pointer none, wr.toV, wt.toV] :: SL wr.toV TRec (tRecs ts (4 * b + s)) :: SL wt.toV TInt (tgs (tRecs ts (4 * b + s))) :: BB i5 w ((ts.take (4 * b + s)).map (·.has)) H)
      (KPost fun y l' H' => ∃ w wr wt : SV, y = .exit 2 ∧ l' = [(19, .int .i64 (b : Int)), (18, v18), (4, .pointer (some ⟨i4, 0, none⟩)), (5, .pointer (some ⟨i5, 0, none⟩))] ∧ H' = SO i4 ts [.pointer none, wr.toV, wt.toV] :: SL wr.toV TRec (tRecs ts (4 * b + 4)) :: SL wt.toV TInt (tgs (tRecs ts (4 * b + 4))) :: BB i5 w ((ts.take (4 * b + 4)).map (·.has)) H) := by
  intro m
  induction m using Nat.strongRecOn with
  | _ m ih =>
    intro s w wr wt hn hs
    have hbl : ((ts.take (4 * b + s)).map (·.has)).length ≤ 32 := by simp; omega
    have hrl := tRecs_len ts (4 * b + s)
    have htl := tgs_len (tRecs ts (4 * b + s))
    unfold BB
    refine WC_loop (WC_seq (WC_region ?_))
    refine WO_step rfl (S_pure rfl ?_)
    refine WO_nil (KSeq_n (WC_seq ?_))
    refine WC_cond rfl (fun hb1 => ?_) (fun hb1 => ?_)
    ·
     try simp only [bsT] at hb1
     obtain ⟨x, hx⟩ := get_of_lt (show 4 * b + s < ts.length by omega)
     have hks := hk x (List.mem_of_getElem? hx)
     have hhs := has_succ hx
     have hrs := tRecs_succ hx
     have hkl2 := kH_lt x.r.key
     have ht8 := tagOf_lt (kH x.r.key)
     refine WC_skip (KSeq_n (WC_seq (WC_block (WC_seq (WC_region ?_)))))
     refine WO_step rfl (S_idxSl (s := s) (z := x) rfl rfl rfl (by omega) (by rw [bk_get (by omega)]; exact hx) ?_)
     refine WO_step rfl (S_newT TSlO slt0 rfl rfl fun i9 => ?_)
     refine WO_step rfl (S_storeT (T := TSlO) (y := x) rfl rfl pkA (by rfl) (by rfl) ?_)
     refine WO_nil (KSeq_n (WC_seq (WC_region ?_)))
     iterate 2 refine WO_step rfl (S_pure rfl ?_)
     refine WO_step rfl (S_loadO rfl pkA (by rfl) (by rfl) ?_)
     refine WO_call rfl rfl rfl ?_
     refine (sp_bPut (i := i5) (w := w) (bs := (ts.take (4 * b + s)).map (·.has)) (b := x.has) (H0 := OB i9 TSlO x :: SO i4 ts [.pointer none, wr.toV, wt.toV] :: SL wr.toV TRec (tRecs ts (4 * b + s)) :: SL wt.toV TInt (tgs (tRecs ts (4 * b + s))) :: H) (by unfold BB; exact hsA) (by omega)).mono ?_
     rintro _ _ ⟨w', rfl⟩
     rw [← hhs]
     unfold BB
     refine WO_nil (KSeq_n (WC_seq (WC_region ?_)))
     refine WO_step rfl (S_pure rfl ?_)
     refine WO_step rfl (S_loadO rfl pkA (by rfl) (by rfl) ?_)
     refine WO_nil (KSeq_n ?_)
     refine WC_cond rfl (fun hb2 => ?_) (fun hb2 => ?_)
     ·
      try simp only [bsT] at hb2
      refine WC_seq (WC_region ?_)
      iterate 4 refine WO_step rfl (S_pure rfl ?_)
      refine WO_step rfl (S_loadSO (j := 1) hl rfl pkA rfl rfl ?_)
      refine WO_step rfl (S_pure rfl ?_)
      refine WO_step rfl (S_loadO (v := TRec.val x.r) rfl pkA (by rfl) (by rfl) ?_)
      refine WO_step rfl (S_lit1 (T := TRec) (y := x.r) rfl rfl rfl rfl fun w39 => ?_)
      refine WO_step rfl (S_app rfl rfl pkA (by first | exact SRC.str rfl rfl | (apply RD.src; repeat (first | assumption | exact RD.head | exact RD.nil | apply RD.tail))) (by rfl) (by rfl) (by (try simp only [List.length_append, List.length_cons, List.length_nil]); omega) fun w40 => ?_)
      iterate 2 refine WO_step rfl (S_pure rfl ?_)
      refine WO_step rfl (S_storeSO (j := 1) hl rfl rfl pkA rfl (by simp) (SV.cells _) (SV.one _) ?_)
      refine WO_nil (KSeq_n (WC_drawn ?_))
      refine WD_step rfl (S_pure rfl ?_)
      refine WD_step rfl (S_pure rfl ?_)
      refine WD_step rfl (S_pure rfl ?_)
      refine WD_step rfl (S_pure rfl ?_)
      refine WD_step rfl (S_loadSO (j := 2) hl rfl pkA rfl rfl ?_)
      refine WD_step rfl (S_pure rfl ?_)
      refine WD_step rfl (S_pure rfl ?_)
      refine WD_step rfl (S_loadO rfl pkA (by rfl) (by rfl) ?_)
      refine WD_call rfl rfl rfl ?_
      refine (sp_HashOf (s := x.r.key) (by omega)).mono ?_
      rintro _ _ ⟨rfl, rfl⟩
      rw [kH_eq]
      refine WD_call rfl rfl rfl ?_
      refine (sp_hTag (by omega)).mono ?_
      rintro _ _ ⟨rfl, rfl⟩
      refine WD_step rfl (S_lit1 (T := TInt) (y := ((tagOf (kH x.r.key) : Nat) : Int)) rfl rfl rfl rfl fun w53 => ?_)
      refine WD_step rfl (S_app rfl rfl pkA (by first | exact SRC.str rfl rfl | (apply RD.src; repeat (first | assumption | exact RD.head | exact RD.nil | apply RD.tail))) (by rfl) (by rfl) (by (try simp only [List.length_append, List.length_cons, List.length_nil]); omega) fun w54 => ?_)
      refine WD_step rfl (S_pure rfl ?_)
      refine WD_step rfl (S_pure rfl ?_)
      refine WD_step rfl (S_storeSO (j := 2) hl rfl rfl pkA rfl (by simp) (SV.cells _) (SV.one _) ?_)
      refine WD_nil ?_
      refine ⟨?_, ?_⟩
      ·
       refine ⟨?_, ?_, ?_, trivial⟩ <;> exact ObR.of_step rfl (S_loadSO (j := 2) hl rfl pkA rfl rfl (by cases wt <;> simp [eqV, eqV0, SV.toV]))
      ·
       refine KBlock_n (KSeq_n (WC_region ?_))
       first | refine WO_step rfl (S_addN (b := 1) rfl rfl (by omega) ?_) | refine WO_step rfl (S_pure rfl ?_)
       refine WO_step rfl (S_pure rfl ?_)
       refine WO_nil (KLoop_n ?_)
       rw [hb2, if_pos rfl] at hrs
       have := ih (4 - (s + 1)) (by omega) (s + 1) w' w40 w54 rfl (by omega)
       rw [show 4 * b + (s + 1) = 4 * b + s + 1 by omega, hrs, tgs_snoc] at this
       unfold BB at this
       exact WC_weak this seA hsA
     ·
      try simp only [bsT] at hb2
      refine WC_skip (KBlock_n (KSeq_n (WC_region ?_)))
      first | refine WO_step rfl (S_addN (b := 1) rfl rfl (by omega) ?_) | refine WO_step rfl (S_pure rfl ?_)
      refine WO_step rfl (S_pure rfl ?_)
      refine WO_nil (KLoop_n ?_)
      rw [hb2, if_neg (by decide), List.append_nil] at hrs
      have := ih (4 - (s + 1)) (by omega) (s + 1) w' wr wt rfl (by omega)
      rw [show 4 * b + (s + 1) = 4 * b + s + 1 by omega, hrs] at this
      unfold BB at this
      exact WC_weak this seA hsA
    ·
     try simp only [bsT] at hb1
     refine WC_exit (KSeq_x (KLoop_x ?_))
     have e4 : s = 4 := by omega
     subst e4
     exact KPost_i (H' := SO i4 ts [.pointer none, wr.toV, wt.toV] :: SL wr.toV TRec (tRecs ts (4 * b + 4)) :: SL wt.toV TInt (tgs (tRecs ts (4 * b + 4))) :: BB i5 w ((ts.take (4 * b + 4)).map (·.has)) H) seA (by unfold BB; exact hsA) ⟨w, wr, wt, rfl, rfl, rfl⟩
theorem lp_hN0 {H : SH} {ts : List SlT} {i4 i5 : Nat} (hl : ts.length = 32) (hk : kSmall ts) : ∀ (m b : Nat) (w wr wt : SV), 8 - b = m → b ≤ 8 →
    WC F X (.loop L_hashstore_New_0) [(19, .int .i64 (b : Int)), (18, tabV ts), (4, .pointer (some ⟨i4, 0, none⟩)), (5, .pointer (some ⟨i5, 0, none⟩))] (SO i4 ts [.pointer none, wr.toV, wt.toV] :: SL wr.toV TRec (tRecs ts (4 * b)) :: SL wt.toV TInt (tgs (tRecs ts (4 * b))) :: BB i5 w ((ts.take (4 * b)).map (·.has)) H)
      (KPost fun y l' H' => ∃ w wr wt : SV, y = .exit 0 ∧ l' = [(4, .pointer (some ⟨i4, 0, none⟩)), (5, .pointer (some ⟨i5, 0, none⟩))] ∧ H' = SO i4 ts [.pointer none, wr.toV, wt.toV] :: SL wr.toV TRec (tRecs ts 32) :: SL wt.toV TInt (tgs (tRecs ts 32)) :: BB i5 w (ts.map (·.has)) H) := by
  intro m
  induction m using Nat.strongRecOn with
  | _ m ih =>
    intro b w wr wt hn hb
    unfold BB
    refine WC_loop (WC_seq (WC_region ?_))
    refine WO_step rfl (S_pure rfl ?_)
    refine WO_nil (KSeq_n (WC_seq ?_))
    refine WC_cond rfl (fun hb1 => ?_) (fun hb1 => ?_)
    ·
     try simp only [bsT] at hb1
     have hb8 : b < 8 := by omega
     have hbkl := bk_len hl hb8
     refine WC_skip (KSeq_n (WC_seq (WC_block (WC_seq (WC_region ?_)))))
     refine WO_step rfl (S_idxBk (b := b) rfl rfl rfl hb8 hl ?_)
     refine WO_step rfl (S_new fun i7 => ?_)
     refine WO_step rfl (S_storeAll (T := TSlT) (xs := bk ts b) rfl rfl pkA (by rfl) (by rw [hbkl]; rfl) ?_)
     refine WO_nil (KSeq_n (WC_seq (WC_region ?_)))
     refine WO_step rfl (S_loadAll (T := TSlT) (xs := bk ts b) rfl pkA (by rw [hbkl]; rfl) ?_)
     refine WO_step rfl (S_pure rfl ?_)
     refine WO_nil (KSeq_n (WC_block ?_))
     --out x2
     refine WC_post (WC_weak (lp_hN1 (H := H) (ts := ts) (b := b) (i4 := i4) (i5 := i5) (tabV ts) hl hk hb8 4 0 w wr wt (by omega) (by omega)) seA (by unfold BB; exact hsA)) ?_
     rintro y l' _ ⟨w', wr', wt', rfl, rfl, rfl⟩
     refine KBlock_h (KBlock_n (KSeq_n (WC_region ?_)))
     first | refine WO_step rfl (S_addN (b := 1) rfl rfl (by omega) ?_) | refine WO_step rfl (S_pure rfl ?_)
     refine WO_step rfl (S_pure rfl ?_)
     refine WO_nil (KLoop_n ?_)
     have := ih (8 - (b + 1)) (by omega) (b + 1) w' wr' wt' rfl (by omega)
     rw [show 4 * (b + 1) = 4 * b + 4 by omega] at this
     exact WC_weak this seA HSub.refl
    ·
     try simp only [bsT] at hb1
     refine WC_exit (KSeq_x (KLoop_x ?_))
     have e8 : b = 8 := by omega
     subst e8
     have et : ts.take (4 * 8) = ts := List.take_of_length_le (by omega)
     rw [et]
     exact KPost_i (H' := SO i4 ts [.pointer none, wr.toV, wt.toV] :: SL wr.toV TRec (tRecs ts 32) :: SL wt.toV TInt (tgs (tRecs ts 32)) :: BB i5 w (ts.map (·.has)) H) seA (by unfold BB; exact hsA) ⟨w, wr, wt, rfl, rfl, rfl⟩
theorem sp_hNewOk {H : SH} {ts : List SlT} (hl : ts.length = 32) (hw : wfT ts) (hm : mayTab ts = true) : WF F X f_hashstore_New [tabV ts] H (fun r H' => ∃ (i i2 : Nat) (wk wr wt : SV), r = .tuple #[.pointer (some ⟨i, 0, none⟩), .int .i64 0] ∧ H' = STO i ts i2 wk wr wt H) := by
  refine WF_addNil (T := TByte) (WF_addNil (T := TRec) (WF_addNil (T := TInt) ?_))
  refine WF_fn F_hashstore_New ?_
  refine WC_seq (WC_region ?_)
  refine WO_step rfl (S_boxA (T := TSlT) (xs := ts) rfl fun i1 => ?_)
  iterate 2 refine WO_step rfl (S_pure rfl ?_)
  refine WO_nil (KSeq_n (WC_seq (WC_seq (WC_region ?_))))
  refine WO_step rfl (S_loadAll (T := TSlT) (xs := ts) rfl pkA (by rw [hl]; rfl) ?_)
  refine WO_call rfl rfl rfl ?_
  refine (sp_oMay hl hw.small).mono ?_
  rintro _ _ ⟨rfl, rfl⟩
  rw [hm]
  refine WO_step rfl (S_pure rfl ?_)
  refine WO_nil (KSeq_n ?_)
  refine WC_cond rfl (fun hb1 => ?_) (fun hb1 => ?_)
  ·
   try simp only [bsT] at hb1
   exact absurd hb1 (by simp)
   --stop
  ·
   try simp only [bsT] at hb1
   refine WC_skip (KSeq_n (WC_seq (WC_region ?_)))
   refine WO_step rfl (S_loadAll (T := TSlT) (xs := ts) rfl pkA (by rw [hl]; rfl) ?_)
   refine WO_step rfl (S_buildSO (p := .pointer none) (q := .slice none 0 0) (r := .slice none 0 0) rfl hl rfl rfl ?_)
   refine WO_step rfl (S_boxSO rfl (by rfl) fun i15 => ?_)
   refine WO_step rfl (S_pure rfl ?_)
   refine WO_nil (KSeq_n (WC_seq (WC_region ?_)))
   refine WO_step rfl (S_pure rfl ?_)
   refine WO_step rfl (S_box rfl rfl fun i17 => ?_)
   refine WO_step rfl (S_pure rfl ?_)
   refine WO_nil (KSeq_n (WC_seq (WC_seq (WC_region ?_))))
   refine WO_step rfl (S_loadAll (T := TSlT) (xs := ts) rfl pkA (by rw [hl]; rfl) ?_)
   refine WO_step rfl (S_pure rfl ?_)
   refine WO_nil (KSeq_n (WC_block ?_))
   --out x0
   have e0 : BB i17 .nil ((ts.take (4 * 0)).map (·.has)) H = BI i17 .nil 0 :: SL (SV.toV .nil) TByte [] :: H := by simp [BB, byts, nby]
   refine WC_post (WC_weak (lp_hN0 (H := H) (ts := ts) (i4 := i15) (i5 := i17) hl hw.small 8 0 .nil .nil .nil (by omega) (by omega)) seA (by rw [e0]; exact hsA)) ?_
   rintro y l' _ ⟨w, wr, wt, rfl, rfl, rfl⟩
   refine KBlock_h (KSeq_n (WC_seq (WC_region ?_)))
   iterate 2 refine WO_step rfl (S_pure rfl ?_)
   refine WO_call rfl rfl rfl ?_
   refine (WF.weak (sp_rkNew (H := SO i15 ts [.pointer none, wr.toV, wt.toV] :: SL wr.toV TRec (tRecs ts 32) :: SL wt.toV TInt (tgs (tRecs ts 32)) :: H) (ts := ts) (i0 := i17) (w0 := w) hl) (by unfold BB; exact hsA)).mono ?_
   rintro _ _ ⟨i2, wk, rfl, rfl⟩
   iterate 2 refine WO_step rfl (S_pure rfl ?_)
   refine WO_step rfl (S_storeSO (j := 0) hl rfl rfl pkA rfl (by simp) rfl rfl ?_)
   refine WO_nil (KSeq_n (WC_seq (WC_region ?_)))
   iterate 3 refine WO_step rfl (S_pure rfl ?_)
   refine WO_nil (KSeq_n (WC_ret ?_))
   refine KFn_r (ResL.tmp rfl (ResL.tmp rfl ResL.nil)) ?_
   exact ⟨STO i15 ts i2 wk wr wt H, (by unfold STO; exact hsA), i15, i2, wk, wr, wt, rfl, rfl⟩
theorem sp_hNewNo {H : SH} {ts : List SlT} (hl : ts.length = 32) (hw : wfT ts) (hm : mayTab ts = false) : WF F X f_hashstore_New [tabV ts] H (fun r H' => r = .tuple #[.pointer none, .int .i64 1] ∧ H' = H) := by
  refine WF_fn F_hashstore_New ?_
  refine WC_seq (WC_region ?_)
  refine WO_step rfl (S_boxA (T := TSlT) (xs := ts) rfl fun i1 => ?_)
  iterate 2 refine WO_step rfl (S_pure rfl ?_)
  refine WO_nil (KSeq_n (WC_seq (WC_seq (WC_region ?_))))
  refine WO_step rfl (S_loadAll (T := TSlT) (xs := ts) rfl pkA (by rw [hl]; rfl) ?_)
  refine WO_call rfl rfl rfl ?_
  refine (sp_oMay hl hw.small).mono ?_
  rintro _ _ ⟨rfl, rfl⟩
  rw [hm]
  refine WO_step rfl (S_pure rfl ?_)
  refine WO_nil (KSeq_n ?_)
  refine WC_cond rfl (fun hb1 => ?_) (fun hb1 => ?_)
  ·
   try simp only [bsT] at hb1
   refine WC_seq (WC_region ?_)
   iterate 2 refine WO_step rfl (S_pure rfl ?_)
   refine WO_nil (KSeq_n (WC_ret (KSeq_r ?_)))
   refine KFn_r (ResL.tmp rfl (ResL.tmp rfl ResL.nil)) ?_
   exact ⟨_, hsA, rfl, rfl⟩
  ·
   try simp only [bsT] at hb1
   exact absurd hb1 (by simp)
   --stop
/-! ### A store of a table, asked -/
def bkR (ts : List SlT) (b : Nat) : List Rec := ((bk ts b).filter (·.has)).map (·.r)
theorem tRecs_bk (ts : List SlT) (b : Nat) : tRecs ts (4 * b + 4) = tRecs ts (4 * b) ++ bkR ts b := by
  unfold tRecs bkR bk
  rw [List.take_add, List.filter_append, List.map_append]
theorem tRecs_pre (ts : List SlT) {a b : Nat} (h : a ≤ b) : ∃ R, tRecs ts b = tRecs ts a ++ R := by
  obtain ⟨c, rfl⟩ := Nat.exists_eq_add_of_le h
  unfold tRecs
  rw [List.take_add, List.filter_append, List.map_append]
  exact ⟨_, rfl⟩
theorem bkR_sub {ts : List SlT} {b : Nat} (hb : b < 8) : ((tRecs ts 32).drop (rk ts (4 * b))).take (rk ts (4 * b + 4) - rk ts (4 * b)) = bkR ts b := by
  obtain ⟨R, hR⟩ := tRecs_pre ts (a := 4 * b + 4) (b := 32) (by omega)
  have e := tRecs_bk ts b
  have h1 := rk_tRecs ts (4 * b)
  have h2 := rk_tRecs ts (4 * b + 4)
  rw [e, List.length_append] at h2
  rw [hR, e, List.append_assoc, List.drop_append_of_le_length (by omega), List.drop_of_length_le (by omega), List.nil_append, List.take_append_of_le_length (by omega), List.take_of_length_le (by omega)]
theorem rk_mono {ts : List SlT} {a b : Nat} (h : a ≤ b) : rk ts a ≤ rk ts b := by
  obtain ⟨R, hR⟩ := tRecs_pre ts h
  have := congrArg List.length hR
  rw [List.length_append, rk_tRecs, rk_tRecs] at this
  omega
def likeB (L : List Rec) (t : Nat) : List Rec := L.filter fun r => decide (tagOf (kH r.key) = t)
theorem likeB_len (L : List Rec) (t : Nat) : (likeB L t).length ≤ L.length := List.length_filter_le _ _
theorem likeB_snoc (L : List Rec) (r : Rec) (t : Nat) : likeB (L ++ [r]) t = likeB L t ++ if tagOf (kH r.key) = t then [r] else [] := by
  unfold likeB
  rw [List.filter_append]
  congr 1
  by_cases h : tagOf (kH r.key) = t <;> simp [h]
def likeL (ts : List SlT) (k : ByteArray) : List Rec := likeB (bkR ts (frst (kH k))) (tagOf (kH k)) ++ likeB (bkR ts (oth (frst (kH k)) (tagOf (kH k)))) (tagOf (kH k))
theorem bkR_len {ts : List SlT} (b : Nat) : (bkR ts b).length ≤ 4 := by
  unfold bkR bk
  rw [List.length_map]
  exact Nat.le_trans (List.length_filter_le _ _) (by rw [List.length_take]; omega)
theorem likeL_len (ts : List SlT) (k : ByteArray) : (likeL ts k).length ≤ 8 := by
  unfold likeL
  have h1 := likeB_len (bkR ts (frst (kH k))) (tagOf (kH k))
  have h2 := likeB_len (bkR ts (oth (frst (kH k)) (tagOf (kH k)))) (tagOf (kH k))
  have h3 := bkR_len (ts := ts) (frst (kH k))
  have h4 := bkR_len (ts := ts) (oth (frst (kH k)) (tagOf (kH k)))
  rw [List.length_append]; omega
def accN (ts : List SlT) (b0 b1 t : Nat) : Nat → List Rec
  | 0 => []
  | 1 => likeB (bkR ts b0) t
  | _ => likeB (bkR ts b0) t ++ likeB (bkR ts b1) t
theorem S_idxV2 {l : SE} {H : SH} {K : Value → SH → Prop} {j : Nat} {x y : Opd} {kd : IntKind} {J a b : Int} (hx : x.lv l = some (.agg #[.int .i64 a, .int .i64 b])) (hy : y.lv l = some (.int kd J)) (hJ : J = (j : Int)) (hj : j < 2) (k : K (.int .i64 (if j = 0 then a else b)) H) : Step (.idxV 2 false 1 x y) l H K :=
  fun e h hA hH => by
    subst hJ
    refine ⟨_, h, H, ?_, hH, k⟩
    simp only [ev, Opd.lv_ev hA hx, Opd.lv_ev hA hy]
    have : j = 0 ∨ j = 1 := by omega
    rcases this with rfl | rfl <;> rfl
theorem lp_like1 {H : SH} {ts : List SlT} {i i2 b t : Nat} {wk wr wt : SV} {acc : List Rec} (v1 v5 v23 v24 : Value) (hl : ts.length = 32) (hb : b < 8) (hacc : acc.length ≤ 8) : ∀ (m p : Nat) (w7 : SV), rk ts (4 * b + 4) - p = m → rk ts (4 * b) ≤ p → p ≤ rk ts (4 * b + 4) →
    WC F X (.loop L_hashstore_Store_like_1) [(10, .int .i64 (p : Int)), (0, .pointer (some ⟨i, 0, none⟩)), (9, .int .i64 (b : Int)), (6, .int .i64 (t : Int)), (7, w7.toV), (1, v1), (5, v5), (23, v23), (24, v24)] (SL w7.toV TRec (acc ++ likeB (((tRecs ts 32).drop (rk ts (4 * b))).take (p - rk ts (4 * b))) t) :: STO i ts i2 wk wr wt H)
      (KPost fun y l' H' => ∃ w7 : SV, y = .exit 2 ∧ l' = [(0, .pointer (some ⟨i, 0, none⟩)), (6, .int .i64 (t : Int)), (7, w7.toV), (1, v1), (5, v5), (23, v23), (24, v24)] ∧ H' = SL w7.toV TRec (acc ++ likeB (bkR ts b) t) :: STO i ts i2 wk wr wt H) := by
  have hR := rk_tRecs ts 32
  have hRl := rk_le ts 32
  have hmono := rk_mono (ts := ts) (a := 4 * b + 4) (b := 32) (by omega)
  have htg := tgs_len (tRecs ts 32)
  have hrkl := rk_le ts (4 * b)
  have hrk4 := rk_mono (ts := ts) (a := 4 * b) (b := 4 * b + 4) (by omega)
  intro m
  induction m using Nat.strongRecOn with
  | _ m ih =>
    intro p w7 hn hp1 hp2
    have hlk := likeB_len (((tRecs ts 32).drop (rk ts (4 * b))).take (p - rk ts (4 * b))) t
    have htk : (((tRecs ts 32).drop (rk ts (4 * b))).take (p - rk ts (4 * b))).length ≤ 32 := by rw [List.length_take, List.length_drop]; omega
    unfold STO
    refine WC_loop (WC_seq (WC_seq (WC_region ?_)))
    iterate 4 refine WO_step rfl (S_pure rfl ?_)
    refine WO_step rfl (S_loadSO (j := 0) hl rfl pkA rfl rfl ?_)
    refine WO_step rfl (S_pure rfl ?_)
    first | refine WO_step rfl (S_addN (b := 1) rfl rfl (by omega) ?_) | refine WO_step rfl (S_pure rfl ?_)
    refine WO_step rfl (S_mulN (a := b + 1) (b := 4) rfl rfl (by omega) ?_)
    refine WO_call rfl rfl rfl ?_
    refine (sp_Ones (i := i2) (k := (b + 1) * 4) (w := wk) (ts := ts) pkA rdA (by omega)).mono ?_
    rintro _ _ ⟨rfl, rfl⟩
    rw [show (b + 1) * 4 = 4 * b + 4 by omega]
    refine WO_step rfl (S_pure rfl ?_)
    refine WO_nil (KSeq_n ?_)
    refine WC_cond rfl (fun hb1 => ?_) (fun hb1 => ?_)
    ·
     try simp only [bsT] at hb1
     obtain ⟨x, hx⟩ := get_of_lt (show p < (tRecs ts 32).length by omega)
     have hxt : (tgs (tRecs ts 32))[p]? = some ((tagOf (kH x.key) : Nat) : Int) := by unfold tgs; rw [List.getElem?_map, hx]; rfl
     have hsn : ((tRecs ts 32).drop (rk ts (4 * b))).take (p + 1 - rk ts (4 * b)) = ((tRecs ts 32).drop (rk ts (4 * b))).take (p - rk ts (4 * b)) ++ [x] := by
       rw [show p + 1 - rk ts (4 * b) = (p - rk ts (4 * b)) + 1 by omega, List.take_add_one, List.getElem?_drop, show rk ts (4 * b) + (p - rk ts (4 * b)) = p by omega, hx]; rfl
     refine WC_skip (KSeq_n (WC_seq (WC_block (WC_seq (WC_region ?_)))))
     iterate 3 refine WO_step rfl (S_pure rfl ?_)
     refine WO_step rfl (S_loadSO (j := 2) hl rfl pkA rfl rfl ?_)
     refine WO_step rfl (S_pure rfl ?_)
     refine WO_step rfl (S_idx rfl rfl rdA (by first | rfl | assumption | (symm; assumption)) (by rfl) (by first | assumption | omega | exact lt_of_get (by assumption) | (simp only [List.length_set]; first | assumption | omega | exact lt_of_get (by assumption))) fun hp51 => ?_)
     refine WO_step rfl (S_loadE rfl rdA (by first | rfl | assumption | (symm; assumption)) (by first | rfl | assumption | (symm; assumption)) (by first | rfl | assumption | (symm; assumption)) hxt ?_)
     refine WO_step rfl (S_pure rfl ?_)
     first | refine WO_step rfl (S_eqS rfl rfl ?_) | refine WO_step rfl (S_pure rfl ?_)
     refine WO_nil (KSeq_n ?_)
     refine WC_cond rfl (fun hb2 => ?_) (fun hb2 => ?_)
     ·
      try simp only [bsT] at hb2
      refine WC_region ?_
      iterate 4 refine WO_step rfl (S_pure rfl ?_)
      refine WO_step rfl (S_loadSO (j := 1) hl rfl pkA rfl rfl ?_)
      refine WO_step rfl (S_pure rfl ?_)
      refine WO_step rfl (S_idx rfl rfl rdA (by first | rfl | assumption | (symm; assumption)) (by rfl) (by first | assumption | omega | exact lt_of_get (by assumption) | (simp only [List.length_set]; first | assumption | omega | exact lt_of_get (by assumption))) fun hp61 => ?_)
      refine WO_step rfl (S_loadE rfl rdA (by first | rfl | assumption | (symm; assumption)) (by first | rfl | assumption | (symm; assumption)) (by first | rfl | assumption | (symm; assumption)) hx ?_)
      refine WO_step rfl (S_lit1 (T := TRec) (y := x) rfl rfl rfl rfl fun w63 => ?_)
      refine WO_step rfl (S_app rfl rfl pkA (by first | exact SRC.str rfl rfl | (apply RD.src; repeat (first | assumption | exact RD.head | exact RD.nil | apply RD.tail))) (by rfl) (by rfl) (by simp only [List.length_append, List.length_cons, List.length_nil]; omega) fun w64 => ?_)
      refine WO_step rfl (S_pure rfl ?_)
      refine WO_nil (KBlock_n (KSeq_n (WC_region ?_)))
      refine WO_step rfl (S_pure rfl ?_)
      first | refine WO_step rfl (S_addN (b := 1) rfl rfl (by omega) ?_) | refine WO_step rfl (S_pure rfl ?_)
      refine WO_step rfl (S_pure rfl ?_)
      refine WO_nil (KLoop_n ?_)
      have he : tagOf (kH x.key) = t := by first | omega | simpa [TInt, Ty.ofOne] using hb2
      have := ih (rk ts (4 * b + 4) - (p + 1)) (by omega) (p + 1) w64 rfl (by omega) (by omega)
      rw [hsn, likeB_snoc, if_pos he, ← List.append_assoc] at this
      unfold STO at this
      exact WC_weak this seA hsA
     ·
      try simp only [bsT] at hb2
      refine WC_skip (KBlock_n (KSeq_n (WC_region ?_)))
      refine WO_step rfl (S_pure rfl ?_)
      first | refine WO_step rfl (S_addN (b := 1) rfl rfl (by omega) ?_) | refine WO_step rfl (S_pure rfl ?_)
      refine WO_step rfl (S_pure rfl ?_)
      refine WO_nil (KLoop_n ?_)
      have he : ¬ tagOf (kH x.key) = t := by first | omega | simpa [TInt, Ty.ofOne] using hb2
      have := ih (rk ts (4 * b + 4) - (p + 1)) (by omega) (p + 1) w7 rfl (by omega) (by omega)
      rw [hsn, likeB_snoc, if_neg he, List.append_nil] at this
      unfold STO at this
      exact WC_weak this seA hsA
    ·
     try simp only [bsT] at hb1
     refine WC_exit (KSeq_x (KLoop_x ?_))
     have ep : p = rk ts (4 * b + 4) := by omega
     subst ep
     rw [bkR_sub hb]
     exact KPost_i (H' := SL w7.toV TRec (acc ++ likeB (bkR ts b) t) :: STO i ts i2 wk wr wt H) seA (by unfold STO; exact hsA) ⟨w7, rfl, rfl, rfl⟩
theorem lp_like0 {H : SH} {ts : List SlT} {i i2 b0 b1 t : Nat} {wk wr wt : SV} (v1 v5 : Value) (hl : ts.length = 32) (h0 : b0 < 8) (h1 : b1 < 8) : ∀ (m j : Nat) (w7 : SV), 2 - j = m → j ≤ 2 →
    WC F X (.loop L_hashstore_Store_like_0) [(24, .int .i64 (j : Int)), (23, .agg #[.int .i64 (b0 : Int), .int .i64 (b1 : Int)]), (0, .pointer (some ⟨i, 0, none⟩)), (6, .int .i64 (t : Int)), (7, w7.toV), (1, v1), (5, v5)] (SL w7.toV TRec (accN ts b0 b1 t j) :: STO i ts i2 wk wr wt H)
      (KPost fun y l' H' => ∃ w7 : SV, y = .exit 0 ∧ l' = [(7, w7.toV)] ∧ H' = SL w7.toV TRec (accN ts b0 b1 t 2) :: STO i ts i2 wk wr wt H) := by
  intro m
  induction m using Nat.strongRecOn with
  | _ m ih =>
    intro j w7 hn hj
    unfold STO
    refine WC_loop (WC_seq (WC_region ?_))
    refine WO_step rfl (S_pure rfl ?_)
    refine WO_nil (KSeq_n (WC_seq ?_))
    refine WC_cond rfl (fun hb1 => ?_) (fun hb1 => ?_)
    ·
     try simp only [bsT] at hb1
     obtain ⟨b, hb⟩ : ∃ b : Nat, (if j = 0 then b0 else b1) = b := ⟨_, rfl⟩
     have hb8 : b < 8 := by rw [← hb]; split <;> assumption
     have hbI : (if j = 0 then (b0 : Int) else (b1 : Int)) = (b : Int) := by rw [← hb]; split <;> rfl
     have hac : accN ts b0 b1 t (j + 1) = accN ts b0 b1 t j ++ likeB (bkR ts b) t := by
       have : j = 0 ∨ j = 1 := by omega
       rcases this with rfl | rfl
       · simp at hb; subst hb; rfl
       · simp at hb; subst hb; rfl
     have hal : (accN ts b0 b1 t j).length ≤ 8 := by
       have : j = 0 ∨ j = 1 := by omega
       rcases this with rfl | rfl
       · exact Nat.zero_le _
       · have h1 := likeB_len (bkR ts b0) t
         have h3 := bkR_len (ts := ts) b0
         show (likeB (bkR ts b0) t).length ≤ 8
         omega
     refine WC_skip (KSeq_n (WC_seq (WC_block (WC_seq (WC_region ?_)))))
     refine WO_step rfl (S_idxV2 (j := j) rfl rfl rfl (by omega) ?_)
     rw [hbI]
     refine WO_step rfl (S_pure rfl ?_)
     refine WO_nil (KSeq_n (WC_seq (WC_region ?_)))
     iterate 3 refine WO_step rfl (S_pure rfl ?_)
     refine WO_step rfl (S_loadSO (j := 0) hl rfl pkA rfl rfl ?_)
     refine WO_step rfl (S_pure rfl ?_)
     refine WO_step rfl (S_mulN (a := b) (b := 4) rfl rfl (by omega) ?_)
     refine WO_call rfl rfl rfl ?_
     refine (sp_Ones (i := i2) (k := b * 4) (w := wk) (ts := ts) pkA rdA (by omega)).mono ?_
     rintro _ _ ⟨rfl, rfl⟩
     rw [show b * 4 = 4 * b by omega]
     refine WO_step rfl (S_pure rfl ?_)
     refine WO_nil (KSeq_n (WC_block ?_))
     --out x2
     have hz : accN ts b0 b1 t j = accN ts b0 b1 t j ++ likeB (((tRecs ts 32).drop (rk ts (4 * b))).take (rk ts (4 * b) - rk ts (4 * b))) t := by rw [Nat.sub_self]; simp [likeB]
     have hrk4 := rk_mono (ts := ts) (a := 4 * b) (b := 4 * b + 4) (by omega)
     refine WC_post (WC_weak (lp_like1 (H := H) (ts := ts) (i := i) (i2 := i2) (b := b) (t := t) (wk := wk) (wr := wr) (wt := wt) (acc := accN ts b0 b1 t j) v1 v5 (.agg #[.int .i64 (b0 : Int), .int .i64 (b1 : Int)]) (.int .i64 (j : Int)) hl hb8 hal (rk ts (4 * b + 4) - rk ts (4 * b)) (rk ts (4 * b)) w7 rfl (Nat.le_refl _) hrk4) seA (by rw [← hz]; unfold STO; exact hsA)) ?_
     rintro y l' _ ⟨w', rfl, rfl, rfl⟩
     rw [← hac]
     refine KBlock_h (KBlock_n (KSeq_n (WC_region ?_)))
     first | refine WO_step rfl (S_addN (b := 1) rfl rfl (by omega) ?_) | refine WO_step rfl (S_pure rfl ?_)
     refine WO_step rfl (S_pure rfl ?_)
     refine WO_nil (KLoop_n ?_)
     exact WC_weak (ih (2 - (j + 1)) (by omega) (j + 1) w' rfl (by omega)) seA HSub.refl
    ·
     try simp only [bsT] at hb1
     refine WC_exit (KSeq_x (KLoop_x ?_))
     have ej : j = 2 := by omega
     subst ej
     exact KPost_i (H' := SL w7.toV TRec (accN ts b0 b1 t 2) :: STO i ts i2 wk wr wt H) seA (by unfold STO; exact hsA) ⟨w7, rfl, rfl, rfl⟩
theorem sp_like {H : SH} {ts : List SlT} {i i2 : Nat} {wk wr wt : SV} {k : ByteArray} (hl : ts.length = 32) (hk : k.size ≤ 1000000) : WF F X f_hashstore_Store_like [.pointer (some ⟨i, 0, none⟩), .string k] (STO i ts i2 wk wr wt H) (fun r H' => ∃ w : SV, r = w.toV ∧ H' = SL w.toV TRec (likeL ts k) :: STO i ts i2 wk wr wt H) := by
  refine WF_addNil (T := TRec) ?_
  have hkl2 := kH_lt k
  have hf8 := frst_lt (kH k)
  have ht8 := tagOf_lt (kH k)
  have ho8 := oth_lt (t := tagOf (kH k)) hf8
  unfold STO
  refine WF_fn F_hashstore_Store_like ?_
  refine WC_seq (WC_region ?_)
  refine WO_step rfl (S_pure rfl ?_)
  refine WO_nil (KSeq_n (WC_seq (WC_seq (WC_region ?_))))
  iterate 2 refine WO_step rfl (S_pure rfl ?_)
  refine WO_nil (KSeq_n ?_)
  refine WC_cond rfl (fun hb1 => ?_) (fun hb1 => ?_)
  ·
   try simp only [bsT] at hb1
   exact absurd hb1 (by simp)
   --stop
  ·
   try simp only [bsT] at hb1
   refine WC_skip (KSeq_n (WC_seq (WC_region ?_)))
   refine WO_step rfl (S_pure rfl ?_)
   refine WO_call rfl rfl rfl ?_
   refine (sp_HashOf (s := k) hk).mono ?_
   rintro _ _ ⟨rfl, rfl⟩
   rw [kH_eq]
   refine WO_step rfl (S_pure rfl ?_)
   refine WO_nil (KSeq_n (WC_seq (WC_region ?_)))
   refine WO_step rfl (S_pure rfl ?_)
   refine WO_call rfl rfl rfl ?_
   refine (sp_hTag (by omega)).mono ?_
   rintro _ _ ⟨rfl, rfl⟩
   refine WO_step rfl (S_pure rfl ?_)
   refine WO_nil (KSeq_n (WC_seq (WC_region ?_)))
   refine WO_step rfl (S_pure rfl ?_)
   refine WO_nil (KSeq_n (WC_seq (WC_seq (WC_region ?_))))
   refine WO_step rfl (S_pure rfl ?_)
   refine WO_call rfl rfl rfl ?_
   refine (sp_hFirst (by omega)).mono ?_
   rintro _ _ ⟨rfl, rfl⟩
   refine WO_step rfl (S_pure rfl ?_)
   refine WO_call rfl rfl rfl ?_
   refine (sp_hFirst (by omega)).mono ?_
   rintro _ _ ⟨rfl, rfl⟩
   refine WO_step rfl (S_pure rfl ?_)
   refine WO_call rfl rfl rfl ?_
   refine (sp_hOther (by assumption) (by assumption)).mono ?_
   rintro _ _ ⟨rfl, rfl⟩
   iterate 2 refine WO_step rfl (S_pure rfl ?_)
   refine WO_nil (KSeq_n (WC_block ?_))
   --out x0
   refine WC_post (WC_weak (lp_like0 (H := H) (ts := ts) (i := i) (i2 := i2) (b0 := frst (kH k)) (b1 := oth (frst (kH k)) (tagOf (kH k))) (t := tagOf (kH k)) (wk := wk) (wr := wr) (wt := wt) (.string k) (.int .u64 ((kH k : Nat) : Int)) hl hf8 ho8 2 0 .nil (by omega) (by omega)) seA (by unfold STO; exact hsA)) ?_
   rintro y l' _ ⟨w', rfl, rfl, rfl⟩
   refine KBlock_h (KSeq_n (WC_seq (WC_region ?_)))
   iterate 2 refine WO_step rfl (S_pure rfl ?_)
   refine WO_nil (KSeq_n (WC_ret ?_))
   refine KFn_r (ResL.tmp rfl ResL.nil) ?_
   exact ⟨_, HSub.refl, w', rfl, rfl⟩
/-! ### Asked for a record -/
def getP (i4 : Nat) (H : SH) (o : Option Rec) : KP := fun x l' H' => match o with
  | some q => x = .ret ∧ l' = [(4, .pointer (some ⟨i4, 0, none⟩)), (5, .bool true)] ∧ H' = OB i4 TRec q :: H
  | none => x = .exit 0 ∧ l' = [(4, .pointer (some ⟨i4, 0, none⟩))] ∧ H' = OB i4 TRec rec0 :: H
theorem lp_hGet {H : SH} {v : Value} {l : List Rec} {k : ByteArray} (hv : RD H v TRec l) (hb : l.length ≤ 8) (i4 : Nat) : ∀ (n a : Nat), l.length - a = n → a ≤ l.length → fnd (l.drop a) k = fnd l k →
    WC F X (.loop L_hashstore_Store_Get_0) [(12, .int .i64 (a : Int)), (11, .int .i64 (l.length : Int)), (10, v), (1, .string k), (4, .pointer (some ⟨i4, 0, none⟩))] (OB i4 TRec rec0 :: H) (KPost (getP i4 H (fnd l k))) := by
  intro n
  induction n using Nat.strongRecOn with
  | _ n ih =>
    intro a hn ha hf
    refine WC_loop (WC_seq (WC_region ?_))
    refine WO_step rfl (S_pure rfl ?_)
    refine WO_nil (KSeq_n (WC_seq ?_))
    refine WC_cond rfl (fun hb1 => ?_) (fun hb1 => ?_)
    ·
     try simp only [bsT] at hb1
     obtain ⟨x, hx⟩ := get_of_lt (show a < l.length by omega)
     rw [drop_get hx] at hf
     refine WC_skip (KSeq_n (WC_seq (WC_block (WC_seq (WC_region ?_)))))
     refine WO_step rfl (S_idx rfl rfl rdA (by first | rfl | assumption | (symm; assumption)) (by rfl) (by first | assumption | omega | exact lt_of_get (by assumption) | (simp only [List.length_set]; first | assumption | omega | exact lt_of_get (by assumption))) fun hp14 => ?_)
     refine WO_step rfl (S_loadE (T := TRec) rfl rdA (by first | rfl | assumption | (symm; assumption)) (by first | rfl | assumption | (symm; assumption)) (by first | rfl | assumption | (symm; assumption)) hx ?_)
     refine WO_step rfl (S_new fun i7 => ?_)
     first | refine WO_step rfl (S_storeT rfl rfl pkA (by rfl) (by rfl) ?_) | refine WO_step rfl (S_storeO rfl rfl pkA (by first | rfl | exact SV.cells1 _) (by rfl) (by first | rfl | exact SV.ones _) ?_)
     refine WO_nil (KSeq_n (WC_seq (WC_region ?_)))
     refine WO_step rfl (S_pure rfl ?_)
     refine WO_step rfl (S_loadO rfl pkA (by rfl) (by rfl) ?_)
     refine WO_step rfl (S_pure rfl ?_)
     first | refine WO_step rfl (S_eqS rfl rfl ?_) | refine WO_step rfl (S_pure rfl ?_)
     refine WO_nil (KSeq_n ?_)
     refine WC_cond rfl (fun hb2 => ?_) (fun hb2 => ?_)
     ·
      try simp only [bsT] at hb2
      refine WC_seq (WC_region ?_)
      first | refine WO_step rfl (S_loadT rfl pkA (by rfl) (by rfl) ?_) | refine WO_step rfl (S_loadO rfl pkA (by rfl) (by rfl) ?_)
      refine WO_step rfl (S_storeO rfl rfl pkA (by first | rfl | exact SV.cells1 _) (by rfl) (by first | rfl | exact SV.ones _) ?_)
      refine WO_step rfl (S_pure rfl ?_)
      refine WO_nil (KSeq_n (WC_ret (KBlock_r (KSeq_r (KLoop_r ?_)))))
      rw [← hf]; simp only [fnd, hb2, if_true]
      exact KPost_i seA hsA ⟨rfl, rfl, rfl⟩
     ·
      try simp only [bsT] at hb2
      refine WC_skip (KBlock_n (KSeq_n (WC_region ?_)))
      first | refine WO_step rfl (S_addN (b := 1) rfl rfl (by omega) ?_) | refine WO_step rfl (S_pure rfl ?_)
      refine WO_step rfl (S_pure rfl ?_)
      refine WO_nil (KLoop_n ?_)
      simp only [fnd, hb2, if_false] at hf
      exact WC_weak (ih (l.length - (a + 1)) (by omega) (a + 1) rfl (by omega) hf) seA hsA
    ·
     try simp only [bsT] at hb1
     refine WC_exit (KSeq_x (KLoop_x ?_))
     rw [← hf, List.drop_of_length_le (by omega)]
     exact KPost_i seA hsA ⟨rfl, rfl, rfl⟩
theorem sp_hGet {H : SH} {ts : List SlT} {i i2 : Nat} {wk wr wt : SV} {k : ByteArray} (hl : ts.length = 32) (hk : k.size ≤ 1000000) : WF F X f_hashstore_Store_Get [.pointer (some ⟨i, 0, none⟩), .string k] (STO i ts i2 wk wr wt H) (fun r H' => H' = STO i ts i2 wk wr wt H ∧ r = .tuple #[TRec.val ((fnd (likeL ts k) k).getD rec0), .bool (fnd (likeL ts k) k).isSome]) := by
  have hll := likeL_len ts k
  obtain ⟨L, hL⟩ : ∃ L, likeL ts k = L := ⟨_, rfl⟩
  rw [hL] at hll ⊢
  refine WF_fn F_hashstore_Store_Get ?_
  refine WC_seq (WC_region ?_)
  refine WO_step rfl (S_new fun i4 => ?_)
  refine WO_step rfl (S_pure rfl ?_)
  refine WO_nil (KSeq_n (WC_seq (WC_seq (WC_region ?_))))
  iterate 2 refine WO_step rfl (S_pure rfl ?_)
  refine WO_call rfl rfl rfl ?_
  refine (WF.weak (sp_like (X := X) (H := OB i4 TRec rec0 :: H) (i := i) (i2 := i2) (wk := wk) (wr := wr) (wt := wt) hl hk) (by unfold STO; exact hsA)).mono ?_
  rintro _ _ ⟨w10, rfl, rfl⟩
  rw [hL]
  unfold STO
  first | refine WO_step rfl (S_pure rfl ?_) | refine WO_step rfl (S_lenS rfl rdA ?_)
  refine WO_step rfl (S_pure rfl ?_)
  refine WO_nil (KSeq_n (WC_block ?_))
  --out r x0
  refine WC_post (WC_weak (lp_hGet (X := X) (H := SL w10.toV TRec L :: STO i ts i2 wk wr wt H) (v := w10.toV) (l := L) (k := k) rdA (by omega) i4 L.length 0 (by omega) (by omega) rfl) seA (by unfold STO; exact hsA)) ?_
  intro x l' H' hp
  unfold getP at hp
  split at hp
  ·
   rename_i q hq
   obtain ⟨rfl, rfl, rfl⟩ := hp
   rw [hq]
   refine KBlock_r (KSeq_r ?_)
   refine KFn_r (ResL.cell rfl pkA (Nat.le_of_ble_eq_true rfl) rfl (ResL.tmp rfl ResL.nil)) ?_
   exact ⟨_, hsA, rfl, rfl⟩
  ·
   rename_i hq
   obtain ⟨rfl, rfl, rfl⟩ := hp
   rw [hq]
   refine KBlock_h (KSeq_n (WC_seq (WC_region ?_)))
   refine WO_step rfl (S_pure rfl ?_)
   first | refine WO_step rfl (S_storeT rfl rfl pkA (by rfl) (by rfl) ?_) | refine WO_step rfl (S_storeO rfl rfl pkA (by first | rfl | exact SV.cells1 _) (by rfl) (by first | rfl | exact SV.ones _) ?_)
   refine WO_step rfl (S_pure rfl ?_)
   refine WO_nil (KSeq_n (WC_ret ?_))
   refine KFn_r (ResL.cell rfl pkA (Nat.le_of_ble_eq_true rfl) rfl (ResL.tmp rfl ResL.nil)) ?_
   exact ⟨_, hsA, rfl, rfl⟩
theorem sp_hReads {H : SH} {ts : List SlT} {i i2 : Nat} {wk wr wt : SV} {k : ByteArray} (hl : ts.length = 32) (hk : k.size ≤ 1000000) : WF F X f_hashstore_Store_Reads [.pointer (some ⟨i, 0, none⟩), .string k] (STO i ts i2 wk wr wt H) (fun r H' => H' = STO i ts i2 wk wr wt H ∧ r = .int .i64 ((likeL ts k).length : Int)) := by
  have hll := likeL_len ts k
  refine WF_fn F_hashstore_Store_Reads ?_
  refine WC_seq (WC_region ?_)
  refine WO_step rfl (S_pure rfl ?_)
  refine WO_nil (KSeq_n (WC_seq (WC_region ?_)))
  iterate 2 refine WO_step rfl (S_pure rfl ?_)
  refine WO_call rfl rfl rfl ?_
  refine (sp_like (X := X) hl hk).mono ?_
  rintro _ _ ⟨w10, rfl, rfl⟩
  first | refine WO_step rfl (S_pure rfl ?_) | refine WO_step rfl (S_lenS rfl rdA ?_)
  refine WO_step rfl (S_pure rfl ?_)
  refine WO_nil (KSeq_n (WC_ret ?_))
  refine KFn_r (ResL.tmp rfl ResL.nil) ?_
  exact ⟨_, hsA, rfl, rfl⟩
theorem sp_hList {H : SH} {ts : List SlT} {i i2 : Nat} {wk wr wt : SV} (hl : ts.length = 32) (hs : kSmall ts) : WF F X f_hashstore_Store_List [.pointer (some ⟨i, 0, none⟩)] (STO i ts i2 wk wr wt H) (fun r H' => ∃ u : SV, r = u.toV ∧ H' = SL u.toV TRec (newest (tRecs ts 32)) :: STO i ts i2 wk wr wt H) := by
  unfold STO
  refine WF_fn F_hashstore_Store_List ?_
  refine WC_seq (WC_region ?_)
  refine WO_step rfl (S_pure rfl ?_)
  refine WO_nil (KSeq_n (WC_seq (WC_seq (WC_region ?_))))
  iterate 2 refine WO_step rfl (S_pure rfl ?_)
  refine WO_nil (KSeq_n ?_)
  refine WC_cond rfl (fun hb1 => ?_) (fun hb1 => ?_)
  ·
   try simp only [bsT] at hb1
   exact absurd hb1 (by simp)
   --stop
  ·
   try simp only [bsT] at hb1
   refine WC_skip (KSeq_n (WC_seq (WC_region ?_)))
   iterate 3 refine WO_step rfl (S_pure rfl ?_)
   refine WO_step rfl (S_loadSOt hl rfl pkA ?_)
   refine WO_call rfl rfl rfl ?_
   refine (sp_oList hl hs).mono ?_
   rintro _ _ ⟨u, rfl, rfl⟩
   refine WO_step rfl (S_pure rfl ?_)
   refine WO_nil (KSeq_n (WC_ret ?_))
   refine KFn_r (ResL.tmp rfl ResL.nil) ?_
   exact ⟨_, hsA, u, rfl, rfl⟩
theorem sp_hLen {H : SH} {ts : List SlT} {i i2 : Nat} {wk wr wt : SV} (hl : ts.length = 32) : WF F X f_hashstore_Store_Len [.pointer (some ⟨i, 0, none⟩)] (STO i ts i2 wk wr wt H) (fun r H' => H' = STO i ts i2 wk wr wt H ∧ r = .int .i64 ((tRecs ts 32).length : Int)) := by
  have hrl := rk_tRecs ts 32
  unfold STO
  refine WF_fn F_hashstore_Store_Len ?_
  refine WC_seq (WC_region ?_)
  refine WO_step rfl (S_pure rfl ?_)
  refine WO_nil (KSeq_n (WC_seq (WC_seq (WC_region ?_))))
  iterate 2 refine WO_step rfl (S_pure rfl ?_)
  refine WO_nil (KSeq_n ?_)
  refine WC_cond rfl (fun hb1 => ?_) (fun hb1 => ?_)
  ·
   try simp only [bsT] at hb1
   exact absurd hb1 (by simp)
   --stop
  ·
   try simp only [bsT] at hb1
   refine WC_skip (KSeq_n (WC_seq (WC_region ?_)))
   iterate 3 refine WO_step rfl (S_pure rfl ?_)
   refine WO_step rfl (S_loadSO (j := 1) hl rfl pkA rfl rfl ?_)
   first | refine WO_step rfl (S_pure rfl ?_) | refine WO_step rfl (S_lenS rfl rdA ?_)
   refine WO_step rfl (S_pure rfl ?_)
   refine WO_nil (KSeq_n (WC_ret ?_))
   refine KFn_r (ResL.tmp rfl ResL.nil) ?_
   exact ⟨_, hsA, rfl, rfl⟩
   /-! ### No store -/
theorem sp_likeNil {H : SH} {k : ByteArray} : WF F X f_hashstore_Store_like [.pointer none, .string k] H (fun r H' => H' = H ∧ r = .slice none 0 0) := by
  refine WF_fn F_hashstore_Store_like ?_
  refine WC_seq (WC_region ?_)
  refine WO_step rfl (S_pure rfl ?_)
  refine WO_nil (KSeq_n (WC_seq (WC_seq (WC_region ?_))))
  iterate 2 refine WO_step rfl (S_pure rfl ?_)
  refine WO_nil (KSeq_n ?_)
  refine WC_cond rfl (fun hb1 => ?_) (fun hb1 => ?_)
  ·
   try simp only [bsT] at hb1
   refine WC_seq (WC_region ?_)
   refine WO_step rfl (S_pure rfl ?_)
   refine WO_nil (KSeq_n (WC_ret (KSeq_r ?_)))
   refine KFn_r (ResL.tmp rfl ResL.nil) ?_
   exact ⟨_, hsA, rfl, rfl⟩
  ·
   try simp only [bsT] at hb1
   exact absurd hb1 (by simp)
   --stop
theorem sp_hGetNil {H : SH} {k : ByteArray} : WF F X f_hashstore_Store_Get [.pointer none, .string k] H (fun r H' => H' = H ∧ r = .tuple #[TRec.val rec0, .bool false]) := by
  refine WF_addNil (T := TRec) ?_
  refine WF_fn F_hashstore_Store_Get ?_
  refine WC_seq (WC_region ?_)
  refine WO_step rfl (S_new fun i4 => ?_)
  refine WO_step rfl (S_pure rfl ?_)
  refine WO_nil (KSeq_n (WC_seq (WC_seq (WC_region ?_))))
  iterate 2 refine WO_step rfl (S_pure rfl ?_)
  refine WO_call rfl rfl rfl ?_
  refine sp_likeNil.mono ?_
  rintro _ _ ⟨rfl, rfl⟩
  first | refine WO_step rfl (S_pure rfl ?_) | refine WO_step rfl (S_lenS rfl rdA ?_)
  refine WO_step rfl (S_pure rfl ?_)
  refine WO_nil (KSeq_n (WC_block ?_))
  --out x0
  refine WC_post (WC_weak (lp_hGet (X := X) (H := H) (v := .slice none 0 0) (l := []) (k := k) rdA (by simp) i4 0 0 rfl (by simp) rfl) seA hsA) ?_
  intro x l' H' hp
  obtain ⟨rfl, rfl, rfl⟩ : x = .exit 0 ∧ l' = [(4, .pointer (some ⟨i4, 0, none⟩))] ∧ H' = OB i4 TRec rec0 :: H := hp
  refine KBlock_h (KSeq_n (WC_seq (WC_region ?_)))
  refine WO_step rfl (S_pure rfl ?_)
  first | refine WO_step rfl (S_storeT rfl rfl pkA (by rfl) (by rfl) ?_) | refine WO_step rfl (S_storeO rfl rfl pkA (by first | rfl | exact SV.cells1 _) (by rfl) (by first | rfl | exact SV.ones _) ?_)
  refine WO_step rfl (S_pure rfl ?_)
  refine WO_nil (KSeq_n (WC_ret ?_))
  refine KFn_r (ResL.cell rfl pkA (Nat.le_of_ble_eq_true rfl) rfl (ResL.tmp rfl ResL.nil)) ?_
  exact ⟨_, hsA, rfl, rfl⟩
theorem sp_hReadsNil {H : SH} {k : ByteArray} : WF F X f_hashstore_Store_Reads [.pointer none, .string k] H (fun r H' => H' = H ∧ r = .int .i64 0) := by
  refine WF_addNil (T := TRec) ?_
  refine WF_fn F_hashstore_Store_Reads ?_
  refine WC_seq (WC_region ?_)
  refine WO_step rfl (S_pure rfl ?_)
  refine WO_nil (KSeq_n (WC_seq (WC_region ?_)))
  iterate 2 refine WO_step rfl (S_pure rfl ?_)
  refine WO_call rfl rfl rfl ?_
  refine sp_likeNil.mono ?_
  rintro _ _ ⟨rfl, rfl⟩
  first | refine WO_step rfl (S_pure rfl ?_) | refine WO_step rfl (S_lenS rfl rdA ?_)
  refine WO_step rfl (S_pure rfl ?_)
  refine WO_nil (KSeq_n (WC_ret ?_))
  refine KFn_r (ResL.tmp rfl ResL.nil) ?_
  exact ⟨_, hsA, rfl, rfl⟩
theorem sp_hListNil {H : SH} : WF F X f_hashstore_Store_List [.pointer none] H (fun r H' => H' = H ∧ r = .slice none 0 0) := by
  refine WF_fn F_hashstore_Store_List ?_
  refine WC_seq (WC_region ?_)
  refine WO_step rfl (S_pure rfl ?_)
  refine WO_nil (KSeq_n (WC_seq (WC_seq (WC_region ?_))))
  iterate 2 refine WO_step rfl (S_pure rfl ?_)
  refine WO_nil (KSeq_n ?_)
  refine WC_cond rfl (fun hb1 => ?_) (fun hb1 => ?_)
  ·
   try simp only [bsT] at hb1
   refine WC_seq (WC_region ?_)
   refine WO_step rfl (S_pure rfl ?_)
   refine WO_nil (KSeq_n (WC_ret (KSeq_r ?_)))
   refine KFn_r (ResL.tmp rfl ResL.nil) ?_
   exact ⟨_, hsA, rfl, rfl⟩
  ·
   try simp only [bsT] at hb1
   exact absurd hb1 (by simp)
   --stop
theorem sp_hBytesNil {H : SH} : WF F X f_hashstore_Store_Bytes [.pointer none] H (fun r H' => H' = H ∧ r = .slice none 0 0) := by
  refine WF_fn F_hashstore_Store_Bytes ?_
  refine WC_seq (WC_region ?_)
  refine WO_step rfl (S_pure rfl ?_)
  refine WO_nil (KSeq_n (WC_seq (WC_seq (WC_region ?_))))
  iterate 2 refine WO_step rfl (S_pure rfl ?_)
  refine WO_nil (KSeq_n ?_)
  refine WC_cond rfl (fun hb1 => ?_) (fun hb1 => ?_)
  ·
   try simp only [bsT] at hb1
   refine WC_seq (WC_region ?_)
   refine WO_step rfl (S_pure rfl ?_)
   refine WO_nil (KSeq_n (WC_ret (KSeq_r ?_)))
   refine KFn_r (ResL.tmp rfl ResL.nil) ?_
   exact ⟨_, hsA, rfl, rfl⟩
  ·
   try simp only [bsT] at hb1
   exact absurd hb1 (by simp)
   --stop
theorem sp_hLenNil {H : SH} : WF F X f_hashstore_Store_Len [.pointer none] H (fun r H' => H' = H ∧ r = .int .i64 0) := by
  refine WF_fn F_hashstore_Store_Len ?_
  refine WC_seq (WC_region ?_)
  refine WO_step rfl (S_pure rfl ?_)
  refine WO_nil (KSeq_n (WC_seq (WC_seq (WC_region ?_))))
  iterate 2 refine WO_step rfl (S_pure rfl ?_)
  refine WO_nil (KSeq_n ?_)
  refine WC_cond rfl (fun hb1 => ?_) (fun hb1 => ?_)
  ·
   try simp only [bsT] at hb1
   refine WC_seq (WC_region ?_)
   refine WO_step rfl (S_pure rfl ?_)
   refine WO_nil (KSeq_n (WC_ret (KSeq_r ?_)))
   refine KFn_r (ResL.tmp rfl ResL.nil) ?_
   exact ⟨_, hsA, rfl, rfl⟩
  ·
   try simp only [bsT] at hb1
   exact absurd hb1 (by simp)
   --stop

end Go.Proofs.YtpnmeednimpjdaaGreat.AM
