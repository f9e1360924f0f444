/- Walks: what the functions compute. -/
import Derived.Test.YtpgidiompdabdaaM13
import Derived.Test.YtpgidiompdabdaaFlat
import Derived.KernelRfl
namespace Go.Proofs.Ytpgidiompdabdaa.AM
open Go
set_option linter.unusedSimpArgs false
set_option linter.unusedVariables false
set_option maxRecDepth 4000

/-! ### Jobs that merge -/
theorem WF_addNilJ {f : FuncId} {vs : List Value} {H : SH} {Q : Value → SH → Prop} {α : Type} {T : Ty α} (h : WF F X f vs (SL (SV.toV .nil) T [] :: H) Q) : WF F X f vs H Q := fun a hH => h a (HAg.addNil hH)
theorem sp_NextJ {H : SH} {m : Nat} {w : SV} {L : List Rec} : WF F X 30 [.pointer (some ⟨m, 0, none⟩)] (MOB m w :: SL w.toV TRec L :: H) (fun r H' => ∃ u : SV, H' = MOB m u :: SL u.toV TRec L.tail :: H ∧ r = .tuple #[TRec.val (L.headD rec0), .bool (!L.isEmpty)]) := by
  cases L with
  | nil => exact sp_NextEnd.mono fun _ _ ⟨h1, h2⟩ => ⟨w, h1, h2⟩
  | cons x t => exact sp_Next.mono fun _ _ ⟨u, h1, h2⟩ => ⟨u, h1, h2⟩
abbrev JO (i m : Nat) (x : Rec) (b : Bool) (w : SV) : Res := .obj i (.row false 69 [.pointer (some ⟨m, 0, none⟩), .string x.key, .bool x.gone, .int .i64 x.val.kind, .int .i64 x.val.n, .string x.val.s, .bool b, w.toV])
/-- A job that has `R` to do and has done `P`. -/
def JS (i m : Nat) (u w : SV) (R : List Rec) (P : List Pair) (H : SH) : SH := JO i m (R.headD rec0) (!R.isEmpty) w :: MOB m u :: SL u.toV TRec R.tail :: SL w.toV TPair P :: H
theorem sp_NewMerge {H : SH} {v : Value} {svs : List SV} {ls : List (List Rec)} (hv : Rds H v svs TRecs TRec ls) (hall : ls.flatten.length ≤ 1000) (hll : ls.length ≤ 1000) (hs : short ls.flatten) : WF F X f_job_NewMerge [v] H (fun r H' => ∃ (i m : Nat) (u w : SV), H' = JS i m u w (mrgd ls.flatten) [] H ∧ r = .pointer (some ⟨i, 0, none⟩)) := by
  refine WF_addNilJ (T := TPair) ?_
  refine WF_fn F_job_NewMerge ?_
  refine WC_seq (WC_region ?_)
  refine WO_step rfl (S_pure rfl ?_)
  refine WO_nil (KSeq_n (WC_seq (WC_region ?_)))
  refine WO_step rfl (S_pure rfl ?_)
  refine WO_call rfl rfl rfl ?_
  refine (sp_New (H := SL (SV.toV .nil) TPair [] :: H) (hv.sub (HSub.refl.drop)) (by omega) (by omega) hs).mono ?_
  rintro _ _ ⟨m, w5, rfl, rfl⟩
  refine WO_step rfl (S_pure rfl ?_)
  refine WO_step rfl (S_box rfl (by rfl) fun i7 => ?_)
  refine WO_step rfl (S_pure rfl ?_)
  refine WO_nil (KSeq_n (WC_seq (WC_region ?_)))
  iterate 5 refine WO_step rfl (S_pure rfl ?_)
  refine WO_step rfl (S_loadO rfl pkA (by rfl) (by rfl) ?_)
  refine WO_call rfl rfl rfl ?_
  refine (WF.weak (sp_NextJ (H := JO i7 m rec0 false .nil :: SL (SV.toV .nil) TPair [] :: H) (m := m) (w := w5) (L := mrgd ls.flatten)) (by exact hsA)).mono ?_
  rintro _ _ ⟨u, rfl, rfl⟩
  iterate 5 refine WO_step rfl (S_pure rfl ?_)
  refine WO_step rfl (S_storeO rfl rfl pkA (by first | rfl | exact SV.cells1 _) (by rfl) (by first | rfl | exact SV.ones _) ?_)
  iterate 2 refine WO_step rfl (S_pure rfl ?_)
  refine WO_step rfl (S_storeO rfl rfl pkA (by first | rfl | exact SV.cells1 _) (by rfl) (by first | rfl | exact SV.ones _) ?_)
  refine WO_nil (KSeq_n (WC_seq (WC_region ?_)))
  iterate 2 refine WO_step rfl (S_pure rfl ?_)
  refine WO_nil (KSeq_n (WC_ret ?_))
  refine KFn_r (ResL.tmp rfl ResL.nil) ?_
  exact ⟨JS i7 m u .nil (mrgd ls.flatten) [] H, (by unfold JS; exact hsA), i7, m, u, .nil, rfl, rfl⟩
theorem sp_JDone {H : SH} {i m : Nat} {u w : SV} {R : List Rec} {P : List Pair} : WF F X f_job_Merge_Done [.pointer (some ⟨i, 0, none⟩)] (JS i m u w R P H) (fun r H' => H' = JS i m u w R P H ∧ r = .bool R.isEmpty) := by
  unfold JS
  refine WF_fn F_job_Merge_Done ?_
  refine WC_seq (WC_region ?_)
  refine WO_step rfl (S_pure rfl ?_)
  refine WO_nil (KSeq_n (WC_seq (WC_region ?_)))
  iterate 3 refine WO_step rfl (S_pure rfl ?_)
  refine WO_cases (t := 5) rfl (fun hg1 => ?_) (fun hg1 => ?_)
  ·
   try simp only [bsT] at hg1
   exact absurd hg1 (by simp)
   --stop
  ·
   try simp only [bsT] at hg1
   iterate 3 refine WO_step rfl (S_pure rfl ?_)
   refine WO_step rfl (S_loadO rfl pkA (by rfl) (by rfl) ?_)
   iterate 3 refine WO_step rfl (S_pure rfl ?_)
   refine WO_nil (KSeq_n (WC_ret ?_))
   refine KFn_r (ResL.tmp rfl ResL.nil) ?_
   exact ⟨_, hsA, rfl, by simp [resV]⟩
theorem sp_JPairs {H : SH} {i m : Nat} {u w : SV} {R : List Rec} {P : List Pair} (hP : P.length ≤ 1000) : WF F X f_job_Merge_Pairs [.pointer (some ⟨i, 0, none⟩)] (JS i m u w R P H) (fun r H' => ∃ z : SV, H' = SL z.toV TPair P :: JS i m u w R P H ∧ r = z.toV) := by
  unfold JS
  refine WF_fn F_job_Merge_Pairs ?_
  refine WC_seq (WC_region ?_)
  refine WO_step rfl (S_pure rfl ?_)
  refine WO_nil (KSeq_n (WC_seq (WC_seq (WC_region ?_))))
  iterate 2 refine WO_step rfl (S_pure rfl ?_)
  refine WO_nil (KSeq_n ?_)
  refine WC_cond rfl (fun hb1 => ?_) (fun hb1 => ?_)
  ·
   try simp only [bsT] at hb1
   exact absurd hb1 (by simp)
   --stop
  ·
   try simp only [bsT] at hb1
   refine WC_skip (KSeq_n (WC_seq (WC_region ?_)))
   iterate 3 refine WO_step rfl (S_pure rfl ?_)
   refine WO_step rfl (S_loadO rfl pkA (by rfl) (by rfl) ?_)
   refine WO_step rfl (S_appN rfl rfl (by first | exact SRC.str rfl rfl | (apply RD.src; repeat (first | assumption | exact RD.head | exact RD.nil | apply RD.tail))) (by rfl) (by rfl) (by (try simp only [List.length_append, List.length_cons, List.length_nil]); omega) fun w9 => ?_)
   refine WO_step rfl (S_pure rfl ?_)
   refine WO_nil (KSeq_n (WC_ret ?_))
   refine KFn_r (ResL.tmp rfl ResL.nil) ?_
   exact ⟨SL w9.toV TPair P :: JS i m u w R P H, (by unfold JS; exact hsA), w9, rfl, rfl⟩
theorem lp_JW {H : SH} {i m N : Nat} {n : Int} {R : List Rec} {P : List Pair} (hN : N = n.toNat) (hR : R.length ≤ 100) (hP : P.length ≤ 100) : ∀ (K j : Nat) (u w : SV), R.length - j = K → j ≤ R.length → j ≤ N →
    WC F X (.loop L_job_Merge_Work_0) [(5, .int .i64 (j : Int)), (0, .pointer (some ⟨i, 0, none⟩)), (1, .int .i64 n)] (JS i m u w (R.drop j) (P ++ pairsOf (R.take j)) H)
      (KPost fun y l' H' => ∃ (u w : SV), y = .exit 0 ∧ l' = [(5, .int .i64 ((min R.length N : Nat) : Int))] ∧ H' = JS i m u w (R.drop (min R.length N)) (P ++ pairsOf (R.take (min R.length N))) H) := by
  intro K
  induction K using Nat.strongRecOn with
  | _ K ih =>
    intro j u w hK hj hjN
    have hpl := pairsOf_len (R.take j)
    rw [List.length_take] at hpl
    refine WC_loop (WC_seq (WC_seq (WC_region ?_)))
    refine WO_step rfl (S_pure rfl ?_)
    refine WO_call rfl rfl rfl ?_
    refine sp_JDone.mono ?_
    rintro _ _ ⟨rfl, rfl⟩
    iterate 2 refine WO_step rfl (S_pure rfl ?_)
    refine WO_cases (t := 9) rfl (fun hg1 => ?_) (fun hg1 => ?_)
    ·
     try simp only [bsT] at hg1
     iterate 4 refine WO_step rfl (S_pure rfl ?_)
     refine WO_nil (KSeq_n ?_)
     refine WC_cond rfl (fun hb1 => ?_) (fun hb1 => ?_)
     ·
      try simp only [bsT] at hb1
      have hjR : j < R.length := by simp at hg1; omega
      obtain ⟨x, hx⟩ := get_of_lt hjR
      have htk : R.take (j + 1) = R.take j ++ [x] := by rw [List.take_add_one, hx]; rfl
      unfold JS
      rw [drop_get hx]
      refine WC_skip (KSeq_n (WC_block (WC_seq (WC_seq (WC_region ?_)))))
      iterate 4 refine WO_step rfl (S_pure rfl ?_)
      refine WO_step rfl (S_loadO rfl pkA (by rfl) (by rfl) ?_)
      refine WO_step rfl (S_pure rfl ?_)
      refine WO_nil (KSeq_n ?_)
      refine WC_cond rfl (fun hb2 => ?_) (fun hb2 => ?_)
      ·
       try simp only [bsT] at hb2
       refine WC_region ?_
       iterate 4 refine WO_step rfl (S_pure rfl ?_)
       refine WO_step rfl (S_loadO rfl pkA (by rfl) (by rfl) ?_)
       iterate 4 refine WO_step rfl (S_pure rfl ?_)
       refine WO_step rfl (S_loadO rfl pkA (by rfl) (by rfl) ?_)
       iterate 4 refine WO_step rfl (S_pure rfl ?_)
       refine WO_step rfl (S_loadO rfl pkA (by rfl) (by rfl) ?_)
       refine WO_step rfl (S_pure rfl ?_)
       refine WO_step rfl (S_lit1 (T := TPair) (y := ⟨x.key, x.val⟩) rfl rfl rfl rfl fun w36 => ?_)
       refine WO_step rfl (S_app rfl rfl pkA (by first | exact SRC.str rfl rfl | (apply RD.src; repeat (first | assumption | exact RD.head | exact RD.nil | apply RD.tail))) (by rfl) (by rfl) (by (try simp only [List.length_append, List.length_cons, List.length_nil]); omega) fun w37 => ?_)
       iterate 2 refine WO_step rfl (S_pure rfl ?_)
       refine WO_step rfl (S_storeO rfl rfl pkA (by first | rfl | exact SV.cells1 _) (by rfl) (by first | rfl | exact SV.ones _) ?_)
       refine WO_nil (KSeq_n (WC_seq (WC_region ?_)))
       iterate 5 refine WO_step rfl (S_pure rfl ?_)
       refine WO_step rfl (S_loadO rfl pkA (by rfl) (by rfl) ?_)
       refine WO_call rfl rfl rfl ?_
       rw [SV.cells]
       refine (WF.weak (sp_NextJ (H := JO i m x true w37 :: SL w37.toV TPair (P ++ pairsOf (R.take j) ++ [⟨x.key, x.val⟩]) :: H) (m := m) (w := u) (L := R.drop (j + 1))) (by exact hsA)).mono ?_
       rintro _ _ ⟨u', rfl, rfl⟩
       iterate 5 refine WO_step rfl (S_pure rfl ?_)
       refine WO_step rfl (S_storeO rfl rfl pkA (by first | rfl | exact SV.cells1 _) (by rfl) (by first | rfl | exact SV.ones _) ?_)
       iterate 2 refine WO_step rfl (S_pure rfl ?_)
       refine WO_step rfl (S_storeO rfl rfl pkA (by first | rfl | exact SV.cells1 _) (by rfl) (by first | rfl | exact SV.ones _) ?_)
       refine WO_nil (KSeq_n (WC_region ?_))
       refine WO_step rfl (S_pure rfl ?_)
       first | refine WO_step rfl (S_addN (b := 1) rfl rfl (by omega) ?_) | refine WO_step rfl (S_pure rfl ?_)
       refine WO_step rfl (S_pure rfl ?_)
       refine WO_nil (KBlock_n (KLoop_n ?_))
       have e : pairsOf (R.take (j + 1)) = pairsOf (R.take j) ++ [⟨x.key, x.val⟩] := by
         have hg : x.gone = false := by simpa using hb2
         rw [htk]; simp [pairsOf, List.filter_append, List.filter_cons, hg]
       exact WC_weak (ih (R.length - (j + 1)) (by omega) (j + 1) u' w37 rfl (by omega) (by omega)) seA (by unfold JS; rw [e, ← List.append_assoc]; exact hsA)
      ·
       try simp only [bsT] at hb2
       refine WC_skip (KSeq_n (WC_seq (WC_region ?_)))
       iterate 5 refine WO_step rfl (S_pure rfl ?_)
       refine WO_step rfl (S_loadO rfl pkA (by rfl) (by rfl) ?_)
       refine WO_call rfl rfl rfl ?_
       refine (WF.weak (sp_NextJ (H := JO i m x true w :: SL w.toV TPair (P ++ pairsOf (R.take j)) :: H) (m := m) (w := u) (L := R.drop (j + 1))) (by exact hsA)).mono ?_
       rintro _ _ ⟨u', rfl, rfl⟩
       iterate 5 refine WO_step rfl (S_pure rfl ?_)
       refine WO_step rfl (S_storeO rfl rfl pkA (by first | rfl | exact SV.cells1 _) (by rfl) (by first | rfl | exact SV.ones _) ?_)
       iterate 2 refine WO_step rfl (S_pure rfl ?_)
       refine WO_step rfl (S_storeO rfl rfl pkA (by first | rfl | exact SV.cells1 _) (by rfl) (by first | rfl | exact SV.ones _) ?_)
       refine WO_nil (KSeq_n (WC_region ?_))
       refine WO_step rfl (S_pure rfl ?_)
       first | refine WO_step rfl (S_addN (b := 1) rfl rfl (by omega) ?_) | refine WO_step rfl (S_pure rfl ?_)
       refine WO_step rfl (S_pure rfl ?_)
       refine WO_nil (KBlock_n (KLoop_n ?_))
       have e : pairsOf (R.take (j + 1)) = pairsOf (R.take j) := by
         have hg : x.gone = true := by simpa using hb2
         rw [htk]; simp [pairsOf, List.filter_append, List.filter_cons, hg]
       exact WC_weak (ih (R.length - (j + 1)) (by omega) (j + 1) u' w rfl (by omega) (by omega)) seA (by unfold JS; rw [e]; exact hsA)
     ·
      try simp only [bsT] at hb1
      refine WC_exit (KSeq_x (KLoop_x ?_))
      have ej : min R.length N = j := by omega
      rw [ej]
      exact KPost_i (H' := JS i m u w (R.drop j) (P ++ pairsOf (R.take j)) H) seA (by unfold JS; exact hsA) ⟨u, w, rfl, rfl, rfl⟩
    ·
     try simp only [bsT] at hg1
     iterate 3 refine WO_off rfl ?_
     refine WO_step rfl (S_pure rfl ?_)
     refine WO_nil (KSeq_n ?_)
     refine WC_cond rfl (fun h => ?_) (fun _ => ?_)
     · exact absurd h (by decide)
     refine WC_exit (KSeq_x (KLoop_x ?_))
     have hjR : R.length ≤ j := by simp at hg1; omega
     have ej : min R.length N = j := by omega
     rw [ej]
     exact KPost_i (H' := JS i m u w (R.drop j) (P ++ pairsOf (R.take j)) H) seA (by unfold JS; exact hsA) ⟨u, w, rfl, rfl, rfl⟩
theorem sp_JWork {H : SH} {i m : Nat} {n : Int} {R : List Rec} {P : List Pair} {u w : SV} (hR : R.length ≤ 100) (hP : P.length ≤ 100) : WF F X f_job_Merge_Work [.pointer (some ⟨i, 0, none⟩), .int .i64 n] (JS i m u w R P H) (fun r H' => ∃ u w : SV, r = .int .i64 ((min R.length n.toNat : Nat) : Int) ∧ H' = JS i m u w (R.drop (min R.length n.toNat)) (P ++ pairsOf (R.take (min R.length n.toNat))) H) := by
  refine WF_fn F_job_Merge_Work ?_
  refine WC_seq (WC_region ?_)
  refine WO_step rfl (S_pure rfl ?_)
  refine WO_nil (KSeq_n (WC_seq (WC_region ?_)))
  refine WO_step rfl (S_pure rfl ?_)
  refine WO_nil (KSeq_n (WC_seq (WC_block ?_)))
  --out x0
  refine WC_post (WC_weak (lp_JW (H := H) (i := i) (m := m) (N := n.toNat) (n := n) (R := R) (P := P) rfl hR hP R.length 0 u w (by omega) (by omega) (by omega)) seA (by rw [List.drop_zero, List.take_zero, show pairsOf [] = [] from rfl, List.append_nil]; exact hsA)) ?_
  rintro y l' _ ⟨u', w', rfl, rfl, rfl⟩
  refine KBlock_h (KSeq_n (WC_seq (WC_region ?_)))
  iterate 2 refine WO_step rfl (S_pure rfl ?_)
  refine WO_nil (KSeq_n (WC_ret ?_))
  refine KFn_r (ResL.tmp rfl ResL.nil) ?_
  exact ⟨_, HSub.refl, u', w', rfl, rfl⟩
/-! ### The law JobMerge -/
theorem FIntT : Flat Try.prog 3 TInt (fun a => (Lit.int .i64 a).wf = true) := by
  refine ⟨by kernel_rfl, by decide, ?_, fun _ => rfl⟩
  intro H enc W base spare held fuel cs x h
  obtain ⟨n, hn, hw⟩ := trod_int' Try.underlying3 h
  exact ⟨n, hn, hw⟩
theorem run_begunJ : (runF F0 noX 2000 f_loesslaw25_begun [] AH.empty).map (·.1) = some (.bool true) := by kernel_rfl
theorem sp_begunJ {H : SH} : WF F X f_loesslaw25_begun [] H (fun r H' => H' = H ∧ r = .bool true) :=
  WF_ext fun a hH => ⟨_, a, H, groundX_intro (by decide) rfl run_begunJ rfl, hH, rfl, rfl⟩
theorem S_minJ {l : SE} {H : SH} {K : Value → SH → Prop} {x y : Opd} {n : Int} {r : Nat} (hx : x.lv l = some (.int .i64 n)) (hy : y.lv l = some (.int .i64 (r : Int))) (k : K (.int .i64 (if (r : Int) < n then (r : Int) else n)) H) : Step (.mm false [x, y]) l H K :=
  S_pureE (v := .int .i64 (if (r : Int) < n then (r : Int) else n)) (by simp only [pev, lvs, hx, hy, mmV]; rfl) rfl k
theorem S_maxJ {l : SE} {H : SH} {K : Value → SH → Prop} {x : Opd} {n : Int} {a : Nat} (hx : x.lv l = some (.int .i64 n)) (ha : (if n > 0 then n else 0) = (a : Int)) (k : K (.int .i64 (a : Int)) H) : Step (.mm true [.const (.int .i64 0), x]) l H K :=
  S_pureE (v := .int .i64 (if n > 0 then n else 0)) (by
    have h2 : (Opd.const (.int .i64 0)).lv l = some (.int .i64 0) := rfl
    simp only [pev, lvs, hx, h2, mmV]; rfl) (by rw [ha]) k
theorem pairs_step (L : List Rec) (d k : Nat) : pairsOf (L.take d) ++ pairsOf ((L.drop d).take k) = pairsOf (L.take (d + k)) := by
  rw [List.take_add]; simp [pairsOf, List.filter_append]
def srcJ (l : List Rec) : List Rec := ((l.take 15).map cutRec).filter mayRec
def srcsJ (ls : List (List Rec)) : List (List Rec) := (ls.take 4).map srcJ
theorem lp_SJ1 {H : SH} {v v1 : Value} {svs : List SV} {ls : List (List Rec)} (hv : Rds H v svs TRecs TRec ls) {si : Nat} {l : List Rec} {sv : SV} {vw : Value} (h1 : svs[si]? = some sv) (h2 : ls[si]? = some l) : ∀ (n i : Nat) (w : SV), 15 - i = n → i ≤ 15 → i ≤ l.length →
    WC F X (.loop L_loesslaw25_JobMerge_1) [(9, .int .i64 (i : Int)), (0, v), (1, v1), (7, .int .i64 (si : Int)), (8, w.toV), (6, vw)] (SL w.toV TRec (((l.take i).map cutRec).filter mayRec) :: H)
      (KPost fun x l' H' => ∃ w : SV, x = .exit 2 ∧ l' = [(0, v), (1, v1), (7, .int .i64 (si : Int)), (8, w.toV), (6, vw)] ∧ H' = SL w.toV TRec (srcJ l) :: H) := by
  have hin := hv.ins si sv l h1 h2
  have hout := hv.out
  intro n
  induction n using Nat.strongRecOn with
  | _ n ih =>
    intro i w hn hi hil
    have hfl : (((l.take i).map cutRec).filter mayRec).length ≤ i := by
      refine Nat.le_trans (List.length_filter_le _ _) ?_
      rw [List.length_map, List.length_take]; omega
    refine WC_loop (WC_seq (WC_seq (WC_region ?_)))
    iterate 3 refine WO_step rfl (S_pure rfl ?_)
    refine WO_step rfl (S_idx rfl rfl rdA (by first | rfl | assumption | (symm; assumption)) (by rfl) (by first | assumption | omega | exact lt_of_get (by assumption) | (simp only [List.length_set]; first | assumption | omega | exact lt_of_get (by assumption))) fun hp33 => ?_)
    refine WO_step rfl (S_loadE rfl rdA (by first | rfl | assumption | (symm; assumption)) (by first | rfl | assumption | (symm; assumption)) (by first | rfl | assumption | (symm; assumption)) (by assumption) ?_)
    first | refine WO_step rfl (S_pure rfl ?_) | refine WO_step rfl (S_lenS rfl rdA ?_)
    iterate 2 refine WO_step rfl (S_pure rfl ?_)
    refine WO_cases (t := 37) rfl (fun hg1 => ?_) (fun hg1 => ?_)
    ·
     try simp only [bsT] at hg1
     obtain ⟨x, hx⟩ := get_of_lt hg1
     have hsn : (l.take (i + 1)).map cutRec = (l.take i).map cutRec ++ [cutRec x] := by rw [List.take_add_one, hx]; simp
     iterate 3 refine WO_step rfl (S_pure rfl ?_)
     refine WO_nil (KSeq_n ?_)
     refine WC_cond rfl (fun hb1 => ?_) (fun hb1 => ?_)
     ·
      try simp only [bsT] at hb1
      refine WC_skip (KSeq_n (WC_seq (WC_block (WC_seq (WC_region ?_)))))
      iterate 2 refine WO_step rfl (S_pure rfl ?_)
      refine WO_step rfl (S_idx rfl rfl rdA (by first | rfl | assumption | (symm; assumption)) (by rfl) (by first | assumption | omega | exact lt_of_get (by assumption) | (simp only [List.length_set]; first | assumption | omega | exact lt_of_get (by assumption))) fun hp45 => ?_)
      refine WO_step rfl (S_loadE rfl rdA (by first | rfl | assumption | (symm; assumption)) (by first | rfl | assumption | (symm; assumption)) (by first | rfl | assumption | (symm; assumption)) (by assumption) ?_)
      refine WO_step rfl (S_pure rfl ?_)
      refine WO_step rfl (S_idx rfl rfl rdA (by first | rfl | assumption | (symm; assumption)) (by rfl) (by first | assumption | omega | exact lt_of_get (by assumption) | (simp only [List.length_set]; first | assumption | omega | exact lt_of_get (by assumption))) fun hp48 => ?_)
      refine WO_step rfl (S_loadE rfl rdA (by first | rfl | assumption | (symm; assumption)) (by first | rfl | assumption | (symm; assumption)) (by first | rfl | assumption | (symm; assumption)) (by assumption) ?_)
      refine WO_call rfl rfl rfl ?_
      refine sp_Cut10.mono ?_
      rintro _ _ ⟨rfl, rfl⟩
      refine WO_step rfl (S_new fun i10 => ?_)
      first | refine WO_step rfl (S_storeT rfl rfl pkA (by rfl) (by rfl) ?_) | refine WO_step rfl (S_storeO rfl rfl pkA (by first | rfl | exact SV.cells1 _) (by rfl) (by first | rfl | exact SV.ones _) ?_)
      refine WO_nil (KSeq_n (WC_seq (WC_region ?_)))
      first | refine WO_step rfl (S_loadT rfl pkA (by rfl) (by rfl) ?_) | refine WO_step rfl (S_loadO rfl pkA (by rfl) (by rfl) ?_)
      refine WO_call rfl rfl rfl ?_
      refine sp_May.mono ?_
      rintro _ _ ⟨rfl, rfl⟩
      refine WO_nil (KSeq_n ?_)
      refine WC_cond rfl (fun hb2 => ?_) (fun hb2 => ?_)
      ·
       try simp only [bsT] at hb2
       refine WC_region ?_
       refine WO_step rfl (S_pure rfl ?_)
       first | refine WO_step rfl (S_loadT rfl pkA (by rfl) (by rfl) ?_) | refine WO_step rfl (S_loadO rfl pkA (by rfl) (by rfl) ?_)
       refine WO_step rfl (S_lit1 (T := TRec) rfl rfl rfl rfl fun w55 => ?_)
       refine WO_step rfl (S_app rfl rfl pkA (by first | exact SRC.str rfl rfl | (apply RD.src; repeat (first | assumption | exact RD.head | exact RD.nil | apply RD.tail))) (by rfl) (by rfl) (by (try simp only [List.length_append, List.length_cons, List.length_nil]); omega) fun w56 => ?_)
       refine WO_step rfl (S_pure rfl ?_)
       refine WO_nil (KBlock_n (KSeq_n (WC_region ?_)))
       refine WO_step rfl (S_pure rfl ?_)
       first | refine WO_step rfl (S_addN (b := 1) rfl rfl (by omega) ?_) | refine WO_step rfl (S_pure rfl ?_)
       refine WO_step rfl (S_pure rfl ?_)
       refine WO_nil (KLoop_n ?_)
       have := ih (15 - (i + 1)) (by omega) (i + 1) w56 rfl (by omega) (by omega)
       rw [hsn, List.filter_append, List.filter_cons, if_pos hb2] at this
       exact WC_weak this seA hsA
      ·
       try simp only [bsT] at hb2
       refine WC_skip (KBlock_n (KSeq_n (WC_region ?_)))
       refine WO_step rfl (S_pure rfl ?_)
       first | refine WO_step rfl (S_addN (b := 1) rfl rfl (by omega) ?_) | refine WO_step rfl (S_pure rfl ?_)
       refine WO_step rfl (S_pure rfl ?_)
       refine WO_nil (KLoop_n ?_)
       have := ih (15 - (i + 1)) (by omega) (i + 1) w rfl (by omega) (by omega)
       rw [hsn, List.filter_append, List.filter_cons, if_neg (by simp [hb2]), List.filter_nil, List.append_nil] at this
       exact WC_weak this seA hsA
     ·
      try simp only [bsT] at hb1
      refine WC_exit (KSeq_x (KLoop_x ?_))
      have e : l.take i = l.take 15 := by
        first
          | (rw [show i = 15 by omega])
          | (rw [List.take_of_length_le (by omega), List.take_of_length_le (by omega)])
      refine KPost_i (l' := [(0, v), (1, v1), (7, .int .i64 (si : Int)), (8, w.toV), (6, vw)]) (H' := SL w.toV TRec (srcJ l) :: H) seA ?_ ⟨w, rfl, rfl, rfl⟩
      rw [srcJ, ← e]; exact hsA
    ·
     try simp only [bsT] at hg1
     iterate 2 refine WO_off rfl ?_
     refine WO_step rfl (S_pure rfl ?_)
     refine WO_nil (KSeq_n ?_)
     refine WC_cond rfl (fun h => ?_) (fun _ => ?_)
     · exact absurd h (by decide)
     refine WC_exit (KSeq_x (KLoop_x ?_))
     have e : l.take i = l.take 15 := by
       first
         | (rw [show i = 15 by omega])
         | (rw [List.take_of_length_le (by omega), List.take_of_length_le (by omega)])
     refine KPost_i (l' := [(0, v), (1, v1), (7, .int .i64 (si : Int)), (8, w.toV), (6, vw)]) (H' := SL w.toV TRec (srcJ l) :: H) seA ?_ ⟨w, rfl, rfl, rfl⟩
     rw [srcJ, ← e]; exact hsA
theorem lp_SJ0 {H : SH} {v v1 : Value} {svs : List SV} {ls : List (List Rec)} (hv : Rds H v svs TRecs TRec ls) : ∀ (n si : Nat) (w : SV) (us : List SV) (B : SH), 4 - si = n → si ≤ 4 → si ≤ ls.length → HSub B H → us.length = si → (∀ (i : Nat) (sv : SV) (l : List Rec), us[i]? = some sv → ((ls.take si).map srcJ)[i]? = some l → RD B sv.toV TRec l) →
    WC F X (.loop L_loesslaw25_JobMerge_0) [(7, .int .i64 (si : Int)), (0, v), (1, v1), (6, w.toV)] (SL w.toV TRecs us :: B)
      (KPost fun x l' H' => ∃ (w : SV) (us : List SV) (B : SH), x = .exit 0 ∧ l' = [(1, v1), (6, w.toV)] ∧ H' = SL w.toV TRecs us :: B ∧ HSub B H ∧ us.length = (srcsJ ls).length ∧ (∀ (i : Nat) (sv : SV) (l : List Rec), us[i]? = some sv → (srcsJ ls)[i]? = some l → RD B sv.toV TRec l)) := by
  intro n
  induction n using Nat.strongRecOn with
  | _ n ih =>
    intro si w us B hn hi hil hB hus hins
    have hvB := hv.sub hB
    have hout := hvB.out
    have hlen := hvB.len
    refine WC_loop (WC_seq (WC_seq (WC_region ?_)))
    iterate 2 refine WO_step rfl (S_pure rfl ?_)
    refine WO_step rfl (S_lenS rfl hout.tail ?_)
    rw [hlen]
    iterate 2 refine WO_step rfl (S_pure rfl ?_)
    refine WO_cases (t := 24) rfl (fun hg1 => ?_) (fun hg1 => ?_)
    ·
     try simp only [bsT] at hg1
     obtain ⟨l, hl1⟩ := get_of_lt hg1
     obtain ⟨sv, hsv⟩ := get_of_lt (l := svs) (a := si) (by rw [hlen]; exact hg1)
     iterate 3 refine WO_step rfl (S_pure rfl ?_)
     refine WO_nil (KSeq_n ?_)
     refine WC_cond rfl (fun hb1 => ?_) (fun hb1 => ?_)
     ·
      try simp only [bsT] at hb1
      refine WC_skip (KSeq_n (WC_seq (WC_block (WC_seq (WC_region ?_)))))
      refine WO_step rfl (S_pure rfl ?_)
      refine WO_nil (KSeq_n (WC_seq (WC_seq (WC_region ?_))))
      refine WO_step rfl (S_pure rfl ?_)
      refine WO_nil (KSeq_n (WC_block ?_))
      refine WC_view (H' := SL (SV.toV .nil) TRec [] :: SL w.toV TRecs us :: B) (fun h hh => (HAg.addNil hh)) ?_
      refine WC_post (WC_weak (lp_SJ1 (vw := w.toV) (v1 := v1) (hvB.sub (HSub.refl.drop : HSub (SL w.toV TRecs us :: B) B)) hsv hl1 15 0 .nil (by omega) (by omega) (by omega)) seA (by simp only [List.take_zero, List.map_nil, List.filter_nil]; exact hsA)) ?_
      rintro y l' H' ⟨u, rfl, rfl, rfl⟩
      refine KBlock_h (KSeq_n (WC_region ?_))
      iterate 2 refine WO_step rfl (S_pure rfl ?_)
      refine WO_step rfl (S_litSV (T := TRecs) (w := u) rfl rfl rfl rfl fun w59 => ?_)
      refine WO_step rfl (S_app rfl rfl pkA (by first | exact SRC.str rfl rfl | (apply RD.src; repeat (first | assumption | exact RD.head | exact RD.nil | apply RD.tail))) (by rfl) (by rfl) (by (try simp only [List.length_append, List.length_cons, List.length_nil]); omega) fun w60 => ?_)
      refine WO_step rfl (S_pure rfl ?_)
      refine WO_nil (KBlock_n (KSeq_n (WC_region ?_)))
      refine WO_step rfl (S_pure rfl ?_)
      first | refine WO_step rfl (S_addN (b := 1) rfl rfl (by omega) ?_) | refine WO_step rfl (S_pure rfl ?_)
      refine WO_step rfl (S_pure rfl ?_)
      refine WO_nil (KLoop_n ?_)
      have htk : (ls.take (si + 1)).map srcJ = (ls.take si).map srcJ ++ [srcJ l] := by rw [List.take_add_one, hl1]; simp
      refine WC_weak (ih (4 - (si + 1)) (by omega) (si + 1) w60 (us ++ [u]) (SL u.toV TRec (srcJ l) :: B) rfl (by omega) (by omega) hB.drop (by simp [hus]) ?_) seA hsA
      intro i sv' l2 h1 h2
      rw [htk] at h2
      have hml : ((ls.take si).map srcJ).length = si := by simp; omega
      by_cases hii : i < si
      · rw [List.getElem?_append_left (by omega)] at h1 h2
        exact (hins i sv' l2 h1 h2).tail
      · have hlt := (List.getElem?_eq_some_iff.1 h1).1
        simp at hlt
        have : i = si := by omega
        subst this
        rw [List.getElem?_append_right (by omega), show i - us.length = 0 by omega] at h1
        rw [List.getElem?_append_right (by omega), show i - ((ls.take i).map srcJ).length = 0 by omega] at h2
        simp at h1 h2; subst h1 h2
        exact RD.head
     ·
      try simp only [bsT] at hb1
      refine WC_exit (KSeq_x (KLoop_x ?_))
      have e : ls.take si = ls.take 4 := by
        first
          | (rw [show si = 4 by omega])
          | (rw [List.take_of_length_le (by omega), List.take_of_length_le (by omega)])
      rw [e] at hins
      exact KPost_i (l' := [(1, v1), (6, w.toV)]) (H' := SL w.toV TRecs us :: B) seA hsA ⟨w, us, B, rfl, rfl, rfl, hB, by rw [srcsJ, ← e, List.length_map, List.length_take]; omega, hins⟩
    ·
     try simp only [bsT] at hg1
     iterate 2 refine WO_off rfl ?_
     refine WO_step rfl (S_pure rfl ?_)
     refine WO_nil (KSeq_n ?_)
     refine WC_cond rfl (fun h => ?_) (fun _ => ?_)
     · exact absurd h (by decide)
     refine WC_exit (KSeq_x (KLoop_x ?_))
     have e : ls.take si = ls.take 4 := by
       first
         | (rw [show si = 4 by omega])
         | (rw [List.take_of_length_le (by omega), List.take_of_length_le (by omega)])
     rw [e] at hins
     exact KPost_i (l' := [(1, v1), (6, w.toV)]) (H' := SL w.toV TRecs us :: B) seA hsA ⟨w, us, B, rfl, rfl, rfl, hB, by rw [srcsJ, ← e, List.length_map, List.length_take]; omega, hins⟩
theorem lp_JL {H : SH} {v1 vL : Value} {ns : List Int} {L : List Rec} {i m : Nat} (h1 : RD H v1 TInt ns) (hL : RD H vL TRec L) (hLl : L.length ≤ 100) : ∀ (K j d : Nat) (u w : SV), 20 - j = K → j ≤ 20 → d ≤ L.length →
    WC F X (.loop L_loesslaw25_JobMerge_2) [(14, .int .i64 (j : Int)), (1, v1), (11, vL), (12, .pointer (some ⟨i, 0, none⟩)), (13, .int .i64 (d : Int))] (JS i m u w (L.drop d) (pairsOf (L.take d)) H)
      (KPost fun y l' H' => ∃ (d : Nat) (u w : SV), d ≤ L.length ∧ y = .exit 4 ∧ l' = [(11, vL), (12, .pointer (some ⟨i, 0, none⟩))] ∧ H' = JS i m u w (L.drop d) (pairsOf (L.take d)) H) := by
  intro K
  induction K using Nat.strongRecOn with
  | _ K ih =>
    intro j d u w hK hj hd
    have hpl := pairsOf_len (L.take d)
    rw [List.length_take] at hpl
    have hdl : (L.drop d).length = L.length - d := List.length_drop
    unfold JS
    refine WC_loop (WC_seq (WC_seq (WC_region ?_)))
    iterate 2 refine WO_step rfl (S_pure rfl ?_)
    first | refine WO_step rfl (S_pure rfl ?_) | refine WO_step rfl (S_lenS rfl rdA ?_)
    iterate 2 refine WO_step rfl (S_pure rfl ?_)
    refine WO_cases (t := 69) rfl (fun hg1 => ?_) (fun hg1 => ?_)
    ·
     try simp only [bsT] at hg1
     obtain ⟨n, hn⟩ := get_of_lt hg1
     obtain ⟨k, hk⟩ : ∃ k : Nat, min (L.drop d).length n.toNat = k := ⟨_, rfl⟩
     iterate 3 refine WO_step rfl (S_pure rfl ?_)
     refine WO_nil (KSeq_n ?_)
     refine WC_cond rfl (fun hb1 => ?_) (fun hb1 => ?_)
     ·
      try simp only [bsT] at hb1
      refine WC_skip (KSeq_n (WC_seq (WC_block (WC_seq (WC_region ?_)))))
      iterate 2 refine WO_step rfl (S_pure rfl ?_)
      refine WO_step rfl (S_idx rfl rfl rdA (by first | rfl | assumption | (symm; assumption)) (by rfl) (by first | assumption | omega | exact lt_of_get (by assumption) | (simp only [List.length_set]; first | assumption | omega | exact lt_of_get (by assumption))) fun hp77 => ?_)
      refine WO_step rfl (S_loadE rfl rdA (by first | rfl | assumption | (symm; assumption)) (by first | rfl | assumption | (symm; assumption)) (by first | rfl | assumption | (symm; assumption)) (by assumption) ?_)
      refine WO_step rfl (S_pure rfl ?_)
      refine WO_nil (KSeq_n (WC_seq (WC_region ?_)))
      iterate 2 refine WO_step rfl (S_pure rfl ?_)
      first | refine WO_step rfl (S_pure rfl ?_) | refine WO_step rfl (S_lenS rfl rdA ?_)
      refine WO_step rfl (S_pure rfl ?_)
      first | refine WO_step rfl (S_subN rfl rfl (by omega) ?_) | refine WO_step rfl (S_pure rfl ?_)
      refine WO_step rfl (S_minJ (n := n) (r := L.length - d) rfl rfl ?_)
      refine WO_step rfl (S_maxJ (a := k) rfl (by split <;> split <;> omega) ?_)
      refine WO_step rfl (S_pure rfl ?_)
      refine WO_nil (KSeq_n (WC_seq (WC_seq (WC_region ?_))))
      refine WO_step rfl (S_pure rfl ?_)
      refine WO_call rfl rfl rfl ?_
      refine (WF.weak (sp_JDone (H := H) (i := i) (m := m) (u := u) (w := w) (R := L.drop d) (P := pairsOf (L.take d))) (by unfold JS; exact hsA)).mono ?_
      rintro _ _ ⟨rfl, rfl⟩
      have hie : (L.drop d).isEmpty = decide (d = L.length) := by
        rw [Bool.eq_iff_iff, List.isEmpty_iff, List.drop_eq_nil_iff]; simp; omega
      have hdd : ((d : Int) == (L.length : Int)) = decide (d = L.length) := by rw [Bool.eq_iff_iff]; simp; omega
      rw [hie]
      unfold JS
      iterate 2 refine WO_step rfl (S_pure rfl ?_)
      first | refine WO_step rfl (S_pure rfl ?_) | refine WO_step rfl (S_lenS rfl rdA ?_)
      first | refine WO_step rfl (S_eqS rfl rfl ?_) | refine WO_step rfl (S_pure rfl ?_)
      iterate 2 refine WO_step rfl (S_pure rfl ?_)
      refine WO_cases (t := 93) rfl (fun hg2 => ?_) (fun hg2 => ?_)
      ·
       try simp only [bsT] at hg2
       iterate 5 refine WO_off rfl ?_
       refine WO_step rfl (S_pure rfl ?_)
       refine WO_nil (KSeq_n ?_)
       refine WC_cond rfl (fun _ => ?_) (fun h => ?_)
       rotate_left
       · exact absurd h (by decide)
       refine WC_seq (WC_region ?_)
       refine WO_step rfl (S_pure rfl ?_)
       refine WO_nil (KSeq_n (WC_ret (KSeq_r (KBlock_r (KSeq_r (KLoop_r ?_))))))
       exact absurd hg2 (by rw [hdd]; simp)
      ·
       try simp only [bsT] at hg2
       iterate 2 refine WO_step rfl (S_pure rfl ?_)
       refine WO_call rfl rfl rfl ?_
       refine (WF.weak (sp_JWork (H := H) (i := i) (m := m) (n := n) (u := u) (w := w) (R := L.drop d) (P := pairsOf (L.take d)) (by omega) (by omega)) (by unfold JS; exact hsA)).mono ?_
       rintro _ _ ⟨u', w', rfl, rfl⟩
       rw [hk, pairs_step, List.drop_drop]
       have hpl2 := pairsOf_len (L.take (d + k))
       rw [List.length_take] at hpl2
       unfold JS
       refine WO_step rfl (S_pure rfl ?_)
       first | refine WO_step rfl (S_neS rfl rfl ?_) | refine WO_step rfl (S_pure rfl ?_)
       refine WO_step rfl (S_pure rfl ?_)
       refine WO_nil (KSeq_n ?_)
       refine WC_cond rfl (fun hb2 => ?_) (fun hb2 => ?_)
       ·
        try simp only [bsT] at hb2
        refine WC_seq (WC_region ?_)
        refine WO_step rfl (S_pure rfl ?_)
        refine WO_nil (KSeq_n (WC_ret (KSeq_r (KBlock_r (KSeq_r (KLoop_r ?_))))))
        exact absurd hb2 (by simp)
       ·
        try simp only [bsT] at hb2
        refine WC_skip (KSeq_n (WC_seq (WC_region ?_)))
        iterate 2 refine WO_step rfl (S_pure rfl ?_)
        first | refine WO_step rfl (S_addN rfl rfl (by omega) ?_) | refine WO_step rfl (S_pure rfl ?_)
        refine WO_step rfl (S_pure rfl ?_)
        refine WO_nil (KSeq_n (WC_seq (WC_region ?_)))
        refine WO_step rfl (S_pure rfl ?_)
        refine WO_call rfl rfl rfl ?_
        refine (WF.weak (sp_JPairs (H := H) (i := i) (m := m) (u := u') (w := w') (R := L.drop (d + k)) (P := pairsOf (L.take (d + k))) (by omega)) (by unfold JS; exact hsA)).mono ?_
        rintro _ _ ⟨z, rfl, rfl⟩
        unfold JS
        iterate 2 refine WO_step rfl (S_pure rfl ?_)
        refine WO_step rfl (S_cutV (a := 0) (b := d + k) rfl rdA (by rfl) LB.dflt (LB.mk rfl rfl) LB.dflt (by omega) (by omega) (by omega) ?_)
        refine WO_call rfl rfl rfl ?_
        have hsub := hL.subSl (es := 5) (lo := 0) (n := d + k) rfl (by omega)
        rw [List.drop_zero] at hsub
        refine (sp_Pairs (l := L.take (d + k)) rdA (by rw [List.length_take]; omega)).mono ?_
        rintro _ _ ⟨z2, rfl, rfl⟩
        refine WO_call rfl rfl rfl ?_
        refine (sp_EqPairs (l := pairsOf (L.take (d + k))) (m := pairsOf (L.take (d + k))) rdA rdA (by omega)).mono ?_
        rintro _ _ ⟨rfl, rfl⟩
        refine WO_step rfl (S_pure rfl ?_)
        refine WO_nil (KSeq_n ?_)
        refine WC_cond rfl (fun hb3 => ?_) (fun hb3 => ?_)
        ·
         try simp only [bsT] at hb3
         refine WC_seq (WC_region ?_)
         refine WO_step rfl (S_pure rfl ?_)
         refine WO_nil (KSeq_n (WC_ret (KBlock_r (KSeq_r (KLoop_r ?_)))))
         exact absurd hb3 (by simp)
        ·
         try simp only [bsT] at hb3
         refine WC_skip (KBlock_n (KSeq_n (WC_region ?_)))
         refine WO_step rfl (S_pure rfl ?_)
         first | refine WO_step rfl (S_addN (b := 1) rfl rfl (by omega) ?_) | refine WO_step rfl (S_pure rfl ?_)
         refine WO_step rfl (S_pure rfl ?_)
         refine WO_nil (KLoop_n ?_)
         exact WC_weak (ih (20 - (j + 1)) (by omega) (j + 1) (d + k) u' w' rfl (by omega) (by omega)) seA (by unfold JS; exact hsA)
     ·
      try simp only [bsT] at hb1
      refine WC_exit (KSeq_x (KLoop_x ?_))
      exact KPost_i (H' := JS i m u w (L.drop d) (pairsOf (L.take d)) H) seA (by unfold JS; exact hsA) ⟨d, u, w, hd, rfl, rfl, rfl⟩
    ·
     try simp only [bsT] at hg1
     iterate 2 refine WO_off rfl ?_
     refine WO_step rfl (S_pure rfl ?_)
     refine WO_nil (KSeq_n ?_)
     refine WC_cond rfl (fun h => ?_) (fun _ => ?_)
     · exact absurd h (by decide)
     refine WC_exit (KSeq_x (KLoop_x ?_))
     exact KPost_i (H' := JS i m u w (L.drop d) (pairsOf (L.take d)) H) seA (by unfold JS; exact hsA) ⟨d, u, w, hd, rfl, rfl, rfl⟩
theorem srcsJ_facts (ls : List (List Rec)) : (srcsJ ls).length ≤ 4 ∧ (srcsJ ls).flatten.length ≤ 60 ∧ short (srcsJ ls).flatten := by
  have h20 : ∀ l ∈ srcsJ ls, l.length ≤ 15 := fun l hl => by
    obtain ⟨x, _, rfl⟩ := List.mem_map.1 hl
    refine Nat.le_trans (List.length_filter_le _ _) ?_
    rw [List.length_map, List.length_take]; omega
  have h5 : (srcsJ ls).length ≤ 4 := by rw [srcsJ, List.length_map, List.length_take]; omega
  refine ⟨h5, ?_, ?_⟩
  · have key : ∀ L : List (List Rec), (∀ l ∈ L, l.length ≤ 15) → L.flatten.length ≤ 15 * L.length := by
      intro L
      induction L with
      | nil => simp
      | cons l L ih => intro h; have h1 := ih (fun x hx => h x (List.mem_cons_of_mem _ hx)); have h2 := h l (List.mem_cons_self ..); simp at h1 ⊢; omega
    have := key _ h20; omega
  · intro x hx
    obtain ⟨l, hl, hxl⟩ := List.mem_flatten.1 hx
    obtain ⟨y, _, rfl⟩ := List.mem_map.1 hl
    obtain ⟨z, _, rfl⟩ := List.mem_map.1 (List.mem_filter.1 hxl).1
    exact cut_size _ _
theorem mrgdJ_len (l : List Rec) : (mrgd l).length ≤ l.length := by
  have := ddp_len (isort (leOf ltR) l); rw [isort_len] at this; exact this
theorem law_JobMerge {H : SH} {v v1 : Value} {svs : List SV} {ls : List (List Rec)} {ns : List Int} (hv : Rds H v svs TRecs TRec ls) (hok : ∀ l ∈ ls, ∀ x ∈ l, okRec x) (h1 : RD H v1 TInt ns) (_ : ∀ x ∈ ns, (Lit.int .i64 x).wf = true) : WF F X f_loesslaw25_JobMerge [v, v1] H (fun r _ => r = .bool true) := by
  obtain ⟨f1, f2, f3⟩ := srcsJ_facts ls
  have hml := mrgdJ_len (srcsJ ls).flatten
  refine WF_fn F_loesslaw25_JobMerge ?_
  refine WC_seq (WC_region ?_)
  refine WO_step rfl (S_pure rfl ?_)
  refine WO_nil (KSeq_n (WC_seq (WC_region ?_)))
  refine WO_call rfl rfl rfl ?_
  refine sp_begunJ.mono ?_
  rintro _ H0 ⟨rfl, rfl⟩
  refine WO_step rfl (S_pure rfl ?_)
  refine WO_nil (KSeq_n (WC_seq (WC_seq (WC_region ?_))))
  iterate 2 refine WO_step rfl (S_pure rfl ?_)
  refine WO_nil (KSeq_n ?_)
  refine WC_cond rfl (fun hb1 => ?_) (fun hb1 => ?_)
  ·
   try simp only [bsT] at hb1
   exact absurd hb1 (by simp)
   --stop
  ·
   try simp only [bsT] at hb1
   refine WC_skip (KSeq_n (WC_seq (WC_region ?_)))
   refine WO_step rfl (S_pure rfl ?_)
   refine WO_nil (KSeq_n (WC_seq (WC_seq (WC_region ?_))))
   refine WO_step rfl (S_pure rfl ?_)
   refine WO_nil (KSeq_n (WC_block ?_))
   --out x0
   refine WC_view (H' := SL (SV.toV .nil) TRecs [] :: H0) (fun h hh => (HAg.addNil hh)) ?_
   refine WC_post (WC_weak (lp_SJ0 (v1 := v1) hv 4 0 .nil [] _ (by omega) (by omega) (by omega) HSub.refl rfl (by simp)) seA hsA) ?_
   rintro y l' H' ⟨w, us, B, rfl, rfl, rfl, hB, h2, h3⟩
   have hvS : Rds (SL w.toV TRecs us :: B) w.toV us TRecs TRec (srcsJ ls) := ⟨RD.head, h2, fun i sv l a b => (h3 i sv l a b).tail⟩
   refine KBlock_h (KSeq_n (WC_seq (WC_region ?_)))
   refine WO_step rfl (S_pure rfl ?_)
   refine WO_call rfl rfl rfl ?_
   refine (sp_InOrder hvS (by omega) (by omega) f3).mono ?_
   rintro _ _ ⟨wI, rfl, rfl⟩
   rw [inOrder_eq]
   refine WO_step rfl (S_pure rfl ?_)
   refine WO_nil (KSeq_n (WC_seq (WC_region ?_)))
   refine WO_step rfl (S_pure rfl ?_)
   refine WO_call rfl rfl rfl ?_
   refine (sp_NewMerge (hvS.sub (HSub.refl.drop)) (by omega) (by omega) f3).mono ?_
   rintro _ _ ⟨i, m, u, wj, rfl, rfl⟩
   obtain ⟨L, hL⟩ : ∃ L, mrgd (srcsJ ls).flatten = L := ⟨_, rfl⟩
   rw [hL] at hml ⊢
   refine WO_step rfl (S_pure rfl ?_)
   refine WO_nil (KSeq_n (WC_seq (WC_region ?_)))
   refine WO_step rfl (S_pure rfl ?_)
   refine WO_nil (KSeq_n (WC_seq (WC_seq (WC_region ?_))))
   refine WO_step rfl (S_pure rfl ?_)
   refine WO_nil (KSeq_n (WC_block ?_))
   --out x4
   refine WC_post (WC_weak (lp_JL (H := SL wI.toV TRec L :: B) (v1 := v1) (vL := wI.toV) (ns := ns) (L := L) (i := i) (m := m) (h1.sub hB).tail RD.head (by omega) 20 0 0 u wj (by omega) (by omega) (by omega)) seA (by unfold JS; exact hsA)) ?_
   rintro y l' _ ⟨d, u', w', hd, rfl, rfl, rfl⟩
   refine KBlock_h (KSeq_n (WC_seq (WC_region ?_)))
   refine WO_step rfl (S_pure rfl ?_)
   refine WO_call rfl rfl rfl ?_
   refine (sp_JWork (H := SL wI.toV TRec L :: B) (i := i) (m := m) (n := 1000) (u := u') (w := w') (R := L.drop d) (P := pairsOf (L.take d)) (by rw [List.length_drop]; omega) (by have := pairsOf_len (L.take d); rw [List.length_take] at this; omega)).mono ?_
   rintro _ _ ⟨u2, w2, rfl, rfl⟩
   have hmn : min (L.drop d).length (1000 : Int).toNat = L.length - d := by rw [List.length_drop]; show min (L.length - d) 1000 = _; omega
   rw [hmn, pairs_step, List.drop_drop, show d + (L.length - d) = L.length by omega, List.drop_length, List.take_length]
   have hpl := pairsOf_len L
   refine WO_nil (KSeq_n (WC_seq (WC_region ?_)))
   refine WO_step rfl (S_pure rfl ?_)
   refine WO_call rfl rfl rfl ?_
   refine sp_JDone.mono ?_
   rintro _ _ ⟨rfl, rfl⟩
   refine WO_step rfl (S_pure rfl ?_)
   refine WO_cases (t := 115) rfl (fun hg1 => ?_) (fun hg1 => ?_)
   ·
    try simp only [bsT] at hg1
    refine WO_step rfl (S_pure rfl ?_)
    refine WO_call rfl rfl rfl ?_
    refine (sp_JPairs (H := SL wI.toV TRec L :: B) (P := pairsOf L) (by omega)).mono ?_
    rintro _ _ ⟨z, rfl, rfl⟩
    unfold JS
    refine WO_step rfl (S_pure rfl ?_)
    refine WO_call rfl rfl rfl ?_
    refine (sp_Pairs (l := L) rdA (by omega)).mono ?_
    rintro _ _ ⟨z2, rfl, rfl⟩
    refine WO_call rfl rfl rfl ?_
    refine (sp_EqPairs (l := pairsOf L) (m := pairsOf L) rdA rdA (by omega)).mono ?_
    rintro _ _ ⟨rfl, rfl⟩
    iterate 2 refine WO_step rfl (S_pure rfl ?_)
    refine WO_nil (KSeq_n (WC_ret ?_))
    refine KFn_r (ResL.tmp rfl ResL.nil) ?_
    exact ⟨_, HSub.refl, by simp [resV]⟩
   ·
    try simp only [bsT] at hg1
    iterate 5 refine WO_off rfl ?_
    iterate 2 refine WO_step rfl (S_pure rfl ?_)
    refine WO_nil (KSeq_n (WC_ret ?_))
    refine KFn_r (ResL.tmp rfl ResL.nil) ?_
    exact absurd hg1 (by simp)

end Go.Proofs.Ytpgidiompdabdaa.AM
