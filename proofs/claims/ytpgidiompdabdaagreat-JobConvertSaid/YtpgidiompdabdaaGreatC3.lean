/- Walks: what the functions compute. -/
import Derived.Test.YtpgidiompdabdaaGreatDir
namespace Go.Proofs.YtpgidiompdabdaaGreat.AM
open Go
set_option linter.unusedSimpArgs false
set_option linter.unusedVariables false
set_option maxRecDepth 4000

/-! ### Hashes -/
theorem tmod7 (t : Nat) : t % 7 < 7 := Nat.mod_lt _ (by omega)
theorem sp_hFirst {H : SH} {h : Nat} (hh : h < 18446744073709551616) : WF F X f_hash_First [.int .u64 (h : Int)] H (fun r H' => H' = H ∧ r = .int .i64 ((frst h : Nat) : Int)) := by
  have := frst_lt h
  refine WF_fn F_hash_First ?_
  refine WC_seq (WC_region ?_)
  refine WO_step rfl (S_pure rfl ?_)
  refine WO_nil (KSeq_n (WC_seq (WC_region ?_)))
  refine WO_step rfl (S_pure rfl ?_)
  refine WO_step rfl (S_remU (m := 8) rfl rfl (by omega) ?_)
  refine WO_step rfl (S_toI (a := h % 8) rfl (by omega) ?_)
  refine WO_step rfl (S_pure rfl ?_)
  refine WO_nil (KSeq_n (WC_ret ?_))
  refine KFn_r (ResL.tmp rfl ResL.nil) ?_
  exact ⟨_, hsA, rfl, rfl⟩
theorem sp_hTag {H : SH} {h : Nat} (hh : h < 18446744073709551616) : WF F X f_hash_Tag [.int .u64 (h : Int)] H (fun r H' => H' = H ∧ r = .int .i64 ((tagOf h : Nat) : Int)) := by
  refine WF_fn F_hash_Tag ?_
  refine WC_seq (WC_region ?_)
  refine WO_step rfl (S_pure rfl ?_)
  refine WO_nil (KSeq_n (WC_seq (WC_region ?_)))
  refine WO_step rfl (S_pure rfl ?_)
  refine WO_step rfl (S_shr8 rfl ?_)
  refine WO_step rfl (S_remU (m := 32768) rfl rfl (by omega) ?_)
  refine WO_step rfl (S_toI (a := h / 256 % 32768) rfl (by omega) ?_)
  refine WO_step rfl (S_pure rfl ?_)
  refine WO_nil (KSeq_n (WC_ret ?_))
  refine KFn_r (ResL.tmp rfl ResL.nil) ?_
  exact ⟨_, hsA, rfl, rfl⟩
theorem sp_hOther {H : SH} {b t : Nat} (hb : b < 8) (ht : t < 32768) : WF F X f_hash_Other [.int .i64 (b : Int), .int .i64 (t : Int)] H (fun r H' => H' = H ∧ r = .int .i64 ((oth b t : Nat) : Int)) := by
  have ht7 := tmod7 t
  refine WF_fn F_hash_Other ?_
  refine WC_seq (WC_region ?_)
  refine WO_step rfl (S_pure rfl ?_)
  refine WO_nil (KSeq_n (WC_seq (WC_seq (WC_region ?_))))
  iterate 3 refine WO_step rfl (S_pure rfl ?_)
  refine WO_cases (t := 7) rfl (fun hg1 => ?_) (fun hg1 => ?_)
  ·
   try simp only [bsT] at hg1
   exfalso; omega
   --stop
  ·
   try simp only [bsT] at hg1
   iterate 4 refine WO_step rfl (S_pure rfl ?_)
   refine WO_cases (t := 11) rfl (fun hg2 => ?_) (fun hg2 => ?_)
   ·
    try simp only [bsT] at hg2
    exfalso; omega
    --stop
   ·
    try simp only [bsT] at hg2
    iterate 4 refine WO_step rfl (S_pure rfl ?_)
    refine WO_cases (t := 15) rfl (fun hg3 => ?_) (fun hg3 => ?_)
    ·
     try simp only [bsT] at hg3
     exfalso; omega
     --stop
    ·
     try simp only [bsT] at hg3
     iterate 3 refine WO_step rfl (S_pure rfl ?_)
     refine WO_nil (KSeq_n ?_)
     refine WC_cond rfl (fun hb1 => ?_) (fun hb1 => ?_)
     ·
      try simp only [bsT] at hb1
      exfalso; omega
      --stop
     ·
      try simp only [bsT] at hb1
      refine WC_skip (KSeq_n (WC_seq (WC_region ?_)))
      iterate 2 refine WO_step rfl (S_pure rfl ?_)
      refine WO_step rfl (S_remU (m := 7) rfl rfl (by omega) ?_)
      refine WO_step rfl (S_addN (a := 1) (b := t % 7) rfl rfl (by omega) ?_)
      refine WO_step rfl (S_xorI (a := b) (b := 1 + t % 7) rfl rfl (by omega) (by omega) ?_)
      refine WO_step rfl (S_pure rfl ?_)
      refine WO_nil (KSeq_n (WC_ret ?_))
      refine KFn_r (ResL.tmp rfl ResL.nil) ?_
      exact ⟨_, hsA, rfl, rfl⟩
theorem sp_both {H : SH} {h : Nat} (hh : h < 18446744073709551616) : WF F X f_cuckoo_both [.int .u64 (h : Int)] H (fun r H' => H' = H ∧ r = .agg #[.int .i64 ((frst h : Nat) : Int), .int .i64 ((oth (frst h) (tagOf h) : Nat) : Int)]) := by
  have h1 := frst_lt h
  have h2 := tagOf_lt h
  refine WF_fn F_cuckoo_both ?_
  refine WC_seq (WC_region ?_)
  refine WO_step rfl (S_new fun i2 => ?_)
  refine WO_nil (KSeq_n (WC_seq (WC_region ?_)))
  refine WO_step rfl (S_pure rfl ?_)
  refine WO_call rfl rfl rfl ?_
  refine (sp_hFirst (by omega)).mono ?_
  rintro _ _ ⟨rfl, rfl⟩
  refine WO_step rfl (S_pure rfl ?_)
  refine WO_nil (KSeq_n (WC_seq (WC_region ?_)))
  iterate 3 refine WO_step rfl (S_pure rfl ?_)
  refine WO_call rfl rfl rfl ?_
  refine (sp_hTag (by omega)).mono ?_
  rintro _ _ ⟨rfl, rfl⟩
  refine WO_call rfl rfl rfl ?_
  refine (sp_hOther (by assumption) (by assumption)).mono ?_
  rintro _ _ ⟨rfl, rfl⟩
  refine WO_step rfl (S_pure rfl ?_)
  first | refine WO_step rfl (S_storeT rfl rfl pkA (by rfl) (by rfl) ?_) | refine WO_step rfl (S_storeO rfl rfl pkA (by first | rfl | exact SV.cells1 _) (by rfl) (by first | rfl | exact SV.ones _) ?_)
  refine WO_nil (KSeq_n (WC_ret ?_))
  refine KFn_r (ResL.cell rfl pkA (Nat.le_of_ble_eq_true rfl) rfl ResL.nil) ?_
  exact ⟨_, hsA, rfl, rfl⟩
theorem sp_may {H : SH} {id : Int} : WF F X f_cuckoo_may [.int .i64 id] H (fun r H' => H' = H ∧ r = .bool (decide (0 ≤ id ∧ id ≤ 1099511627776))) := by
  refine WF_fn F_cuckoo_may ?_
  refine WC_seq (WC_region ?_)
  refine WO_step rfl (S_pure rfl ?_)
  refine WO_nil (KSeq_n (WC_seq (WC_region ?_)))
  iterate 3 refine WO_step rfl (S_pure rfl ?_)
  refine WO_cases (t := 5) rfl (fun hg1 => ?_) (fun hg1 => ?_)
  ·
   try simp only [bsT] at hg1
   iterate 4 refine WO_step rfl (S_pure rfl ?_)
   refine WO_nil (KSeq_n (WC_ret ?_))
   refine KFn_r (ResL.tmp rfl ResL.nil) ?_
   refine ⟨_, hsA, rfl, ?_⟩
   simp [resV, hg1]
  ·
   try simp only [bsT] at hg1
   iterate 2 refine WO_off rfl ?_
   iterate 2 refine WO_step rfl (S_pure rfl ?_)
   refine WO_nil (KSeq_n (WC_ret ?_))
   refine KFn_r (ResL.tmp rfl ResL.nil) ?_
   refine ⟨_, hsA, rfl, ?_⟩
   simp [resV, hg1]
theorem sp_free1 {H : SH} {e : Ent} : WF F X f_cuckoo_Dir_free_1 [TEnt.val e] H (fun r H' => H' = H ∧ r = .bool (!e.has)) := by
  refine WF_fn F_cuckoo_Dir_free_1 ?_
  refine WC_seq (WC_region ?_)
  refine WO_step rfl (S_box rfl rfl fun i1 => ?_)
  refine WO_step rfl (S_pure rfl ?_)
  refine WO_nil (KSeq_n (WC_seq (WC_region ?_)))
  refine WO_step rfl (S_pure rfl ?_)
  refine WO_step rfl (S_loadO rfl pkA (by rfl) (by rfl) ?_)
  iterate 2 refine WO_step rfl (S_pure rfl ?_)
  refine WO_nil (KSeq_n (WC_ret ?_))
  refine KFn_r (ResL.tmp rfl ResL.nil) ?_
  exact ⟨_, hsA, rfl, rfl⟩
theorem lp_idxF {H : SH} {v : Value} {l : List Ent} (hv : RD H v TEnt l) (hb : l.length < 1000000) : ∀ (n a : Nat), l.length - a = n → a ≤ l.length → idx0 a (l.drop a) = idx0 0 l →
    WC F X (.loop L_slices_IndexFunc_cuckoo_entry_0) [(8, .int .i64 a), (7, .int .i64 l.length), (0, v), (1, .func (.func f_cuckoo_Dir_free_1) #[] #[])] H (KPost fun x l' H' => H' = H ∧ ((∃ j : Nat, x = .ret ∧ l' = [(4, .int .i64 (j : Int))] ∧ idx0 0 l = (j : Int)) ∨ (x = .exit 0 ∧ l' = [] ∧ idx0 0 l = -1))) := by
  intro n
  induction n using Nat.strongRecOn with
  | _ n ih =>
    intro a hn ha hf
    refine WC_loop (WC_seq (WC_region ?_))
    refine WO_step rfl (S_pure rfl ?_)
    refine WO_nil (KSeq_n (WC_seq ?_))
    refine WC_cond rfl (fun hb1 => ?_) (fun hb1 => ?_)
    ·
     try simp only [bsT] at hb1
     obtain ⟨x, hx⟩ := get_of_lt hb1
     rw [drop_get hx, idx0] at hf
     refine WC_skip (KSeq_n (WC_seq (WC_block (WC_seq (WC_region ?_)))))
     iterate 2 refine WO_step rfl (S_pure rfl ?_)
     refine WO_nil (KSeq_n (WC_seq (WC_region ?_)))
     iterate 3 refine WO_step rfl (S_pure rfl ?_)
     refine WO_step rfl (S_idx rfl rfl rdA (by first | rfl | assumption | (symm; assumption)) (by rfl) (by first | assumption | omega | exact lt_of_get (by assumption) | (simp only [List.length_set]; first | assumption | omega | exact lt_of_get (by assumption))) fun hp14 => ?_)
     refine WO_step rfl (S_loadE rfl rdA (by first | rfl | assumption | (symm; assumption)) (by first | rfl | assumption | (symm; assumption)) (by first | rfl | assumption | (symm; assumption)) (by assumption) ?_)
     refine WO_call rfl rfl rfl ?_
     refine (sp_free1 (e := x)).mono ?_
     rintro _ _ ⟨rfl, rfl⟩
     refine WO_nil (KSeq_n ?_)
     refine WC_cond rfl (fun hb2 => ?_) (fun hb2 => ?_)
     ·
      try simp only [bsT] at hb2
      refine WC_seq (WC_region ?_)
      iterate 2 refine WO_step rfl (S_pure rfl ?_)
      refine WO_nil (KSeq_n (WC_ret (KBlock_r (KSeq_r (KLoop_r ?_)))))
      rw [if_neg (by simpa using hb2)] at hf
      exact KPost_i seA hsA ⟨rfl, .inl ⟨a, rfl, rfl, hf.symm⟩⟩
     ·
      try simp only [bsT] at hb2
      refine WC_skip (KBlock_n (KSeq_n (WC_region ?_)))
      first | refine WO_step rfl (S_addN (b := 1) rfl rfl (by omega) ?_) | refine WO_step rfl (S_pure rfl ?_)
      refine WO_step rfl (S_pure rfl ?_)
      refine WO_nil (KLoop_n ?_)
      rw [if_pos (by simpa using hb2)] at hf
      exact WC_weak (ih (l.length - (a + 1)) (by omega) (a + 1) rfl (by omega) hf) seA hsA
    ·
     try simp only [bsT] at hb1
     refine WC_exit (KSeq_x (KLoop_x ?_))
     rw [List.drop_of_length_le (by omega)] at hf
     exact KPost_i seA hsA ⟨rfl, .inr ⟨rfl, rfl, hf.symm⟩⟩
theorem sp_idxF {H : SH} {v : Value} {l : List Ent} (hv : RD H v TEnt l) (hb : l.length < 1000000) : WF F X f_slices_IndexFunc_cuckoo_entry [v, .func (.func f_cuckoo_Dir_free_1) #[] #[]] H (fun r H' => H' = H ∧ r = .int .i64 (idx0 0 l)) := by
  refine WF_fn F_slices_IndexFunc_cuckoo_entry ?_
  refine WC_seq (WC_region ?_)
  refine WO_step rfl (S_pure rfl ?_)
  refine WO_nil (KSeq_n (WC_seq (WC_seq (WC_region ?_))))
  refine WO_step rfl (S_pure rfl ?_)
  first | refine WO_step rfl (S_pure rfl ?_) | refine WO_step rfl (S_lenS rfl rdA ?_)
  refine WO_step rfl (S_pure rfl ?_)
  refine WO_nil (KSeq_n (WC_block ?_))
  --out r x0
  refine WC_post (WC_weak (lp_idxF hv hb l.length 0 (by omega) (by omega) rfl) seA hsA) ?_
  rintro x l' H' ⟨rfl, ⟨j, rfl, rfl, hj⟩ | ⟨rfl, rfl, hj⟩⟩
  ·
   rw [hj]
   refine KBlock_r (KSeq_r ?_)
   refine KFn_r (ResL.tmp rfl ResL.nil) ?_
   exact ⟨_, hsA, rfl, rfl⟩
  ·
   rw [hj]
   refine KBlock_h (KSeq_n (WC_seq (WC_region ?_)))
   refine WO_step rfl (S_pure rfl ?_)
   refine WO_nil (KSeq_n (WC_ret ?_))
   refine KFn_r (ResL.tmp rfl ResL.nil) ?_
   exact ⟨_, hsA, rfl, rfl⟩
theorem sp_free {H H0 : SH} {i n b : Nat} {es : List Ent} (hl : es.length = 32) (hp : Pick (DO i es n) H H0) (hb : b < 8) : WF F X f_cuckoo_Dir_free [.pointer (some ⟨i, 0, none⟩), .int .i64 (b : Int)] H (fun r H' => H' = H ∧ r = .int .i64 (frI es b)) := by
  refine WF_fn F_cuckoo_Dir_free ?_
  refine WC_seq (WC_region ?_)
  refine WO_step rfl (S_pure rfl ?_)
  refine WO_nil (KSeq_n (WC_seq (WC_region ?_)))
  iterate 4 refine WO_step rfl (S_pure rfl ?_)
  refine WO_step rfl (S_idxA rfl rfl rfl hb ?_)
  refine WO_step rfl (S_cutB hl rfl hp (by omega) hb ?_)
  refine WO_call rfl rfl rfl ?_
  refine (sp_idxF (RD.bucket hl hp hb) (by rw [List.length_take]; omega)).mono ?_
  rintro _ _ ⟨rfl, rfl⟩
  refine WO_step rfl (S_pure rfl ?_)
  refine WO_nil (KSeq_n (WC_ret ?_))
  refine KFn_r (ResL.tmp rfl ResL.nil) ?_
  exact ⟨_, hsA, rfl, rfl⟩
theorem sp_reach {H : SH} {i6 i7 im k : Nat} {st : Stp} {w : SV} {mp : MpS} {td : List Nat} (hl : td.length < 1000) : WF F X f_cuckoo_Dir_way_1 [.int .i64 (k : Int), TStp.val st, .pointer (some ⟨i6, 0, none⟩), .pointer (some ⟨i7, 0, none⟩)] (OB i6 TMp im :: OB i7 TSV w :: MPS im mp :: SL w.toV TNat td :: H)
    (fun r H' => ∃ mp' td' w', Rch k st mp td mp' td' ∧ H' = OB i6 TMp im :: OB i7 TSV w' :: MPS im mp' :: SL w'.toV TNat td' :: H) := by
  refine WF_fn F_cuckoo_Dir_way_1 ?_
  refine WC_seq (WC_region ?_)
  refine WO_step rfl (S_box rfl rfl fun i5 => ?_)
  refine WO_nil (KSeq_n (WC_seq (WC_region ?_)))
  refine WO_step rfl (S_loadO rfl pkA (by rfl) (by rfl) ?_)
  refine WO_step rfl (S_pure rfl ?_)
  refine WO_step rfl (S_lookSO rfl rfl rfl pkA fun v11 => ?_)
  iterate 3 refine WO_step rfl (S_pure rfl ?_)
  refine WO_step rfl (S_newT TStp ⟨0, 0⟩ rfl rfl fun i6' => ?_)
  refine WO_step rfl (S_storeO rfl rfl pkA (by first | rfl | exact SV.cells1 _) (by rfl) (by first | rfl | exact SV.ones _) ?_)
  refine WO_step rfl (S_pure rfl ?_)
  refine WO_nil (KSeq_n (WC_seq (WC_region ?_)))
  iterate 2 refine WO_step rfl (S_pure rfl ?_)
  refine WO_nil (KSeq_n ?_)
  refine WC_cond rfl (fun hb1 => ?_) (fun hb1 => ?_)
  ·
   try simp only [bsT] at hb1
   refine WC_seq (WC_region ?_)
   refine WO_step rfl (S_loadO rfl pkA (by rfl) (by rfl) ?_)
   refine WO_step rfl (S_pure rfl ?_)
   first | refine WO_step rfl (S_loadT rfl pkA (by rfl) (by rfl) ?_) | refine WO_step rfl (S_loadO rfl pkA (by rfl) (by rfl) ?_)
   -- op (.upd .i (.tmp 16) (.tmp 17) (.tmp 18))
   refine WO_step rfl (S_updS (y := st) rfl rfl rfl pkA hb1 ?_)
   refine WO_nil (KSeq_n (WC_region ?_))
   refine WO_step rfl (S_loadO rfl pkA (by rfl) (by rfl) ?_)
   refine WO_step rfl (S_pure rfl ?_)
   refine WO_step rfl (S_lit1 (T := TNat) (y := k) rfl rfl rfl rfl fun w21 => ?_)
   refine WO_step rfl (S_app rfl rfl pkA (by first | exact SRC.str rfl rfl | (apply RD.src; repeat (first | assumption | exact RD.head | exact RD.nil | apply RD.tail))) (by rfl) (by rfl) (by (try simp only [List.length_append, List.length_cons, List.length_nil]); omega) fun w22 => ?_)
   refine WO_step rfl (S_storeT (T := TSV) (y := w22) rfl rfl pkA (by rfl) (by rfl) ?_)
   refine WO_nil ?_
   refine KFn_n ResL.nil ?_
   exact ⟨OB i6 TMp im :: OB i7 TSV w22 :: MPS im (mp ++ [(k, st)]) :: SL w22.toV TNat (td ++ [k]) :: H, hsA, mp ++ [(k, st)], td ++ [k], w22, .inr ⟨hb1, rfl, rfl⟩, rfl⟩
  ·
   try simp only [bsT] at hb1
   refine WC_skip ?_
   refine KFn_n ResL.nil ?_
   exact ⟨OB i6 TMp im :: OB i7 TSV w :: MPS im mp :: SL w.toV TNat td :: H, hsA, mp, td, w, .inl ⟨hb1, rfl, rfl⟩, rfl⟩
theorem HAg.recut4 {α : Type} {T : Ty α} {H : SH} {h : AH} {a b c : Res} {w : SV} {x : α} {xs : List α} {es : Nat} (he : es = T.es) (hh : HAg (a :: b :: c :: SL w.toV T (x :: xs) :: H) h) : HAg (a :: b :: c :: SL (w.sub es 1 ((x :: xs).length - 1)).toV T xs :: H) h := by
  have h1 := hh.perm (List.perm_middle (l₁ := [a, b, c]) (a := SL w.toV T (x :: xs)) (l₂ := H))
  have h2 := HAg.recutSL (lo := 1) (n := xs.length) he (by simp; omega) h1
  simp only [List.drop_succ_cons, List.drop_zero, List.take_length] at h2
  exact h2.perm (List.perm_middle (l₁ := [a, b, c]) (l₂ := H)).symm
def wayF (i6 i7 : Nat) : Value := .func (.func f_cuckoo_Dir_way_1) #[] #[.pointer (some ⟨i6, 0, none⟩), .pointer (some ⟨i7, 0, none⟩)]
theorem lp_way_0 {H : SH} {es : List Ent} {h i i6 i7 im f o : Nat} (hf : f = frst h) (ho : o = oth (frst h) (tagOf h)) : ∀ (n a : Nat) (mp : MpS) (td : List Nat) (w : SV), 2 - a = n → a ≤ 2 → WInv es h [] [] td mp → (1 ≤ a → f ∈ td) → (2 ≤ a → o ∈ td) →
    WC F X (.loop L_cuckoo_Dir_way_0) [(18, .int .i64 (a : Int)), (17, .agg #[.int .i64 (f : Int), .int .i64 (o : Int)]), (8, wayF i6 i7), (0, .pointer (some ⟨i, 0, none⟩)), (6, .pointer (some ⟨i6, 0, none⟩)), (7, .pointer (some ⟨i7, 0, none⟩))] (OB i6 TMp im :: OB i7 TSV w :: MPS im mp :: SL w.toV TNat td :: H)
      (KPost fun x l' H' => ∃ mp' td' w', x = .exit 0 ∧ l' = [(8, wayF i6 i7), (0, .pointer (some ⟨i, 0, none⟩)), (6, .pointer (some ⟨i6, 0, none⟩)), (7, .pointer (some ⟨i7, 0, none⟩))] ∧ H' = OB i6 TMp im :: OB i7 TSV w' :: MPS im mp' :: SL w'.toV TNat td' :: H ∧ WInv es h [] [] td' mp' ∧ f ∈ td' ∧ o ∈ td') := by
  intro n
  induction n using Nat.strongRecOn with
  | _ n ih =>
    intro a mp td w hn ha hw h1 h2
    have hlen := hw.len
    refine WC_loop (WC_seq (WC_region ?_))
    refine WO_step rfl (S_pure rfl ?_)
    refine WO_nil (KSeq_n (WC_seq ?_))
    refine WC_cond rfl (fun hb1 => ?_) (fun hb1 => ?_)
    ·
     try simp only [bsT] at hb1
     refine WC_skip (KSeq_n (WC_seq (WC_block (WC_seq (WC_region ?_)))))
     obtain ⟨v, hv, hv8⟩ : ∃ v, (a = 0 ∧ v = f ∨ a = 1 ∧ v = o) ∧ v < 8 := by
       have e1 := frst_lt h
       have e2 := oth_lt (t := tagOf h) e1
       have h0 : a = 0 ∨ a = 1 := by omega
       rcases h0 with h0 | h0
       · exact ⟨f, .inl ⟨h0, rfl⟩, by omega⟩
       · exact ⟨o, .inr ⟨h0, rfl⟩, by omega⟩
     refine WO_step rfl (S_idxPair (v := .int .i64 (v : Int)) rfl rfl rfl (by rcases hv with ⟨rfl, rfl⟩ | ⟨rfl, rfl⟩ <;> rfl) ?_)
     refine WO_step rfl (S_pure rfl ?_)
     refine WO_nil (KSeq_n (WC_region ?_))
     iterate 3 refine WO_step rfl (S_pure rfl ?_)
     refine WO_call rfl rfl rfl ?_
     refine (sp_reach (k := v) (st := ⟨-1, 0⟩) (by simp at hlen; omega)).mono ?_
     rintro _ _ ⟨mp', td', w', hr, rfl⟩
     obtain ⟨hw', hm, hsub⟩ := hw.reach hr (.inl ⟨rfl, by rcases hv with ⟨_, rfl⟩ | ⟨_, rfl⟩ <;> simp [hf, ho]⟩) hv8
     refine WO_nil (KBlock_n (KSeq_n (WC_region ?_)))
     first | refine WO_step rfl (S_addN (b := 1) rfl rfl (by omega) ?_) | refine WO_step rfl (S_pure rfl ?_)
     refine WO_step rfl (S_pure rfl ?_)
     refine WO_nil (KLoop_n ?_)
     refine WC_weak (ih (2 - (a + 1)) (by omega) (a + 1) mp' td' w' rfl (by omega) hw' (fun _ => ?_) (fun _ => ?_)) seA hsA
     · rcases hv with ⟨_, rfl⟩ | ⟨_, rfl⟩
       · simpa using hm
       · have := hsub f (by simpa using h1 (by omega)); simpa using this
     · rcases hv with ⟨_, rfl⟩ | ⟨_, rfl⟩
       · omega
       · simpa using hm
    ·
     try simp only [bsT] at hb1
     refine WC_exit (KSeq_x (KLoop_x ?_))
     exact KPost_i seA hsA ⟨mp, td, w, rfl, rfl, rfl, hw, h1 (by omega), h2 (by omega)⟩
theorem lp_way_2 {H : SH} {es : List Ent} {h i i6 i7 im b : Nat} {dn : List Nat} (g : Good es) (hb : b < 8) (hbd : b ∈ dn) (hfull : ∀ s, s < 4 → (at' es (b * 4 + s)).has = true) (sh kk : List Nat) : ∀ (n a : Nat) (mp : MpS) (td : List Nat) (w : SV), 4 - a = n → a ≤ 4 → WInv es h sh dn td mp → (∀ x ∈ kk, x ∈ dn ++ td) → (∀ s, s < a → oth b (at' es (b * 4 + s)).tag ∈ dn ++ td) →
    WC F X (.loop L_cuckoo_Dir_way_2) [(46, .int .i64 (a : Int)), (45, .agg (TEnt.cells ((es.drop (b * 4)).take 4)).toArray), (11, .int .i64 (b : Int)), (8, wayF i6 i7), (0, .pointer (some ⟨i, 0, none⟩)), (6, .pointer (some ⟨i6, 0, none⟩)), (7, .pointer (some ⟨i7, 0, none⟩))] (OB i6 TMp im :: OB i7 TSV w :: MPS im mp :: SL w.toV TNat td :: H)
      (KPost fun x l' H' => ∃ mp' td' w', x = .exit 4 ∧ l' = [(8, wayF i6 i7), (0, .pointer (some ⟨i, 0, none⟩)), (6, .pointer (some ⟨i6, 0, none⟩)), (7, .pointer (some ⟨i7, 0, none⟩))] ∧ H' = OB i6 TMp im :: OB i7 TSV w' :: MPS im mp' :: SL w'.toV TNat td' :: H ∧ WInv es h sh dn td' mp' ∧ (∀ x ∈ kk, x ∈ dn ++ td') ∧ (∀ s, s < 4 → oth b (at' es (b * 4 + s)).tag ∈ dn ++ td')) := by
  intro n
  induction n using Nat.strongRecOn with
  | _ n ih =>
    intro a mp td w hn ha hw hkk h1
    have hlen := hw.len
    refine WC_loop (WC_seq (WC_region ?_))
    refine WO_step rfl (S_pure rfl ?_)
    refine WO_nil (KSeq_n (WC_seq ?_))
    refine WC_cond rfl (fun hb1 => ?_) (fun hb1 => ?_)
    ·
     try simp only [bsT] at hb1
     refine WC_skip (KSeq_n (WC_seq (WC_block (WC_seq (WC_region ?_)))))
     refine WO_step rfl (S_pure rfl ?_)
     have hke : ((es.drop (b * 4)).take 4)[a]? = some (at' es (b * 4 + a)) := by
       rw [List.getElem?_take, if_pos (by omega), List.getElem?_drop]; exact at_get (by have := g.len; omega)
     refine WO_step rfl (S_idxEnt rfl rfl rfl (by omega) hke ?_)
     refine WO_step rfl (S_newT TEnt ent0 rfl rfl fun i13 => ?_)
     refine WO_step rfl (S_pure rfl ?_)
     refine WO_step rfl (S_storeO rfl rfl pkA (by first | rfl | exact SV.cells1 _) (by rfl) (by first | rfl | exact SV.ones _) ?_)
     refine WO_nil (KSeq_n (WC_region ?_))
     iterate 3 refine WO_step rfl (S_pure rfl ?_)
     refine WO_step rfl (S_loadO rfl pkA (by rfl) (by rfl) ?_)
     refine WO_call rfl rfl rfl ?_
     have htg := g.tag (b * 4 + a) (by omega)
     refine (sp_hOther hb htg).mono ?_
     rintro _ _ ⟨rfl, rfl⟩
     iterate 3 refine WO_step rfl (S_pure rfl ?_)
     refine WO_call rfl rfl rfl ?_
     refine (WF.weak (sp_reach (H := OB i13 TEnt (at' es (b * 4 + a)) :: H) (k := oth b (at' es (b * 4 + a)).tag) (st := ⟨b, a⟩) (i6 := i6) (i7 := i7) (im := im) (w := w) (mp := mp) (td := td) (by omega)) hsA).mono ?_
     rintro _ _ ⟨mp', td', w', hr, rfl⟩
     obtain ⟨hw', hm, hsub⟩ := hw.reach hr (.inr ⟨b, a, rfl, by rw [hw.keys]; exact List.mem_append_left _ hbd, hb, by omega, hfull a (by omega), rfl⟩) (oth_lt hb)
     refine WO_nil (KBlock_n (KSeq_n (WC_region ?_)))
     first | refine WO_step rfl (S_addN (b := 1) rfl rfl (by omega) ?_) | refine WO_step rfl (S_pure rfl ?_)
     refine WO_step rfl (S_pure rfl ?_)
     refine WO_nil (KLoop_n ?_)
     refine WC_weak (ih (4 - (a + 1)) (by omega) (a + 1) mp' td' w' rfl (by omega) hw' (fun x hx => hsub x (hkk x hx)) (fun s hs => ?_)) seA hsA
     by_cases e : s = a
     · subst e; exact hm
     · exact hsub _ (h1 s (by omega))
    ·
     try simp only [bsT] at hb1
     refine WC_exit (KSeq_x (KLoop_x ?_))
     exact KPost_i seA hsA ⟨mp, td, w, rfl, rfl, rfl, hw, hkk, fun s hs => h1 s (by omega)⟩
theorem lp_way_1 {H H0 : SH} {es : List Ent} {h i i6 i7 im nn f o : Nat} (g : Good es) (hp : Pick (DO i es nn) H H0) (hf : f = frst h) (ho : o = oth (frst h) (tagOf h)) : ∀ (n : Nat) (dn td : List Nat) (mp : MpS) (w : SV), 8 - dn.length = n → WInv es h dn dn td mp → (∀ x ∈ [f, o], x ∈ dn ++ td) →
    WC F X (.loop L_cuckoo_Dir_way_1) [(8, wayF i6 i7), (0, .pointer (some ⟨i, 0, none⟩)), (6, .pointer (some ⟨i6, 0, none⟩)), (7, .pointer (some ⟨i7, 0, none⟩))] (OB i6 TMp im :: OB i7 TSV w :: MPS im mp :: SL w.toV TNat td :: H)
      (KPost fun x l' H' => (∃ (b : Nat) (mp' : MpS), x = .ret ∧ l' = [(4, .int .i64 (b : Int)), (5, .map (some im))] ∧ H' = MPS im mp' :: H ∧ b < 8 ∧ Chain es h mp' ∧ b ∈ ksOf mp' ∧ 0 ≤ frI es b) ∨ (x = .exit 2 ∧ l' = [] ∧ H' = H ∧ NoWay es h)) := by
  intro n
  induction n using Nat.strongRecOn with
  | _ n ih =>
    intro dn td mp w hn hw hfo
    have hlen := hw.len
    refine WC_loop (WC_seq (WC_seq (WC_region ?_)))
    refine WO_step rfl (S_loadO rfl pkA (by rfl) (by rfl) ?_)
    first | refine WO_step rfl (S_pure rfl ?_) | refine WO_step rfl (S_lenS rfl rdA ?_)
    refine WO_step rfl (S_pure rfl ?_)
    refine WO_nil (KSeq_n ?_)
    refine WC_cond rfl (fun hb1 => ?_) (fun hb1 => ?_)
    ·
     try simp only [bsT] at hb1
     obtain ⟨b, td, rfl⟩ : ∃ b t, td = b :: t := by
       cases td with
       | nil => exact absurd hb1 (by simp)
       | cons b t => exact ⟨b, t, rfl⟩
     have hx0 : (b :: td)[0]? = some b := rfl
     have hb8 : b < 8 := hw.lt b (by simp)
     simp only [List.length_cons] at hlen
     refine WC_skip (KSeq_n (WC_block (WC_seq (WC_region ?_))))
     refine WO_step rfl (S_loadO rfl pkA (by rfl) (by rfl) ?_)
     refine WO_step rfl (S_idx (j := 0) rfl rfl rdA (by first | rfl | assumption | (symm; assumption)) (by rfl) (by first | assumption | omega | exact lt_of_get (by assumption) | (simp only [List.length_set]; first | assumption | omega | exact lt_of_get (by assumption))) fun hp30 => ?_)
     refine WO_step rfl (S_loadE rfl rdA (by first | rfl | assumption | (symm; assumption)) (by first | rfl | assumption | (symm; assumption)) (by first | rfl | assumption | (symm; assumption)) (by assumption) ?_)
     refine WO_step rfl (S_pure rfl ?_)
     refine WO_nil (KSeq_n (WC_seq (WC_region ?_)))
     refine WO_step rfl (S_loadO rfl pkA (by rfl) (by rfl) ?_)
     refine WO_step rfl (S_cut (a := 1) (b := (b :: td).length) (m := (b :: td).length) rfl rdA (by rfl) (LB.mk rfl rfl) LB.dflt LB.dflt (by simp) (by omega) (by omega) ?_)
     refine WO_step rfl (S_storeT (T := TSV) (y := w.sub 1 1 ((b :: td).length - 1)) rfl rfl pkA (by rfl) (by rfl) ?_)
     refine WO_view (H' := OB i7 TSV (w.sub 1 1 ((b :: td).length - 1)) :: OB i6 TMp im :: MPS im mp :: SL (w.sub 1 1 ((b :: td).length - 1)).toV TNat td :: H) (fun a ha => HAg.recut4 rfl ha) ?_
     have hw2 := hw.pop
     refine WO_nil (KSeq_n (WC_seq (WC_seq (WC_region ?_))))
     iterate 2 refine WO_step rfl (S_pure rfl ?_)
     refine WO_call rfl rfl rfl ?_
     refine (sp_free g.len (by repeat (first | exact hp | exact Pick.head | apply Pick.tail)) hb8).mono ?_
     rintro _ _ ⟨rfl, rfl⟩
     refine WO_step rfl (S_pure rfl ?_)
     refine WO_nil (KSeq_n ?_)
     refine WC_cond rfl (fun hb2 => ?_) (fun hb2 => ?_)
     ·
      try simp only [bsT] at hb2
      refine WC_seq (WC_region ?_)
      refine WO_step rfl (S_pure rfl ?_)
      refine WO_step rfl (S_loadO rfl pkA (by rfl) (by rfl) ?_)
      iterate 2 refine WO_step rfl (S_pure rfl ?_)
      refine WO_nil (KSeq_n (WC_ret (KSeq_r (KBlock_r (KLoop_r ?_)))))
      exact KPost_i seA hsA (.inl ⟨b, mp, rfl, rfl, rfl, hb8, hw.toChain, by rw [hw.keys]; simp, hb2⟩)
     ·
      try simp only [bsT] at hb2
      refine WC_skip (KSeq_n (WC_seq (WC_region ?_)))
      iterate 4 refine WO_step rfl (S_pure rfl ?_)
      refine WO_step rfl (S_idxA rfl rfl rfl hb8 ?_)
      refine WO_step rfl (S_loadB (b := b) g.len rfl (by repeat (first | exact hp | exact Pick.head | apply Pick.tail)) (by omega) hb8 ?_)
      have hfull := frI_lt g.len hb8 hb2
      refine WO_step rfl (S_pure rfl ?_)
      refine WO_nil (KSeq_n (WC_block ?_))
      --out x4
      refine WC_post (WC_weak (lp_way_2 (i := i) (i6 := i6) (i7 := i7) (im := im) (H := H) g hb8 (by simp) hfull dn [f, o] 4 0 mp td (w.sub 1 1 ((b :: td).length - 1)) (by omega) (by omega) hw2 (fun x hx => by have := hfo x hx; simpa using this) (by simp)) seA hsA) ?_
      rintro x l' H' ⟨mp', td', w', rfl, rfl, rfl, hw3, hfo3, hall⟩
      refine KBlock_h (KBlock_n (KLoop_n ?_))
      exact WC_weak (ih (8 - (dn ++ [b]).length) (by simp; omega) (dn ++ [b]) td' mp' w' rfl (hw3.close fun s hs => ⟨hfull s hs, hall s hs⟩) hfo3) seA hsA
    ·
     try simp only [bsT] at hb1
     refine WC_exit (KSeq_x (KLoop_x ?_))
     have htd : td = [] := by
       cases td with
       | nil => rfl
       | cons b t => exact absurd hb1 (by simp)
     subst htd
     exact KPost_i seA hsA (.inr ⟨rfl, rfl, rfl, hw.noWay (by rw [← hf]; simpa using hfo f (by simp)) (by rw [← ho]; simpa using hfo o (by simp))⟩)
theorem sp_way {H H0 : SH} {es : List Ent} {h i nn : Nat} (g : Good es) (hp : Pick (DO i es nn) H H0) (hh : h < 18446744073709551616) : WF F X f_cuckoo_Dir_way [.pointer (some ⟨i, 0, none⟩), .int .u64 (h : Int)] H (fun r H' => ∃ (bI : Int) (mv : Value) (R : SH), r = .tuple #[.int .i64 bI, mv] ∧ H' = R ++ H ∧
    (0 ≤ bI → ∃ (b im : Nat) (mp : MpS), bI = (b : Int) ∧ b < 8 ∧ mv = .map (some im) ∧ R = [MPS im mp] ∧ Chain es h mp ∧ b ∈ ksOf mp ∧ 0 ≤ frI es b) ∧ (bI < 0 → NoWay es h)) := by
  refine WF_fn F_cuckoo_Dir_way ?_
  refine WC_seq (WC_region ?_)
  iterate 2 refine WO_step rfl (S_pure rfl ?_)
  refine WO_nil (KSeq_n (WC_seq (WC_region ?_)))
  refine WO_step rfl (S_mkMapS fun i14 => ?_)
  refine WO_step rfl (S_new fun i6 => ?_)
  first | refine WO_step rfl (S_storeT rfl rfl pkA (by rfl) (by rfl) ?_) | refine WO_step rfl (S_storeO rfl rfl pkA (by first | rfl | exact SV.cells1 _) (by rfl) (by first | rfl | exact SV.ones _) ?_)
  refine WO_nil (KSeq_n (WC_seq (WC_region ?_)))
  refine WO_step rfl (S_newT TSV .nil rfl rfl fun i7 => ?_)
  refine WO_nil (KSeq_n (WC_seq (WC_region ?_)))
  iterate 2 refine WO_step rfl (S_pure rfl ?_)
  refine WO_nil (KSeq_n (WC_seq (WC_seq (WC_region ?_))))
  refine WO_step rfl (S_pure rfl ?_)
  refine WO_call rfl rfl rfl ?_
  refine (sp_both (by omega)).mono ?_
  rintro _ _ ⟨rfl, rfl⟩
  refine WO_step rfl (S_pure rfl ?_)
  refine WO_nil (KSeq_n (WC_block ?_))
  --out x0
  refine WC_view (H' := SL (SV.toV .nil) TNat [] :: OB i7 TSV .nil :: OB i6 TMp i14 :: MPS i14 [] :: H) (fun a ha => HAg.addNil ha) ?_
  refine WC_post (WC_weak (lp_way_0 (es := es) (H := H) (h := h) (i := i) (i6 := i6) (i7 := i7) (im := i14) rfl rfl 2 0 [] [] .nil (by omega) (by omega) (WInv.init es h) (by simp) (by simp)) seA hsA) ?_
  rintro x l' H' ⟨mp', td', w', rfl, rfl, rfl, hw3, hf3, ho3⟩
  refine KBlock_h (KSeq_n (WC_seq (WC_block ?_)))
  --out r x2
  refine WC_post (WC_weak (lp_way_1 (H := H) (i := i) (i6 := i6) (i7 := i7) (im := i14) g hp rfl rfl 8 [] td' mp' w' rfl hw3 (by intro x hx; simp at hx; rcases hx with rfl | rfl <;> simpa)) seA hsA) ?_
  rintro x l' H' (⟨b, mp2, rfl, rfl, rfl, h1, h2, h3, h4⟩ | ⟨rfl, rfl, rfl, h1⟩)
  ·
   refine KBlock_r (KSeq_r ?_)
   refine KFn_r (ResL.tmp rfl (ResL.tmp rfl ResL.nil)) ?_
   exact ⟨_, HSub.refl, b, _, [MPS i14 mp2], rfl, rfl, fun _ => ⟨b, i14, mp2, rfl, h1, rfl, rfl, h2, h3, h4⟩, fun hlt => by omega⟩
  ·
   refine KBlock_h (KSeq_n (WC_seq (WC_region ?_)))
   iterate 2 refine WO_step rfl (S_pure rfl ?_)
   refine WO_nil (KSeq_n (WC_ret ?_))
   refine KFn_r (ResL.tmp rfl (ResL.tmp rfl ResL.nil)) ?_
   exact ⟨_, HSub.refl, -1, _, [], rfl, rfl, fun hge => by omega, fun _ => h1⟩
theorem lp_ins {H : SH} {es : List Ent} {h i im n : Nat} {id : Int} {mp : MpS} (c : Chain es h mp) : ∀ (p : Nat) (es' : List Ent) (b s : Nat), JInv es h mp es' p b s →
    WC F X (.loop L_cuckoo_Dir_Insert_0) [(7, .int .i64 (b : Int)), (8, .map (some im)), (9, .int .i64 (s : Int)), (0, .pointer (some ⟨i, 0, none⟩)), (1, .int .u64 (h : Int)), (2, .int .i64 id)] (MPS im mp :: DO i es' n :: H)
      (KPost fun x l' H' => ∃ (es2 : List Ent) (b2 s2 p2 : Nat) (st : Stp), x = .exit 0 ∧ l' = [(7, .int .i64 (b2 : Int)), (9, .int .i64 (s2 : Int)), (0, .pointer (some ⟨i, 0, none⟩)), (1, .int .u64 (h : Int)), (2, .int .i64 id)] ∧ H' = DO i es2 n :: H ∧ JInv es h mp es2 p2 b2 s2 ∧ mp[p2]? = some (b2, st) ∧ st.b < 0) := by
  intro p
  induction p using Nat.strongRecOn with
  | _ p ih =>
    intro es' b s hj
    obtain ⟨⟨sb, ss⟩, hst⟩ := hj.pos
    have hlk := look_at c.nd hst
    have hb8 := c.key_lt hst
    have hs4 := hj.s4
    have hg := hj.good
    refine WC_loop (WC_seq (WC_seq (WC_region ?_)))
    iterate 2 refine WO_step rfl (S_pure rfl ?_)
    refine WO_step rfl (S_lookS rfl rfl pkA hlk ?_)
    iterate 2 refine WO_step rfl (S_pure rfl ?_)
    refine WO_nil (KSeq_n ?_)
    refine WC_cond rfl (fun hb1 => ?_) (fun hb1 => ?_)
    ·
     try simp only [bsT] at hb1
     obtain ⟨b2, s2, e1⟩ : ∃ b2 s2 : Nat, (⟨sb, ss⟩ : Stp) = ⟨(b2 : Int), (s2 : Int)⟩ := by
       rcases c.chain p b _ hst with ⟨h1, _⟩ | ⟨b', s', h1, _⟩
       · simp only at h1; omega
       · exact ⟨b', s', h1⟩
     simp only [Stp.mk.injEq] at e1
     obtain ⟨rfl, rfl⟩ := e1
     obtain ⟨hb2, hs2, q, hq, hj2⟩ := hj.step c hst
     refine WC_skip (KSeq_n (WC_block (WC_seq (WC_region ?_))))
     iterate 2 refine WO_step rfl (S_pure rfl ?_)
     refine WO_step rfl (S_lookS rfl rfl pkA hlk ?_)
     refine WO_step rfl (S_newT TStp ⟨0, 0⟩ rfl rfl fun i10 => ?_)
     refine WO_step rfl (S_storeO rfl rfl pkA (by first | rfl | exact SV.cells1 _) (by rfl) (by first | rfl | exact SV.ones _) ?_)
     refine WO_nil (KSeq_n (WC_seq (WC_region ?_)))
     iterate 5 refine WO_step rfl (S_pure rfl ?_)
     refine WO_step rfl (S_loadO rfl pkA (by rfl) (by rfl) ?_)
     refine WO_step rfl (S_pure rfl ?_)
     refine WO_step rfl (S_loadO rfl pkA (by rfl) (by rfl) ?_)
     iterate 2 refine WO_step rfl (S_pure rfl ?_)
     refine WO_step rfl (S_idxA rfl rfl rfl hb2 ?_)
     refine WO_step rfl (S_idxA rfl rfl rfl hs2 ?_)
     refine WO_step rfl (S_loadEnt (k := b2 * 4 + s2) hg.len rfl pkA (by omega) (by omega) ?_)
     iterate 2 refine WO_step rfl (S_pure rfl ?_)
     refine WO_step rfl (S_idxA rfl rfl rfl hb8 ?_)
     refine WO_step rfl (S_idxA rfl rfl rfl hs4 ?_)
     refine WO_step rfl (S_storeEnt (k := b * 4 + s) hg.len rfl rfl pkA (by omega) (by omega) ?_)
     refine WO_nil (KSeq_n (WC_region ?_))
     refine WO_step rfl (S_pure rfl ?_)
     refine WO_step rfl (S_loadO rfl pkA (by rfl) (by rfl) ?_)
     refine WO_step rfl (S_pure rfl ?_)
     refine WO_step rfl (S_loadO rfl pkA (by rfl) (by rfl) ?_)
     iterate 2 refine WO_step rfl (S_pure rfl ?_)
     refine WO_nil (KBlock_n (KLoop_n ?_))
     exact WC_weak (ih q hq _ b2 s2 hj2) seA hsA
    ·
     try simp only [bsT] at hb1
     refine WC_exit (KSeq_x (KLoop_x ?_))
     exact KPost_i seA hsA ⟨es', b, s, p, ⟨sb, ss⟩, rfl, rfl, rfl, hj, hst, by simpa using hb1⟩
theorem sp_ins {H H0 : SH} {es : List Ent} {h i n : Nat} {id : Int} (g : Good es) (hp : Pick (DO i es n) H H0) (hh : h < 18446744073709551616) (hn : n < 1000000) : WF F X f_cuckoo_Dir_Insert [.pointer (some ⟨i, 0, none⟩), .int .u64 (h : Int), .int .i64 id] H (fun r H' => ∃ (es' : List Ent) (n' : Nat) (ok : Bool), r = .bool ok ∧ H' = DO i es' n' :: H0 ∧ Good es' ∧
    (ok = true → n' = n + 1 ∧ (0 ≤ id ∧ id ≤ 1099511627776) ∧ InsOk es h id es') ∧ (ok = false → es' = es ∧ n' = n ∧ ((0 ≤ id ∧ id ≤ 1099511627776) → NoWay es h))) := by
  refine WF_fn F_cuckoo_Dir_Insert ?_
  refine WC_seq (WC_region ?_)
  refine WO_step rfl (S_pure rfl ?_)
  refine WO_nil (KSeq_n (WC_seq (WC_seq (WC_region ?_))))
  iterate 3 refine WO_step rfl (S_pure rfl ?_)
  refine WO_cases (t := 13) rfl (fun hg1 => ?_) (fun hg1 => ?_)
  ·
   try simp only [bsT] at hg1
   exact absurd hg1 (by simp)
   --stop
  ·
   try simp only [bsT] at hg1
   refine WO_step rfl (S_pure rfl ?_)
   refine WO_call rfl rfl rfl ?_
   refine sp_may.mono ?_
   rintro _ _ ⟨rfl, rfl⟩
   iterate 2 refine WO_step rfl (S_pure rfl ?_)
   refine WO_nil (KSeq_n ?_)
   refine WC_cond rfl (fun hb1 => ?_) (fun hb1 => ?_)
   ·
    try simp only [bsT] at hb1
    refine WC_seq (WC_region ?_)
    refine WO_step rfl (S_pure rfl ?_)
    refine WO_nil (KSeq_n (WC_ret (KSeq_r ?_)))
    refine KFn_r (ResL.tmp rfl ResL.nil) ?_
    exact ⟨_, hp.sub, es, n, false, rfl, rfl, g, fun h => (by cases h), fun _ => ⟨rfl, rfl, fun hm => absurd hm hb1⟩⟩
   ·
    try simp only [bsT] at hb1
    refine WC_skip (KSeq_n (WC_seq (WC_region ?_)))
    iterate 2 refine WO_step rfl (S_pure rfl ?_)
    refine WO_call rfl rfl rfl ?_
    refine (sp_way g hp hh).mono ?_
    rintro _ _ ⟨bI, mv, R, rfl, rfl, hge, hlt⟩
    iterate 5 refine WO_step rfl (S_pure rfl ?_)
    refine WO_nil (KSeq_n (WC_seq (WC_seq (WC_region ?_))))
    iterate 2 refine WO_step rfl (S_pure rfl ?_)
    refine WO_nil (KSeq_n ?_)
    refine WC_cond rfl (fun hb2 => ?_) (fun hb2 => ?_)
    ·
     try simp only [bsT] at hb2
     refine WC_seq (WC_region ?_)
     refine WO_step rfl (S_pure rfl ?_)
     refine WO_nil (KSeq_n (WC_ret (KSeq_r ?_)))
     refine KFn_r (ResL.tmp rfl ResL.nil) ?_
     exact ⟨_, (HSub.app (L := R)).trans hp.sub, es, n, false, rfl, rfl, g, fun h => (by cases h), fun _ => ⟨rfl, rfl, fun _ => hlt hb2⟩⟩
    ·
     try simp only [bsT] at hb2
     obtain ⟨b, im, mp, rfl, hb8, rfl, rfl, hch, hbk, hfr⟩ := hge (by omega)
     obtain ⟨s, hs, hs4, hfree⟩ := frI_ge g.len hb8 hfr
     refine WC_skip (KSeq_n (WC_seq (WC_region ?_)))
     iterate 2 refine WO_step rfl (S_pure rfl ?_)
     refine WO_call rfl rfl rfl ?_
     refine (sp_free g.len (.tail hp) hb8).mono ?_
     rintro _ _ ⟨rfl, rfl⟩
     rw [hs]
     obtain ⟨x0, hx0, hxe⟩ := List.mem_map.1 hbk
     obtain ⟨xk, xst⟩ := x0
     simp only at hxe
     subst hxe
     obtain ⟨p0, hp0⟩ := List.getElem?_of_mem hx0
     refine WO_step rfl (S_pure rfl ?_)
     refine WO_nil (KSeq_n (WC_seq (WC_block ?_)))
     --out x0
     refine WC_post (WC_weak (lp_ins (H := H0) (n := n) (i := i) (id := id) (im := im) hch p0 es xk s (JInv.init g hp0 hb8 hs4 hfree)) seA (HSub.pick .head (HSub.pick hp HSub.refl))) ?_
     rintro x l' H' ⟨es2, b2, s2, p2, st, rfl, rfl, rfl, hj2, hp2, hneg⟩
     obtain ⟨hgood, hins⟩ := hj2.done (id := id) hch hp2 hneg
     have hb2 := hch.key_lt hp2
     have hs2 := hj2.s4
     have hg2 := hj2.good
     have hlen : (es2.set (b2 * 4 + s2) ⟨true, id, tagOf h⟩).length = 32 := by rw [List.length_set]; exact hg2.len
     refine KBlock_h (KSeq_n (WC_seq (WC_region ?_)))
     iterate 5 refine WO_step rfl (S_pure rfl ?_)
     refine WO_call rfl rfl rfl ?_
     refine (sp_hTag (by omega)).mono ?_
     rintro _ _ ⟨rfl, rfl⟩
     iterate 3 refine WO_step rfl (S_pure rfl ?_)
     refine WO_step rfl (S_idxA rfl rfl rfl hb2 ?_)
     refine WO_step rfl (S_idxA rfl rfl rfl hs2 ?_)
     refine WO_step rfl (S_storeEnt (k := b2 * 4 + s2) (e := ⟨true, id, tagOf h⟩) hg2.len rfl rfl pkA (by omega) (by omega) ?_)
     refine WO_nil (KSeq_n (WC_seq (WC_region ?_)))
     iterate 3 refine WO_step rfl (S_pure rfl ?_)
     refine WO_step rfl (S_loadN hlen rfl pkA ?_)
     first | refine WO_step rfl (S_addN (b := 1) rfl rfl (by omega) ?_) | refine WO_step rfl (S_pure rfl ?_)
     iterate 2 refine WO_step rfl (S_pure rfl ?_)
     refine WO_step rfl (S_storeN hlen rfl rfl pkA ?_)
     refine WO_nil (KSeq_n (WC_seq (WC_region ?_)))
     refine WO_step rfl (S_pure rfl ?_)
     refine WO_nil (KSeq_n (WC_ret ?_))
     refine KFn_r (ResL.tmp rfl ResL.nil) ?_
     exact ⟨_, HSub.refl, _, n + 1, true, rfl, rfl, hgood, fun _ => ⟨rfl, by simpa using hb1, hins⟩, fun h => (by cases h)⟩
theorem sp_New {H : SH} : WF F X f_cuckoo_New [] H (fun r H' => ∃ i, H' = DO i (List.replicate 32 ent0) 0 :: H ∧ r = .pointer (some ⟨i, 0, none⟩)) := by
  refine WF_fn F_cuckoo_New ?_
  refine WC_seq (WC_region ?_)
  refine WO_step rfl (S_pure rfl ?_)
  refine WO_nil (KSeq_n (WC_seq (WC_region ?_)))
  refine WO_step rfl (S_pure rfl ?_)
  refine WO_step rfl (S_box rfl rfl fun i2 => ?_)
  refine WO_step rfl (S_pure rfl ?_)
  refine WO_nil (KSeq_n (WC_ret ?_))
  refine KFn_r (ResL.tmp rfl ResL.nil) ?_
  exact ⟨_, HSub.refl, i2, rfl, rfl⟩

end Go.Proofs.YtpgidiompdabdaaGreat.AM
