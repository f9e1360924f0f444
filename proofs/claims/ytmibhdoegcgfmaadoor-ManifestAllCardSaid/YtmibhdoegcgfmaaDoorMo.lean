/- Walks: what the functions compute. -/
import Derived.Test.YtmibhdoegcgfmaaDoorMf
import Derived.Test.YtmibhdoegcgfmaaDoorSs
namespace Go.Proofs.YtmibhdoegcgfmaaDoor.AM
open Go
set_option linter.unusedSimpArgs false
set_option linter.unusedVariables false
set_option maxRecDepth 4000

/-! ### Manifests -/
abbrev mfV (n f s : Int) (h : SV) : Value := .agg #[.int .i64 n, .int .i64 f, .int .i64 s, h.toV]
def TI64 : Ty Int := Ty.ofOne 2 8 (fun n => .int .i64 n) (fun _ => rfl)
def inB (xs : List ByteArray) (s : ByteArray) : Bool := xs.any fun y => decide (y = s)
theorem inB_iff {xs : List ByteArray} {s : ByteArray} : inB xs s = true ↔ s ∈ xs := by
  unfold inB
  rw [List.any_eq_true]
  constructor
  · rintro ⟨y, h1, h2⟩; rw [← of_decide_eq_true h2]; exact h1
  · intro h; exact ⟨s, h, decide_eq_true rfl⟩
theorem sp_Of {H : SH} {n f s : Int} {h : SV} : WF F X f_loesslaw24_Of [mfV n f s h] H (fun r H' => H' = H ∧ r = mfV n f s h) := by
  refine WF_fn F_loesslaw24_Of ?_
  refine WC_seq ?_
  refine WC_region ?_
  refine WO_step rfl (S_box rfl (by cases h <;> rfl) fun i1 => ?_)
  refine WO_step rfl (S_new fun i2 => ?_)
  refine WO_nil ?_
  refine KSeq_n ?_
  refine WC_seq ?_
  refine WC_region ?_
  refine WO_step rfl (S_pure rfl ?_)
  refine WO_step rfl (S_loadO rfl (by repeat (first | exact Pick.head | apply Pick.tail)) (by rfl) (by rfl) ?_)
  refine WO_step rfl (S_pure rfl ?_)
  refine WO_step rfl (S_loadO rfl (by repeat (first | exact Pick.head | apply Pick.tail)) (by rfl) (by rfl) ?_)
  refine WO_step rfl (S_pure rfl ?_)
  refine WO_step rfl (S_loadO rfl (by repeat (first | exact Pick.head | apply Pick.tail)) (by rfl) (by rfl) ?_)
  refine WO_step rfl (S_pure rfl ?_)
  refine WO_step rfl (S_loadO rfl (by repeat (first | exact Pick.head | apply Pick.tail)) (by rfl) (by rfl) ?_)
  refine WO_step rfl (S_pureE (v := mfV n f s h) (by cases h <;> rfl) rfl ?_)
  refine WO_step rfl (S_storeO rfl rfl (by repeat (first | exact Pick.head | apply Pick.tail)) (by rfl) (by rfl) (by cases h <;> rfl) ?_)
  refine WO_nil ?_
  refine KSeq_n ?_
  refine WC_ret ?_
  refine KFn_r (ResL.cell rfl (by repeat (first | exact Pick.head | apply Pick.tail)) (Nat.le_of_ble_eq_true rfl) rfl ResL.nil) ?_
  exact ⟨_, (by repeat (first | exact HSub.refl | refine HSub.pick (by repeat (first | exact Pick.head | apply Pick.tail)) ?_ | apply HSub.drop)), rfl, rfl⟩
theorem lp_sidx {H : SH} {v : Value} {xs : List ByteArray} {s : ByteArray} (hv : RD H v TS xs) (hL : xs.length ≤ 1000000) : ∀ (n i : Nat), xs.length - i = n → i ≤ xs.length → (∀ y ∈ xs.take i, y ≠ s) →
    WC F X (.loop L_slices_Index_string_0) [(8, .int .i64 (i : Int)), (7, .int .i64 (xs.length : Int)), (0, v), (1, .string s)] H
      (KPost fun x l' H' => H' = H ∧ ((x = .exit 0 ∧ l' = [] ∧ s ∉ xs) ∨ (x = .ret ∧ ∃ k : Nat, l' = [(4, .int .i64 (k : Int))] ∧ s ∈ xs))) := by
  intro n
  induction n using Nat.strongRecOn with
  | _ n ih =>
    intro i hn hi hno
    refine WC_loop ?_
    refine WC_seq ?_
    refine WC_region ?_
    refine WO_step rfl (S_pure rfl ?_)
    refine WO_nil ?_
    refine KSeq_n ?_
    refine WC_seq ?_
    refine WC_cond rfl (fun hb1 => ?_) (fun hb1 => ?_)
    ·
      try simp only [decide_eq_true_eq, decide_eq_false_iff_not, Bool.not_eq_true', Bool.not_eq_false', beq_iff_eq, bne_iff_ne, beq_eq_false_iff_ne, Int.ofNat_lt, Int.ofNat_le, Int.ofNat_inj, ne_eq, gt_iff_lt, ge_iff_le] at hb1
      obtain ⟨y, hx⟩ := get_of_lt hb1
      refine WC_skip ?_
      refine KSeq_n ?_
      refine WC_seq ?_
      refine WC_block ?_
      refine WC_seq ?_
      refine WC_region ?_
      refine WO_step rfl (S_pure rfl ?_)
      refine WO_step rfl (S_pure rfl ?_)
      refine WO_nil ?_
      refine KSeq_n ?_
      refine WC_seq ?_
      refine WC_region ?_
      refine WO_step rfl (S_pure rfl ?_)
      refine WO_step rfl (S_pure rfl ?_)
      refine WO_step rfl (S_pure rfl ?_)
      refine WO_step rfl (S_idx rfl rfl (by repeat (first | assumption | exact RD.head | exact RD.nil | apply RD.tail)) (by first | rfl | assumption | (symm; assumption)) (by rfl) (by first | assumption | omega | exact lt_of_get (by assumption) | (simp only [List.length_set]; first | assumption | omega | exact lt_of_get (by assumption))) fun hp14 => ?_)
      refine WO_step rfl (S_loadE rfl (by repeat (first | assumption | exact RD.head | exact RD.nil | apply RD.tail)) (by first | rfl | assumption | (symm; assumption)) (by first | rfl | assumption | (symm; assumption)) (by first | rfl | assumption | (symm; assumption)) (by assumption) ?_)
      first | refine WO_step rfl (S_eqS rfl rfl ?_) | refine WO_step rfl (S_pure rfl ?_)
      refine WO_nil ?_
      refine KSeq_n ?_
      refine WC_cond rfl (fun hb2 => ?_) (fun hb2 => ?_)
      ·
        try simp only [decide_eq_true_eq, decide_eq_false_iff_not, Bool.not_eq_true', Bool.not_eq_false', beq_iff_eq, bne_iff_ne, beq_eq_false_iff_ne, Int.ofNat_lt, Int.ofNat_le, Int.ofNat_inj, ne_eq, gt_iff_lt, ge_iff_le] at hb2
        refine WC_seq ?_
        refine WC_region ?_
        refine WO_step rfl (S_pure rfl ?_)
        refine WO_step rfl (S_pure rfl ?_)
        refine WO_nil ?_
        refine KSeq_n ?_
        refine WC_ret ?_
        refine KBlock_r ?_
        refine KSeq_r ?_
        refine KLoop_r ?_
        exact KPost_i (l' := [(4, .int .i64 (i : Int))]) (by repeat (first | exact SubE.nil | apply SubE.cons rfl)) (by repeat (first | exact HSub.refl | refine HSub.pick (by repeat (first | exact Pick.head | apply Pick.tail)) ?_ | apply HSub.drop)) ⟨rfl, .inr ⟨rfl, i, rfl, by rw [hb2]; exact List.mem_of_getElem? hx⟩⟩
      ·
        try simp only [decide_eq_true_eq, decide_eq_false_iff_not, Bool.not_eq_true', Bool.not_eq_false', beq_iff_eq, bne_iff_ne, beq_eq_false_iff_ne, Int.ofNat_lt, Int.ofNat_le, Int.ofNat_inj, ne_eq, gt_iff_lt, ge_iff_le] at hb2
        refine WC_skip ?_
        refine KBlock_n ?_
        refine KSeq_n ?_
        refine WC_region ?_
        first | refine WO_step rfl (S_addN (b := 1) rfl rfl (by omega) ?_) | refine WO_step rfl (S_pure rfl ?_)
        refine WO_step rfl (S_pure rfl ?_)
        refine WO_nil ?_
        refine KLoop_n ?_
        refine WC_weak (ih (xs.length - (i + 1)) (by omega) (i + 1) rfl (by omega) (fun z hz => ?_)) (by repeat (first | exact SubE.nil | apply SubE.cons rfl)) (by repeat (first | exact HSub.refl | refine HSub.pick (by repeat (first | exact Pick.head | apply Pick.tail)) ?_ | apply HSub.drop))
        rw [List.take_add_one, hx] at hz
        rcases List.mem_append.1 hz with hz | hz
        · exact hno z hz
        · simp at hz; subst hz; exact fun e => hb2 e.symm
    ·
      try simp only [decide_eq_true_eq, decide_eq_false_iff_not, Bool.not_eq_true', Bool.not_eq_false', beq_iff_eq, bne_iff_ne, beq_eq_false_iff_ne, Int.ofNat_lt, Int.ofNat_le, Int.ofNat_inj, ne_eq, gt_iff_lt, ge_iff_le] at hb1
      refine WC_exit ?_
      refine KSeq_x ?_
      refine KLoop_x ?_
      have ei : i = xs.length := by omega
      subst ei
      exact KPost_i (l' := []) SubE.nil (by repeat (first | exact HSub.refl | refine HSub.pick (by repeat (first | exact Pick.head | apply Pick.tail)) ?_ | apply HSub.drop)) ⟨rfl, .inl ⟨rfl, rfl, fun hm => hno s (by simpa using hm) rfl⟩⟩
theorem sp_sidx {H : SH} {v : Value} {xs : List ByteArray} {s : ByteArray} (hv : RD H v TS xs) (hL : xs.length ≤ 1000000) : WF F X f_slices_Index_string [v, .string s] H (fun r H' => H' = H ∧ ∃ J : Int, r = .int .i64 J ∧ (0 ≤ J ↔ s ∈ xs)) := by
  refine WF_fn F_slices_Index_string ?_
  refine WC_seq ?_
  refine WC_region ?_
  refine WO_step rfl (S_pure rfl ?_)
  refine WO_nil ?_
  refine KSeq_n ?_
  refine WC_seq ?_
  refine WC_seq ?_
  refine WC_region ?_
  refine WO_step rfl (S_pure rfl ?_)
  first | refine WO_step rfl (S_pure rfl ?_) | refine WO_step rfl (S_lenS rfl (by repeat (first | assumption | exact RD.head | exact RD.nil | apply RD.tail)) ?_)
  refine WO_step rfl (S_pure rfl ?_)
  refine WO_nil ?_
  refine KSeq_n ?_
  refine WC_block ?_
  --out r x0
  refine WC_post (WC_weak (lp_sidx (s := s) hv hL xs.length 0 (by omega) (by omega) (by simp)) (by repeat (first | exact SubE.nil | apply SubE.cons rfl)) (by repeat (first | exact HSub.refl | refine HSub.pick (by repeat (first | exact Pick.head | apply Pick.tail)) ?_ | apply HSub.drop))) ?_
  rintro x l' _ ⟨rfl, ⟨rfl, rfl, hno⟩ | ⟨rfl, k, rfl, hin⟩⟩
  rotate_left
  ·
    refine KBlock_r ?_
    refine KSeq_r ?_
    refine KFn_r (ResL.tmp rfl ResL.nil) ?_
    exact ⟨_, HSub.refl, rfl, _, rfl, by simp [hin]⟩
  ·
    refine KBlock_h ?_
    refine KSeq_n ?_
    refine WC_seq ?_
    refine WC_region ?_
    refine WO_step rfl (S_pure rfl ?_)
    refine WO_nil ?_
    refine KSeq_n ?_
    refine WC_ret ?_
    refine KFn_r (ResL.tmp rfl ResL.nil) ?_
    exact ⟨_, HSub.refl, rfl, _, rfl, by simp [hno]⟩
theorem sp_sin {H : SH} {v : Value} {xs : List ByteArray} {s : ByteArray} (hv : RD H v TS xs) (hL : xs.length ≤ 1000000) : WF F X f_slices_Contains_string [v, .string s] H (fun r H' => H' = H ∧ r = .bool (inB xs s)) := by
  refine WF_fn F_slices_Contains_string ?_
  refine WC_seq ?_
  refine WC_region ?_
  refine WO_step rfl (S_pure rfl ?_)
  refine WO_nil ?_
  refine KSeq_n ?_
  refine WC_seq ?_
  refine WC_region ?_
  refine WO_step rfl (S_pure rfl ?_)
  refine WO_step rfl (S_pure rfl ?_)
  refine WO_call rfl rfl rfl ?_
  refine (sp_sidx (s := s) hv hL).mono ?_
  rintro _ _ ⟨rfl, J, rfl, hJ⟩
  refine WO_step rfl (S_pure rfl ?_)
  refine WO_step rfl (S_pure rfl ?_)
  refine WO_nil ?_
  refine KSeq_n ?_
  refine WC_ret ?_
  refine KFn_r (ResL.tmp rfl ResL.nil) ?_
  refine ⟨_, HSub.refl, rfl, ?_⟩
  simp only [resV]
  congr 1
  rw [Bool.eq_iff_iff, decide_eq_true_eq, inB_iff, ← hJ]
abbrev strB (l : List UInt8) : ByteArray := ⟨l.toArray⟩
abbrev nmS (k n : Nat) : ByteArray := strB (nm k n)
def logS : ByteArray := ⟨#[108, 111, 103]⟩
def manS : ByteArray := ⟨#[109, 97, 110, 105, 102, 101, 115, 116]⟩
def names1 (f : Int) : List ByteArray := [logS, manS] ++ (if f = 0 then [] else [nmS 102 f.toNat])
def names2 (f : Int) (xs : List Int) : List ByteArray := names1 f ++ xs.map fun x => nmS 104 x.toNat
def names3 (f s : Int) (xs : List Int) : List ByteArray := names2 f xs ++ (if s = 0 then [] else [nmS 115 s.toNat])
theorem names1_len (f : Int) : (names1 f).length ≤ 3 := by unfold names1; split <;> simp
theorem names2_len (f : Int) (xs : List Int) : (names2 f xs).length ≤ 3 + xs.length := by
  have := names1_len f
  unfold names2; simp; omega
theorem names3_len (f s : Int) (xs : List Int) : (names3 f s xs).length ≤ 4 + xs.length := by
  have := names2_len f xs
  unfold names3; split <;> simp <;> omega
theorem S_lit2S {l : SE} {H : SH} {K : Value → SH → Prop} {x y : Opd} {z1 z2 : Value} {a b : ByteArray} (hx : x.lv l = some (.string a)) (hy : y.lv l = some (.string b)) (kk : ∀ w : SV, K w.toV (SL w.toV TS [a, b] :: H)) : Step (.lit 9 1 2 [z1, z2] [(0, (1, x)), (1, (1, y))]) l H K := by
  refine S_lit (vs := [.string a, .string b]) (by simp [lfill, hx, hy, AM.cells, Value.cells, splice]) rfl rfl (fun w => ?_)
  exact kk w
def okN (x : Int) : Prop := 0 ≤ x ∧ x ≤ 9223372036854775807
theorem okN.nat {x : Int} (h : okN x) : (x.toNat : Int) = x ∧ x.toNat ≤ 9223372036854775807 := by unfold okN at h; omega
theorem lp_Names {H H0 : SH} {v : Value} {xs : List Int} {i1 : Nat} {A : List ByteArray} {n f s : Int} {hh : SV} (hv : RD H v TI64 xs) (hp : Pick (.obj i1 (.row false 29 [.int .i64 n, .int .i64 f, .int .i64 s, hh.toV])) H H0) (hok : ∀ x ∈ xs, okN x) (hL : A.length + xs.length ≤ 20) : ∀ (m i : Nat) (w : SV), xs.length - i = m → i ≤ xs.length →
    WC F X (.loop L_manifest_Names_0) [(19, .int .i64 (i : Int)), (18, .int .i64 (xs.length : Int)), (17, v), (1, .pointer (some ⟨i1, 0, none⟩)), (3, w.toV)] (SL w.toV TS (A ++ (xs.take i).map fun x => nmS 104 x.toNat) :: H)
      (KPost fun x l' H' => ∃ w : SV, x = .exit 0 ∧ l' = [(1, .pointer (some ⟨i1, 0, none⟩)), (3, w.toV)] ∧ H' = SL w.toV TS (A ++ xs.map fun x => nmS 104 x.toNat) :: H) := by
  intro m
  induction m using Nat.strongRecOn with
  | _ m ih =>
    intro i w hm hi
    refine WC_loop ?_
    refine WC_seq ?_
    refine WC_region ?_
    refine WO_step rfl (S_pure rfl ?_)
    refine WO_nil ?_
    refine KSeq_n ?_
    refine WC_seq ?_
    refine WC_cond rfl (fun hb1 => ?_) (fun hb1 => ?_)
    ·
      try simp only [decide_eq_true_eq, decide_eq_false_iff_not, Bool.not_eq_true', Bool.not_eq_false', beq_iff_eq, bne_iff_ne, beq_eq_false_iff_ne, Int.ofNat_lt, Int.ofNat_le, Int.ofNat_inj, ne_eq, gt_iff_lt, ge_iff_le] at hb1
      obtain ⟨x, hx⟩ := get_of_lt hb1
      obtain ⟨e1, e2⟩ := (hok x (List.mem_of_getElem? hx)).nat
      have htl : (xs.take i).length ≤ xs.length := by simp; omega
      refine WC_skip ?_
      refine KSeq_n ?_
      refine WC_seq ?_
      refine WC_block ?_
      refine WC_seq ?_
      refine WC_region ?_
      refine WO_step rfl (S_idx rfl rfl (by repeat (first | assumption | exact RD.head | exact RD.nil | apply RD.tail)) (by first | rfl | assumption | (symm; assumption)) (by rfl) (by first | assumption | omega | exact lt_of_get (by assumption) | (simp only [List.length_set]; first | assumption | omega | exact lt_of_get (by assumption))) fun hp21 => ?_)
      refine WO_step rfl (S_loadE rfl (by repeat (first | assumption | exact RD.head | exact RD.nil | apply RD.tail)) (by first | rfl | assumption | (symm; assumption)) (by first | rfl | assumption | (symm; assumption)) (by first | rfl | assumption | (symm; assumption)) (by assumption) ?_)
      refine WO_step rfl (S_pure rfl ?_)
      refine WO_nil ?_
      refine KSeq_n ?_
      refine WC_region ?_
      refine WO_step rfl (S_pure rfl ?_)
      refine WO_step rfl (S_pure rfl ?_)
      refine WO_call rfl rfl rfl ?_
      rw [← e1]
      refine (sp_Name (k := 104) (n := x.toNat) (by omega) e2).mono ?_
      rintro _ _ ⟨rfl, rfl⟩
      refine WO_step rfl (S_lit1 (T := TS) (y := nmS 104 x.toNat) rfl rfl rfl rfl fun w26 => ?_)
      refine WO_step rfl (S_app rfl rfl (by repeat (first | exact Pick.head | apply Pick.tail)) (by first | exact SRC.str rfl rfl | (apply RD.src; repeat (first | assumption | exact RD.head | exact RD.nil | apply RD.tail))) (by rfl) (by rfl) (by simp only [List.length_append, List.length_map, List.length_cons, List.length_nil]; omega) fun w27 => ?_)
      refine WO_step rfl (S_pure rfl ?_)
      refine WO_nil ?_
      refine KBlock_n ?_
      refine KSeq_n ?_
      refine WC_region ?_
      first | refine WO_step rfl (S_addN (b := 1) rfl rfl (by omega) ?_) | refine WO_step rfl (S_pure rfl ?_)
      refine WO_step rfl (S_pure rfl ?_)
      refine WO_nil ?_
      refine KLoop_n ?_
      have e : A ++ (xs.take i).map (fun x => nmS 104 x.toNat) ++ [nmS 104 x.toNat] = A ++ (xs.take (i + 1)).map fun x => nmS 104 x.toNat := by
        rw [List.take_add_one, hx]; simp
      rw [e]
      exact WC_weak (ih (xs.length - (i + 1)) (by omega) (i + 1) w27 rfl (by omega)) (by repeat (first | exact SubE.nil | apply SubE.cons rfl)) (by repeat (first | exact HSub.refl | refine HSub.pick (by repeat (first | exact Pick.head | apply Pick.tail)) ?_ | apply HSub.drop))
    ·
      try simp only [decide_eq_true_eq, decide_eq_false_iff_not, Bool.not_eq_true', Bool.not_eq_false', beq_iff_eq, bne_iff_ne, beq_eq_false_iff_ne, Int.ofNat_lt, Int.ofNat_le, Int.ofNat_inj, ne_eq, gt_iff_lt, ge_iff_le] at hb1
      refine WC_exit ?_
      refine KSeq_x ?_
      refine KLoop_x ?_
      have ei : i = xs.length := by omega
      subst ei
      rw [List.take_length]
      exact KPost_i (by repeat (first | exact SubE.nil | apply SubE.cons rfl)) (by repeat (first | exact HSub.refl | refine HSub.pick (by repeat (first | exact Pick.head | apply Pick.tail)) ?_ | apply HSub.drop)) ⟨w, rfl, rfl, rfl⟩
theorem sp_Names {H : SH} {n f s : Int} {h : SV} {xs : List Int} (hv : RD H h.toV TI64 xs) (hf : okN f) (hs : okN s) (hok : ∀ x ∈ xs, okN x) (hL : xs.length ≤ 7) : WF F X f_manifest_Names [mfV n f s h] H (fun r H' => ∃ (w : SV) (L' : List ByteArray), r = w.toV ∧ H' = SL w.toV TS L' :: H ∧ SSor L' ∧ L'.Perm (names3 f s xs)) := by
  obtain ⟨f1, f2⟩ := hf.nat
  obtain ⟨s1, s2⟩ := hs.nat
  have l1 := names1_len f
  have l2 := names2_len f xs
  have l3 := names3_len f s xs
  refine WF_fn F_manifest_Names ?_
  refine WC_seq ?_
  refine WC_region ?_
  refine WO_step rfl (S_box rfl (by cases h <;> rfl) fun i1 => ?_)
  refine WO_step rfl (S_pure rfl ?_)
  refine WO_nil ?_
  refine KSeq_n ?_
  refine WC_seq ?_
  refine WC_region ?_
  refine WO_step rfl (S_lit2S (a := logS) (b := manS) rfl rfl fun w6 => ?_)
  refine WO_step rfl (S_pure rfl ?_)
  refine WO_nil ?_
  refine KSeq_n ?_
  refine WC_seq ?_
  refine WC_post (P := fun x l' H' => ∃ w : SV, x = .normal ∧ l' = [(1, .pointer (some ⟨i1, 0, none⟩)), (3, w.toV)] ∧ H' = SL w.toV TS (names1 f) :: .obj i1 (.row false 29 [.int .i64 n, .int .i64 f, .int .i64 s, h.toV]) :: H) ?_ ?_
  ·
    refine WC_seq ?_
    refine WC_region ?_
    refine WO_step rfl (S_pure rfl ?_)
    refine WO_step rfl (S_loadO rfl (by repeat (first | exact Pick.head | apply Pick.tail)) (by rfl) (by rfl) ?_)
    first | refine WO_step rfl (S_neS rfl rfl ?_) | refine WO_step rfl (S_pure rfl ?_)
    refine WO_nil ?_
    refine KSeq_n ?_
    refine WC_cond rfl (fun hb1 => ?_) (fun hb1 => ?_)
    ·
      try simp only [decide_eq_true_eq, decide_eq_false_iff_not, Bool.not_eq_true', Bool.not_eq_false', beq_iff_eq, bne_iff_ne, beq_eq_false_iff_ne, Int.ofNat_lt, Int.ofNat_le, Int.ofNat_inj, ne_eq, gt_iff_lt, ge_iff_le] at hb1
      refine WC_region ?_
      refine WO_step rfl (S_pure rfl ?_)
      refine WO_step rfl (S_pure rfl ?_)
      refine WO_step rfl (S_loadO rfl (by repeat (first | exact Pick.head | apply Pick.tail)) (by rfl) (by rfl) ?_)
      refine WO_call rfl rfl rfl ?_
      rw [← f1]
      refine (sp_Name (k := 102) (n := f.toNat) (by omega) f2).mono ?_
      rintro _ _ ⟨rfl, rfl⟩
      rw [f1]
      refine WO_step rfl (S_lit1 (T := TS) (y := nmS 102 f.toNat) rfl rfl rfl rfl fun w14 => ?_)
      refine WO_step rfl (S_app rfl rfl (by repeat (first | exact Pick.head | apply Pick.tail)) (by first | exact SRC.str rfl rfl | (apply RD.src; repeat (first | assumption | exact RD.head | exact RD.nil | apply RD.tail))) (by rfl) (by rfl) (by (try simp only [List.length_append, List.length_cons, List.length_nil]); omega) fun w15 => ?_)
      refine WO_step rfl (S_pure rfl ?_)
      refine WO_nil ?_
      rw [show names1 f = [logS, manS] ++ [nmS 102 f.toNat] by unfold names1; rw [if_neg hb1]]
      exact KPost_i (by repeat (first | exact SubE.nil | apply SubE.cons rfl)) (by repeat (first | exact HSub.refl | refine HSub.pick (by repeat (first | exact Pick.head | apply Pick.tail)) ?_ | apply HSub.drop)) ⟨w15, rfl, rfl, rfl⟩
    ·
      try simp only [decide_eq_true_eq, decide_eq_false_iff_not, Bool.not_eq_true', Bool.not_eq_false', beq_iff_eq, bne_iff_ne, beq_eq_false_iff_ne, Int.ofNat_lt, Int.ofNat_le, Int.ofNat_inj, ne_eq, gt_iff_lt, ge_iff_le] at hb1
      refine WC_skip ?_
      rw [show names1 f = [logS, manS] by unfold names1; rw [if_pos (by simpa using hb1)]; rfl]
      exact KPost_i (by repeat (first | exact SubE.nil | apply SubE.cons rfl)) (by repeat (first | exact HSub.refl | refine HSub.pick (by repeat (first | exact Pick.head | apply Pick.tail)) ?_ | apply HSub.drop)) ⟨w6, rfl, rfl, rfl⟩
  ·
    rintro x l' H' ⟨w, rfl, rfl, rfl⟩
    refine KSeq_n ?_
    refine WC_seq ?_
    refine WC_seq ?_
    refine WC_region ?_
    refine WO_step rfl (S_pure rfl ?_)
    refine WO_step rfl (S_loadO rfl (by repeat (first | exact Pick.head | apply Pick.tail)) (by rfl) (by rfl) ?_)
    first | refine WO_step rfl (S_pure rfl ?_) | refine WO_step rfl (S_lenS rfl (by repeat (first | assumption | exact RD.head | exact RD.nil | apply RD.tail)) ?_)
    refine WO_step rfl (S_pure rfl ?_)
    refine WO_nil ?_
    refine KSeq_n ?_
    refine WC_block ?_
    --out x0
    have e0 : names1 f = names1 f ++ (xs.take 0).map (fun x => nmS 104 x.toNat) := by simp
    rw [e0]
    refine WC_post (WC_weak (lp_Names (H := .obj i1 (.row false 29 [.int .i64 n, .int .i64 f, .int .i64 s, h.toV]) :: H) (i1 := i1) (A := names1 f) (xs := xs) (v := h.toV) (n := n) (f := f) (s := s) (hh := h) (H0 := H) (by repeat (first | assumption | exact RD.head | exact RD.nil | apply RD.tail)) .head hok (by omega) xs.length 0 w (by omega) (by omega)) (by repeat (first | exact SubE.nil | apply SubE.cons rfl)) (by repeat (first | exact HSub.refl | refine HSub.pick (by repeat (first | exact Pick.head | apply Pick.tail)) ?_ | apply HSub.drop))) ?_
    rintro x l' H' ⟨w', rfl, rfl, rfl⟩
    refine KBlock_h ?_
    refine KSeq_n ?_
    refine WC_seq ?_
    refine WC_post (P := fun x l' H' => ∃ w : SV, x = .normal ∧ l' = [(3, w.toV)] ∧ H' = SL w.toV TS (names3 f s xs) :: H) ?_ ?_
    ·
      refine WC_seq ?_
      refine WC_region ?_
      refine WO_step rfl (S_pure rfl ?_)
      refine WO_step rfl (S_loadO rfl (by repeat (first | exact Pick.head | apply Pick.tail)) (by rfl) (by rfl) ?_)
      first | refine WO_step rfl (S_neS rfl rfl ?_) | refine WO_step rfl (S_pure rfl ?_)
      refine WO_nil ?_
      refine KSeq_n ?_
      refine WC_cond rfl (fun hb2 => ?_) (fun hb2 => ?_)
      ·
        try simp only [decide_eq_true_eq, decide_eq_false_iff_not, Bool.not_eq_true', Bool.not_eq_false', beq_iff_eq, bne_iff_ne, beq_eq_false_iff_ne, Int.ofNat_lt, Int.ofNat_le, Int.ofNat_inj, ne_eq, gt_iff_lt, ge_iff_le] at hb2
        refine WC_region ?_
        refine WO_step rfl (S_pure rfl ?_)
        refine WO_step rfl (S_pure rfl ?_)
        refine WO_step rfl (S_loadO rfl (by repeat (first | exact Pick.head | apply Pick.tail)) (by rfl) (by rfl) ?_)
        refine WO_call rfl rfl rfl ?_
        rw [← s1]
        refine (sp_Name (k := 115) (n := s.toNat) (by omega) s2).mono ?_
        rintro _ _ ⟨rfl, rfl⟩
        rw [s1]
        refine WO_step rfl (S_lit1 (T := TS) (y := nmS 115 s.toNat) rfl rfl rfl rfl fun w36 => ?_)
        refine WO_step rfl (S_app rfl rfl (by repeat (first | exact Pick.head | apply Pick.tail)) (by first | exact SRC.str rfl rfl | (apply RD.src; repeat (first | assumption | exact RD.head | exact RD.nil | apply RD.tail))) (by rfl) (by rfl) (by have := names2_len f xs; unfold names2 at this; simp only [List.length_append, List.length_map, List.length_cons, List.length_nil] at this ⊢; omega) fun w37 => ?_)
        refine WO_step rfl (S_pure rfl ?_)
        refine WO_nil ?_
        rw [show names3 f s xs = names1 f ++ List.map (fun x => nmS 104 x.toNat) xs ++ [nmS 115 s.toNat] by unfold names3 names2; rw [if_neg hb2]]
        exact KPost_i (by repeat (first | exact SubE.nil | apply SubE.cons rfl)) (by repeat (first | exact HSub.refl | refine HSub.pick (by repeat (first | exact Pick.head | apply Pick.tail)) ?_ | apply HSub.drop)) ⟨w37, rfl, rfl, rfl⟩
      ·
        try simp only [decide_eq_true_eq, decide_eq_false_iff_not, Bool.not_eq_true', Bool.not_eq_false', beq_iff_eq, bne_iff_ne, beq_eq_false_iff_ne, Int.ofNat_lt, Int.ofNat_le, Int.ofNat_inj, ne_eq, gt_iff_lt, ge_iff_le] at hb2
        refine WC_skip ?_
        rw [show names3 f s xs = names1 f ++ List.map (fun x => nmS 104 x.toNat) xs by unfold names3 names2; rw [if_pos (by simpa using hb2)]; simp]
        exact KPost_i (by repeat (first | exact SubE.nil | apply SubE.cons rfl)) (by repeat (first | exact HSub.refl | refine HSub.pick (by repeat (first | exact Pick.head | apply Pick.tail)) ?_ | apply HSub.drop)) ⟨w', rfl, rfl, rfl⟩
    ·
      rintro x l' H' ⟨w2, rfl, rfl, rfl⟩
      refine KSeq_n ?_
      refine WC_seq ?_
      refine WC_region ?_
      refine WO_step rfl (S_pure rfl ?_)
      refine WO_call rfl rfl rfl ?_
      refine (sp_Sort .head (by omega)).mono ?_
      rintro _ _ ⟨L', rfl, h1, h2⟩
      refine WO_nil ?_
      refine KSeq_n ?_
      refine WC_seq ?_
      refine WC_region ?_
      refine WO_step rfl (S_pure rfl ?_)
      refine WO_step rfl (S_pure rfl ?_)
      refine WO_nil ?_
      refine KSeq_n ?_
      refine WC_ret ?_
      refine KFn_r (ResL.tmp rfl ResL.nil) ?_
      exact ⟨_, (by repeat (first | exact HSub.refl | refine HSub.pick (by repeat (first | exact Pick.head | apply Pick.tail)) ?_ | apply HSub.drop)), w2, L', rfl, rfl, h1, h2⟩
end Go.Proofs.YtmibhdoegcgfmaaDoor.AM
