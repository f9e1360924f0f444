/- Walks: what the functions compute. -/
import Derived.Test.YtjbichljgfcigaaMaps
namespace Go.Proofs.Ytjbichljgfcigaa.AM
open Go
set_option linter.unusedSimpArgs false
set_option linter.unusedVariables false
set_option maxRecDepth 4000

/-! ### RecordNewest -/
def outM (mp : List (ByteArray × Rec)) : List Rec := (skeys mp).map fun k => (mGt k mp).getD rec0
theorem ba_back (k : ByteArray) : (⟨k.data.toList.toArray⟩ : ByteArray) = k := ba_ext (by simp)
theorem skeys_mem {α : Type} {mp : List (ByteArray × α)} {k : ByteArray} : k ∈ skeys mp ↔ k ∈ mp.map (·.1) := by
  unfold skeys
  constructor
  · intro h
    obtain ⟨l, hl, rfl⟩ := List.mem_map.1 h
    obtain ⟨p, hp, rfl⟩ := List.mem_map.1 ((sortB_perm _).mem_iff.1 hl)
    rw [ba_back]; exact List.mem_map.2 ⟨p, hp, rfl⟩
  · intro h
    obtain ⟨p, hp, rfl⟩ := List.mem_map.1 h
    exact List.mem_map.2 ⟨p.1.data.toList, (sortB_perm _).mem_iff.2 (List.mem_map.2 ⟨p, hp, rfl⟩), ba_back _⟩
theorem skeys_len {α : Type} (mp : List (ByteArray × α)) : (skeys mp).length = mp.length := by
  unfold skeys; rw [List.length_map, (sortB_perm _).length_eq, List.length_map]
theorem skeys_inc {α : Type} {mp : List (ByteArray × α)} (h : (mp.map (·.1)).Nodup) : (skeys mp).Pairwise (fun a b => a.data.toList < b.data.toList) := by
  unfold skeys
  rw [List.pairwise_map]
  have hnd : (sortB (mp.map fun p => p.1.data.toList)).Nodup := by
    refine (sortB_perm _).nodup_iff.2 ?_
    have e : (mp.map fun p => p.1.data.toList) = (mp.map (·.1)).map (fun k => k.data.toList) := by rw [List.map_map]; rfl
    rw [e]
    exact List.Pairwise.map _ (fun a b hab hh => hab (ba_ext hh)) h
  refine ((sortB_sorted _).and hnd).imp ?_
  rintro a b ⟨h1, h2⟩
  simp only [leB, decide_eq_true_eq] at h1
  simp only [List.toList_toArray]
  by_cases h3 : a < b
  · exact h3
  · exact absurd (List.le_antisymm h1 (List.not_lt.1 h3)) h2
theorem fnd_map {f : ByteArray → Rec} {k : ByteArray} : ∀ ks : List ByteArray, (∀ a ∈ ks, (f a).key = a) → (k ∈ ks → fnd (ks.map f) k = some (f k)) ∧ (k ∉ ks → fnd (ks.map f) k = none)
  | [], _ => ⟨fun h => by simp at h, fun _ => rfl⟩
  | a :: ks, h => by
    have ih := fnd_map (f := f) (k := k) ks (fun b hb => h b (List.mem_cons_of_mem _ hb))
    have ha := h a (List.mem_cons_self ..)
    constructor
    · intro hk
      by_cases e : a = k
      · subst e; exact if_pos ha
      · have h1 : fnd ((a :: ks).map f) k = fnd (ks.map f) k := if_neg (by rw [ha]; exact e)
        rw [h1]; exact ih.1 ((List.mem_cons.1 hk).resolve_left (Ne.symm e))
    · intro hk
      have h1 : fnd ((a :: ks).map f) k = fnd (ks.map f) k := if_neg (by rw [ha]; rintro rfl; exact hk (List.mem_cons_self ..))
      rw [h1]; exact ih.2 fun hh => hk (List.mem_cons_of_mem _ hh)
theorem outM_newest (l : List Rec) : outM (mpOf l) = newest l := by
  obtain ⟨h1, h2, _⟩ := mpOf_spec l
  obtain ⟨h3, h4⟩ := newest_spec l
  have hk : ∀ a ∈ skeys (mpOf l), ((mGt a (mpOf l)).getD rec0).key = a := by
    intro a ha
    have := mGt_some.1 (skeys_mem.1 ha)
    obtain ⟨r, hr⟩ := Option.isSome_iff_exists.1 this
    rw [hr]
    rw [h2] at hr
    exact (fnd_mem' hr).2
  refine Inc.uniq ?_ h3 fun k => ?_
  · unfold Inc outM
    rw [List.pairwise_map]
    refine List.Pairwise.imp_of_mem ?_ (skeys_inc h1)
    intro a b ha hb hab
    unfold kl
    rw [hk a ha, hk b hb]; exact hab
  · rw [h4, ← h2]
    have hf := fnd_map (f := fun k => (mGt k (mpOf l)).getD rec0) (k := k) (skeys (mpOf l)) hk
    cases hg : mGt k (mpOf l) with
    | none =>
      refine hf.2 fun hm => ?_
      have := mGt_some.1 (skeys_mem.1 hm); rw [hg] at this; cases this
    | some r =>
      have hm : k ∈ skeys (mpOf l) := skeys_mem.2 (mGt_some.2 (by rw [hg]; rfl))
      have := hf.1 hm
      simp only [hg, Option.getD_some] at this
      exact this
theorem newest_len (l : List Rec) : (newest l).length ≤ l.length := by
  rw [← outM_newest]; unfold outM; rw [List.length_map, skeys_len]; exact (mpOf_spec l).2.2
theorem newest_mem {l : List Rec} {x : Rec} (h : x ∈ newest l) : x ∈ l := by
  have : ∀ (n : Nat) (l : List Rec), l.length = n → x ∈ newest l → x ∈ l := by
    intro n
    induction n with
    | zero => intro l hl h; rw [List.length_eq_zero_iff.1 hl] at h; simp [newest] at h
    | succ n ih =>
      intro l hl h
      obtain ⟨l', y, rfl⟩ : ∃ l' x, l = l' ++ [x] := ⟨l.dropLast, l.getLast (by intro h; rw [h] at hl; simp at hl), (List.dropLast_concat_getLast _).symm⟩
      rw [newest_snoc] at h
      rcases setR_mem h with h | h
      · simp [h]
      · exact List.mem_append_left _ (ih l' (by simpa using hl) h)
  exact this _ l rfl h
theorem mpOf_key {l : List Rec} {p : ByteArray × Rec} (h : p.1 ∈ (mpOf l).map (·.1)) : ∃ r ∈ l, r.key = p.1 := by
  obtain ⟨h1, h2, _⟩ := mpOf_spec l
  obtain ⟨r, hr⟩ := Option.isSome_iff_exists.1 (mGt_some.1 h)
  rw [h2] at hr
  exact ⟨r, List.mem_reverse.1 (fnd_mem' hr).1, (fnd_mem' hr).2⟩
theorem lp_rN0 {H : SH} {v : Value} {l : List Rec} (hv : RD H v TRec l) (hl : l.length ≤ 1000000) {m : Nat} : ∀ (n a : Nat), l.length - a = n → a ≤ l.length →
    WC F X (.loop L_record_Newest_0) [(12, .int .i64 a), (11, .int .i64 l.length), (10, v), (3, .map (some m))] (MP m TRec (mpOf (l.take a)) :: H)
      (KPost fun x l' H' => x = .exit 0 ∧ l' = [(3, .map (some m))] ∧ H' = MP m TRec (mpOf l) :: H) := by
  intro n
  induction n using Nat.strongRecOn with
  | _ n ih =>
    intro a hn ha
    refine WC_loop ?_
    refine WC_seq ?_
    refine WC_region ?_
    refine WO_step rfl (S_pure rfl ?_)
    refine WO_nil ?_
    refine KSeq_n ?_
    refine WC_seq ?_
    refine WC_cond rfl (fun hb1 => ?_) (fun hb1 => ?_)
    ·
      try simp only [decide_eq_true_eq, decide_eq_false_iff_not, Bool.not_eq_true', Bool.not_eq_false', beq_iff_eq, bne_iff_ne, beq_eq_false_iff_ne, Int.ofNat_lt, Int.ofNat_le, Int.ofNat_inj, ne_eq, gt_iff_lt, ge_iff_le] at hb1
      obtain ⟨x, hx⟩ := get_of_lt hb1
      have htk : mpOf (l.take (a + 1)) = mSt x.key x (mpOf (l.take a)) := by rw [List.take_add_one, hx]; exact mpOf_snoc _ _
      refine WC_skip ?_
      refine KSeq_n ?_
      refine WC_seq ?_
      refine WC_block ?_
      refine WC_seq ?_
      refine WC_region ?_
      refine WO_step rfl (S_idx rfl rfl (by repeat (first | assumption | exact RD.head | exact RD.nil | apply RD.tail)) (by first | rfl | assumption | (symm; assumption)) (by rfl) (by first | assumption | omega | exact lt_of_get (by assumption) | (simp only [List.length_set]; first | assumption | omega | exact lt_of_get (by assumption))) fun hp14 => ?_)
      refine WO_step rfl (S_loadE rfl (by repeat (first | assumption | exact RD.head | exact RD.nil | apply RD.tail)) (by first | rfl | assumption | (symm; assumption)) (by first | rfl | assumption | (symm; assumption)) (by first | rfl | assumption | (symm; assumption)) (by assumption) ?_)
      refine WO_step rfl (S_new fun i5 => ?_)
      first | refine WO_step rfl (S_storeT rfl rfl (by repeat (first | exact Pick.head | apply Pick.tail)) (by rfl) (by rfl) ?_) | refine WO_step rfl (S_storeO rfl rfl (by repeat (first | exact Pick.head | apply Pick.tail)) (by first | rfl | exact SV.cells1 _) (by rfl) (by first | rfl | exact SV.ones _) ?_)
      refine WO_nil ?_
      refine KSeq_n ?_
      refine WC_region ?_
      refine WO_step rfl (S_pure rfl ?_)
      refine WO_step rfl (S_pure rfl ?_)
      refine WO_step rfl (S_loadO rfl (by repeat (first | exact Pick.head | apply Pick.tail)) (by rfl) (by rfl) ?_)
      first | refine WO_step rfl (S_loadT rfl (by repeat (first | exact Pick.head | apply Pick.tail)) (by rfl) (by rfl) ?_) | refine WO_step rfl (S_loadO rfl (by repeat (first | exact Pick.head | apply Pick.tail)) (by rfl) (by rfl) ?_)
      -- op (.upd .s (.tmp 16) (.tmp 18) (.tmp 19))
      refine WO_step rfl (S_upd (T := TRec) (y := x) (mp := mpOf (l.take a)) rfl rfl rfl (by repeat (first | exact Pick.head | apply Pick.tail)) ?_)
      refine WO_nil ?_
      refine KBlock_n ?_
      refine KSeq_n ?_
      refine WC_region ?_
      first | refine WO_step rfl (S_addN (b := 1) rfl rfl (by omega) ?_) | refine WO_step rfl (S_pure rfl ?_)
      refine WO_step rfl (S_pure rfl ?_)
      refine WO_nil ?_
      refine KLoop_n ?_
      have := ih (l.length - (a + 1)) (by omega) (a + 1) rfl (by omega)
      rw [htk] at this
      exact WC_weak this (by repeat (first | exact SubE.nil | apply SubE.cons rfl)) (by repeat (first | exact HSub.refl | refine HSub.pick (by repeat (first | exact Pick.head | apply Pick.tail)) ?_ | apply HSub.drop))
    ·
      try simp only [decide_eq_true_eq, decide_eq_false_iff_not, Bool.not_eq_true', Bool.not_eq_false', beq_iff_eq, bne_iff_ne, beq_eq_false_iff_ne, Int.ofNat_lt, Int.ofNat_le, Int.ofNat_inj, ne_eq, gt_iff_lt, ge_iff_le] at hb1
      refine WC_exit ?_
      refine KSeq_x ?_
      refine KLoop_x ?_
      have e : l.take a = l := List.take_of_length_le (by omega)
      rw [e]
      exact KPost_i (by repeat (first | exact SubE.nil | apply SubE.cons rfl)) (by repeat (first | exact HSub.refl | refine HSub.pick (by repeat (first | exact Pick.head | apply Pick.tail)) ?_ | apply HSub.drop)) ⟨rfl, rfl, rfl⟩
theorem lp_rN1 {B B0 : SH} {w : SV} {m : Nat} {mp : List (ByteArray × Rec)} (hw : RD B w.toV TStr (skeys mp)) (hp : Pick (MP m TRec mp) B B0) (hl : mp.length ≤ 1000000) : ∀ (n a : Nat) (u : SV), (skeys mp).length - a = n → a ≤ (skeys mp).length →
    WC F X (.loop L_record_Newest_1) [(25, .int .i64 a), (24, .int .i64 (skeys mp).length), (23, w.toV), (3, .map (some m)), (6, u.toV)] (SL u.toV TRec ((outM mp).take a) :: B)
      (KPost fun x l' H' => ∃ u : SV, x = .exit 2 ∧ l' = [(6, u.toV)] ∧ H' = SL u.toV TRec (outM mp) :: B) := by
  intro n
  induction n using Nat.strongRecOn with
  | _ n ih =>
    intro a u hn ha
    have hol : (outM mp).length = (skeys mp).length := by unfold outM; rw [List.length_map]
    have hsl := skeys_len mp
    refine WC_loop ?_
    refine WC_seq ?_
    refine WC_region ?_
    refine WO_step rfl (S_pure rfl ?_)
    refine WO_nil ?_
    refine KSeq_n ?_
    refine WC_seq ?_
    refine WC_cond rfl (fun hb1 => ?_) (fun hb1 => ?_)
    ·
      try simp only [decide_eq_true_eq, decide_eq_false_iff_not, Bool.not_eq_true', Bool.not_eq_false', beq_iff_eq, bne_iff_ne, beq_eq_false_iff_ne, Int.ofNat_lt, Int.ofNat_le, Int.ofNat_inj, ne_eq, gt_iff_lt, ge_iff_le] at hb1
      obtain ⟨k, hk⟩ := get_of_lt hb1
      obtain ⟨y, hy⟩ := Option.isSome_iff_exists.1 (mGt_some.1 (skeys_mem.1 (List.mem_of_getElem? hk)))
      have htk : (outM mp).take (a + 1) = (outM mp).take a ++ [y] := by
        rw [List.take_add_one]
        unfold outM
        rw [List.getElem?_map, hk]
        simp [hy]
      have htl : ((outM mp).take a).length = a := by rw [List.length_take]; omega
      refine WC_skip ?_
      refine KSeq_n ?_
      refine WC_seq ?_
      refine WC_block ?_
      refine WC_seq ?_
      refine WC_region ?_
      refine WO_step rfl (S_idx rfl rfl (by repeat (first | assumption | exact RD.head | exact RD.nil | apply RD.tail)) (by first | rfl | assumption | (symm; assumption)) (by rfl) (by first | assumption | omega | exact lt_of_get (by assumption) | (simp only [List.length_set]; first | assumption | omega | exact lt_of_get (by assumption))) fun hp27 => ?_)
      refine WO_step rfl (S_loadE rfl (by repeat (first | assumption | exact RD.head | exact RD.nil | apply RD.tail)) (by first | rfl | assumption | (symm; assumption)) (by first | rfl | assumption | (symm; assumption)) (by first | rfl | assumption | (symm; assumption)) (by assumption) ?_)
      refine WO_step rfl (S_pure rfl ?_)
      refine WO_nil ?_
      refine KSeq_n ?_
      refine WC_region ?_
      refine WO_step rfl (S_pure rfl ?_)
      refine WO_step rfl (S_pure rfl ?_)
      refine WO_step rfl (S_pure rfl ?_)
      refine WO_step rfl (S_look (T := TRec) (mp := mp) (y := y) rfl rfl (Pick.tail hp) hy ?_)
      refine WO_step rfl (S_lit1 (T := TRec) rfl rfl rfl rfl fun w33 => ?_)
      refine WO_step rfl (S_app rfl rfl (by repeat (first | exact Pick.head | apply Pick.tail)) (by first | exact SRC.str rfl rfl | (apply RD.src; repeat (first | assumption | exact RD.head | exact RD.nil | apply RD.tail))) (by rfl) (by rfl) (by (try simp only [List.length_append, List.length_cons, List.length_nil]); omega) fun w34 => ?_)
      refine WO_step rfl (S_pure rfl ?_)
      refine WO_nil ?_
      refine KBlock_n ?_
      refine KSeq_n ?_
      refine WC_region ?_
      first | refine WO_step rfl (S_addN (b := 1) rfl rfl (by omega) ?_) | refine WO_step rfl (S_pure rfl ?_)
      refine WO_step rfl (S_pure rfl ?_)
      refine WO_nil ?_
      refine KLoop_n ?_
      have := ih ((skeys mp).length - (a + 1)) (by omega) (a + 1) w34 rfl (by omega)
      rw [htk] at this
      exact WC_weak this (by repeat (first | exact SubE.nil | apply SubE.cons rfl)) (by repeat (first | exact HSub.refl | refine HSub.pick (by repeat (first | exact Pick.head | apply Pick.tail)) ?_ | apply HSub.drop))
    ·
      try simp only [decide_eq_true_eq, decide_eq_false_iff_not, Bool.not_eq_true', Bool.not_eq_false', beq_iff_eq, bne_iff_ne, beq_eq_false_iff_ne, Int.ofNat_lt, Int.ofNat_le, Int.ofNat_inj, ne_eq, gt_iff_lt, ge_iff_le] at hb1
      refine WC_exit ?_
      refine KSeq_x ?_
      refine KLoop_x ?_
      have e : (outM mp).take a = outM mp := List.take_of_length_le (by omega)
      rw [e]
      exact KPost_i (by repeat (first | exact SubE.nil | apply SubE.cons rfl)) (by repeat (first | exact HSub.refl | refine HSub.pick (by repeat (first | exact Pick.head | apply Pick.tail)) ?_ | apply HSub.drop)) ⟨u, rfl, rfl, rfl⟩
theorem sp_rNewest {H : SH} {v : Value} {l : List Rec} (hv : RD H v TRec l) (hl : l.length ≤ 1000000) (hk : ∀ x ∈ l, x.key.size ≤ maxLen) : WF F X f_record_Newest [v] H (fun r H' => ∃ u : SV, H' = SL u.toV TRec (newest l) :: H ∧ r = u.toV) := by
  have hml : (mpOf l).length ≤ 1000000 := Nat.le_trans (mpOf_spec l).2.2 hl
  have hmk : ∀ p ∈ mpOf l, p.1.size ≤ maxLen := by
    intro p hp
    obtain ⟨r, hr, he⟩ := mpOf_key (List.mem_map.2 ⟨p, hp, rfl⟩)
    rw [← he]; exact hk r hr
  refine WF_fn F_record_Newest ?_
  refine WC_seq ?_
  refine WC_region ?_
  refine WO_step rfl (S_pure rfl ?_)
  refine WO_nil ?_
  refine KSeq_n ?_
  refine WC_seq ?_
  refine WC_region ?_
  -- op .mkMap
  refine WO_step rfl (S_mkMap TRec fun m => ?_)
  refine WO_step rfl (S_pure rfl ?_)
  refine WO_nil ?_
  refine KSeq_n ?_
  refine WC_seq ?_
  refine WC_seq ?_
  refine WC_region ?_
  refine WO_step rfl (S_pure rfl ?_)
  first | refine WO_step rfl (S_pure rfl ?_) | refine WO_step rfl (S_lenS rfl (by repeat (first | assumption | exact RD.head | exact RD.nil | apply RD.tail)) ?_)
  refine WO_step rfl (S_pure rfl ?_)
  refine WO_nil ?_
  refine KSeq_n ?_
  refine WC_block ?_
  refine WC_post (WC_weak (lp_rN0 (m := m) hv hl l.length 0 (by omega) (by omega)) (by repeat (first | exact SubE.nil | apply SubE.cons rfl)) (by repeat (first | exact HSub.refl | refine HSub.pick (by repeat (first | exact Pick.head | apply Pick.tail)) ?_ | apply HSub.drop))) ?_
  rintro x l' H' ⟨rfl, rfl, rfl⟩
  refine KBlock_h ?_
  refine KSeq_n ?_
  refine WC_seq ?_
  refine WC_region ?_
  refine WO_step rfl (S_pure rfl ?_)
  refine WO_nil ?_
  refine KSeq_n ?_
  refine WC_seq ?_
  refine WC_seq ?_
  refine WC_region ?_
  refine WO_step rfl (S_pure rfl ?_)
  refine WO_call rfl rfl rfl ?_
  refine sp_Keys.mono ?_
  rintro _ _ ⟨j, rfl, rfl⟩
  refine WO_call rfl rfl rfl ?_
  refine (sp_Sorted (T := TRec) (mp := mpOf l) (i := m) (j := j) (by repeat (first | exact Pick.head | apply Pick.tail)) (by repeat (first | exact Pick.head | apply Pick.tail)) hmk hml).mono ?_
  rintro _ _ ⟨w23, rfl, rfl⟩
  first | refine WO_step rfl (S_pure rfl ?_) | refine WO_step rfl (S_lenS rfl (by repeat (first | assumption | exact RD.head | exact RD.nil | apply RD.tail)) ?_)
  refine WO_step rfl (S_pure rfl ?_)
  refine WO_nil ?_
  refine KSeq_n ?_
  refine WC_block ?_
  refine WC_view (H' := SL (SV.toV .nil) TRec [] :: _) (fun h hh => HAg.addNil hh) ?_
  refine WC_post (WC_weak (lp_rN1 (m := m) (mp := mpOf l) (w := w23) RD.head (by repeat (first | exact Pick.head | apply Pick.tail)) hml (skeys (mpOf l)).length 0 .nil (by omega) (by omega)) (by repeat (first | exact SubE.nil | apply SubE.cons rfl)) HSub.refl) ?_
  rintro x l' H' ⟨u, rfl, rfl, rfl⟩
  rw [outM_newest]
  refine KBlock_h ?_
  refine KSeq_n ?_
  refine WC_seq ?_
  refine WC_region ?_
  refine WO_step rfl (S_pure rfl ?_)
  refine WO_step rfl (S_pure rfl ?_)
  refine WO_nil ?_
  refine KSeq_n ?_
  refine WC_ret ?_
  refine KFn_r (ResL.tmp rfl ResL.nil) ?_
  exact ⟨_, (by repeat (first | exact HSub.refl | refine HSub.pick (by repeat (first | exact Pick.head | apply Pick.tail)) ?_ | apply HSub.drop)), u, rfl, rfl⟩
theorem setR_c1 {x r : Rec} {l : List Rec} (hx : ¬ kl x < kl r) (he : ¬ x.key = r.key) : setR r (x :: l) false = r :: x :: setR r l true := by simp [setR, hx, he]
theorem setR_c2 {x r : Rec} {l : List Rec} (hx : ¬ kl x < kl r) (he : x.key = r.key) : setR r (x :: l) false = r :: setR r l true := by simp [setR, hx, he]
theorem setR_c3 {x r : Rec} {l : List Rec} (hx : kl x < kl r) (he : ¬ x.key = r.key) : setR r (x :: l) false = x :: setR r l false := by simp [setR, hx, he]
theorem setR_c4 {x r : Rec} {l : List Rec} (hx : kl x < kl r) (he : x.key = r.key) : setR r (x :: l) false = setR r l false := by simp [setR, hx, he]
theorem setR_c5 {x r : Rec} {l : List Rec} (he : ¬ x.key = r.key) : setR r (x :: l) true = x :: setR r l true := by simp [setR, he]
theorem setR_c6 {x r : Rec} {l : List Rec} (he : x.key = r.key) : setR r (x :: l) true = setR r l true := by simp [setR, he]
theorem S_geS {l : SE} {H : SH} {K : Value → SH → Prop} {x y : Opd} {a b : ByteArray} (hx : x.lv l = some (.string a)) (hy : y.lv l = some (.string b)) (k : K (.bool (!decide (a.data.toList < b.data.toList))) H) : Step (.bin .geq x y) l H K :=
  S_pureE (v := .bool (!Op.bytesLess a.toList b.toList)) (by simp only [pev, hx, hy, binV, strBin]) (by rw [bytesLess_eq, toList_data, toList_data]) k
theorem lp_Set {H : SH} {v : Value} {l : List Rec} {r : Rec} (hv : RD H v TRec l) (hl : l.length ≤ 1000) {i3 : Nat} : ∀ (n a : Nat) (w : SV) (d : Bool) (out : List Rec), l.length - a = n → a ≤ l.length → out.length ≤ 2 * a → out ++ setR r (l.drop a) d = setR r l false →
    WC F X (.loop L_loessref10_Set_0) [(7, .int .i64 a), (0, v), (6, .bool d), (5, w.toV), (3, .pointer (some ⟨i3, 0, none⟩))] (SL w.toV TRec out :: .obj i3 (.row false 32 (cells (TRec.val r))) :: H)
      (KPost fun x l' H' => ∃ (w : SV) (d : Bool) (out : List Rec), x = .exit 0 ∧ l' = [(6, .bool d), (5, w.toV), (3, .pointer (some ⟨i3, 0, none⟩))] ∧ H' = SL w.toV TRec out :: .obj i3 (.row false 32 (cells (TRec.val r))) :: H ∧ out.length ≤ 2000 ∧ out ++ (if d then [] else [r]) = setR r l false) := by
  intro n
  induction n using Nat.strongRecOn with
  | _ n ih =>
    intro a w d out hn ha ho he
    refine WC_loop ?_
    refine WC_seq ?_
    refine WC_seq ?_
    refine WC_region ?_
    refine WO_step rfl (S_pure rfl ?_)
    refine WO_step rfl (S_pure rfl ?_)
    first | refine WO_step rfl (S_pure rfl ?_) | refine WO_step rfl (S_lenS rfl (by repeat (first | assumption | exact RD.head | exact RD.nil | apply RD.tail)) ?_)
    refine WO_step rfl (S_pure rfl ?_)
    refine WO_nil ?_
    refine KSeq_n ?_
    refine WC_cond rfl (fun hb1 => ?_) (fun hb1 => ?_)
    ·
      try simp only [decide_eq_true_eq, decide_eq_false_iff_not, Bool.not_eq_true', Bool.not_eq_false', beq_iff_eq, bne_iff_ne, beq_eq_false_iff_ne, Int.ofNat_lt, Int.ofNat_le, Int.ofNat_inj, ne_eq, gt_iff_lt, ge_iff_le] at hb1
      obtain ⟨x, hx⟩ := get_of_lt hb1
      rw [drop_get hx] at he
      refine WC_skip ?_
      refine KSeq_n ?_
      refine WC_seq ?_
      refine WC_block ?_
      refine WC_seq ?_
      refine WC_seq ?_
      refine WC_region ?_
      refine WO_step rfl (S_pure rfl ?_)
      refine WO_step rfl (S_pure rfl ?_)
      refine WO_step rfl (S_pure rfl ?_)
      refine WO_cases (t := 16) rfl (fun hg1 => ?_) (fun hg1 => ?_)
      ·
        try simp only [decide_eq_true_eq, decide_eq_false_iff_not, Bool.not_eq_true', Bool.not_eq_false', beq_iff_eq, bne_iff_ne, beq_eq_false_iff_ne, Int.ofNat_lt, Int.ofNat_le, Int.ofNat_inj, ne_eq, gt_iff_lt, ge_iff_le] at hg1
        refine WO_step rfl (S_pure rfl ?_)
        refine WO_step rfl (S_pure rfl ?_)
        refine WO_step rfl (S_idx rfl rfl (by repeat (first | assumption | exact RD.head | exact RD.nil | apply RD.tail)) (by first | rfl | assumption | (symm; assumption)) (by rfl) (by first | assumption | omega | exact lt_of_get (by assumption) | (simp only [List.length_set]; first | assumption | omega | exact lt_of_get (by assumption))) fun hp19 => ?_)
        refine WO_step rfl (S_fldE rfl (by repeat (first | assumption | apply IsP.padd)) ?_)
        refine WO_step rfl (S_loadF rfl (by repeat (first | assumption | exact RD.head | exact RD.nil | apply RD.tail)) (by rfl) (by assumption) (by rfl) (by rfl) ?_)
        refine WO_step rfl (S_pure rfl ?_)
        refine WO_step rfl (S_loadO rfl (by repeat (first | exact Pick.head | apply Pick.tail)) (by rfl) (by rfl) ?_)
        refine WO_step rfl (S_geS rfl rfl ?_)
        refine WO_step rfl (S_pure rfl ?_)
        refine WO_nil ?_
        refine KSeq_n ?_
        refine WC_cond rfl (fun hb2 => ?_) (fun hb2 => ?_)
        ·
          try simp only [decide_eq_true_eq, decide_eq_false_iff_not, Bool.not_eq_true', Bool.not_eq_false', beq_iff_eq, bne_iff_ne, beq_eq_false_iff_ne, Int.ofNat_lt, Int.ofNat_le, Int.ofNat_inj, ne_eq, gt_iff_lt, ge_iff_le] at hb2
          refine WC_seq ?_
          refine WC_region ?_
          refine WO_step rfl (S_pure rfl ?_)
          refine WO_step rfl (S_loadO rfl (by repeat (first | exact Pick.head | apply Pick.tail)) (by rfl) (by rfl) ?_)
          refine WO_step rfl (S_lit1 (T := TRec) rfl rfl rfl rfl fun w28 => ?_)
          refine WO_step rfl (S_app rfl rfl (by repeat (first | exact Pick.head | apply Pick.tail)) (by first | exact SRC.str rfl rfl | (apply RD.src; repeat (first | assumption | exact RD.head | exact RD.nil | apply RD.tail))) (by rfl) (by rfl) (by (try simp only [List.length_append, List.length_cons, List.length_nil]); omega) fun w29 => ?_)
          refine WO_step rfl (S_pure rfl ?_)
          refine WO_nil ?_
          refine KSeq_n ?_
          refine WC_region ?_
          refine WO_step rfl (S_pure rfl ?_)
          refine WO_nil ?_
          refine KSeq_n ?_
          refine WC_seq ?_
          refine WC_region ?_
          refine WO_step rfl (S_pure rfl ?_)
          refine WO_step rfl (S_pure rfl ?_)
          refine WO_step rfl (S_idx rfl rfl (by repeat (first | assumption | exact RD.head | exact RD.nil | apply RD.tail)) (by first | rfl | assumption | (symm; assumption)) (by rfl) (by first | assumption | omega | exact lt_of_get (by assumption) | (simp only [List.length_set]; first | assumption | omega | exact lt_of_get (by assumption))) fun hp32 => ?_)
          refine WO_step rfl (S_fldE rfl (by repeat (first | assumption | apply IsP.padd)) ?_)
          refine WO_step rfl (S_loadF rfl (by repeat (first | assumption | exact RD.head | exact RD.nil | apply RD.tail)) (by rfl) (by assumption) (by rfl) (by rfl) ?_)
          refine WO_step rfl (S_pure rfl ?_)
          refine WO_step rfl (S_loadO rfl (by repeat (first | exact Pick.head | apply Pick.tail)) (by rfl) (by rfl) ?_)
          first | refine WO_step rfl (S_neS rfl rfl ?_) | refine WO_step rfl (S_pure rfl ?_)
          refine WO_nil ?_
          refine KSeq_n ?_
          refine WC_cond rfl (fun hb3 => ?_) (fun hb3 => ?_)
          ·
            try simp only [decide_eq_true_eq, decide_eq_false_iff_not, Bool.not_eq_true', Bool.not_eq_false', beq_iff_eq, bne_iff_ne, beq_eq_false_iff_ne, Int.ofNat_lt, Int.ofNat_le, Int.ofNat_inj, ne_eq, gt_iff_lt, ge_iff_le] at hb3
            refine WC_region ?_
            refine WO_step rfl (S_pure rfl ?_)
            refine WO_step rfl (S_pure rfl ?_)
            refine WO_step rfl (S_pure rfl ?_)
            refine WO_step rfl (S_idx rfl rfl (by repeat (first | assumption | exact RD.head | exact RD.nil | apply RD.tail)) (by first | rfl | assumption | (symm; assumption)) (by rfl) (by first | assumption | omega | exact lt_of_get (by assumption) | (simp only [List.length_set]; first | assumption | omega | exact lt_of_get (by assumption))) fun hp41 => ?_)
            refine WO_step rfl (S_loadE rfl (by repeat (first | assumption | exact RD.head | exact RD.nil | apply RD.tail)) (by first | rfl | assumption | (symm; assumption)) (by first | rfl | assumption | (symm; assumption)) (by first | rfl | assumption | (symm; assumption)) (by assumption) ?_)
            refine WO_step rfl (S_lit1 (T := TRec) rfl rfl rfl rfl fun w43 => ?_)
            refine WO_step rfl (S_app rfl rfl (by repeat (first | exact Pick.head | apply Pick.tail)) (by first | exact SRC.str rfl rfl | (apply RD.src; repeat (first | assumption | exact RD.head | exact RD.nil | apply RD.tail))) (by rfl) (by rfl) (by (try simp only [List.length_append, List.length_cons, List.length_nil]); omega) fun w44 => ?_)
            refine WO_step rfl (S_pure rfl ?_)
            refine WO_nil ?_
            refine KBlock_n ?_
            refine KSeq_n ?_
            refine WC_region ?_
            refine WO_step rfl (S_pure rfl ?_)
            first | refine WO_step rfl (S_addN (b := 1) rfl rfl (by omega) ?_) | refine WO_step rfl (S_pure rfl ?_)
            refine WO_step rfl (S_pure rfl ?_)
            refine WO_nil ?_
            refine KLoop_n ?_
            refine WC_weak (ih (l.length - (a + 1)) (by omega) (a + 1) w44 true (out ++ [r] ++ [x]) rfl (by omega) (by simp; omega) ?_) (by repeat (first | exact SubE.nil | apply SubE.cons rfl)) (by repeat (first | exact HSub.refl | refine HSub.pick (by repeat (first | exact Pick.head | apply Pick.tail)) ?_ | apply HSub.drop))
            rw [hg1, setR_c1 hb2 hb3] at he
            rw [← he]; simp [hg1]
          ·
            try simp only [decide_eq_true_eq, decide_eq_false_iff_not, Bool.not_eq_true', Bool.not_eq_false', beq_iff_eq, bne_iff_ne, beq_eq_false_iff_ne, Int.ofNat_lt, Int.ofNat_le, Int.ofNat_inj, ne_eq, gt_iff_lt, ge_iff_le] at hb3
            refine WC_skip ?_
            refine KBlock_n ?_
            refine KSeq_n ?_
            refine WC_region ?_
            refine WO_step rfl (S_pure rfl ?_)
            first | refine WO_step rfl (S_addN (b := 1) rfl rfl (by omega) ?_) | refine WO_step rfl (S_pure rfl ?_)
            refine WO_step rfl (S_pure rfl ?_)
            refine WO_nil ?_
            refine KLoop_n ?_
            refine WC_weak (ih (l.length - (a + 1)) (by omega) (a + 1) w29 true (out ++ [r]) rfl (by omega) (by simp; omega) ?_) (by repeat (first | exact SubE.nil | apply SubE.cons rfl)) (by repeat (first | exact HSub.refl | refine HSub.pick (by repeat (first | exact Pick.head | apply Pick.tail)) ?_ | apply HSub.drop))
            rw [hg1, setR_c2 hb2 hb3] at he
            rw [← he]; simp [hg1]
        ·
          try simp only [decide_eq_true_eq, decide_eq_false_iff_not, Bool.not_eq_true', Bool.not_eq_false', beq_iff_eq, bne_iff_ne, beq_eq_false_iff_ne, Int.ofNat_lt, Int.ofNat_le, Int.ofNat_inj, ne_eq, gt_iff_lt, ge_iff_le] at hb2
          refine WC_skip ?_
          refine KSeq_n ?_
          refine WC_seq ?_
          refine WC_region ?_
          refine WO_step rfl (S_pure rfl ?_)
          refine WO_step rfl (S_pure rfl ?_)
          refine WO_step rfl (S_idx rfl rfl (by repeat (first | assumption | exact RD.head | exact RD.nil | apply RD.tail)) (by first | rfl | assumption | (symm; assumption)) (by rfl) (by first | assumption | omega | exact lt_of_get (by assumption) | (simp only [List.length_set]; first | assumption | omega | exact lt_of_get (by assumption))) fun hp32 => ?_)
          refine WO_step rfl (S_fldE rfl (by repeat (first | assumption | apply IsP.padd)) ?_)
          refine WO_step rfl (S_loadF rfl (by repeat (first | assumption | exact RD.head | exact RD.nil | apply RD.tail)) (by rfl) (by assumption) (by rfl) (by rfl) ?_)
          refine WO_step rfl (S_pure rfl ?_)
          refine WO_step rfl (S_loadO rfl (by repeat (first | exact Pick.head | apply Pick.tail)) (by rfl) (by rfl) ?_)
          first | refine WO_step rfl (S_neS rfl rfl ?_) | refine WO_step rfl (S_pure rfl ?_)
          refine WO_nil ?_
          refine KSeq_n ?_
          refine WC_cond rfl (fun hb4 => ?_) (fun hb4 => ?_)
          ·
            try simp only [decide_eq_true_eq, decide_eq_false_iff_not, Bool.not_eq_true', Bool.not_eq_false', beq_iff_eq, bne_iff_ne, beq_eq_false_iff_ne, Int.ofNat_lt, Int.ofNat_le, Int.ofNat_inj, ne_eq, gt_iff_lt, ge_iff_le] at hb4
            refine WC_region ?_
            refine WO_step rfl (S_pure rfl ?_)
            refine WO_step rfl (S_pure rfl ?_)
            refine WO_step rfl (S_pure rfl ?_)
            refine WO_step rfl (S_idx rfl rfl (by repeat (first | assumption | exact RD.head | exact RD.nil | apply RD.tail)) (by first | rfl | assumption | (symm; assumption)) (by rfl) (by first | assumption | omega | exact lt_of_get (by assumption) | (simp only [List.length_set]; first | assumption | omega | exact lt_of_get (by assumption))) fun hp41 => ?_)
            refine WO_step rfl (S_loadE rfl (by repeat (first | assumption | exact RD.head | exact RD.nil | apply RD.tail)) (by first | rfl | assumption | (symm; assumption)) (by first | rfl | assumption | (symm; assumption)) (by first | rfl | assumption | (symm; assumption)) (by assumption) ?_)
            refine WO_step rfl (S_lit1 (T := TRec) rfl rfl rfl rfl fun w43 => ?_)
            refine WO_step rfl (S_app rfl rfl (by repeat (first | exact Pick.head | apply Pick.tail)) (by first | exact SRC.str rfl rfl | (apply RD.src; repeat (first | assumption | exact RD.head | exact RD.nil | apply RD.tail))) (by rfl) (by rfl) (by (try simp only [List.length_append, List.length_cons, List.length_nil]); omega) fun w44 => ?_)
            refine WO_step rfl (S_pure rfl ?_)
            refine WO_nil ?_
            refine KBlock_n ?_
            refine KSeq_n ?_
            refine WC_region ?_
            refine WO_step rfl (S_pure rfl ?_)
            first | refine WO_step rfl (S_addN (b := 1) rfl rfl (by omega) ?_) | refine WO_step rfl (S_pure rfl ?_)
            refine WO_step rfl (S_pure rfl ?_)
            refine WO_nil ?_
            refine KLoop_n ?_
            refine WC_weak (ih (l.length - (a + 1)) (by omega) (a + 1) w44 d (out ++ [x]) rfl (by omega) (by simp; omega) ?_) (by repeat (first | exact SubE.nil | apply SubE.cons rfl)) (by repeat (first | exact HSub.refl | refine HSub.pick (by repeat (first | exact Pick.head | apply Pick.tail)) ?_ | apply HSub.drop))
            rw [hg1, setR_c3 hb2 hb4] at he
            rw [← he]; simp [hg1]
          ·
            try simp only [decide_eq_true_eq, decide_eq_false_iff_not, Bool.not_eq_true', Bool.not_eq_false', beq_iff_eq, bne_iff_ne, beq_eq_false_iff_ne, Int.ofNat_lt, Int.ofNat_le, Int.ofNat_inj, ne_eq, gt_iff_lt, ge_iff_le] at hb4
            refine WC_skip ?_
            refine KBlock_n ?_
            refine KSeq_n ?_
            refine WC_region ?_
            refine WO_step rfl (S_pure rfl ?_)
            first | refine WO_step rfl (S_addN (b := 1) rfl rfl (by omega) ?_) | refine WO_step rfl (S_pure rfl ?_)
            refine WO_step rfl (S_pure rfl ?_)
            refine WO_nil ?_
            refine KLoop_n ?_
            refine WC_weak (ih (l.length - (a + 1)) (by omega) (a + 1) w d out rfl (by omega) (by omega) ?_) (by repeat (first | exact SubE.nil | apply SubE.cons rfl)) (by repeat (first | exact HSub.refl | refine HSub.pick (by repeat (first | exact Pick.head | apply Pick.tail)) ?_ | apply HSub.drop))
            rw [hg1, setR_c4 hb2 hb4] at he
            rw [← he]; simp [hg1]
      ·
        try simp only [decide_eq_true_eq, decide_eq_false_iff_not, Bool.not_eq_true', Bool.not_eq_false', beq_iff_eq, bne_iff_ne, beq_eq_false_iff_ne, Int.ofNat_lt, Int.ofNat_le, Int.ofNat_inj, ne_eq, gt_iff_lt, ge_iff_le] at hg1
        refine WO_off rfl ?_
        refine WO_off rfl ?_
        refine WO_off rfl ?_
        refine WO_off rfl ?_
        refine WO_off rfl ?_
        refine WO_off rfl ?_
        refine WO_off rfl ?_
        refine WO_off rfl ?_
        refine WO_step rfl (S_pure rfl ?_)
        refine WO_nil ?_
        refine KSeq_n ?_
        refine WC_cond rfl (fun h => ?_) (fun _ => ?_)
        · exact absurd h (by decide)
        refine WC_skip ?_
        refine KSeq_n ?_
        refine WC_seq ?_
        refine WC_region ?_
        refine WO_step rfl (S_pure rfl ?_)
        refine WO_step rfl (S_pure rfl ?_)
        refine WO_step rfl (S_idx rfl rfl (by repeat (first | assumption | exact RD.head | exact RD.nil | apply RD.tail)) (by first | rfl | assumption | (symm; assumption)) (by rfl) (by first | assumption | omega | exact lt_of_get (by assumption) | (simp only [List.length_set]; first | assumption | omega | exact lt_of_get (by assumption))) fun hp32 => ?_)
        refine WO_step rfl (S_fldE rfl (by repeat (first | assumption | apply IsP.padd)) ?_)
        refine WO_step rfl (S_loadF rfl (by repeat (first | assumption | exact RD.head | exact RD.nil | apply RD.tail)) (by rfl) (by assumption) (by rfl) (by rfl) ?_)
        refine WO_step rfl (S_pure rfl ?_)
        refine WO_step rfl (S_loadO rfl (by repeat (first | exact Pick.head | apply Pick.tail)) (by rfl) (by rfl) ?_)
        first | refine WO_step rfl (S_neS rfl rfl ?_) | refine WO_step rfl (S_pure rfl ?_)
        refine WO_nil ?_
        refine KSeq_n ?_
        refine WC_cond rfl (fun hb5 => ?_) (fun hb5 => ?_)
        ·
          try simp only [decide_eq_true_eq, decide_eq_false_iff_not, Bool.not_eq_true', Bool.not_eq_false', beq_iff_eq, bne_iff_ne, beq_eq_false_iff_ne, Int.ofNat_lt, Int.ofNat_le, Int.ofNat_inj, ne_eq, gt_iff_lt, ge_iff_le] at hb5
          refine WC_region ?_
          refine WO_step rfl (S_pure rfl ?_)
          refine WO_step rfl (S_pure rfl ?_)
          refine WO_step rfl (S_pure rfl ?_)
          refine WO_step rfl (S_idx rfl rfl (by repeat (first | assumption | exact RD.head | exact RD.nil | apply RD.tail)) (by first | rfl | assumption | (symm; assumption)) (by rfl) (by first | assumption | omega | exact lt_of_get (by assumption) | (simp only [List.length_set]; first | assumption | omega | exact lt_of_get (by assumption))) fun hp41 => ?_)
          refine WO_step rfl (S_loadE rfl (by repeat (first | assumption | exact RD.head | exact RD.nil | apply RD.tail)) (by first | rfl | assumption | (symm; assumption)) (by first | rfl | assumption | (symm; assumption)) (by first | rfl | assumption | (symm; assumption)) (by assumption) ?_)
          refine WO_step rfl (S_lit1 (T := TRec) rfl rfl rfl rfl fun w43 => ?_)
          refine WO_step rfl (S_app rfl rfl (by repeat (first | exact Pick.head | apply Pick.tail)) (by first | exact SRC.str rfl rfl | (apply RD.src; repeat (first | assumption | exact RD.head | exact RD.nil | apply RD.tail))) (by rfl) (by rfl) (by (try simp only [List.length_append, List.length_cons, List.length_nil]); omega) fun w44 => ?_)
          refine WO_step rfl (S_pure rfl ?_)
          refine WO_nil ?_
          refine KBlock_n ?_
          refine KSeq_n ?_
          refine WC_region ?_
          refine WO_step rfl (S_pure rfl ?_)
          first | refine WO_step rfl (S_addN (b := 1) rfl rfl (by omega) ?_) | refine WO_step rfl (S_pure rfl ?_)
          refine WO_step rfl (S_pure rfl ?_)
          refine WO_nil ?_
          refine KLoop_n ?_
          refine WC_weak (ih (l.length - (a + 1)) (by omega) (a + 1) w44 d (out ++ [x]) rfl (by omega) (by simp; omega) ?_) (by repeat (first | exact SubE.nil | apply SubE.cons rfl)) (by repeat (first | exact HSub.refl | refine HSub.pick (by repeat (first | exact Pick.head | apply Pick.tail)) ?_ | apply HSub.drop))
          rw [hg1, setR_c5 hb5] at he
          rw [← he]; simp [hg1]
        ·
          try simp only [decide_eq_true_eq, decide_eq_false_iff_not, Bool.not_eq_true', Bool.not_eq_false', beq_iff_eq, bne_iff_ne, beq_eq_false_iff_ne, Int.ofNat_lt, Int.ofNat_le, Int.ofNat_inj, ne_eq, gt_iff_lt, ge_iff_le] at hb5
          refine WC_skip ?_
          refine KBlock_n ?_
          refine KSeq_n ?_
          refine WC_region ?_
          refine WO_step rfl (S_pure rfl ?_)
          first | refine WO_step rfl (S_addN (b := 1) rfl rfl (by omega) ?_) | refine WO_step rfl (S_pure rfl ?_)
          refine WO_step rfl (S_pure rfl ?_)
          refine WO_nil ?_
          refine KLoop_n ?_
          refine WC_weak (ih (l.length - (a + 1)) (by omega) (a + 1) w d out rfl (by omega) (by omega) ?_) (by repeat (first | exact SubE.nil | apply SubE.cons rfl)) (by repeat (first | exact HSub.refl | refine HSub.pick (by repeat (first | exact Pick.head | apply Pick.tail)) ?_ | apply HSub.drop))
          rw [hg1, setR_c6 hb5] at he
          rw [← he]; simp [hg1]
    ·
      try simp only [decide_eq_true_eq, decide_eq_false_iff_not, Bool.not_eq_true', Bool.not_eq_false', beq_iff_eq, bne_iff_ne, beq_eq_false_iff_ne, Int.ofNat_lt, Int.ofNat_le, Int.ofNat_inj, ne_eq, gt_iff_lt, ge_iff_le] at hb1
      refine WC_exit ?_
      refine KSeq_x ?_
      refine KLoop_x ?_
      rw [List.drop_of_length_le (by omega)] at he
      exact KPost_i (by repeat (first | exact SubE.nil | apply SubE.cons rfl)) (by repeat (first | exact HSub.refl | refine HSub.pick (by repeat (first | exact Pick.head | apply Pick.tail)) ?_ | apply HSub.drop)) ⟨w, d, out, rfl, rfl, rfl, by omega, he⟩
theorem sp_Set {H : SH} {v : Value} {l : List Rec} {r : Rec} (hv : RD H v TRec l) (hl : l.length ≤ 1000) : WF F X f_loessref10_Set [v, TRec.val r] H (fun q H' => ∃ w : SV, H' = SL w.toV TRec (setR r l false) :: H ∧ q = w.toV) := by
  refine WF_fn F_loessref10_Set ?_
  refine WC_seq ?_
  refine WC_region ?_
  refine WO_step rfl (S_box rfl rfl fun i3 => ?_)
  refine WO_step rfl (S_pure rfl ?_)
  refine WO_nil ?_
  refine KSeq_n ?_
  refine WC_seq ?_
  refine WC_region ?_
  refine WO_step rfl (S_pure rfl ?_)
  refine WO_nil ?_
  refine KSeq_n ?_
  refine WC_seq ?_
  refine WC_region ?_
  refine WO_step rfl (S_pure rfl ?_)
  refine WO_nil ?_
  refine KSeq_n ?_
  refine WC_seq ?_
  refine WC_seq ?_
  refine WC_region ?_
  refine WO_step rfl (S_pure rfl ?_)
  refine WO_nil ?_
  refine KSeq_n ?_
  refine WC_block ?_
  refine WC_view (H' := SL (SV.toV .nil) TRec [] :: .obj i3 (.row false 32 (cells (TRec.val r))) :: H) (fun h hh => HAg.addNil hh) ?_
  refine WC_post (WC_weak (lp_Set (r := r) (i3 := i3) hv hl l.length 0 .nil false [] (by omega) (by omega) (by simp) (by simp)) (by repeat (first | exact SubE.nil | apply SubE.cons rfl)) HSub.refl) ?_
  rintro x l' H' ⟨w, d, out, rfl, rfl, rfl, ho, he⟩
  refine KBlock_h ?_
  refine KSeq_n ?_
  refine WC_seq ?_
  refine WC_seq ?_
  refine WC_region ?_
  refine WO_step rfl (S_pure rfl ?_)
  refine WO_step rfl (S_pure rfl ?_)
  refine WO_nil ?_
  refine KSeq_n ?_
  refine WC_cond rfl (fun hb1 => ?_) (fun hb1 => ?_)
  ·
    try simp only [decide_eq_true_eq, decide_eq_false_iff_not, Bool.not_eq_true', Bool.not_eq_false', beq_iff_eq, bne_iff_ne, beq_eq_false_iff_ne, Int.ofNat_lt, Int.ofNat_le, Int.ofNat_inj, ne_eq, gt_iff_lt, ge_iff_le] at hb1
    refine WC_region ?_
    refine WO_step rfl (S_pure rfl ?_)
    first | refine WO_step rfl (S_loadT rfl (by repeat (first | exact Pick.head | apply Pick.tail)) (by rfl) (by rfl) ?_) | refine WO_step rfl (S_loadO rfl (by repeat (first | exact Pick.head | apply Pick.tail)) (by rfl) (by rfl) ?_)
    refine WO_step rfl (S_lit1 (T := TRec) rfl rfl rfl rfl fun w49 => ?_)
    refine WO_step rfl (S_app rfl rfl (by repeat (first | exact Pick.head | apply Pick.tail)) (by first | exact SRC.str rfl rfl | (apply RD.src; repeat (first | assumption | exact RD.head | exact RD.nil | apply RD.tail))) (by rfl) (by rfl) (by (try simp only [List.length_append, List.length_cons, List.length_nil]); omega) fun w50 => ?_)
    refine WO_step rfl (S_pure rfl ?_)
    refine WO_nil ?_
    refine KSeq_n ?_
    refine WC_seq ?_
    refine WC_region ?_
    refine WO_step rfl (S_pure rfl ?_)
    refine WO_step rfl (S_pure rfl ?_)
    refine WO_nil ?_
    refine KSeq_n ?_
    refine WC_ret ?_
    refine KFn_r (ResL.tmp rfl ResL.nil) ?_
    refine ⟨SL w50.toV TRec (out ++ [r]) :: H, (by repeat (first | exact HSub.refl | refine HSub.pick (by repeat (first | exact Pick.head | apply Pick.tail)) ?_ | apply HSub.drop)), w50, ?_, rfl⟩
    rw [← he]; simp_all
  ·
    try simp only [decide_eq_true_eq, decide_eq_false_iff_not, Bool.not_eq_true', Bool.not_eq_false', beq_iff_eq, bne_iff_ne, beq_eq_false_iff_ne, Int.ofNat_lt, Int.ofNat_le, Int.ofNat_inj, ne_eq, gt_iff_lt, ge_iff_le] at hb1
    refine WC_skip ?_
    refine KSeq_n ?_
    refine WC_seq ?_
    refine WC_region ?_
    refine WO_step rfl (S_pure rfl ?_)
    refine WO_step rfl (S_pure rfl ?_)
    refine WO_nil ?_
    refine KSeq_n ?_
    refine WC_ret ?_
    refine KFn_r (ResL.tmp rfl ResL.nil) ?_
    refine ⟨SL w.toV TRec out :: H, (by repeat (first | exact HSub.refl | refine HSub.pick (by repeat (first | exact Pick.head | apply Pick.tail)) ?_ | apply HSub.drop)), w, ?_, rfl⟩
    rw [← he]; simp_all
end Go.Proofs.Ytjbichljgfcigaa.AM
