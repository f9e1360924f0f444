/- Walks: what the functions compute. -/
import Derived.Test.YtkiijlaibapmaaaBack
import Derived.Test.YtkiijlaibapmaaaAny
namespace Go.Proofs.Ytkiijlaibapmaaa.AM
open Go
set_option linter.unusedSimpArgs false
set_option linter.unusedVariables false
set_option maxRecDepth 4000

/-! ### RecordMany -/
def putAll (l : List Rec) : List UInt8 := (l.filter mayRec).flatMap putRec
theorem putRec_len3 {r : Rec} (hm : mayRec r = true) (hw : wfRec r) : (putRec r).length ≤ 100 := by
  obtain ⟨hk, hn, hs, hq⟩ := hw
  simp only [mayRec, Bool.and_eq_true] at hm
  obtain ⟨hk1, hv⟩ := hm
  have hks : r.key.size ≤ 16 := by simp [mayKey] at hk1; omega
  have hpl := put_len (n := (r.key.size : Int)) (by omega) (by omega)
  have hpl0 := put_len (n := 0) (by omega) (by omega)
  have hsl : r.key.data.toList.length = r.key.size := Array.length_toList
  unfold putRec putText
  rw [List.length_append, List.length_append]
  split
  · omega
  · rename_i hg
    simp only [hg, Bool.false_eq_true, if_false] at hv
    have hp1 := put_len hk.1 hk.2
    have hp2 := put_len hn.1 hn.2
    have hp3 := put_len (n := (r.val.s.size : Int)) (by omega) (by omega)
    have hsl2 : r.val.s.data.toList.length = r.val.s.size := Array.length_toList
    unfold putVal putText
    rw [List.length_append]
    rcases mayRaw_of hv with ⟨h, _⟩ | ⟨h, _, h2⟩
    · rw [if_pos h]; omega
    · rw [if_neg (by omega), List.length_append]; omega
theorem putAll_len : ∀ (l : List Rec), (∀ x ∈ l, wfRec x) → (putAll l).length ≤ 100 * l.length
  | [], _ => by simp [putAll]
  | r :: l, h => by
    have ih := putAll_len l (fun x hx => h x (List.mem_cons_of_mem _ hx))
    unfold putAll at ih ⊢
    rw [List.filter_cons]
    split
    · rename_i hm
      have := putRec_len3 hm (h r (List.mem_cons_self ..))
      rw [List.flatMap_cons, List.length_append, List.length_cons]; omega
    · rw [List.length_cons]; omega
theorem putAll_take {l : List Rec} {a : Nat} {x : Rec} (hx : l[a]? = some x) : putAll (l.take (a + 1)) = putAll (l.take a) ++ if mayRec x then putRec x else [] := by
  unfold putAll
  rw [List.take_add_one, hx]
  simp only [Option.toList_some, List.filter_append, List.flatMap_append]
  congr 1
  cases hm : mayRec x <;> simp [List.filter_cons, hm]
theorem filt_take {l : List Rec} {a : Nat} {x : Rec} (hx : l[a]? = some x) : (l.take (a + 1)).filter mayRec = (l.take a).filter mayRec ++ if mayRec x then [x] else [] := by
  rw [List.take_add_one, hx]
  simp only [Option.toList_some, List.filter_append]
  congr 1
  cases hm : mayRec x <;> simp [List.filter_cons, hm]
theorem lp_Many0 {H : SH} {v : Value} {l : List Rec} (hv : RD H v TRec l) (hl : l.length ≤ 20) (hw : ∀ x ∈ l, wfRec x) : ∀ (n a : Nat) (w u : SV), l.length - a = n → a ≤ l.length →
    WC F X (.loop L_loesslaw10_RecordMany_0) [(6, .int .i64 a), (0, v), (4, w.toV), (5, u.toV)] (SL w.toV TByte (putAll (l.take a)) :: SL u.toV TRec ((l.take a).filter mayRec) :: H)
      (KPost fun x l' H' => ∃ w u : SV, x = .exit 0 ∧ l' = [(4, w.toV), (5, u.toV)] ∧ H' = SL w.toV TByte (putAll l) :: SL u.toV TRec (l.filter mayRec) :: H) := by
  intro n
  induction n using Nat.strongRecOn with
  | _ n ih =>
    intro a w u hn ha
    refine WC_loop ?_
    refine WC_seq ?_
    refine WC_seq ?_
    refine WC_region ?_
    refine WO_step rfl (S_pure rfl ?_)
    refine WO_step rfl (S_pure rfl ?_)
    first | refine WO_step rfl (S_pure rfl ?_) | refine WO_step rfl (S_lenS rfl (by repeat (first | assumption | exact RD.head | exact RD.nil | apply RD.tail)) ?_)
    refine WO_step rfl (S_pure rfl ?_)
    refine WO_nil ?_
    refine KSeq_n ?_
    refine WC_cond rfl (fun hb1 => ?_) (fun hb1 => ?_)
    ·
      try simp only [decide_eq_true_eq, decide_eq_false_iff_not, Bool.not_eq_true', Bool.not_eq_false', beq_iff_eq, bne_iff_ne, beq_eq_false_iff_ne, Int.ofNat_lt, Int.ofNat_le, Int.ofNat_inj, ne_eq, gt_iff_lt, ge_iff_le] at hb1
      obtain ⟨x, hx⟩ := get_of_lt hb1
      have hwx := hw x (List.mem_of_getElem? hx)
      have hpl := putAll_len (l.take a) (fun y hy => hw y (List.mem_of_mem_take hy))
      have hfl : ((l.take a).filter mayRec).length ≤ a := Nat.le_trans (List.length_filter_le _ _) (by rw [List.length_take]; omega)
      rw [List.length_take] at hpl
      have htk := putAll_take hx
      have hfk := filt_take hx
      refine WC_skip ?_
      refine KSeq_n ?_
      refine WC_seq ?_
      refine WC_block ?_
      refine WC_seq ?_
      refine WC_region ?_
      refine WO_step rfl (S_pure rfl ?_)
      refine WO_step rfl (S_pure rfl ?_)
      refine WO_step rfl (S_idx rfl rfl (by repeat (first | assumption | exact RD.head | exact RD.nil | apply RD.tail)) (by first | rfl | assumption | (symm; assumption)) (by rfl) (by first | assumption | omega | exact lt_of_get (by assumption) | (simp only [List.length_set]; first | assumption | omega | exact lt_of_get (by assumption))) fun hp24 => ?_)
      refine WO_step rfl (S_loadE rfl (by repeat (first | assumption | exact RD.head | exact RD.nil | apply RD.tail)) (by first | rfl | assumption | (symm; assumption)) (by first | rfl | assumption | (symm; assumption)) (by first | rfl | assumption | (symm; assumption)) (by assumption) ?_)
      refine WO_call rfl rfl rfl ?_
      refine sp_May.mono ?_
      rintro _ _ ⟨rfl, rfl⟩
      refine WO_nil ?_
      refine KSeq_n ?_
      refine WC_cond rfl (fun hb2 => ?_) (fun hb2 => ?_)
      ·
        try simp only [decide_eq_true_eq, decide_eq_false_iff_not, Bool.not_eq_true', Bool.not_eq_false', beq_iff_eq, bne_iff_ne, beq_eq_false_iff_ne, Int.ofNat_lt, Int.ofNat_le, Int.ofNat_inj, ne_eq, gt_iff_lt, ge_iff_le] at hb2
        refine WC_seq ?_
        refine WC_region ?_
        refine WO_step rfl (S_pure rfl ?_)
        refine WO_step rfl (S_pure rfl ?_)
        refine WO_step rfl (S_pure rfl ?_)
        refine WO_step rfl (S_idx rfl rfl (by repeat (first | assumption | exact RD.head | exact RD.nil | apply RD.tail)) (by first | rfl | assumption | (symm; assumption)) (by rfl) (by first | assumption | omega | exact lt_of_get (by assumption) | (simp only [List.length_set]; first | assumption | omega | exact lt_of_get (by assumption))) fun hp30 => ?_)
        refine WO_step rfl (S_loadE rfl (by repeat (first | assumption | exact RD.head | exact RD.nil | apply RD.tail)) (by first | rfl | assumption | (symm; assumption)) (by first | rfl | assumption | (symm; assumption)) (by first | rfl | assumption | (symm; assumption)) (by assumption) ?_)
        refine WO_step rfl (S_lit1 (T := TRec) rfl rfl rfl rfl fun w32 => ?_)
        refine WO_step rfl (S_app rfl rfl (by repeat (first | exact Pick.head | apply Pick.tail)) (by first | exact SRC.str rfl rfl | (apply RD.src; repeat (first | assumption | exact RD.head | exact RD.nil | apply RD.tail))) (by rfl) (by rfl) (by (try simp only [List.length_append, List.length_cons, List.length_nil]); omega) fun w33 => ?_)
        refine WO_step rfl (S_pure rfl ?_)
        refine WO_nil ?_
        refine KSeq_n ?_
        refine WC_region ?_
        refine WO_step rfl (S_pure rfl ?_)
        refine WO_step rfl (S_pure rfl ?_)
        refine WO_step rfl (S_pure rfl ?_)
        refine WO_step rfl (S_idx rfl rfl (by repeat (first | assumption | exact RD.head | exact RD.nil | apply RD.tail)) (by first | rfl | assumption | (symm; assumption)) (by rfl) (by first | assumption | omega | exact lt_of_get (by assumption) | (simp only [List.length_set]; first | assumption | omega | exact lt_of_get (by assumption))) fun hp37 => ?_)
        refine WO_step rfl (S_loadE rfl (by repeat (first | assumption | exact RD.head | exact RD.nil | apply RD.tail)) (by first | rfl | assumption | (symm; assumption)) (by first | rfl | assumption | (symm; assumption)) (by first | rfl | assumption | (symm; assumption)) (by assumption) ?_)
        refine WO_call rfl rfl rfl ?_
        refine (sp_rPut (r := x) (by repeat (first | exact Pick.head | apply Pick.tail)) hwx (by omega)).mono ?_
        rintro _ _ ⟨w39, rfl, rfl⟩
        refine WO_step rfl (S_pure rfl ?_)
        refine WO_nil ?_
        refine KBlock_n ?_
        refine KSeq_n ?_
        refine WC_region ?_
        refine WO_step rfl (S_pure rfl ?_)
        first | refine WO_step rfl (S_addN (b := 1) rfl rfl (by omega) ?_) | refine WO_step rfl (S_pure rfl ?_)
        refine WO_step rfl (S_pure rfl ?_)
        refine WO_nil ?_
        refine KLoop_n ?_
        rw [hb2] at htk hfk
        simp only [if_true] at htk hfk
        have := ih (l.length - (a + 1)) (by omega) (a + 1) w39 w33 rfl (by omega)
        rw [htk, hfk] at this
        exact WC_weak this (by repeat (first | exact SubE.nil | apply SubE.cons rfl)) (by repeat (first | exact HSub.refl | refine HSub.pick (by repeat (first | exact Pick.head | apply Pick.tail)) ?_ | apply HSub.drop))
      ·
        try simp only [decide_eq_true_eq, decide_eq_false_iff_not, Bool.not_eq_true', Bool.not_eq_false', beq_iff_eq, bne_iff_ne, beq_eq_false_iff_ne, Int.ofNat_lt, Int.ofNat_le, Int.ofNat_inj, ne_eq, gt_iff_lt, ge_iff_le] at hb2
        refine WC_skip ?_
        refine KBlock_n ?_
        refine KSeq_n ?_
        refine WC_region ?_
        refine WO_step rfl (S_pure rfl ?_)
        first | refine WO_step rfl (S_addN (b := 1) rfl rfl (by omega) ?_) | refine WO_step rfl (S_pure rfl ?_)
        refine WO_step rfl (S_pure rfl ?_)
        refine WO_nil ?_
        refine KLoop_n ?_
        rw [hb2] at htk hfk
        simp only [Bool.false_eq_true, if_false, List.append_nil] at htk hfk
        have := ih (l.length - (a + 1)) (by omega) (a + 1) w u rfl (by omega)
        rw [htk, hfk] at this
        exact WC_weak this (by repeat (first | exact SubE.nil | apply SubE.cons rfl)) (by repeat (first | exact HSub.refl | refine HSub.pick (by repeat (first | exact Pick.head | apply Pick.tail)) ?_ | apply HSub.drop))
    ·
      try simp only [decide_eq_true_eq, decide_eq_false_iff_not, Bool.not_eq_true', Bool.not_eq_false', beq_iff_eq, bne_iff_ne, beq_eq_false_iff_ne, Int.ofNat_lt, Int.ofNat_le, Int.ofNat_inj, ne_eq, gt_iff_lt, ge_iff_le] at hb1
      refine WC_exit ?_
      refine KSeq_x ?_
      refine KLoop_x ?_
      have e : l.take a = l := List.take_of_length_le (by omega)
      rw [e]
      exact KPost_i (by repeat (first | exact SubE.nil | apply SubE.cons rfl)) (by repeat (first | exact HSub.refl | refine HSub.pick (by repeat (first | exact Pick.head | apply Pick.tail)) ?_ | apply HSub.drop)) ⟨w, u, rfl, rfl, rfl⟩
theorem lp_Many1 {H : SH} {u : Value} {m : List Rec} (hu : RD H u TRec m) (hm : ∀ x ∈ m, mayRec x = true ∧ wfRec x) (hl : m.length ≤ 20) : ∀ (n i : Nat) (vb : Value), m.length - i = n → i ≤ m.length → RD H vb TByte ((m.drop i).flatMap putRec) → ((m.drop i).flatMap putRec).length ≤ 2000 →
    WC F X (.loop L_loesslaw10_RecordMany_1) [(7, .int .i64 i), (5, u), (4, vb)] H
      (KPost fun x l' H' => H' = H ∧ ∃ vb, x = .exit 2 ∧ l' = [(4, vb)] ∧ RD H vb TByte []) := by
  intro n
  induction n using Nat.strongRecOn with
  | _ n ih =>
    intro i vb hn hi hvb hlb
    refine WC_loop ?_
    refine WC_seq ?_
    refine WC_seq ?_
    refine WC_region ?_
    refine WO_step rfl (S_pure rfl ?_)
    refine WO_step rfl (S_pure rfl ?_)
    first | refine WO_step rfl (S_pure rfl ?_) | refine WO_step rfl (S_lenS rfl (by repeat (first | assumption | exact RD.head | exact RD.nil | apply RD.tail)) ?_)
    refine WO_step rfl (S_pure rfl ?_)
    refine WO_nil ?_
    refine KSeq_n ?_
    refine WC_cond rfl (fun hb1 => ?_) (fun hb1 => ?_)
    ·
      try simp only [decide_eq_true_eq, decide_eq_false_iff_not, Bool.not_eq_true', Bool.not_eq_false', beq_iff_eq, bne_iff_ne, beq_eq_false_iff_ne, Int.ofNat_lt, Int.ofNat_le, Int.ofNat_inj, ne_eq, gt_iff_lt, ge_iff_le] at hb1
      obtain ⟨x, hx⟩ := get_of_lt hb1
      obtain ⟨hmx, hwx⟩ := hm x (List.mem_of_getElem? hx)
      have hdx : (m.drop i).flatMap putRec = putRec x ++ (m.drop (i + 1)).flatMap putRec := by rw [drop_get hx, List.flatMap_cons]
      rw [hdx] at hvb hlb
      have hvt := hvb.tailSl (es := 1) (a := (putRec x).length) rfl (by rw [List.length_append]; omega)
      rw [List.drop_left] at hvt
      have hpx := putRec_pos x
      rw [List.length_append] at hlb
      refine WC_skip ?_
      refine KSeq_n ?_
      refine WC_seq ?_
      refine WC_block ?_
      refine WC_seq ?_
      refine WC_region ?_
      refine WO_step rfl (S_pure rfl ?_)
      refine WO_call rfl rfl rfl ?_
      refine (sp_rGet hvb (by rw [List.length_append]; omega)).mono ?_
      rintro _ _ ⟨rfl, rfl⟩
      rw [getRec_put hmx hwx.2.1, getRecV_mk]
      refine WO_step rfl (S_pure rfl ?_)
      refine WO_step rfl (S_pure rfl ?_)
      refine WO_step rfl (S_pure rfl ?_)
      refine WO_step rfl (S_pure rfl ?_)
      refine WO_step rfl (S_new fun i8 => ?_)
      first | refine WO_step rfl (S_storeT rfl rfl (by repeat (first | exact Pick.head | apply Pick.tail)) (by rfl) (by rfl) ?_) | refine WO_step rfl (S_storeO rfl rfl (by repeat (first | exact Pick.head | apply Pick.tail)) (by first | rfl | exact SV.cells1 _) (by rfl) (by first | rfl | exact SV.ones _) ?_)
      refine WO_step rfl (S_pure rfl ?_)
      refine WO_step rfl (S_pure rfl ?_)
      refine WO_nil ?_
      refine KSeq_n ?_
      refine WC_seq ?_
      refine WC_seq ?_
      refine WC_region ?_
      refine WO_step rfl (S_pure rfl ?_)
      first | refine WO_step rfl (S_neS rfl rfl ?_) | refine WO_step rfl (S_pure rfl ?_)
      refine WO_step rfl (S_pure rfl ?_)
      refine WO_cases (t := 54) rfl (fun hg1 => ?_) (fun hg1 => ?_)
      ·
        try simp only [decide_eq_true_eq, decide_eq_false_iff_not, Bool.not_eq_true', Bool.not_eq_false', beq_iff_eq, bne_iff_ne, beq_eq_false_iff_ne, Int.ofNat_lt, Int.ofNat_le, Int.ofNat_inj, ne_eq, gt_iff_lt, ge_iff_le] at hg1
        exact absurd hg1 (by decide)
        --stop
      ·
        try simp only [decide_eq_true_eq, decide_eq_false_iff_not, Bool.not_eq_true', Bool.not_eq_false', beq_iff_eq, bne_iff_ne, beq_eq_false_iff_ne, Int.ofNat_lt, Int.ofNat_le, Int.ofNat_inj, ne_eq, gt_iff_lt, ge_iff_le] at hg1
        first | refine WO_step rfl (S_loadT rfl (by repeat (first | exact Pick.head | apply Pick.tail)) (by rfl) (by rfl) ?_) | refine WO_step rfl (S_loadO rfl (by repeat (first | exact Pick.head | apply Pick.tail)) (by rfl) (by rfl) ?_)
        refine WO_step rfl (S_pure rfl ?_)
        refine WO_step rfl (S_pure rfl ?_)
        refine WO_step rfl (S_idx rfl rfl (by repeat (first | assumption | exact RD.head | exact RD.nil | apply RD.tail)) (by first | rfl | assumption | (symm; assumption)) (by rfl) (by first | assumption | omega | exact lt_of_get (by assumption) | (simp only [List.length_set]; first | assumption | omega | exact lt_of_get (by assumption))) fun hp58 => ?_)
        refine WO_step rfl (S_loadE rfl (by repeat (first | assumption | exact RD.head | exact RD.nil | apply RD.tail)) (by first | rfl | assumption | (symm; assumption)) (by first | rfl | assumption | (symm; assumption)) (by first | rfl | assumption | (symm; assumption)) (by assumption) ?_)
        refine WO_call rfl rfl rfl ?_
        refine sp_Eq.mono ?_
        rintro _ _ ⟨rfl, rfl⟩
        refine WO_step rfl (S_pure rfl ?_)
        refine WO_step rfl (S_pure rfl ?_)
        refine WO_nil ?_
        refine KSeq_n ?_
        refine WC_cond rfl (fun hb2 => ?_) (fun hb2 => ?_)
        ·
          try simp only [decide_eq_true_eq, decide_eq_false_iff_not, Bool.not_eq_true', Bool.not_eq_false', beq_iff_eq, bne_iff_ne, beq_eq_false_iff_ne, Int.ofNat_lt, Int.ofNat_le, Int.ofNat_inj, ne_eq, gt_iff_lt, ge_iff_le] at hb2
          simp at hb2
          --stop
        ·
          try simp only [decide_eq_true_eq, decide_eq_false_iff_not, Bool.not_eq_true', Bool.not_eq_false', beq_iff_eq, bne_iff_ne, beq_eq_false_iff_ne, Int.ofNat_lt, Int.ofNat_le, Int.ofNat_inj, ne_eq, gt_iff_lt, ge_iff_le] at hb2
          refine WC_skip ?_
          refine KSeq_n ?_
          refine WC_region ?_
          refine WO_step rfl (S_pure rfl ?_)
          refine WO_step rfl (S_pure rfl ?_)
          refine WO_step rfl (S_cutV (a := (putRec x).length) (b := (putRec x ++ (m.drop (i + 1)).flatMap putRec).length) rfl (by repeat (first | assumption | exact RD.head | exact RD.nil | apply RD.tail)) (by rfl) (LB.mk rfl rfl) LB.dflt LB.dflt (by rw [List.length_append]; omega) (by omega) (by omega) ?_)
          refine WO_step rfl (S_pure rfl ?_)
          refine WO_nil ?_
          refine KBlock_n ?_
          refine KSeq_n ?_
          refine WC_region ?_
          refine WO_step rfl (S_pure rfl ?_)
          first | refine WO_step rfl (S_addN (b := 1) rfl rfl (by omega) ?_) | refine WO_step rfl (S_pure rfl ?_)
          refine WO_step rfl (S_pure rfl ?_)
          refine WO_nil ?_
          refine KLoop_n ?_
          exact WC_weak (ih (m.length - (i + 1)) (by omega) (i + 1) _ rfl (by omega) hvt (by omega)) (by repeat (first | exact SubE.nil | apply SubE.cons rfl)) (by repeat (first | exact HSub.refl | refine HSub.pick (by repeat (first | exact Pick.head | apply Pick.tail)) ?_ | apply HSub.drop))
    ·
      try simp only [decide_eq_true_eq, decide_eq_false_iff_not, Bool.not_eq_true', Bool.not_eq_false', beq_iff_eq, bne_iff_ne, beq_eq_false_iff_ne, Int.ofNat_lt, Int.ofNat_le, Int.ofNat_inj, ne_eq, gt_iff_lt, ge_iff_le] at hb1
      refine WC_exit ?_
      refine KSeq_x ?_
      refine KLoop_x ?_
      refine KPost_i (l' := [(4, vb)]) (by repeat (first | exact SubE.nil | apply SubE.cons rfl)) (by repeat (first | exact HSub.refl | refine HSub.pick (by repeat (first | exact Pick.head | apply Pick.tail)) ?_ | apply HSub.drop)) ⟨rfl, vb, rfl, rfl, ?_⟩
      rw [List.drop_of_length_le (by omega)] at hvb
      exact hvb
theorem walk_RecordMany {H : SH} {v : Value} {l : List Rec} (hv : RD H v TRec l) (hok : ∀ x ∈ l, okRec x) : WF F X f_loesslaw10_RecordMany [v] H (fun v _ => v = .bool true) := by
  have hL : ((l.take 20).map cutRec).length ≤ 20 := by simp; omega
  have hw : ∀ x ∈ (l.take 20).map cutRec, wfRec x := by
    intro x hx
    obtain ⟨y, hy, rfl⟩ := List.mem_map.1 hx
    exact wf_cut (hok y (List.mem_of_mem_take hy))
  generalize hLe : (l.take 20).map cutRec = L at *
  have hpl := putAll_len L hw
  refine WF_fn F_loesslaw10_RecordMany ?_
  refine WC_seq ?_
  refine WC_region ?_
  refine WO_step rfl (S_pure rfl ?_)
  refine WO_nil ?_
  refine KSeq_n ?_
  refine WC_seq ?_
  refine WC_region ?_
  refine WO_call rfl rfl rfl ?_
  refine sp_begun.mono ?_
  rintro _ _ ⟨rfl, rfl⟩
  refine WO_step rfl (S_pure rfl ?_)
  refine WO_nil ?_
  refine KSeq_n ?_
  refine WC_seq ?_
  refine WC_seq ?_
  refine WC_region ?_
  refine WO_step rfl (S_pure rfl ?_)
  refine WO_step rfl (S_pure rfl ?_)
  refine WO_nil ?_
  refine KSeq_n ?_
  refine WC_cond rfl (fun hb1 => ?_) (fun hb1 => ?_)
  ·
    try simp only [decide_eq_true_eq, decide_eq_false_iff_not, Bool.not_eq_true', Bool.not_eq_false', beq_iff_eq, bne_iff_ne, beq_eq_false_iff_ne, Int.ofNat_lt, Int.ofNat_le, Int.ofNat_inj, ne_eq, gt_iff_lt, ge_iff_le] at hb1
    exact absurd hb1 (by decide)
    --stop
  ·
    try simp only [decide_eq_true_eq, decide_eq_false_iff_not, Bool.not_eq_true', Bool.not_eq_false', beq_iff_eq, bne_iff_ne, beq_eq_false_iff_ne, Int.ofNat_lt, Int.ofNat_le, Int.ofNat_inj, ne_eq, gt_iff_lt, ge_iff_le] at hb1
    refine WC_skip ?_
    refine KSeq_n ?_
    refine WC_seq ?_
    refine WC_region ?_
    refine WO_step rfl (S_pure rfl ?_)
    refine WO_call rfl rfl rfl ?_
    refine (sp_Recs (m := 20) hv (by omega)).mono ?_
    rw [hLe]
    rintro _ _ ⟨wL, rfl, rfl⟩
    refine WO_step rfl (S_pure rfl ?_)
    refine WO_nil ?_
    refine KSeq_n ?_
    refine WC_seq ?_
    refine WC_region ?_
    refine WO_step rfl (S_pure rfl ?_)
    refine WO_nil ?_
    refine KSeq_n ?_
    refine WC_seq ?_
    refine WC_region ?_
    refine WO_step rfl (S_pure rfl ?_)
    refine WO_nil ?_
    refine KSeq_n ?_
    refine WC_seq ?_
    refine WC_seq ?_
    refine WC_region ?_
    refine WO_step rfl (S_pure rfl ?_)
    refine WO_nil ?_
    refine KSeq_n ?_
    refine WC_block ?_
    refine WC_view (H' := SL (SV.toV .nil) TByte [] :: SL (SV.toV .nil) TRec [] :: SL wL.toV TRec L :: _) (fun h hh => HAg.addNil (HAg.addNil hh)) ?_
    refine WC_post (WC_weak (lp_Many0 (H := SL wL.toV TRec L :: _) (v := wL.toV) (l := L) RD.head hL hw L.length 0 .nil .nil (by omega) (by omega)) (by repeat (first | exact SubE.nil | apply SubE.cons rfl)) (by repeat (first | exact HSub.refl | refine HSub.pick (by repeat (first | exact Pick.head | apply Pick.tail)) ?_ | apply HSub.drop))) ?_
    rintro y l' H' ⟨w, u, rfl, rfl, rfl⟩
    refine KBlock_h ?_
    refine KSeq_n ?_
    refine WC_seq ?_
    refine WC_seq ?_
    refine WC_region ?_
    refine WO_step rfl (S_pure rfl ?_)
    refine WO_nil ?_
    refine KSeq_n ?_
    refine WC_block ?_
    have hfl : (L.filter mayRec).length ≤ 20 := Nat.le_trans (List.length_filter_le _ _) hL
    have hp2 : (((L.filter mayRec).drop 0).flatMap putRec).length ≤ 2000 := by
      rw [List.drop_zero]; show (putAll L).length ≤ 2000; omega
    refine WC_post (WC_weak (lp_Many1 (H := SL w.toV TByte (putAll L) :: SL u.toV TRec (L.filter mayRec) :: SL wL.toV TRec L :: _) (u := u.toV) (m := L.filter mayRec) (by repeat (first | assumption | exact RD.head | exact RD.nil | apply RD.tail)) (fun x hx => ⟨(List.mem_filter.1 hx).2, hw x (List.mem_filter.1 hx).1⟩) hfl (L.filter mayRec).length 0 w.toV (by omega) (by omega) RD.head hp2) (by repeat (first | exact SubE.nil | apply SubE.cons rfl)) HSub.refl) ?_
    rintro y l' H' ⟨rfl, vb, rfl, rfl, hvb⟩
    refine KBlock_h ?_
    refine KSeq_n ?_
    refine WC_seq ?_
    refine WC_region ?_
    refine WO_step rfl (S_pure rfl ?_)
    first | refine WO_step rfl (S_pure rfl ?_) | refine WO_step rfl (S_lenS rfl (by repeat (first | assumption | exact RD.head | exact RD.nil | apply RD.tail)) ?_)
    first | refine WO_step rfl (S_eqS rfl rfl ?_) | refine WO_step rfl (S_pure rfl ?_)
    refine WO_step rfl (S_pure rfl ?_)
    refine WO_nil ?_
    refine KSeq_n ?_
    refine WC_ret ?_
    refine KFn_r (ResL.tmp rfl ResL.nil) ?_
    exact ⟨_, HSub.refl, rfl⟩
end Go.Proofs.Ytkiijlaibapmaaa.AM
