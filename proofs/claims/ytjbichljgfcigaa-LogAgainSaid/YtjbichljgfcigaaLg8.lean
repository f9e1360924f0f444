/- Walks: what the functions compute. -/
import Derived.Test.YtjbichljgfcigaaLg7
import Derived.Test.YtjbichljgfcigaaFlat
namespace Go.Proofs.Ytjbichljgfcigaa.AM
open Go
set_option linter.unusedSimpArgs false
set_option linter.unusedVariables false
set_option maxRecDepth 4000

/-! ### The law LogAgain -/
theorem put_new {l : List Rec} {r : Rec} (hm : mayRec r = true) (hn : ∀ q ∈ l, q.key ≠ r.key) (hr : Room (hsOf l ++ [kH r.key])) : putF l r = (0, l ++ [r]) := by
  unfold putF
  rw [if_neg (by rw [hm]; simp)]
  rcases idxK_spec l r.key with ⟨i, q, _, h2, h3⟩ | ⟨h1, _⟩
  · exact absurd h3 (hn q (List.mem_of_getElem? h2))
  · rw [h1, if_neg (by decide), if_pos hr]
theorem hsOf_app (a b : List Rec) : hsOf (a ++ b) = hsOf a ++ hsOf b := by unfold hsOf; rw [List.map_append]
theorem Room.left {a b : List Nat} (h : Room (a ++ b)) : Room a := h.mono fun S => by unfold cnt; rw [List.countP_append]; omega
theorem ofF_all : ∀ (N l : List Rec), (∀ r ∈ N, mayRec r = true) → (keysOf (l ++ N)).Nodup → Room (hsOf (l ++ N)) → ofF l N = (0, l ++ N)
  | [], l, _, _, _ => by rw [ofF, List.append_nil]
  | r :: N, l, hm, hn, hr => by
    have e : l ++ r :: N = (l ++ [r]) ++ N := by simp
    have hno : ∀ q ∈ l, q.key ≠ r.key := fun q hq e2 => by
      unfold keysOf at hn
      rw [List.map_append, List.nodup_append] at hn
      exact hn.2.2 q.key (List.mem_map.2 ⟨q, hq, rfl⟩) r.key (by simp) e2
    have hro : Room (hsOf l ++ [kH r.key]) := by
      rw [e, hsOf_app, hsOf_app] at hr
      exact hr.left
    rw [ofF, put_new (hm r (List.mem_cons_self ..)) hno hro]
    simp only [if_true]
    rw [ofF_all N (l ++ [r]) (fun q hq => hm q (List.mem_cons_of_mem _ hq)) (by rw [← e]; exact hn) (by rw [← e]; exact hr), e]
theorem LogI.room {es : List Ent} {l : List Rec} (g : LogI es l) : Room (hsOf l) := g.has.room
def AllMay (l : List Rec) : Prop := ∀ r ∈ l, mayRec r = true
theorem AllMay.put {l : List Rec} {r : Rec} (h : AllMay l) : AllMay (putF l r).2 := fun q hq => by
  by_cases hr : mayRec r = true
  · rcases put_mem hq with hq | rfl
    · exact h q hq
    · exact hr
  · unfold putF at hq
    rw [if_pos (by simpa using hr)] at hq
    exact h q hq
def turnL (t : Bool) (m : List Rec) : List Rec := if t then m.reverse else m
theorem turnL_perm (t : Bool) (m : List Rec) : (turnL t m).Perm m := by
  unfold turnL; split
  · exact List.reverse_perm m
  · exact List.Perm.refl m
theorem turnL_len (t : Bool) (m : List Rec) : (turnL t m).length = m.length := (turnL_perm t m).length_eq
theorem newest_inc {m : List Rec} (h : Inc m) : newest m = m := Inc.uniq (newest_spec m).1 h (fun k => fnd_newest h.nd k)
theorem lp_LA0 {H : SH} {v v1 : Value} {N : List Rec} {j iD : Nat} (hv : RD H v TRec N) (hN : N.length ≤ 100) : ∀ (m a : Nat) (w : SV) (l : List Rec) (es : List Ent), N.length - a = m → a ≤ N.length → LogI es l → AllMay l →
    WC F X (.loop L_loesslaw18_LogAgain_0) [(7, .int .i64 (a : Int)), (0, v), (6, .pointer (some ⟨j, 0, none⟩)), (1, v1)] (LO j iD w :: SL w.toV TRec l :: DO iD es l.length :: H)
      (KPost fun x l' H' => ∃ (w : SV) (l : List Rec) (es : List Ent), x = .exit 0 ∧ l' = [(6, .pointer (some ⟨j, 0, none⟩)), (1, v1)] ∧ H' = LO j iD w :: SL w.toV TRec l :: DO iD es l.length :: H ∧ LogI es l ∧ AllMay l) := by
  intro m
  induction m using Nat.strongRecOn with
  | _ m ih =>
    intro a w l es hm ha hg hal
    refine WC_loop ?_
    refine WC_seq ?_
    refine WC_seq ?_
    refine WC_region ?_
    refine WO_step rfl (S_pure rfl ?_)
    refine WO_step rfl (S_pure rfl ?_)
    first | refine WO_step rfl (S_pure rfl ?_) | refine WO_step rfl (S_lenS rfl (by repeat (first | assumption | exact RD.head | exact RD.nil | apply RD.tail)) ?_)
    refine WO_step rfl (S_pure rfl ?_)
    refine WO_nil ?_
    refine KSeq_n ?_
    refine WC_cond rfl (fun hb1 => ?_) (fun hb1 => ?_)
    ·
      try simp only [decide_eq_true_eq, decide_eq_false_iff_not, Bool.not_eq_true', Bool.not_eq_false', beq_iff_eq, bne_iff_ne, beq_eq_false_iff_ne, Int.ofNat_lt, Int.ofNat_le, Int.ofNat_inj, ne_eq, gt_iff_lt, ge_iff_le] at hb1
      obtain ⟨r, hr⟩ := get_of_lt hb1
      refine WC_skip ?_
      refine KSeq_n ?_
      refine WC_seq ?_
      refine WC_block ?_
      refine WC_region ?_
      refine WO_step rfl (S_pure rfl ?_)
      refine WO_step rfl (S_pure rfl ?_)
      refine WO_step rfl (S_pure rfl ?_)
      refine WO_step rfl (S_idx rfl rfl (by repeat (first | assumption | exact RD.head | exact RD.nil | apply RD.tail)) (by first | rfl | assumption | (symm; assumption)) (by rfl) (by first | assumption | omega | exact lt_of_get (by assumption) | (simp only [List.length_set]; first | assumption | omega | exact lt_of_get (by assumption))) fun hp29 => ?_)
      refine WO_step rfl (S_loadE rfl (by repeat (first | assumption | exact RD.head | exact RD.nil | apply RD.tail)) (by first | rfl | assumption | (symm; assumption)) (by first | rfl | assumption | (symm; assumption)) (by first | rfl | assumption | (symm; assumption)) (by assumption) ?_)
      refine WO_call rfl rfl rfl ?_
      refine (WF.weak (sp_lPut (H := H) (w := w) (i := iD) (j := j) (r := r) hg) (by repeat (first | exact HSub.refl | refine HSub.pick (by repeat (first | exact Pick.head | apply Pick.tail)) ?_ | apply HSub.drop))).mono ?_
      rintro _ _ ⟨es', w', rfl, rfl, hg'⟩
      refine WO_nil ?_
      refine KBlock_n ?_
      refine KSeq_n ?_
      refine WC_region ?_
      refine WO_step rfl (S_pure rfl ?_)
      first | refine WO_step rfl (S_addN (b := 1) rfl rfl (by omega) ?_) | refine WO_step rfl (S_pure rfl ?_)
      refine WO_step rfl (S_pure rfl ?_)
      refine WO_nil ?_
      refine KLoop_n ?_
      exact WC_weak (ih (N.length - (a + 1)) (by omega) (a + 1) w' (putF l r).2 es' rfl (by omega) hg' hal.put) (by repeat (first | exact SubE.nil | apply SubE.cons rfl)) (by repeat (first | exact HSub.refl | refine HSub.pick (by repeat (first | exact Pick.head | apply Pick.tail)) ?_ | apply HSub.drop))
    ·
      try simp only [decide_eq_true_eq, decide_eq_false_iff_not, Bool.not_eq_true', Bool.not_eq_false', beq_iff_eq, bne_iff_ne, beq_eq_false_iff_ne, Int.ofNat_lt, Int.ofNat_le, Int.ofNat_inj, ne_eq, gt_iff_lt, ge_iff_le] at hb1
      refine WC_exit ?_
      refine KSeq_x ?_
      refine KLoop_x ?_
      exact KPost_i (by repeat (first | exact SubE.nil | apply SubE.cons rfl)) (by repeat (first | exact HSub.refl | refine HSub.pick (by repeat (first | exact Pick.head | apply Pick.tail)) ?_ | apply HSub.drop)) ⟨w, l, es, rfl, rfl, rfl, hg, hal⟩
theorem lp_LA1 {H : SH} {v : Value} {M : List Rec} {t : Bool} (hv : RD H v TRec M) (hM : M.length ≤ 100) (v6 : Value) : ∀ (m a : Nat) (u : SV), M.length - a = m → a ≤ M.length →
    WC F X (.loop L_loesslaw18_LogAgain_1) [(10, .int .i64 (a : Int)), (8, v), (1, .bool t), (9, u.toV), (6, v6)] (SL u.toV TRec ((turnL t M).take a) :: H)
      (KPost fun x l' H' => ∃ (u : SV), x = .exit 2 ∧ l' = [(8, v), (9, u.toV), (6, v6)] ∧ H' = SL u.toV TRec (turnL t M) :: H) := by
  intro m
  induction m using Nat.strongRecOn with
  | _ m ih =>
    intro a u hm ha
    have htl := turnL_len t M
    have htl2 : ((turnL t M).take a).length = a := by rw [List.length_take]; omega
    refine WC_loop ?_
    refine WC_seq ?_
    refine WC_seq ?_
    refine WC_region ?_
    refine WO_step rfl (S_pure rfl ?_)
    refine WO_step rfl (S_pure rfl ?_)
    first | refine WO_step rfl (S_pure rfl ?_) | refine WO_step rfl (S_lenS rfl (by repeat (first | assumption | exact RD.head | exact RD.nil | apply RD.tail)) ?_)
    refine WO_step rfl (S_pure rfl ?_)
    refine WO_nil ?_
    refine KSeq_n ?_
    refine WC_cond rfl (fun hb1 => ?_) (fun hb1 => ?_)
    ·
      try simp only [decide_eq_true_eq, decide_eq_false_iff_not, Bool.not_eq_true', Bool.not_eq_false', beq_iff_eq, bne_iff_ne, beq_eq_false_iff_ne, Int.ofNat_lt, Int.ofNat_le, Int.ofNat_inj, ne_eq, gt_iff_lt, ge_iff_le] at hb1
      obtain ⟨q, hq⟩ := get_of_lt (show a < (turnL t M).length by omega)
      have hsucc : (turnL t M).take (a + 1) = (turnL t M).take a ++ [q] := by rw [List.take_add_one, hq]; rfl
      refine WC_skip ?_
      refine KSeq_n ?_
      refine WC_seq ?_
      refine WC_block ?_
      refine WC_seq ?_
      refine WC_region ?_
      refine WO_step rfl (S_pure rfl ?_)
      refine WO_step rfl (S_pure rfl ?_)
      refine WO_nil ?_
      refine KSeq_n ?_
      refine WC_seq ?_
      refine WC_seq ?_
      refine WC_region ?_
      refine WO_step rfl (S_pure rfl ?_)
      refine WO_nil ?_
      refine KSeq_n ?_
      refine WC_cond rfl (fun hb2 => ?_) (fun hb2 => ?_)
      ·
        try simp only [decide_eq_true_eq, decide_eq_false_iff_not, Bool.not_eq_true', Bool.not_eq_false', beq_iff_eq, bne_iff_ne, beq_eq_false_iff_ne, Int.ofNat_lt, Int.ofNat_le, Int.ofNat_inj, ne_eq, gt_iff_lt, ge_iff_le] at hb2
        have hqT : M[M.length - 1 - a]? = some q := by
          rw [hb2] at hq
          unfold turnL at hq
          rw [if_pos rfl, List.getElem?_reverse (by omega)] at hq
          exact hq
        refine WC_region ?_
        refine WO_step rfl (S_pure rfl ?_)
        first | refine WO_step rfl (S_pure rfl ?_) | refine WO_step rfl (S_lenS rfl (by repeat (first | assumption | exact RD.head | exact RD.nil | apply RD.tail)) ?_)
        first | refine WO_step rfl (S_subN (b := 1) rfl rfl (by omega) ?_) | refine WO_step rfl (S_pure rfl ?_)
        refine WO_step rfl (S_pure rfl ?_)
        first | refine WO_step rfl (S_subN rfl rfl (by omega) ?_) | refine WO_step rfl (S_pure rfl ?_)
        refine WO_step rfl (S_pure rfl ?_)
        refine WO_nil ?_
        refine KSeq_n ?_
        refine WC_region ?_
        refine WO_step rfl (S_pure rfl ?_)
        refine WO_step rfl (S_pure rfl ?_)
        refine WO_step rfl (S_pure rfl ?_)
        refine WO_step rfl (S_idx rfl rfl (by repeat (first | assumption | exact RD.head | exact RD.nil | apply RD.tail)) (by first | rfl | assumption | (symm; assumption)) (by rfl) (by first | assumption | omega | exact lt_of_get (by assumption) | (simp only [List.length_set]; first | assumption | omega | exact lt_of_get (by assumption))) fun hp50 => ?_)
        refine WO_step rfl (S_loadE rfl (by repeat (first | assumption | exact RD.head | exact RD.nil | apply RD.tail)) (by first | rfl | assumption | (symm; assumption)) (by first | rfl | assumption | (symm; assumption)) (by first | rfl | assumption | (symm; assumption)) (by assumption) ?_)
        refine WO_step rfl (S_lit1 (T := TRec) (y := q) rfl rfl rfl rfl fun w52 => ?_)
        refine WO_step rfl (S_app rfl rfl (by repeat (first | exact Pick.head | apply Pick.tail)) (by first | exact SRC.str rfl rfl | (apply RD.src; repeat (first | assumption | exact RD.head | exact RD.nil | apply RD.tail))) (by rfl) (by rfl) (by (try simp only [List.length_append, List.length_cons, List.length_nil]); omega) fun w53 => ?_)
        refine WO_step rfl (S_pure rfl ?_)
        refine WO_nil ?_
        refine KBlock_n ?_
        refine KSeq_n ?_
        refine WC_region ?_
        refine WO_step rfl (S_pure rfl ?_)
        first | refine WO_step rfl (S_addN (b := 1) rfl rfl (by omega) ?_) | refine WO_step rfl (S_pure rfl ?_)
        refine WO_step rfl (S_pure rfl ?_)
        refine WO_nil ?_
        refine KLoop_n ?_
        have := ih (M.length - (a + 1)) (by omega) (a + 1) w53 rfl (by omega)
        rw [hsucc] at this
        exact WC_weak this (by repeat (first | exact SubE.nil | apply SubE.cons rfl)) (by repeat (first | exact HSub.refl | refine HSub.pick (by repeat (first | exact Pick.head | apply Pick.tail)) ?_ | apply HSub.drop))
      ·
        try simp only [decide_eq_true_eq, decide_eq_false_iff_not, Bool.not_eq_true', Bool.not_eq_false', beq_iff_eq, bne_iff_ne, beq_eq_false_iff_ne, Int.ofNat_lt, Int.ofNat_le, Int.ofNat_inj, ne_eq, gt_iff_lt, ge_iff_le] at hb2
        have hqT : M[a]? = some q := by
          rw [hb2] at hq
          unfold turnL at hq
          simpa using hq
        refine WC_skip ?_
        refine KSeq_n ?_
        refine WC_region ?_
        refine WO_step rfl (S_pure rfl ?_)
        refine WO_step rfl (S_pure rfl ?_)
        refine WO_step rfl (S_pure rfl ?_)
        refine WO_step rfl (S_idx rfl rfl (by repeat (first | assumption | exact RD.head | exact RD.nil | apply RD.tail)) (by first | rfl | assumption | (symm; assumption)) (by rfl) (by first | assumption | omega | exact lt_of_get (by assumption) | (simp only [List.length_set]; first | assumption | omega | exact lt_of_get (by assumption))) fun hp50 => ?_)
        refine WO_step rfl (S_loadE rfl (by repeat (first | assumption | exact RD.head | exact RD.nil | apply RD.tail)) (by first | rfl | assumption | (symm; assumption)) (by first | rfl | assumption | (symm; assumption)) (by first | rfl | assumption | (symm; assumption)) (by assumption) ?_)
        refine WO_step rfl (S_lit1 (T := TRec) (y := q) rfl rfl rfl rfl fun w52 => ?_)
        refine WO_step rfl (S_app rfl rfl (by repeat (first | exact Pick.head | apply Pick.tail)) (by first | exact SRC.str rfl rfl | (apply RD.src; repeat (first | assumption | exact RD.head | exact RD.nil | apply RD.tail))) (by rfl) (by rfl) (by (try simp only [List.length_append, List.length_cons, List.length_nil]); omega) fun w53 => ?_)
        refine WO_step rfl (S_pure rfl ?_)
        refine WO_nil ?_
        refine KBlock_n ?_
        refine KSeq_n ?_
        refine WC_region ?_
        refine WO_step rfl (S_pure rfl ?_)
        first | refine WO_step rfl (S_addN (b := 1) rfl rfl (by omega) ?_) | refine WO_step rfl (S_pure rfl ?_)
        refine WO_step rfl (S_pure rfl ?_)
        refine WO_nil ?_
        refine KLoop_n ?_
        have := ih (M.length - (a + 1)) (by omega) (a + 1) w53 rfl (by omega)
        rw [hsucc] at this
        exact WC_weak this (by repeat (first | exact SubE.nil | apply SubE.cons rfl)) (by repeat (first | exact HSub.refl | refine HSub.pick (by repeat (first | exact Pick.head | apply Pick.tail)) ?_ | apply HSub.drop))
    ·
      try simp only [decide_eq_true_eq, decide_eq_false_iff_not, Bool.not_eq_true', Bool.not_eq_false', beq_iff_eq, bne_iff_ne, beq_eq_false_iff_ne, Int.ofNat_lt, Int.ofNat_le, Int.ofNat_inj, ne_eq, gt_iff_lt, ge_iff_le] at hb1
      refine WC_exit ?_
      refine KSeq_x ?_
      refine KLoop_x ?_
      refine KPost_i (by repeat (first | exact SubE.nil | apply SubE.cons rfl)) ?_ ⟨u, rfl, rfl, rfl⟩
      rw [List.take_of_length_le (by omega)]; exact (by repeat (first | exact HSub.refl | refine HSub.pick (by repeat (first | exact Pick.head | apply Pick.tail)) ?_ | apply HSub.drop))
theorem law_LogAgain {H : SH} {v0 : Value} {N0 : List Rec} (hv0 : RD H v0 TRec N0) (hok : ∀ x ∈ N0, okRec x) (t : Bool) : WF F X f_loesslaw18_LogAgain [v0, .bool t] H (fun v _ => v = .bool true) := by
  refine WF_fn F_loesslaw18_LogAgain ?_
  refine WC_seq ?_
  refine WC_region ?_
  refine WO_step rfl (S_pure rfl ?_)
  refine WO_nil ?_
  refine KSeq_n ?_
  refine WC_seq ?_
  refine WC_region ?_
  refine WO_call rfl rfl rfl ?_
  refine sp_begun.mono ?_
  rintro _ H1 ⟨rfl, rfl⟩
  refine WO_step rfl (S_pure rfl ?_)
  refine WO_nil ?_
  refine KSeq_n ?_
  refine WC_seq ?_
  refine WC_seq ?_
  refine WC_region ?_
  refine WO_step rfl (S_pure rfl ?_)
  refine WO_step rfl (S_pure rfl ?_)
  refine WO_nil ?_
  refine KSeq_n ?_
  refine WC_cond rfl (fun hb1 => ?_) (fun hb1 => ?_)
  ·
    try simp only [decide_eq_true_eq, decide_eq_false_iff_not, Bool.not_eq_true', Bool.not_eq_false', beq_iff_eq, bne_iff_ne, beq_eq_false_iff_ne, Int.ofNat_lt, Int.ofNat_le, Int.ofNat_inj, ne_eq, gt_iff_lt, ge_iff_le] at hb1
    exact absurd hb1 (by simp)
    --stop
  ·
    try simp only [decide_eq_true_eq, decide_eq_false_iff_not, Bool.not_eq_true', Bool.not_eq_false', beq_iff_eq, bne_iff_ne, beq_eq_false_iff_ne, Int.ofNat_lt, Int.ofNat_le, Int.ofNat_inj, ne_eq, gt_iff_lt, ge_iff_le] at hb1
    refine WC_skip ?_
    refine KSeq_n ?_
    refine WC_seq ?_
    refine WC_region ?_
    refine WO_step rfl (S_pure rfl ?_)
    refine WO_call rfl rfl rfl ?_
    refine (sp_Recs (m := 40) hv0 (by omega)).mono ?_
    rintro _ _ ⟨w0, rfl, rfl⟩
    obtain ⟨N, hN⟩ : ∃ N, (N0.take 40).map cutRec = N := ⟨_, rfl⟩
    have hNl : N.length ≤ 40 := by rw [← hN, List.length_map, List.length_take]; omega
    rw [hN]
    refine WO_step rfl (S_pure rfl ?_)
    refine WO_nil ?_
    refine KSeq_n ?_
    refine WC_seq ?_
    refine WC_region ?_
    refine WO_call rfl rfl rfl ?_
    refine sp_lNew.mono ?_
    rintro _ _ ⟨jL, iL, rfl, rfl⟩
    refine WO_step rfl (S_pure rfl ?_)
    refine WO_nil ?_
    refine KSeq_n ?_
    refine WC_seq ?_
    refine WC_seq ?_
    refine WC_region ?_
    refine WO_step rfl (S_pure rfl ?_)
    refine WO_nil ?_
    refine KSeq_n ?_
    refine WC_block ?_
    --out x0
    refine WC_post (WC_weak (lp_LA0 (H := SL w0.toV TRec N :: H1) (v1 := .bool t) (j := jL) (iD := iL) RD.head (by omega) N.length 0 .nil [] _ (by omega) (by omega) LogI.new (by intro r hr; simp at hr)) (by repeat (first | exact SubE.nil | apply SubE.cons rfl)) (by repeat (first | exact HSub.refl | refine HSub.pick (by repeat (first | exact Pick.head | apply Pick.tail)) ?_ | apply HSub.drop))) ?_
    rintro x l' _ ⟨w, l, es, rfl, rfl, rfl, hg, hal⟩
    have hlen := hg.len
    have hks : ∀ x ∈ l, x.key.size ≤ maxLen := fun x hx => by have := may_key (hal x hx); exact Nat.le_trans this (by decide)
    refine KBlock_h ?_
    refine KSeq_n ?_
    refine WC_seq ?_
    refine WC_region ?_
    refine WO_step rfl (S_pure rfl ?_)
    refine WO_call rfl rfl rfl ?_
    refine (WF.weak (sp_lList (H := SL w0.toV TRec N :: H1) (w := w) (j := jL) (i := iL) (n := l.length) (es := es) (l := l) (by omega) hks) (by repeat (first | exact HSub.refl | refine HSub.pick (by repeat (first | exact Pick.head | apply Pick.tail)) ?_ | apply HSub.drop))).mono ?_
    rintro _ _ ⟨u, rfl, rfl⟩
    obtain ⟨M, hM⟩ : ∃ M, newest l = M := ⟨_, rfl⟩
    have hMp : M.Perm l := by rw [← hM]; exact newest_perm hg.nd
    have hMl : M.length ≤ 32 := by rw [hMp.length_eq]; exact hlen
    have hMi : Inc M := by rw [← hM]; exact (newest_spec l).1
    rw [hM]
    refine WO_step rfl (S_pure rfl ?_)
    refine WO_nil ?_
    refine KSeq_n ?_
    refine WC_seq ?_
    refine WC_region ?_
    refine WO_step rfl (S_pure rfl ?_)
    refine WO_nil ?_
    refine KSeq_n ?_
    refine WC_seq ?_
    refine WC_seq ?_
    refine WC_region ?_
    refine WO_step rfl (S_pure rfl ?_)
    refine WO_nil ?_
    refine KSeq_n ?_
    refine WC_block ?_
    --out x2
    refine WC_view (H' := SL (SV.toV .nil) TRec [] :: SL u.toV TRec M :: LO jL iL w :: SL w.toV TRec l :: DO iL es l.length :: SL w0.toV TRec N :: H1) (fun h hh => HAg.addNil hh) ?_
    refine WC_post (WC_weak (lp_LA1 (H := SL u.toV TRec M :: LO jL iL w :: SL w.toV TRec l :: DO iL es l.length :: SL w0.toV TRec N :: H1) (t := t) RD.head (by omega) (.pointer (some ⟨jL, 0, none⟩)) M.length 0 .nil (by omega) (by omega)) (by repeat (first | exact SubE.nil | apply SubE.cons rfl)) (by repeat (first | exact HSub.refl | refine HSub.pick (by repeat (first | exact Pick.head | apply Pick.tail)) ?_ | apply HSub.drop))) ?_
    rintro x l' _ ⟨u2, rfl, rfl, rfl⟩
    have hTp : (turnL t M).Perm l := (turnL_perm t M).trans hMp
    have hTn : (keysOf (turnL t M)).Nodup := (hTp.map _).nodup_iff.2 hg.nd
    have hTm : AllMay (turnL t M) := fun r hr => hal r (hTp.mem_iff.1 hr)
    have hTr : Room (hsOf (turnL t M)) := (Room.perm_iff (hTp.map _)).2 hg.room
    have hall := ofF_all (turnL t M) [] hTm (by simpa using hTn) (by simpa using hTr)
    rw [List.nil_append] at hall
    have hTM : newest (turnL t M) = M := by
      rw [newest_same (turnL_perm t M) hMi.nd]; exact newest_inc hMi
    refine KBlock_h ?_
    refine KSeq_n ?_
    refine WC_seq ?_
    refine WC_region ?_
    refine WO_step rfl (S_pure rfl ?_)
    refine WO_call rfl rfl rfl ?_
    refine (sp_lOf (N := turnL t M) RD.head (by rw [turnL_len]; omega)).mono ?_
    rw [hall]
    rintro _ _ (⟨j2, i2, w2, es2, rfl, rfl, hg2, _⟩ | ⟨_, _, h0⟩)
    rotate_left
    · exact absurd rfl h0
    refine WO_step rfl (S_pure rfl ?_)
    refine WO_step rfl (S_pure rfl ?_)
    refine WO_step rfl (S_pure rfl ?_)
    refine WO_step rfl (S_pure rfl ?_)
    refine WO_step rfl (S_pure rfl ?_)
    refine WO_nil ?_
    refine KSeq_n ?_
    refine WC_seq ?_
    refine WC_region ?_
    refine WO_step rfl (S_pure rfl ?_)
    first | refine WO_step rfl (S_eqS rfl rfl ?_) | refine WO_step rfl (S_pure rfl ?_)
    refine WO_step rfl (S_pure rfl ?_)
    refine WO_cases (t := 61) rfl (fun hg1 => ?_) (fun hg1 => ?_)
    ·
      try simp only [decide_eq_true_eq, decide_eq_false_iff_not, Bool.not_eq_true', Bool.not_eq_false', beq_iff_eq, bne_iff_ne, beq_eq_false_iff_ne, Int.ofNat_lt, Int.ofNat_le, Int.ofNat_inj, ne_eq, gt_iff_lt, ge_iff_le] at hg1
      refine WO_step rfl (S_pure rfl ?_)
      refine WO_step rfl (S_pure rfl ?_)
      refine WO_call rfl rfl rfl ?_
      refine (sp_same (l := turnL t M) (m := M) hg2 hTm (by repeat (first | assumption | exact RD.head | exact RD.nil | apply RD.tail)) hTM).mono ?_
      rintro _ _ rfl
      refine WO_step rfl (S_pure rfl ?_)
      refine WO_step rfl (S_pure rfl ?_)
      refine WO_nil ?_
      refine KSeq_n ?_
      refine WC_ret ?_
      refine KFn_r (ResL.tmp rfl ResL.nil) ?_
      exact ⟨_, HSub.refl, by simp [resV]⟩
    ·
      try simp only [decide_eq_true_eq, decide_eq_false_iff_not, Bool.not_eq_true', Bool.not_eq_false', beq_iff_eq, bne_iff_ne, beq_eq_false_iff_ne, Int.ofNat_lt, Int.ofNat_le, Int.ofNat_inj, ne_eq, gt_iff_lt, ge_iff_le] at hg1
      refine WO_off rfl ?_
      refine WO_off rfl ?_
      refine WO_off rfl ?_
      refine WO_step rfl (S_pure rfl ?_)
      refine WO_step rfl (S_pure rfl ?_)
      refine WO_nil ?_
      refine KSeq_n ?_
      refine WC_ret ?_
      refine KFn_r (ResL.tmp rfl ResL.nil) ?_
      exact absurd hg1 (by simp)

end Go.Proofs.Ytjbichljgfcigaa.AM
