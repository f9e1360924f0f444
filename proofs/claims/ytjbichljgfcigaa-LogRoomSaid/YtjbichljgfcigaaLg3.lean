/- Walks: what the functions compute. -/
import Derived.Test.YtjbichljgfcigaaLg1
import Derived.Test.YtjbichljgfcigaaNewest
namespace Go.Proofs.Ytjbichljgfcigaa.AM
open Go
set_option linter.unusedSimpArgs false
set_option linter.unusedVariables false
set_option maxRecDepth 4000

/-! ### A log's list -/
theorem fnd_none_iff (k : ByteArray) : ∀ l : List Rec, fnd l k = none ↔ ∀ r ∈ l, r.key ≠ k
  | [] => by simp [fnd]
  | x :: l => by
    rw [fnd]
    by_cases h : x.key = k
    · rw [if_pos h]; simp [h]
    · rw [if_neg h, fnd_none_iff k l]; simp [h]
theorem mem_inj {l : List Rec} (hn : (keysOf l).Nodup) {a b : Rec} (h1 : a ∈ l) (h2 : b ∈ l) (h : a.key = b.key) : a = b := by
  obtain ⟨i, hi⟩ := List.getElem?_of_mem h1
  obtain ⟨j, hj⟩ := List.getElem?_of_mem h2
  have := key_inj hn hi hj h
  subst this
  rw [hi] at hj; cases hj; rfl
theorem fnd_some_iff {l : List Rec} (hn : (keysOf l).Nodup) {k : ByteArray} {r : Rec} : fnd l k = some r ↔ r ∈ l ∧ r.key = k := by
  constructor
  · exact fnd_mem'
  · rintro ⟨h1, rfl⟩
    cases h : fnd l r.key with
    | none => exact absurd rfl ((fnd_none_iff _ l).1 h r h1)
    | some q =>
      obtain ⟨h2, h3⟩ := fnd_mem' h
      rw [mem_inj hn h2 h1 h3]
theorem fnd_mem_congr {a b : List Rec} (ha : (keysOf a).Nodup) (hb : (keysOf b).Nodup) (h : ∀ r, r ∈ a ↔ r ∈ b) (k : ByteArray) : fnd a k = fnd b k := by
  cases e : fnd b k with
  | none => rw [fnd_none_iff] at e ⊢; exact fun r hr => e r ((h r).1 hr)
  | some r => rw [fnd_some_iff hb] at e; rw [fnd_some_iff ha]; exact ⟨(h r).2 e.1, e.2⟩
theorem keys_rev {l : List Rec} (h : (keysOf l).Nodup) : (keysOf l.reverse).Nodup := by
  unfold keysOf
  rw [List.map_reverse]; exact (List.reverse_perm _).nodup_iff.2 h
theorem fnd_newest {l : List Rec} (h : (keysOf l).Nodup) (k : ByteArray) : fnd (newest l) k = fnd l k := by
  rw [(newest_spec l).2 k]
  exact fnd_mem_congr (keys_rev h) h (fun r => List.mem_reverse) k
theorem Inc.nd {l : List Rec} (h : Inc l) : (keysOf l).Nodup := by
  unfold List.Nodup keysOf
  rw [List.pairwise_map]
  exact h.imp fun {a b} hab e => by
    unfold kl at hab
    rw [e] at hab
    exact List.lt_irrefl _ hab
theorem setR_perm {r : Rec} : ∀ {l : List Rec} {d : Bool}, (∀ y ∈ l, y.key ≠ r.key) → (setR r l d).Perm (if d then l else r :: l)
  | [], true, _ => by simp [setR]
  | [], false, _ => by simp [setR]
  | x :: l, true, h => by
    have hx := h x (List.mem_cons_self ..)
    have := setR_perm (r := r) (l := l) (d := true) (fun y hy => h y (List.mem_cons_of_mem _ hy))
    rw [setR_c5 hx]
    exact this.cons x
  | x :: l, false, h => by
    have hx := h x (List.mem_cons_self ..)
    have h1 := setR_perm (r := r) (l := l) (d := true) (fun y hy => h y (List.mem_cons_of_mem _ hy))
    have h2 := setR_perm (r := r) (l := l) (d := false) (fun y hy => h y (List.mem_cons_of_mem _ hy))
    by_cases hlt : kl x < kl r
    · rw [setR_c3 hlt hx]
      exact (h2.cons x).trans (List.Perm.swap r x l)
    · rw [setR_c1 hlt hx]
      exact (h1.cons x).cons r
theorem newest_perm {l : List Rec} (h : (keysOf l).Nodup) : (newest l).Perm l := by
  have key : ∀ (n : Nat) (l : List Rec), l.length = n → (keysOf l).Nodup → (newest l).Perm l := by
    intro n
    induction n with
    | zero => intro l hl _; rw [List.length_eq_zero_iff.1 hl]; exact List.Perm.refl _
    | succ n ih =>
      intro l hl hn
      obtain ⟨B, y, rfl⟩ := snoc_of_pos (A := l) (by omega)
      rw [newest_snoc]
      unfold keysOf at hn
      rw [List.map_append, List.nodup_append] at hn
      have hB := ih B (by simp at hl; exact hl) hn.1
      refine (setR_perm (d := false) (fun z hz => ?_)).trans ?_
      · exact fun e => hn.2.2 z.key (List.mem_map.2 ⟨z, hB.mem_iff.1 hz, rfl⟩) y.key (by simp) e
      · simp only [Bool.false_eq_true, if_false]
        exact (hB.cons y).trans (List.perm_append_singleton y B).symm
  exact key _ l rfl h
/-- Is there room for a key, by the document? -/
def roomK (l : List Rec) (k : ByteArray) : Bool := (fnd l k).isSome || decide (Room (hsOf l ++ [kH k]))
theorem Room.perm_iff {a b : List Nat} (h : a.Perm b) : Room a ↔ Room b := ⟨Room.perm h, Room.perm h.symm⟩
theorem roomK_newest {l : List Rec} (h : (keysOf l).Nodup) (k : ByteArray) : roomK (newest l) k = roomK l k := by
  unfold roomK
  rw [fnd_newest h]
  congr 1
  rw [Bool.eq_iff_iff, decide_eq_true_eq, decide_eq_true_eq]
  exact Room.perm_iff ((newest_perm h).map _ |>.append_right _)
theorem put_code {l : List Rec} {r : Rec} (hm : mayRec r = true) : (putF l r).1 = if roomK l r.key then 0 else 5 := by
  unfold putF roomK
  rw [if_neg (by rw [hm]; simp)]
  rcases fnd_idx r.key l with ⟨h1, h2⟩ | ⟨i, q, h1, h2, _⟩
  · rw [h1, h2, if_neg (by decide)]
    by_cases hr : Room (hsOf l ++ [kH r.key])
    · rw [if_pos hr]; simp [hr]
    · rw [if_neg hr]; simp [hr]
  · rw [h1, h2, if_pos (Int.natCast_nonneg i)]; simp
theorem newest_put {l : List Rec} {r : Rec} (hn : (keysOf l).Nodup) (hn' : (keysOf (putF l r).2).Nodup) (h0 : (putF l r).1 = 0) : newest (putF l r).2 = setR r (newest l) false := by
  obtain ⟨a1, a2⟩ := setR_spec r (newest l) (newest_spec l).1
  refine Inc.uniq (newest_spec _).1 a1 (fun k => ?_)
  rw [fnd_newest hn', fnd_put hn h0, a2 k, fnd_newest hn]
  by_cases e : k = r.key
  · rw [if_pos e, if_pos e.symm]
  · rw [if_neg e, if_neg (fun c => e c.symm)]
theorem sp_lList {H : SH} {j i n : Nat} {w : SV} {l : List Rec} {es : List Ent} (hl : l.length ≤ 1000000) (hk : ∀ x ∈ l, x.key.size ≤ maxLen) : WF F X f_logstore_Log_List [.pointer (some ⟨j, 0, none⟩)] (LO j i w :: SL w.toV TRec l :: DO i es n :: H) (fun v H' => ∃ u : SV, v = u.toV ∧ H' = SL u.toV TRec (newest l) :: LO j i w :: SL w.toV TRec l :: DO i es n :: H) := by
  refine WF_fn F_logstore_Log_List ?_
  refine WC_seq ?_
  refine WC_region ?_
  refine WO_step rfl (S_pure rfl ?_)
  refine WO_nil ?_
  refine KSeq_n ?_
  refine WC_seq ?_
  refine WC_seq ?_
  refine WC_region ?_
  refine WO_step rfl (S_pure rfl ?_)
  refine WO_step rfl (S_pure rfl ?_)
  refine WO_nil ?_
  refine KSeq_n ?_
  refine WC_cond rfl (fun hb1 => ?_) (fun hb1 => ?_)
  ·
    try simp only [decide_eq_true_eq, decide_eq_false_iff_not, Bool.not_eq_true', Bool.not_eq_false', beq_iff_eq, bne_iff_ne, beq_eq_false_iff_ne, Int.ofNat_lt, Int.ofNat_le, Int.ofNat_inj, ne_eq, gt_iff_lt, ge_iff_le] at hb1
    exact absurd hb1 (by simp)
    --stop
  ·
    try simp only [decide_eq_true_eq, decide_eq_false_iff_not, Bool.not_eq_true', Bool.not_eq_false', beq_iff_eq, bne_iff_ne, beq_eq_false_iff_ne, Int.ofNat_lt, Int.ofNat_le, Int.ofNat_inj, ne_eq, gt_iff_lt, ge_iff_le] at hb1
    refine WC_skip ?_
    refine KSeq_n ?_
    refine WC_seq ?_
    refine WC_region ?_
    refine WO_step rfl (S_pure rfl ?_)
    refine WO_step rfl (S_pure rfl ?_)
    refine WO_step rfl (S_pure rfl ?_)
    refine WO_step rfl (S_loadO rfl (by repeat (first | exact Pick.head | apply Pick.tail)) (by rfl) (by rfl) ?_)
    refine WO_call rfl rfl rfl ?_
    refine (sp_rNewest (by repeat (first | assumption | exact RD.head | exact RD.nil | apply RD.tail)) (by omega) (by assumption)).mono ?_
    rintro _ _ ⟨w9, rfl, rfl⟩
    refine WO_step rfl (S_pure rfl ?_)
    refine WO_nil ?_
    refine KSeq_n ?_
    refine WC_ret ?_
    refine KFn_r (ResL.tmp rfl ResL.nil) ?_
    exact ⟨_, HSub.refl, _, rfl, rfl⟩
theorem lp_r22 {H : SH} {v : Value} {l : List Rec} {k : ByteArray} (hv : RD H v TRec l) (hL : l.length ≤ 1000) (hks : ∀ x ∈ l, x.key.size ≤ 1000000) : ∀ (n a : Nat) (w : SV), l.length - a = n → a ≤ l.length →
    WC F X (.loop L_loessref22_Room_0) [(8, .int .i64 (a : Int)), (0, v), (1, .string k), (7, w.toV)] (SL w.toV TUN (hsOf (l.take a)) :: H) (KPost fun x l' H' => ∃ w : SV, x = .exit 0 ∧ l' = [(1, .string k), (7, w.toV)] ∧ H' = SL w.toV TUN (hsOf l) :: H) := by
  intro n
  induction n using Nat.strongRecOn with
  | _ n ih =>
    intro a w hn ha
    have hhl : (hsOf (l.take a)).length = a := by unfold hsOf; rw [List.length_map, List.length_take]; omega
    refine WC_loop ?_
    refine WC_seq ?_
    refine WC_seq ?_
    refine WC_region ?_
    refine WO_step rfl (S_pure rfl ?_)
    refine WO_step rfl (S_pure rfl ?_)
    first | refine WO_step rfl (S_pure rfl ?_) | refine WO_step rfl (S_lenS rfl (by repeat (first | assumption | exact RD.head | exact RD.nil | apply RD.tail)) ?_)
    refine WO_step rfl (S_pure rfl ?_)
    refine WO_nil ?_
    refine KSeq_n ?_
    refine WC_cond rfl (fun hb1 => ?_) (fun hb1 => ?_)
    ·
      try simp only [decide_eq_true_eq, decide_eq_false_iff_not, Bool.not_eq_true', Bool.not_eq_false', beq_iff_eq, bne_iff_ne, beq_eq_false_iff_ne, Int.ofNat_lt, Int.ofNat_le, Int.ofNat_inj, ne_eq, gt_iff_lt, ge_iff_le] at hb1
      obtain ⟨q, hq⟩ := get_of_lt hb1
      have hqs := hks q (List.mem_of_getElem? hq)
      have htk : hsOf (l.take (a + 1)) = hsOf (l.take a) ++ [kH q.key] := by unfold hsOf; rw [List.take_add_one, hq, List.map_append]; rfl
      refine WC_skip ?_
      refine KSeq_n ?_
      refine WC_seq ?_
      refine WC_block ?_
      refine WC_region ?_
      refine WO_step rfl (S_pure rfl ?_)
      refine WO_step rfl (S_pure rfl ?_)
      refine WO_step rfl (S_pure rfl ?_)
      refine WO_step rfl (S_idx rfl rfl (by repeat (first | assumption | exact RD.head | exact RD.nil | apply RD.tail)) (by first | rfl | assumption | (symm; assumption)) (by rfl) (by first | assumption | omega | exact lt_of_get (by assumption) | (simp only [List.length_set]; first | assumption | omega | exact lt_of_get (by assumption))) fun hp25 => ?_)
      refine WO_step rfl (S_fldE rfl (by repeat (first | assumption | apply IsP.padd)) ?_)
      refine WO_step rfl (S_loadF rfl (by repeat (first | assumption | exact RD.head | exact RD.nil | apply RD.tail)) (by rfl) (by assumption) (by rfl) (by rfl) ?_)
      refine WO_call rfl rfl rfl ?_
      refine (sp_RHash hqs).mono ?_
      rintro _ _ ⟨rfl, rfl⟩
      rw [kH_eq]
      refine WO_step rfl (S_lit1 (T := TUN) (y := kH q.key) rfl rfl rfl rfl fun w29 => ?_)
      refine WO_step rfl (S_app rfl rfl (by repeat (first | exact Pick.head | apply Pick.tail)) (by first | exact SRC.str rfl rfl | (apply RD.src; repeat (first | assumption | exact RD.head | exact RD.nil | apply RD.tail))) (by rfl) (by rfl) (by (try simp only [List.length_append, List.length_cons, List.length_nil]); omega) fun w30 => ?_)
      refine WO_step rfl (S_pure rfl ?_)
      refine WO_nil ?_
      refine KBlock_n ?_
      refine KSeq_n ?_
      refine WC_region ?_
      refine WO_step rfl (S_pure rfl ?_)
      first | refine WO_step rfl (S_addN (b := 1) rfl rfl (by omega) ?_) | refine WO_step rfl (S_pure rfl ?_)
      refine WO_step rfl (S_pure rfl ?_)
      refine WO_nil ?_
      refine KLoop_n ?_
      have := ih (l.length - (a + 1)) (by omega) (a + 1) w30 rfl (by omega)
      rw [htk] at this
      exact WC_weak this (by repeat (first | exact SubE.nil | apply SubE.cons rfl)) (by repeat (first | exact HSub.refl | refine HSub.pick (by repeat (first | exact Pick.head | apply Pick.tail)) ?_ | apply HSub.drop))
    ·
      try simp only [decide_eq_true_eq, decide_eq_false_iff_not, Bool.not_eq_true', Bool.not_eq_false', beq_iff_eq, bne_iff_ne, beq_eq_false_iff_ne, Int.ofNat_lt, Int.ofNat_le, Int.ofNat_inj, ne_eq, gt_iff_lt, ge_iff_le] at hb1
      refine WC_exit ?_
      refine KSeq_x ?_
      refine KLoop_x ?_
      have e : l.take a = l := List.take_of_length_le (by omega)
      rw [e]
      exact KPost_i (by repeat (first | exact SubE.nil | apply SubE.cons rfl)) (by repeat (first | exact HSub.refl | refine HSub.pick (by repeat (first | exact Pick.head | apply Pick.tail)) ?_ | apply HSub.drop)) ⟨w, rfl, rfl, rfl⟩
theorem sp_r22 {H : SH} {v : Value} {l : List Rec} {k : ByteArray} (hv : RD H v TRec l) (hL : l.length ≤ 1000) (hks : ∀ x ∈ l, x.key.size ≤ 1000000) (hk : k.size ≤ 1000000) : WF F X f_loessref22_Room [v, .string k] H (fun r H' => H' = H ∧ r = .bool (roomK l k)) := by
  refine WF_fn F_loessref22_Room ?_
  refine WC_seq ?_
  refine WC_region ?_
  refine WO_step rfl (S_pure rfl ?_)
  refine WO_nil ?_
  refine KSeq_n ?_
  refine WC_seq ?_
  refine WC_seq ?_
  refine WC_region ?_
  refine WO_step rfl (S_pure rfl ?_)
  refine WO_step rfl (S_pure rfl ?_)
  refine WO_call rfl rfl rfl ?_
  refine (sp_Find (by repeat (first | assumption | exact RD.head | exact RD.nil | apply RD.tail)) (by omega)).mono ?_
  rintro _ _ ⟨rfl, rfl⟩
  refine WO_step rfl (S_pure rfl ?_)
  refine WO_step rfl (S_pure rfl ?_)
  refine WO_step rfl (S_pure rfl ?_)
  refine WO_step rfl (S_newT TRec rec0 rfl rfl fun i5 => ?_)
  refine WO_step rfl (S_storeT (T := TRec) (y := (fnd l k).getD rec0) rfl rfl (by repeat (first | exact Pick.head | apply Pick.tail)) (by rfl) (by rfl) ?_)
  refine WO_step rfl (S_pure rfl ?_)
  refine WO_nil ?_
  refine KSeq_n ?_
  refine WC_seq ?_
  refine WC_region ?_
  refine WO_step rfl (S_pure rfl ?_)
  refine WO_nil ?_
  refine KSeq_n ?_
  refine WC_cond rfl (fun hb1 => ?_) (fun hb1 => ?_)
  ·
    try simp only [decide_eq_true_eq, decide_eq_false_iff_not, Bool.not_eq_true', Bool.not_eq_false', beq_iff_eq, bne_iff_ne, beq_eq_false_iff_ne, Int.ofNat_lt, Int.ofNat_le, Int.ofNat_inj, ne_eq, gt_iff_lt, ge_iff_le] at hb1
    refine WC_seq ?_
    refine WC_region ?_
    refine WO_step rfl (S_pure rfl ?_)
    refine WO_nil ?_
    refine KSeq_n ?_
    refine WC_ret ?_
    refine KSeq_r ?_
    refine KFn_r (ResL.tmp rfl ResL.nil) ?_
    refine ⟨_, HSub.refl.drop, rfl, ?_⟩
    unfold roomK
    rw [hb1]; rfl
  ·
    try simp only [decide_eq_true_eq, decide_eq_false_iff_not, Bool.not_eq_true', Bool.not_eq_false', beq_iff_eq, bne_iff_ne, beq_eq_false_iff_ne, Int.ofNat_lt, Int.ofNat_le, Int.ofNat_inj, ne_eq, gt_iff_lt, ge_iff_le] at hb1
    refine WC_skip ?_
    refine KSeq_n ?_
    refine WC_seq ?_
    refine WC_region ?_
    refine WO_step rfl (S_pure rfl ?_)
    refine WO_nil ?_
    refine KSeq_n ?_
    refine WC_seq ?_
    refine WC_seq ?_
    refine WC_region ?_
    refine WO_step rfl (S_pure rfl ?_)
    refine WO_nil ?_
    refine KSeq_n ?_
    refine WC_block ?_
    --out x0
    refine WC_view (H' := SL (SV.toV .nil) TUN [] :: _) (fun h hh => HAg.addNil hh) ?_
    refine WC_post (WC_weak (lp_r22 (H := OB i5 TRec ((fnd l k).getD rec0) :: _) (k := k) hv.tail hL hks l.length 0 .nil (by omega) (by omega)) (by repeat (first | exact SubE.nil | apply SubE.cons rfl)) (by repeat (first | exact HSub.refl | refine HSub.pick (by repeat (first | exact Pick.head | apply Pick.tail)) ?_ | apply HSub.drop))) ?_
    rintro x l' _ ⟨w, rfl, rfl, rfl⟩
    have hhl : (hsOf l).length = l.length := by unfold hsOf; rw [List.length_map]
    refine KBlock_h ?_
    refine KSeq_n ?_
    refine WC_seq ?_
    refine WC_region ?_
    refine WO_step rfl (S_pure rfl ?_)
    refine WO_step rfl (S_pure rfl ?_)
    refine WO_call rfl rfl rfl ?_
    refine (sp_RHash hk).mono ?_
    rintro _ _ ⟨rfl, rfl⟩
    rw [kH_eq]
    refine WO_step rfl (S_lit1 (T := TUN) (y := kH k) rfl rfl rfl rfl fun w34 => ?_)
    refine WO_step rfl (S_app rfl rfl (by repeat (first | exact Pick.head | apply Pick.tail)) (by first | exact SRC.str rfl rfl | (apply RD.src; repeat (first | assumption | exact RD.head | exact RD.nil | apply RD.tail))) (by rfl) (by rfl) (by (try simp only [List.length_append, List.length_cons, List.length_nil]); omega) fun w35 => ?_)
    refine WO_call rfl rfl rfl ?_
    refine (sp_Room RD.head (by simp; omega) (fun h hh => ?_)).mono ?_
    · rcases List.mem_append.1 hh with hh | hh
      · obtain ⟨r, _, rfl⟩ := List.mem_map.1 hh
        exact kH_lt _
      · simp at hh; rw [hh]; exact kH_lt _
    rintro _ _ ⟨rfl, rfl⟩
    refine WO_step rfl (S_pure rfl ?_)
    refine WO_nil ?_
    refine KSeq_n ?_
    refine WC_ret ?_
    refine KFn_r (ResL.tmp rfl ResL.nil) ?_
    refine ⟨_, (by repeat (first | exact HSub.refl | refine HSub.pick (by repeat (first | exact Pick.head | apply Pick.tail)) ?_ | apply HSub.drop)), rfl, ?_⟩
    unfold roomK
    rw [hb1]; rfl
end Go.Proofs.Ytjbichljgfcigaa.AM
