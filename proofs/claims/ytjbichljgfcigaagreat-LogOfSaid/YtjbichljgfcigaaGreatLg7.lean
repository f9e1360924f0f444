/- Walks: what the functions compute. -/
import Derived.Test.YtjbichljgfcigaaGreatLg1
import Derived.Test.YtjbichljgfcigaaGreatLg2
import Derived.Test.YtjbichljgfcigaaGreatNewest
namespace Go.Proofs.YtjbichljgfcigaaGreat.AM
open Go
set_option linter.unusedSimpArgs false
set_option linter.unusedVariables false
set_option maxRecDepth 4000

/-! ### A log's list -/
theorem fnd_none_iff (k : ByteArray) : ∀ l : List Rec, fnd l k = none ↔ ∀ r ∈ l, r.key ≠ k
  | [] => by simp [fnd]
  | x :: l => by
    rw [fnd]
    by_cases h : x.key = k
    · rw [if_pos h]; simp [h]
    · rw [if_neg h, fnd_none_iff k l]; simp [h]
theorem mem_inj {l : List Rec} (hn : (keysOf l).Nodup) {a b : Rec} (h1 : a ∈ l) (h2 : b ∈ l) (h : a.key = b.key) : a = b := by
  obtain ⟨i, hi⟩ := List.getElem?_of_mem h1
  obtain ⟨j, hj⟩ := List.getElem?_of_mem h2
  have := key_inj hn hi hj h
  subst this
  rw [hi] at hj; cases hj; rfl
theorem fnd_some_iff {l : List Rec} (hn : (keysOf l).Nodup) {k : ByteArray} {r : Rec} : fnd l k = some r ↔ r ∈ l ∧ r.key = k := by
  constructor
  · exact fnd_mem'
  · rintro ⟨h1, rfl⟩
    cases h : fnd l r.key with
    | none => exact absurd rfl ((fnd_none_iff _ l).1 h r h1)
    | some q =>
      obtain ⟨h2, h3⟩ := fnd_mem' h
      rw [mem_inj hn h2 h1 h3]
theorem fnd_mem_congr {a b : List Rec} (ha : (keysOf a).Nodup) (hb : (keysOf b).Nodup) (h : ∀ r, r ∈ a ↔ r ∈ b) (k : ByteArray) : fnd a k = fnd b k := by
  cases e : fnd b k with
  | none => rw [fnd_none_iff] at e ⊢; exact fun r hr => e r ((h r).1 hr)
  | some r => rw [fnd_some_iff hb] at e; rw [fnd_some_iff ha]; exact ⟨(h r).2 e.1, e.2⟩
theorem keys_rev {l : List Rec} (h : (keysOf l).Nodup) : (keysOf l.reverse).Nodup := by
  unfold keysOf
  rw [List.map_reverse]; exact (List.reverse_perm _).nodup_iff.2 h
theorem fnd_newest {l : List Rec} (h : (keysOf l).Nodup) (k : ByteArray) : fnd (newest l) k = fnd l k := by
  rw [(newest_spec l).2 k]
  exact fnd_mem_congr (keys_rev h) h (fun r => List.mem_reverse) k
theorem Inc.nd {l : List Rec} (h : Inc l) : (keysOf l).Nodup := by
  unfold List.Nodup keysOf
  rw [List.pairwise_map]
  exact h.imp fun {a b} hab e => by
    unfold kl at hab
    rw [e] at hab
    exact List.lt_irrefl _ hab
theorem setR_perm {r : Rec} : ∀ {l : List Rec} {d : Bool}, (∀ y ∈ l, y.key ≠ r.key) → (setR r l d).Perm (if d then l else r :: l)
  | [], true, _ => by simp [setR]
  | [], false, _ => by simp [setR]
  | x :: l, true, h => by
    have hx := h x (List.mem_cons_self ..)
    have := setR_perm (r := r) (l := l) (d := true) (fun y hy => h y (List.mem_cons_of_mem _ hy))
    rw [setR_c5 hx]
    exact this.cons x
  | x :: l, false, h => by
    have hx := h x (List.mem_cons_self ..)
    have h1 := setR_perm (r := r) (l := l) (d := true) (fun y hy => h y (List.mem_cons_of_mem _ hy))
    have h2 := setR_perm (r := r) (l := l) (d := false) (fun y hy => h y (List.mem_cons_of_mem _ hy))
    by_cases hlt : kl x < kl r
    · rw [setR_c3 hlt hx]
      exact (h2.cons x).trans (List.Perm.swap r x l)
    · rw [setR_c1 hlt hx]
      exact (h1.cons x).cons r
theorem newest_perm {l : List Rec} (h : (keysOf l).Nodup) : (newest l).Perm l := by
  have key : ∀ (n : Nat) (l : List Rec), l.length = n → (keysOf l).Nodup → (newest l).Perm l := by
    intro n
    induction n with
    | zero => intro l hl _; rw [List.length_eq_zero_iff.1 hl]; exact List.Perm.refl _
    | succ n ih =>
      intro l hl hn
      obtain ⟨B, y, rfl⟩ := snoc_of_pos (A := l) (by omega)
      rw [newest_snoc]
      unfold keysOf at hn
      rw [List.map_append, List.nodup_append] at hn
      have hB := ih B (by simp at hl; exact hl) hn.1
      refine (setR_perm (d := false) (fun z hz => ?_)).trans ?_
      · exact fun e => hn.2.2 z.key (List.mem_map.2 ⟨z, hB.mem_iff.1 hz, rfl⟩) y.key (by simp) e
      · simp only [Bool.false_eq_true, if_false]
        exact (hB.cons y).trans (List.perm_append_singleton y B).symm
  exact key _ l rfl h
/-- Is there room for a key, by the document? -/
def roomK (l : List Rec) (k : ByteArray) : Bool := (fnd l k).isSome || decide (Room (hsOf l ++ [kH k]))
theorem Room.perm_iff {a b : List Nat} (h : a.Perm b) : Room a ↔ Room b := ⟨Room.perm h, Room.perm h.symm⟩
theorem roomK_newest {l : List Rec} (h : (keysOf l).Nodup) (k : ByteArray) : roomK (newest l) k = roomK l k := by
  unfold roomK
  rw [fnd_newest h]
  congr 1
  rw [Bool.eq_iff_iff, decide_eq_true_eq, decide_eq_true_eq]
  exact Room.perm_iff ((newest_perm h).map _ |>.append_right _)
theorem put_code {l : List Rec} {r : Rec} (hm : mayRec r = true) : (putF l r).1 = if roomK l r.key then 0 else 5 := by
  unfold putF roomK
  rw [if_neg (by rw [hm]; simp)]
  rcases fnd_idx r.key l with ⟨h1, h2⟩ | ⟨i, q, h1, h2, _⟩
  · rw [h1, h2, if_neg (by decide)]
    by_cases hr : Room (hsOf l ++ [kH r.key])
    · rw [if_pos hr]; simp [hr]
    · rw [if_neg hr]; simp [hr]
  · rw [h1, h2, if_pos (Int.natCast_nonneg i)]; simp
theorem newest_put {l : List Rec} {r : Rec} (hn : (keysOf l).Nodup) (hn' : (keysOf (putF l r).2).Nodup) (h0 : (putF l r).1 = 0) : newest (putF l r).2 = setR r (newest l) false := by
  obtain ⟨a1, a2⟩ := setR_spec r (newest l) (newest_spec l).1
  refine Inc.uniq (newest_spec _).1 a1 (fun k => ?_)
  rw [fnd_newest hn', fnd_put hn h0, a2 k, fnd_newest hn]
  by_cases e : k = r.key
  · rw [if_pos e, if_pos e.symm]
  · rw [if_neg e, if_neg (fun c => e c.symm)]
theorem sp_lList {H : SH} {j i n : Nat} {w : SV} {l : List Rec} {es : List Ent} (hl : l.length ≤ 1000000) (hk : ∀ x ∈ l, x.key.size ≤ maxLen) : WF F X f_logstore_Log_List [.pointer (some ⟨j, 0, none⟩)] (LO j i w :: SL w.toV TRec l :: DO i es n :: H) (fun v H' => ∃ u : SV, v = u.toV ∧ H' = SL u.toV TRec (newest l) :: LO j i w :: SL w.toV TRec l :: DO i es n :: H) := by
  refine WF_fn F_logstore_Log_List ?_
  refine WC_seq ?_
  refine WC_region ?_
  refine WO_step rfl (S_pure rfl ?_)
  refine WO_nil ?_
  refine KSeq_n ?_
  refine WC_seq ?_
  refine WC_seq ?_
  refine WC_region ?_
  refine WO_step rfl (S_pure rfl ?_)
  refine WO_step rfl (S_pure rfl ?_)
  refine WO_nil ?_
  refine KSeq_n ?_
  refine WC_cond rfl (fun hb1 => ?_) (fun hb1 => ?_)
  ·
    try simp only [decide_eq_true_eq, decide_eq_false_iff_not, Bool.not_eq_true', Bool.not_eq_false', beq_iff_eq, bne_iff_ne, beq_eq_false_iff_ne, Int.ofNat_lt, Int.ofNat_le, Int.ofNat_inj, ne_eq, gt_iff_lt, ge_iff_le] at hb1
    exact absurd hb1 (by simp)
    --stop
  ·
    try simp only [decide_eq_true_eq, decide_eq_false_iff_not, Bool.not_eq_true', Bool.not_eq_false', beq_iff_eq, bne_iff_ne, beq_eq_false_iff_ne, Int.ofNat_lt, Int.ofNat_le, Int.ofNat_inj, ne_eq, gt_iff_lt, ge_iff_le] at hb1
    refine WC_skip ?_
    refine KSeq_n ?_
    refine WC_seq ?_
    refine WC_region ?_
    refine WO_step rfl (S_pure rfl ?_)
    refine WO_step rfl (S_pure rfl ?_)
    refine WO_step rfl (S_pure rfl ?_)
    refine WO_step rfl (S_loadO rfl (by repeat (first | exact Pick.head | apply Pick.tail)) (by rfl) (by rfl) ?_)
    refine WO_call rfl rfl rfl ?_
    refine (sp_rNewest (by repeat (first | assumption | exact RD.head | exact RD.nil | apply RD.tail)) (by omega) (by assumption)).mono ?_
    rintro _ _ ⟨w9, rfl, rfl⟩
    refine WO_step rfl (S_pure rfl ?_)
    refine WO_nil ?_
    refine KSeq_n ?_
    refine WC_ret ?_
    refine KFn_r (ResL.tmp rfl ResL.nil) ?_
    exact ⟨_, HSub.refl, _, rfl, rfl⟩
theorem lp_r22 {H : SH} {v : Value} {l : List Rec} {k : ByteArray} (hv : RD H v TRec l) (hL : l.length ≤ 1000) (hks : ∀ x ∈ l, x.key.size ≤ 1000000) : ∀ (n a : Nat) (w : SV), l.length - a = n → a ≤ l.length →
    WC F X (.loop L_loessref22_Room_0) [(8, .int .i64 (a : Int)), (0, v), (1, .string k), (7, w.toV)] (SL w.toV TUN (hsOf (l.take a)) :: H) (KPost fun x l' H' => ∃ w : SV, x = .exit 0 ∧ l' = [(1, .string k), (7, w.toV)] ∧ H' = SL w.toV TUN (hsOf l) :: H) := by
  intro n
  induction n using Nat.strongRecOn with
  | _ n ih =>
    intro a w hn ha
    have hhl : (hsOf (l.take a)).length = a := by unfold hsOf; rw [List.length_map, List.length_take]; omega
    refine WC_loop ?_
    refine WC_seq ?_
    refine WC_seq ?_
    refine WC_region ?_
    refine WO_step rfl (S_pure rfl ?_)
    refine WO_step rfl (S_pure rfl ?_)
    first | refine WO_step rfl (S_pure rfl ?_) | refine WO_step rfl (S_lenS rfl (by repeat (first | assumption | exact RD.head | exact RD.nil | apply RD.tail)) ?_)
    refine WO_step rfl (S_pure rfl ?_)
    refine WO_nil ?_
    refine KSeq_n ?_
    refine WC_cond rfl (fun hb1 => ?_) (fun hb1 => ?_)
    ·
      try simp only [decide_eq_true_eq, decide_eq_false_iff_not, Bool.not_eq_true', Bool.not_eq_false', beq_iff_eq, bne_iff_ne, beq_eq_false_iff_ne, Int.ofNat_lt, Int.ofNat_le, Int.ofNat_inj, ne_eq, gt_iff_lt, ge_iff_le] at hb1
      obtain ⟨q, hq⟩ := get_of_lt hb1
      have hqs := hks q (List.mem_of_getElem? hq)
      have htk : hsOf (l.take (a + 1)) = hsOf (l.take a) ++ [kH q.key] := by unfold hsOf; rw [List.take_add_one, hq, List.map_append]; rfl
      refine WC_skip ?_
      refine KSeq_n ?_
      refine WC_seq ?_
      refine WC_block ?_
      refine WC_region ?_
      refine WO_step rfl (S_pure rfl ?_)
      refine WO_step rfl (S_pure rfl ?_)
      refine WO_step rfl (S_pure rfl ?_)
      refine WO_step rfl (S_idx rfl rfl (by repeat (first | assumption | exact RD.head | exact RD.nil | apply RD.tail)) (by first | rfl | assumption | (symm; assumption)) (by rfl) (by first | assumption | omega | exact lt_of_get (by assumption) | (simp only [List.length_set]; first | assumption | omega | exact lt_of_get (by assumption))) fun hp25 => ?_)
      refine WO_step rfl (S_fldE rfl (by repeat (first | assumption | apply IsP.padd)) ?_)
      refine WO_step rfl (S_loadF rfl (by repeat (first | assumption | exact RD.head | exact RD.nil | apply RD.tail)) (by rfl) (by assumption) (by rfl) (by rfl) ?_)
      refine WO_call rfl rfl rfl ?_
      refine (sp_RHash hqs).mono ?_
      rintro _ _ ⟨rfl, rfl⟩
      rw [kH_eq]
      refine WO_step rfl (S_lit1 (T := TUN) (y := kH q.key) rfl rfl rfl rfl fun w29 => ?_)
      refine WO_step rfl (S_app rfl rfl (by repeat (first | exact Pick.head | apply Pick.tail)) (by first | exact SRC.str rfl rfl | (apply RD.src; repeat (first | assumption | exact RD.head | exact RD.nil | apply RD.tail))) (by rfl) (by rfl) (by (try simp only [List.length_append, List.length_cons, List.length_nil]); omega) fun w30 => ?_)
      refine WO_step rfl (S_pure rfl ?_)
      refine WO_nil ?_
      refine KBlock_n ?_
      refine KSeq_n ?_
      refine WC_region ?_
      refine WO_step rfl (S_pure rfl ?_)
      first | refine WO_step rfl (S_addN (b := 1) rfl rfl (by omega) ?_) | refine WO_step rfl (S_pure rfl ?_)
      refine WO_step rfl (S_pure rfl ?_)
      refine WO_nil ?_
      refine KLoop_n ?_
      have := ih (l.length - (a + 1)) (by omega) (a + 1) w30 rfl (by omega)
      rw [htk] at this
      exact WC_weak this (by repeat (first | exact SubE.nil | apply SubE.cons rfl)) (by repeat (first | exact HSub.refl | refine HSub.pick (by repeat (first | exact Pick.head | apply Pick.tail)) ?_ | apply HSub.drop))
    ·
      try simp only [decide_eq_true_eq, decide_eq_false_iff_not, Bool.not_eq_true', Bool.not_eq_false', beq_iff_eq, bne_iff_ne, beq_eq_false_iff_ne, Int.ofNat_lt, Int.ofNat_le, Int.ofNat_inj, ne_eq, gt_iff_lt, ge_iff_le] at hb1
      refine WC_exit ?_
      refine KSeq_x ?_
      refine KLoop_x ?_
      have e : l.take a = l := List.take_of_length_le (by omega)
      rw [e]
      exact KPost_i (by repeat (first | exact SubE.nil | apply SubE.cons rfl)) (by repeat (first | exact HSub.refl | refine HSub.pick (by repeat (first | exact Pick.head | apply Pick.tail)) ?_ | apply HSub.drop)) ⟨w, rfl, rfl, rfl⟩
theorem sp_r22 {H : SH} {v : Value} {l : List Rec} {k : ByteArray} (hv : RD H v TRec l) (hL : l.length ≤ 1000) (hks : ∀ x ∈ l, x.key.size ≤ 1000000) (hk : k.size ≤ 1000000) : WF F X f_loessref22_Room [v, .string k] H (fun r H' => H' = H ∧ r = .bool (roomK l k)) := by
  refine WF_fn F_loessref22_Room ?_
  refine WC_seq ?_
  refine WC_region ?_
  refine WO_step rfl (S_pure rfl ?_)
  refine WO_nil ?_
  refine KSeq_n ?_
  refine WC_seq ?_
  refine WC_seq ?_
  refine WC_region ?_
  refine WO_step rfl (S_pure rfl ?_)
  refine WO_step rfl (S_pure rfl ?_)
  refine WO_call rfl rfl rfl ?_
  refine (sp_Find (by repeat (first | assumption | exact RD.head | exact RD.nil | apply RD.tail)) (by omega)).mono ?_
  rintro _ _ ⟨rfl, rfl⟩
  refine WO_step rfl (S_pure rfl ?_)
  refine WO_step rfl (S_pure rfl ?_)
  refine WO_step rfl (S_pure rfl ?_)
  refine WO_step rfl (S_newT TRec rec0 rfl rfl fun i5 => ?_)
  refine WO_step rfl (S_storeT (T := TRec) (y := (fnd l k).getD rec0) rfl rfl (by repeat (first | exact Pick.head | apply Pick.tail)) (by rfl) (by rfl) ?_)
  refine WO_step rfl (S_pure rfl ?_)
  refine WO_nil ?_
  refine KSeq_n ?_
  refine WC_seq ?_
  refine WC_region ?_
  refine WO_step rfl (S_pure rfl ?_)
  refine WO_nil ?_
  refine KSeq_n ?_
  refine WC_cond rfl (fun hb1 => ?_) (fun hb1 => ?_)
  ·
    try simp only [decide_eq_true_eq, decide_eq_false_iff_not, Bool.not_eq_true', Bool.not_eq_false', beq_iff_eq, bne_iff_ne, beq_eq_false_iff_ne, Int.ofNat_lt, Int.ofNat_le, Int.ofNat_inj, ne_eq, gt_iff_lt, ge_iff_le] at hb1
    refine WC_seq ?_
    refine WC_region ?_
    refine WO_step rfl (S_pure rfl ?_)
    refine WO_nil ?_
    refine KSeq_n ?_
    refine WC_ret ?_
    refine KSeq_r ?_
    refine KFn_r (ResL.tmp rfl ResL.nil) ?_
    refine ⟨_, HSub.refl.drop, rfl, ?_⟩
    unfold roomK
    rw [hb1]; rfl
  ·
    try simp only [decide_eq_true_eq, decide_eq_false_iff_not, Bool.not_eq_true', Bool.not_eq_false', beq_iff_eq, bne_iff_ne, beq_eq_false_iff_ne, Int.ofNat_lt, Int.ofNat_le, Int.ofNat_inj, ne_eq, gt_iff_lt, ge_iff_le] at hb1
    refine WC_skip ?_
    refine KSeq_n ?_
    refine WC_seq ?_
    refine WC_region ?_
    refine WO_step rfl (S_pure rfl ?_)
    refine WO_nil ?_
    refine KSeq_n ?_
    refine WC_seq ?_
    refine WC_seq ?_
    refine WC_region ?_
    refine WO_step rfl (S_pure rfl ?_)
    refine WO_nil ?_
    refine KSeq_n ?_
    refine WC_block ?_
    --out x0
    refine WC_view (H' := SL (SV.toV .nil) TUN [] :: _) (fun h hh => HAg.addNil hh) ?_
    refine WC_post (WC_weak (lp_r22 (H := OB i5 TRec ((fnd l k).getD rec0) :: _) (k := k) hv.tail hL hks l.length 0 .nil (by omega) (by omega)) (by repeat (first | exact SubE.nil | apply SubE.cons rfl)) (by repeat (first | exact HSub.refl | refine HSub.pick (by repeat (first | exact Pick.head | apply Pick.tail)) ?_ | apply HSub.drop))) ?_
    rintro x l' _ ⟨w, rfl, rfl, rfl⟩
    have hhl : (hsOf l).length = l.length := by unfold hsOf; rw [List.length_map]
    refine KBlock_h ?_
    refine KSeq_n ?_
    refine WC_seq ?_
    refine WC_region ?_
    refine WO_step rfl (S_pure rfl ?_)
    refine WO_step rfl (S_pure rfl ?_)
    refine WO_call rfl rfl rfl ?_
    refine (sp_RHash hk).mono ?_
    rintro _ _ ⟨rfl, rfl⟩
    rw [kH_eq]
    refine WO_step rfl (S_lit1 (T := TUN) (y := kH k) rfl rfl rfl rfl fun w34 => ?_)
    refine WO_step rfl (S_app rfl rfl (by repeat (first | exact Pick.head | apply Pick.tail)) (by first | exact SRC.str rfl rfl | (apply RD.src; repeat (first | assumption | exact RD.head | exact RD.nil | apply RD.tail))) (by rfl) (by rfl) (by (try simp only [List.length_append, List.length_cons, List.length_nil]); omega) fun w35 => ?_)
    refine WO_call rfl rfl rfl ?_
    refine (sp_Room RD.head (by simp; omega) (fun h hh => ?_)).mono ?_
    · rcases List.mem_append.1 hh with hh | hh
      · obtain ⟨r, _, rfl⟩ := List.mem_map.1 hh
        exact kH_lt _
      · simp at hh; rw [hh]; exact kH_lt _
    rintro _ _ ⟨rfl, rfl⟩
    refine WO_step rfl (S_pure rfl ?_)
    refine WO_nil ?_
    refine KSeq_n ?_
    refine WC_ret ?_
    refine KFn_r (ResL.tmp rfl ResL.nil) ?_
    refine ⟨_, (by repeat (first | exact HSub.refl | refine HSub.pick (by repeat (first | exact Pick.head | apply Pick.tail)) ?_ | apply HSub.drop)), rfl, ?_⟩
    unfold roomK
    rw [hb1]; rfl
/-! ### The law LogRoom -/
theorem S_and15 {l : SE} {H : SH} {K : Value → SH → Prop} {x : Opd} {n : Int} (hx : x.lv l = some (.int .i64 n)) (k : ∀ m : Nat, m < 16 → K (.int .i64 (m : Int)) H) : Step (.bin .and x (.const (.int .i64 15))) l H K := by
  have hlt : (BitVec.ofInt 64 n &&& BitVec.ofInt 64 15).toNat < 16 := by
    rw [BitVec.toNat_and, show (BitVec.ofInt 64 15).toNat = 15 from rfl]
    have := Nat.and_le_right (n := (BitVec.ofInt 64 n).toNat) (m := 15)
    omega
  refine S_pureE (v := .int .i64 (IntKind.wrap .i64 ((BitVec.ofInt 64 n &&& BitVec.ofInt 64 15).toNat : Int))) (v' := .int .i64 (((BitVec.ofInt 64 n &&& BitVec.ofInt 64 15).toNat : Nat) : Int)) (by
    have h2 : (Opd.const (.int .i64 15)).lv l = some (.int .i64 15) := rfl
    simp only [pev, hx, h2, binV, intBin, if_true]; rfl) (by rw [wrap_i64 (by omega) (by omega)]) (k _ hlt)
theorem put_same {l : List Rec} {r : Rec} (hm : mayRec r = true) (hs : (fnd l r.key).isSome = true) : (putF l r).1 = 0 ∧ keysOf (putF l r).2 = keysOf l := by
  have h0 : (putF l r).1 = 0 := by rw [put_code hm]; unfold roomK; rw [hs]; rfl
  refine ⟨h0, ?_⟩
  unfold putF
  rw [if_neg (by rw [hm]; simp)]
  rcases fnd_idx r.key l with ⟨h1, _⟩ | ⟨i, q, h1, h2, h3⟩
  · rw [h1] at hs; cases hs
  · rw [h2, if_pos (Int.natCast_nonneg i), Int.toNat_natCast]
    exact keys_set h3 (fnd_mem' h1).2.symm
def Two (l : List Rec) : Prop := ∀ r ∈ l, r.key.size = 2
theorem Two.put {l : List Rec} {r : Rec} (h : Two l) (hr : r.key.size = 2) : Two (putF l r).2 := fun q hq => by
  rcases put_mem hq with hq | rfl
  · exact h q hq
  · exact hr
def kR (a b : Nat) : ByteArray := ⟨[UInt8.ofNat a, UInt8.ofNat b].toArray⟩
/-! ### What lies where, in a log -/
def occ (es : List Ent) (k : Nat) : List Int := if (at' es k).has then [(at' es k).id] else []
def occFrom (es : List Ent) : Nat → Nat → List Int
  | _, 0 => []
  | k, n + 1 => occ es k ++ occFrom es (k + 1) n
theorem Left.ids {es : List Ent} : ∀ (n k : Nat) (L : List Kv), k + n = 32 → Left es k L → (occFrom es k n).Perm (L.map (·.id))
  | 0, k, L, hk, h => by
    have : k = 32 := by omega
    subst this
    rw [h.end']; exact List.Perm.refl _
  | n + 1, k, L, hk, h => by
    rw [occFrom]
    unfold occ
    cases he : (at' es k).has with
    | false =>
      simp only [Bool.false_eq_true, if_false, List.nil_append]
      exact Left.ids n (k + 1) L (by omega) (h.none (by omega) he)
    | true =>
      simp only [if_true]
      obtain ⟨x, hx, hf⟩ := h.some (by omega) he
      obtain ⟨A, B, rfl⟩ := List.append_of_mem hx
      have h2 := Left.ids n (k + 1) (A ++ B) (by omega) (h.take (by omega) he hf)
      have e := (fits_iff.1 hf).1
      rw [List.map_append, List.map_cons]
      refine List.Perm.trans ?_ List.perm_middle.symm
      rw [e]
      rw [List.map_append] at h2
      exact h2.cons _
theorem Left.mem {es : List Ent} {l0 : List Kv} : ∀ (k : Nat), k ≤ 32 → Left es 0 l0 → ∃ L, Left es k L ∧ ∀ x ∈ L, x ∈ l0
  | 0, _, h => ⟨l0, h, fun _ hx => hx⟩
  | k + 1, hk, h => by
    obtain ⟨L, h1, h2⟩ := Left.mem k (by omega) h
    cases he : (at' es k).has with
    | false => exact ⟨L, h1.none (by omega) he, h2⟩
    | true =>
      obtain ⟨x, hx, hf⟩ := h1.some (by omega) he
      obtain ⟨A, B, rfl⟩ := List.append_of_mem hx
      exact ⟨A ++ B, h1.take (by omega) he hf, fun y hy => h2 y (by
        rcases List.mem_append.1 hy with hy | hy
        · exact List.mem_append_left _ hy
        · exact List.mem_append_right _ (List.mem_cons_of_mem _ hy))⟩
theorem kvsF_ids : ∀ (a : Nat) (l : List Rec), (kvsF a l).map (·.id) = (List.range' a l.length).map fun i => ((i : Nat) : Int)
  | _, [] => rfl
  | a, r :: l => by rw [kvsF, List.map_cons, kvsF_ids (a + 1) l, List.length_cons, List.range'_succ, List.map_cons]
/-- An occupied slot's record. -/
theorem LogI.slot {es : List Ent} {l : List Rec} (g : LogI es l) {k : Nat} (hk : k < 32) (he : (at' es k).has = true) : ∃ (i : Nat) (r : Rec), (at' es k).id = (i : Int) ∧ l[i]? = some r ∧ tagOf (kH r.key) = (at' es k).tag ∧ (k / 4 = frst (kH r.key) ∨ k / 4 = oth (frst (kH r.key)) (tagOf (kH r.key))) := by
  obtain ⟨L, h1, h2⟩ := Left.mem k (by omega) (Left.start g.holds)
  obtain ⟨x, hx, hf⟩ := h1.some hk he
  obtain ⟨i, r, hr, rfl⟩ := (kvsF_mem 0 l).1 (h2 x hx)
  obtain ⟨e1, e2, e3⟩ := fits_iff.1 hf
  simp only [Nat.zero_add] at e1
  exact ⟨i, r, e1.symm, hr, e2, by rw [e2]; exact e3⟩
def recAt (l : List Rec) (v : Int) : Rec := (l[v.toNat]?).getD rec0
def recsFrom (es : List Ent) (l : List Rec) (k n : Nat) : List Rec := (occFrom es k n).map (recAt l)
theorem range_recs (l : List Rec) : ((List.range' 0 l.length).map fun i => ((i : Nat) : Int)).map (recAt l) = l := by
  rw [List.map_map]
  refine List.ext_getElem (by simp) (fun i h1 h2 => ?_)
  simp [recAt, List.getElem?_eq_getElem h2]
theorem recs_perm {es : List Ent} {l : List Rec} (g : LogI es l) : (recsFrom es l 0 32).Perm l := by
  have h1 := Left.ids 32 0 (kvs l) rfl (Left.start g.holds)
  have h2 := h1.map (recAt l)
  unfold kvs at h2
  rw [kvsF_ids, range_recs] at h2
  exact h2
/-- A slot of the document's table. -/
structure SlT where
  has : Bool
  r : Rec
def slt0 : SlT := ⟨false, rec0⟩
def TSlT : Ty SlT := Ty.ofAgg 6 67 64 (fun s => [.bool s.has, .string s.r.key, .bool s.r.gone, .int .i64 s.r.val.kind, .int .i64 s.r.val.n, .string s.r.val.s]) (fun _ => rfl) (fun _ => rfl)
def sltOf (es : List Ent) (l : List Rec) (k : Nat) : SlT := if (at' es k).has then ⟨true, recAt l (at' es k).id⟩ else slt0
theorem newest_same {a b : List Rec} (h : a.Perm b) (hb : (keysOf b).Nodup) : newest a = newest b := by
  have ha : (keysOf a).Nodup := (h.map _).nodup_iff.2 hb
  refine Inc.uniq (newest_spec a).1 (newest_spec b).1 (fun k => ?_)
  rw [fnd_newest ha, fnd_newest hb]
  exact fnd_mem_congr ha hb (fun r => h.mem_iff) k
/-! ### Arrays in an object -/
def AO {α : Type} (i : Nat) (t : TypeId) (T : Ty α) (xs : List α) : Res := .obj i (.row false t (T.cells xs))
theorem S_loadAF {α : Type} {T : Ty α} {l : SE} {H H0 : SH} {K : Value → SH → Prop} {i o k off n : Nat} {agg : Bool} {t : TypeId} {a : Opd} {xs : List α} {x : α} {v : Value} (ha : a.lv l = some (.pointer (some ⟨i, o, none⟩))) (hp : Pick (AO i t T xs) H H0) (ho : o = k * T.es + off) (hx : xs[k]? = some x) (hb : off + n ≤ T.es) (hv : mkV agg (((T.enc x).drop off).take n) = some v) (kk : K v H) : Step (.load agg n a) l H K := by
  subst ho
  have hlt := (List.getElem?_eq_some_iff.1 hx).1
  have hc := T.cells_len xs
  have hm : k * T.es + T.es ≤ xs.length * T.es := by rw [← Nat.succ_mul]; exact Nat.mul_le_mul_right _ hlt
  exact S_loadO ha hp (by rw [Nat.ble_eq, hc]; omega) (by rw [T.cells_at hx hb]; exact hv) kk
theorem S_loadA {α : Type} {T : Ty α} {l : SE} {H H0 : SH} {K : Value → SH → Prop} {i o k n : Nat} {agg : Bool} {t : TypeId} {a : Opd} {xs : List α} {x : α} (ha : a.lv l = some (.pointer (some ⟨i, o, none⟩))) (hp : Pick (AO i t T xs) H H0) (ho : o = k * T.es) (hx : xs[k]? = some x) (hn : n = T.es) (hg : agg = T.agg) (kk : K (T.val x) H) : Step (.load agg n a) l H K := by
  subst hn hg
  refine S_loadAF (off := 0) ha hp (by rw [ho, Nat.add_zero]) hx (by omega) ?_ kk
  rw [List.drop_zero, ← T.len x, List.take_length]; exact T.hmk x
theorem S_storeA {α : Type} {T : Ty α} {l : SE} {H H0 : SH} {K : Value → SH → Prop} {i o k n : Nat} {t : TypeId} {a y : Opd} {xs : List α} {v : Value} {x : α} (ha : a.lv l = some (.pointer (some ⟨i, o, none⟩))) (hy : y.lv l = some v) (hp : Pick (AO i t T xs) H H0) (ho : o = k * T.es) (hk : k < xs.length) (hv : v = T.val x) (hn : n = T.es) (kk : K undef (AO i t T (xs.set k x) :: H0)) : Step (.store n a y) l H K := by
  subst ho hv hn
  have hc := T.cells_len xs
  have hm : k * T.es + T.es ≤ xs.length * T.es := by rw [← Nat.succ_mul]; exact Nat.mul_le_mul_right _ hk
  have e1 := T.cells_set (xs := xs) (j := k) (x := xs[k]) (y := x) (List.getElem?_eq_getElem hk) (off := 0) (vs := T.enc x) (by rw [splice_all (by rw [T.len, T.len])]) (by rw [T.len]; omega)
  refine S_storeO ha hy hp (by rw [T.hcells, T.len]) (by rw [Nat.ble_eq, hc]; omega) (by rw [T.hcells]; exact T.ones x) ?_
  rw [Nat.add_zero] at e1
  rw [T.hcells, e1]; exact kk
theorem S_boxA {α : Type} {T : Ty α} {l : SE} {H : SH} {K : Value → SH → Prop} {t : TypeId} {x : Opd} {xs : List α} (hx : x.lv l = some (.agg (T.cells xs).toArray)) (k : ∀ i, K (.pointer (some ⟨i, 0, none⟩)) (AO i t T xs :: H)) : Step (.box t x) l H K :=
  S_box hx (T.cells_all xs) k
/-! ### A slot, told -/
theorem sp_lSlot {H : SH} {j i n b s : Nat} {w : SV} {l : List Rec} {es : List Ent} (g : LogI es l) (hb : b < 8) (hs : s < 4) : WF F X f_logstore_Log_Slot [.pointer (some ⟨j, 0, none⟩), .int .i64 (b : Int), .int .i64 (s : Int)] (LO j i w :: SL w.toV TRec l :: DO i es n :: H) (fun v H' => H' = LO j i w :: SL w.toV TRec l :: DO i es n :: H ∧ v = .tuple #[TRec.val (sltOf es l (b * 4 + s)).r, .bool (sltOf es l (b * 4 + s)).has]) := by
  have hel := g.good.len
  have hl := g.len
  refine WF_fn F_logstore_Log_Slot ?_
  refine WC_seq ?_
  refine WC_region ?_
  refine WO_step rfl (S_newT TRec rec0 rfl rfl fun i6 => ?_)
  refine WO_step rfl (S_pure rfl ?_)
  refine WO_nil ?_
  refine KSeq_n ?_
  refine WC_seq ?_
  refine WC_seq ?_
  refine WC_region ?_
  refine WO_step rfl (S_pure rfl ?_)
  refine WO_step rfl (S_pure rfl ?_)
  refine WO_nil ?_
  refine KSeq_n ?_
  refine WC_cond rfl (fun hb1 => ?_) (fun hb1 => ?_)
  ·
    try simp only [decide_eq_true_eq, decide_eq_false_iff_not, Bool.not_eq_true', Bool.not_eq_false', beq_iff_eq, bne_iff_ne, beq_eq_false_iff_ne, Int.ofNat_lt, Int.ofNat_le, Int.ofNat_inj, ne_eq, gt_iff_lt, ge_iff_le] at hb1
    exact absurd hb1 (by simp)
    --stop
  ·
    try simp only [decide_eq_true_eq, decide_eq_false_iff_not, Bool.not_eq_true', Bool.not_eq_false', beq_iff_eq, bne_iff_ne, beq_eq_false_iff_ne, Int.ofNat_lt, Int.ofNat_le, Int.ofNat_inj, ne_eq, gt_iff_lt, ge_iff_le] at hb1
    refine WC_skip ?_
    refine KSeq_n ?_
    refine WC_seq ?_
    refine WC_region ?_
    refine WO_step rfl (S_pure rfl ?_)
    refine WO_step rfl (S_pure rfl ?_)
    refine WO_step rfl (S_pure rfl ?_)
    refine WO_step rfl (S_loadO rfl (by repeat (first | exact Pick.head | apply Pick.tail)) (by rfl) (by rfl) ?_)
    refine WO_step rfl (S_pure rfl ?_)
    refine WO_step rfl (S_pure rfl ?_)
    refine WO_call rfl rfl rfl ?_
    refine (sp_At hel (by repeat (first | exact Pick.head | apply Pick.tail)) hb hs).mono ?_
    rintro _ _ ⟨rfl, rfl⟩
    refine WO_step rfl (S_pure rfl ?_)
    refine WO_step rfl (S_pure rfl ?_)
    refine WO_step rfl (S_pure rfl ?_)
    refine WO_step rfl (S_pure rfl ?_)
    refine WO_step rfl (S_pure rfl ?_)
    refine WO_step rfl (S_pure rfl ?_)
    refine WO_step rfl (S_pure rfl ?_)
    refine WO_nil ?_
    refine KSeq_n ?_
    refine WC_seq ?_
    refine WC_seq ?_
    refine WC_region ?_
    refine WO_step rfl (S_pure rfl ?_)
    refine WO_step rfl (S_pure rfl ?_)
    refine WO_nil ?_
    refine KSeq_n ?_
    refine WC_cond rfl (fun hb2 => ?_) (fun hb2 => ?_)
    ·
      try simp only [decide_eq_true_eq, decide_eq_false_iff_not, Bool.not_eq_true', Bool.not_eq_false', beq_iff_eq, bne_iff_ne, beq_eq_false_iff_ne, Int.ofNat_lt, Int.ofNat_le, Int.ofNat_inj, ne_eq, gt_iff_lt, ge_iff_le] at hb2
      refine WC_seq ?_
      refine WC_region ?_
      refine WO_step rfl (S_pure rfl ?_)
      refine WO_step rfl (S_storeO rfl rfl (by repeat (first | exact Pick.head | apply Pick.tail)) (by first | rfl | exact SV.cells1 _) (by rfl) (by first | rfl | exact SV.ones _) ?_)
      refine WO_step rfl (S_pure rfl ?_)
      refine WO_nil ?_
      refine KSeq_n ?_
      refine WC_ret ?_
      refine KSeq_r ?_
      refine KFn_r (ResL.cell rfl (by repeat (first | exact Pick.head | apply Pick.tail)) (Nat.le_of_ble_eq_true rfl) rfl (ResL.tmp rfl ResL.nil)) ?_
      refine ⟨_, (by repeat (first | exact HSub.refl | refine HSub.pick (by repeat (first | exact Pick.head | apply Pick.tail)) ?_ | apply HSub.drop)), rfl, ?_⟩
      unfold sltOf
      rw [hb2]; rfl
    ·
      try simp only [decide_eq_true_eq, decide_eq_false_iff_not, Bool.not_eq_true', Bool.not_eq_false', beq_iff_eq, bne_iff_ne, beq_eq_false_iff_ne, Int.ofNat_lt, Int.ofNat_le, Int.ofNat_inj, ne_eq, gt_iff_lt, ge_iff_le] at hb2
      have hhas : (at' es (b * 4 + s)).has = true := by simpa using hb2
      obtain ⟨i0, q, e1, e2, _⟩ := g.slot (by omega) hhas
      have hi0 := (List.getElem?_eq_some_iff.1 e2).1
      rw [e1]
      refine WC_skip ?_
      refine KSeq_n ?_
      refine WC_seq ?_
      refine WC_region ?_
      refine WO_step rfl (S_pure rfl ?_)
      refine WO_step rfl (S_pure rfl ?_)
      refine WO_step rfl (S_pure rfl ?_)
      refine WO_step rfl (S_loadO rfl (by repeat (first | exact Pick.head | apply Pick.tail)) (by rfl) (by rfl) ?_)
      refine WO_step rfl (S_pure rfl ?_)
      refine WO_step rfl (S_idx rfl rfl (by repeat (first | assumption | exact RD.head | exact RD.nil | apply RD.tail)) (by first | rfl | assumption | (symm; assumption)) (by rfl) (by first | assumption | omega | exact lt_of_get (by assumption) | (simp only [List.length_set]; first | assumption | omega | exact lt_of_get (by assumption))) fun hp33 => ?_)
      refine WO_step rfl (S_loadE rfl (by repeat (first | assumption | exact RD.head | exact RD.nil | apply RD.tail)) (by first | rfl | assumption | (symm; assumption)) (by first | rfl | assumption | (symm; assumption)) (by first | rfl | assumption | (symm; assumption)) (by assumption) ?_)
      refine WO_step rfl (S_storeO rfl rfl (by repeat (first | exact Pick.head | apply Pick.tail)) (by first | rfl | exact SV.cells1 _) (by rfl) (by first | rfl | exact SV.ones _) ?_)
      refine WO_step rfl (S_pure rfl ?_)
      refine WO_nil ?_
      refine KSeq_n ?_
      refine WC_ret ?_
      refine KFn_r (ResL.cell rfl (by repeat (first | exact Pick.head | apply Pick.tail)) (Nat.le_of_ble_eq_true rfl) rfl (ResL.tmp rfl ResL.nil)) ?_
      refine ⟨_, (by repeat (first | exact HSub.refl | refine HSub.pick (by repeat (first | exact Pick.head | apply Pick.tail)) ?_ | apply HSub.drop)), rfl, ?_⟩
      unfold sltOf
      rw [hhas]
      simp only [if_true, e1, recAt, Int.toNat_natCast, e2, Option.getD_some]; rfl
theorem sp_lSlotNo {H : SH} {j i n b s : Nat} {w : SV} {l : List Rec} {es : List Ent} (h : 8 ≤ b ∨ 4 ≤ s) : WF F X f_logstore_Log_Slot [.pointer (some ⟨j, 0, none⟩), .int .i64 (b : Int), .int .i64 (s : Int)] (LO j i w :: SL w.toV TRec l :: DO i es n :: H) (fun v H' => H' = LO j i w :: SL w.toV TRec l :: DO i es n :: H ∧ v = .tuple #[TRec.val rec0, .bool false]) := by
  refine WF_fn F_logstore_Log_Slot ?_
  refine WC_seq ?_
  refine WC_region ?_
  refine WO_step rfl (S_newT TRec rec0 rfl rfl fun i6 => ?_)
  refine WO_step rfl (S_pure rfl ?_)
  refine WO_nil ?_
  refine KSeq_n ?_
  refine WC_seq ?_
  refine WC_seq ?_
  refine WC_region ?_
  refine WO_step rfl (S_pure rfl ?_)
  refine WO_step rfl (S_pure rfl ?_)
  refine WO_nil ?_
  refine KSeq_n ?_
  refine WC_cond rfl (fun hb1 => ?_) (fun hb1 => ?_)
  ·
    try simp only [decide_eq_true_eq, decide_eq_false_iff_not, Bool.not_eq_true', Bool.not_eq_false', beq_iff_eq, bne_iff_ne, beq_eq_false_iff_ne, Int.ofNat_lt, Int.ofNat_le, Int.ofNat_inj, ne_eq, gt_iff_lt, ge_iff_le] at hb1
    exact absurd hb1 (by simp)
    --stop
  ·
    try simp only [decide_eq_true_eq, decide_eq_false_iff_not, Bool.not_eq_true', Bool.not_eq_false', beq_iff_eq, bne_iff_ne, beq_eq_false_iff_ne, Int.ofNat_lt, Int.ofNat_le, Int.ofNat_inj, ne_eq, gt_iff_lt, ge_iff_le] at hb1
    refine WC_skip ?_
    refine KSeq_n ?_
    refine WC_seq ?_
    refine WC_region ?_
    refine WO_step rfl (S_pure rfl ?_)
    refine WO_step rfl (S_pure rfl ?_)
    refine WO_step rfl (S_pure rfl ?_)
    refine WO_step rfl (S_loadO rfl (by repeat (first | exact Pick.head | apply Pick.tail)) (by rfl) (by rfl) ?_)
    refine WO_step rfl (S_pure rfl ?_)
    refine WO_step rfl (S_pure rfl ?_)
    refine WO_call rfl rfl rfl ?_
    refine (sp_AtNo h).mono ?_
    rintro _ _ ⟨rfl, rfl⟩
    refine WO_step rfl (S_pure rfl ?_)
    refine WO_step rfl (S_pure rfl ?_)
    refine WO_step rfl (S_pure rfl ?_)
    refine WO_step rfl (S_pure rfl ?_)
    refine WO_step rfl (S_pure rfl ?_)
    refine WO_step rfl (S_pure rfl ?_)
    refine WO_step rfl (S_pure rfl ?_)
    refine WO_nil ?_
    refine KSeq_n ?_
    refine WC_seq ?_
    refine WC_seq ?_
    refine WC_region ?_
    refine WO_step rfl (S_pure rfl ?_)
    refine WO_step rfl (S_pure rfl ?_)
    refine WO_nil ?_
    refine KSeq_n ?_
    refine WC_cond rfl (fun hb2 => ?_) (fun hb2 => ?_)
    ·
      try simp only [decide_eq_true_eq, decide_eq_false_iff_not, Bool.not_eq_true', Bool.not_eq_false', beq_iff_eq, bne_iff_ne, beq_eq_false_iff_ne, Int.ofNat_lt, Int.ofNat_le, Int.ofNat_inj, ne_eq, gt_iff_lt, ge_iff_le] at hb2
      refine WC_seq ?_
      refine WC_region ?_
      refine WO_step rfl (S_pure rfl ?_)
      refine WO_step rfl (S_storeO rfl rfl (by repeat (first | exact Pick.head | apply Pick.tail)) (by first | rfl | exact SV.cells1 _) (by rfl) (by first | rfl | exact SV.ones _) ?_)
      refine WO_step rfl (S_pure rfl ?_)
      refine WO_nil ?_
      refine KSeq_n ?_
      refine WC_ret ?_
      refine KSeq_r ?_
      refine KFn_r (ResL.cell rfl (by repeat (first | exact Pick.head | apply Pick.tail)) (Nat.le_of_ble_eq_true rfl) rfl (ResL.tmp rfl ResL.nil)) ?_
      exact ⟨_, (by repeat (first | exact HSub.refl | refine HSub.pick (by repeat (first | exact Pick.head | apply Pick.tail)) ?_ | apply HSub.drop)), rfl, rfl⟩
    ·
      try simp only [decide_eq_true_eq, decide_eq_false_iff_not, Bool.not_eq_true', Bool.not_eq_false', beq_iff_eq, bne_iff_ne, beq_eq_false_iff_ne, Int.ofNat_lt, Int.ofNat_le, Int.ofNat_inj, ne_eq, gt_iff_lt, ge_iff_le] at hb2
      exact absurd hb2 (by simp)
      --stop
/-! ### A log of records -/
def ofF (l : List Rec) : List Rec → Int × List Rec
  | [] => (0, l)
  | r :: N => if (putF l r).1 = 0 then ofF (putF l r).2 N else putF l r
theorem lp_lOf {H : SH} {v : Value} {N : List Rec} {j iD : Nat} (hv : RD H v TRec N) (hN : N.length ≤ 1000) : ∀ (m a : Nat) (w : SV) (l : List Rec) (es : List Ent), N.length - a = m → a ≤ N.length → LogI es l → ofF l (N.drop a) = ofF [] N →
    WC F X (.loop L_logstore_Of_0) [(11, .int .i64 (a : Int)), (10, .int .i64 (N.length : Int)), (9, v), (4, .pointer (some ⟨j, 0, none⟩))] (LO j iD w :: SL w.toV TRec l :: DO iD es l.length :: H)
      (KPost fun x l' H' => (∃ (w : SV) (es : List Ent), x = .exit 0 ∧ l' = [(4, .pointer (some ⟨j, 0, none⟩))] ∧ H' = LO j iD w :: SL w.toV TRec (ofF [] N).2 :: DO iD es (ofF [] N).2.length :: H ∧ LogI es (ofF [] N).2 ∧ (ofF [] N).1 = 0) ∨ (x = .ret ∧ l' = [(2, .pointer none), (3, .int .i64 (ofF [] N).1)] ∧ H' = H ∧ (ofF [] N).1 ≠ 0)) := by
  intro m
  induction m using Nat.strongRecOn with
  | _ m ih =>
    intro a w l es hm ha hg hof
    refine WC_loop ?_
    refine WC_seq ?_
    refine WC_region ?_
    refine WO_step rfl (S_pure rfl ?_)
    refine WO_nil ?_
    refine KSeq_n ?_
    refine WC_seq ?_
    refine WC_cond rfl (fun hb1 => ?_) (fun hb1 => ?_)
    ·
      try simp only [decide_eq_true_eq, decide_eq_false_iff_not, Bool.not_eq_true', Bool.not_eq_false', beq_iff_eq, bne_iff_ne, beq_eq_false_iff_ne, Int.ofNat_lt, Int.ofNat_le, Int.ofNat_inj, ne_eq, gt_iff_lt, ge_iff_le] at hb1
      obtain ⟨r, hr⟩ := get_of_lt hb1
      rw [drop_get hr, ofF] at hof
      refine WC_skip ?_
      refine KSeq_n ?_
      refine WC_seq ?_
      refine WC_block ?_
      refine WC_seq ?_
      refine WC_region ?_
      refine WO_step rfl (S_idx rfl rfl (by repeat (first | assumption | exact RD.head | exact RD.nil | apply RD.tail)) (by first | rfl | assumption | (symm; assumption)) (by rfl) (by first | assumption | omega | exact lt_of_get (by assumption) | (simp only [List.length_set]; first | assumption | omega | exact lt_of_get (by assumption))) fun hp13 => ?_)
      refine WO_step rfl (S_loadE rfl (by repeat (first | assumption | exact RD.head | exact RD.nil | apply RD.tail)) (by first | rfl | assumption | (symm; assumption)) (by first | rfl | assumption | (symm; assumption)) (by first | rfl | assumption | (symm; assumption)) (by assumption) ?_)
      refine WO_step rfl (S_newT TRec rec0 rfl rfl fun i6 => ?_)
      refine WO_step rfl (S_storeT (T := TRec) (y := r) rfl rfl (by repeat (first | exact Pick.head | apply Pick.tail)) (by rfl) (by rfl) ?_)
      refine WO_nil ?_
      refine KSeq_n ?_
      refine WC_seq ?_
      refine WC_region ?_
      refine WO_step rfl (S_pure rfl ?_)
      refine WO_step rfl (S_loadT (T := TRec) (z := r) rfl (by repeat (first | exact Pick.head | apply Pick.tail)) (by rfl) (by rfl) ?_)
      refine WO_call rfl rfl rfl ?_
      refine (WF.weak (sp_lPut (H := OB i6 TRec r :: H) (w := w) (i := iD) (j := j) (r := r) hg) (by repeat (first | exact HSub.refl | refine HSub.pick (by repeat (first | exact Pick.head | apply Pick.tail)) ?_ | apply HSub.drop))).mono ?_
      rintro _ _ ⟨es', w', rfl, rfl, hg'⟩
      refine WO_step rfl (S_pure rfl ?_)
      refine WO_nil ?_
      refine KSeq_n ?_
      refine WC_seq ?_
      refine WC_region ?_
      refine WO_step rfl (S_pure rfl ?_)
      first | refine WO_step rfl (S_neS rfl rfl ?_) | refine WO_step rfl (S_pure rfl ?_)
      refine WO_nil ?_
      refine KSeq_n ?_
      refine WC_cond rfl (fun hb2 => ?_) (fun hb2 => ?_)
      ·
        try simp only [decide_eq_true_eq, decide_eq_false_iff_not, Bool.not_eq_true', Bool.not_eq_false', beq_iff_eq, bne_iff_ne, beq_eq_false_iff_ne, Int.ofNat_lt, Int.ofNat_le, Int.ofNat_inj, ne_eq, gt_iff_lt, ge_iff_le] at hb2
        refine WC_seq ?_
        refine WC_region ?_
        refine WO_step rfl (S_pure rfl ?_)
        refine WO_step rfl (S_pure rfl ?_)
        refine WO_step rfl (S_pure rfl ?_)
        refine WO_nil ?_
        refine KSeq_n ?_
        refine WC_ret ?_
        refine KBlock_r ?_
        refine KSeq_r ?_
        refine KLoop_r ?_
        have hne : (putF l r).1 ≠ 0 := by simpa using hb2
        rw [if_neg hne] at hof
        refine KPost_i (l' := [(2, .pointer none), (3, .int .i64 (ofF [] N).1)]) (by rw [← hof]; exact (by repeat (first | exact SubE.nil | apply SubE.cons rfl))) (by repeat (first | exact HSub.refl | refine HSub.pick (by repeat (first | exact Pick.head | apply Pick.tail)) ?_ | apply HSub.drop)) (.inr ⟨rfl, rfl, rfl, by rw [← hof]; exact hne⟩)
      ·
        try simp only [decide_eq_true_eq, decide_eq_false_iff_not, Bool.not_eq_true', Bool.not_eq_false', beq_iff_eq, bne_iff_ne, beq_eq_false_iff_ne, Int.ofNat_lt, Int.ofNat_le, Int.ofNat_inj, ne_eq, gt_iff_lt, ge_iff_le] at hb2
        refine WC_skip ?_
        refine KBlock_n ?_
        refine KSeq_n ?_
        refine WC_region ?_
        first | refine WO_step rfl (S_addN (b := 1) rfl rfl (by omega) ?_) | refine WO_step rfl (S_pure rfl ?_)
        refine WO_step rfl (S_pure rfl ?_)
        refine WO_nil ?_
        refine KLoop_n ?_
        have h0 : (putF l r).1 = 0 := by simpa using hb2
        rw [if_pos h0] at hof
        exact WC_weak (ih (N.length - (a + 1)) (by omega) (a + 1) w' (putF l r).2 es' rfl (by omega) hg' hof) (by repeat (first | exact SubE.nil | apply SubE.cons rfl)) (by repeat (first | exact HSub.refl | refine HSub.pick (by repeat (first | exact Pick.head | apply Pick.tail)) ?_ | apply HSub.drop))
    ·
      try simp only [decide_eq_true_eq, decide_eq_false_iff_not, Bool.not_eq_true', Bool.not_eq_false', beq_iff_eq, bne_iff_ne, beq_eq_false_iff_ne, Int.ofNat_lt, Int.ofNat_le, Int.ofNat_inj, ne_eq, gt_iff_lt, ge_iff_le] at hb1
      refine WC_exit ?_
      refine KSeq_x ?_
      refine KLoop_x ?_
      rw [List.drop_of_length_le (by omega), ofF] at hof
      refine KPost_i (l' := [(4, .pointer (some ⟨j, 0, none⟩))]) (H' := LO j iD w :: SL w.toV TRec l :: DO iD es l.length :: H) (by repeat (first | exact SubE.nil | apply SubE.cons rfl)) (by repeat (first | exact HSub.refl | refine HSub.pick (by repeat (first | exact Pick.head | apply Pick.tail)) ?_ | apply HSub.drop)) (.inl ⟨w, es, rfl, rfl, by rw [← hof], by rw [← hof]; exact hg, by rw [← hof]⟩)
theorem sp_lOf {H : SH} {v : Value} {N : List Rec} (hv : RD H v TRec N) (hN : N.length ≤ 1000) : WF F X f_logstore_Of [v] H (fun q H' => (∃ (j iD : Nat) (w : SV) (es : List Ent), q = .tuple #[.pointer (some ⟨j, 0, none⟩), .int .i64 0] ∧ H' = LO j iD w :: SL w.toV TRec (ofF [] N).2 :: DO iD es (ofF [] N).2.length :: H ∧ LogI es (ofF [] N).2 ∧ (ofF [] N).1 = 0) ∨ (q = .tuple #[.pointer none, .int .i64 (ofF [] N).1] ∧ H' = H ∧ (ofF [] N).1 ≠ 0)) := by
  refine WF_fn F_logstore_Of ?_
  refine WC_seq ?_
  refine WC_region ?_
  refine WO_step rfl (S_pure rfl ?_)
  refine WO_step rfl (S_pure rfl ?_)
  refine WO_nil ?_
  refine KSeq_n ?_
  refine WC_seq ?_
  refine WC_region ?_
  refine WO_call rfl rfl rfl ?_
  refine sp_lNew.mono ?_
  rintro _ _ ⟨jL, iL, rfl, rfl⟩
  refine WO_step rfl (S_pure rfl ?_)
  refine WO_nil ?_
  refine KSeq_n ?_
  refine WC_seq ?_
  refine WC_seq ?_
  refine WC_region ?_
  refine WO_step rfl (S_pure rfl ?_)
  first | refine WO_step rfl (S_pure rfl ?_) | refine WO_step rfl (S_lenS rfl (by repeat (first | assumption | exact RD.head | exact RD.nil | apply RD.tail)) ?_)
  refine WO_step rfl (S_pure rfl ?_)
  refine WO_nil ?_
  refine KSeq_n ?_
  refine WC_block ?_
  --out x0 r
  refine WC_post (WC_weak (lp_lOf (j := jL) (iD := iL) hv hN N.length 0 .nil [] _ (by omega) (by omega) LogI.new rfl) (by repeat (first | exact SubE.nil | apply SubE.cons rfl)) (by repeat (first | exact HSub.refl | refine HSub.pick (by repeat (first | exact Pick.head | apply Pick.tail)) ?_ | apply HSub.drop))) ?_
  rintro x l' H' (⟨w, es, rfl, rfl, rfl, hg, h0⟩ | ⟨rfl, rfl, rfl, h0⟩)
  ·
    refine KBlock_h ?_
    refine KSeq_n ?_
    refine WC_seq ?_
    refine WC_region ?_
    refine WO_step rfl (S_pure rfl ?_)
    refine WO_step rfl (S_pure rfl ?_)
    refine WO_step rfl (S_pure rfl ?_)
    refine WO_nil ?_
    refine KSeq_n ?_
    refine WC_ret ?_
    refine KFn_r (ResL.tmp rfl (ResL.tmp rfl ResL.nil)) ?_
    exact ⟨_, HSub.refl, .inl ⟨jL, iL, w, es, rfl, rfl, hg, h0⟩⟩
  ·
    refine KBlock_r ?_
    refine KSeq_r ?_
    refine KFn_r (ResL.tmp rfl (ResL.tmp rfl ResL.nil)) ?_
    exact ⟨_, HSub.refl, .inr ⟨rfl, rfl, h0⟩⟩
/-! ### The document's table -/
def okRecB (r : Rec) (b : Nat) : Prop := mayRec r = true ∧ (b = frst (kH r.key) ∨ b = oth (frst (kH r.key)) (tagOf (kH r.key)))
def tKeys (ts : List SlT) (k : Nat) : List ByteArray := ((ts.take k).filter (·.has)).map (·.r.key)
def tRecs (ts : List SlT) (k : Nat) : List Rec := ((ts.take k).filter (·.has)).map (·.r)
theorem tKeys_succ {ts : List SlT} {k : Nat} {x : SlT} (hx : ts[k]? = some x) : tKeys ts (k + 1) = tKeys ts k ++ if x.has then [x.r.key] else [] := by
  unfold tKeys
  rw [List.take_add_one, hx, List.filter_append, List.map_append]
  congr 1
  cases h : x.has <;> simp [h]
theorem tRecs_succ {ts : List SlT} {k : Nat} {x : SlT} (hx : ts[k]? = some x) : tRecs ts (k + 1) = tRecs ts k ++ if x.has then [x.r] else [] := by
  unfold tRecs
  rw [List.take_add_one, hx, List.filter_append, List.map_append]
  congr 1
  cases h : x.has <;> simp [h]
theorem tKeys_len (ts : List SlT) (k : Nat) : (tKeys ts k).length ≤ k := by
  unfold tKeys
  rw [List.length_map]
  exact Nat.le_trans (List.length_filter_le _ _) (by rw [List.length_take]; omega)
structure TabOk (ts : List SlT) : Prop where
  len : ts.length = 32
  off : ∀ (k : Nat) (x : SlT), ts[k]? = some x → x.has = false → x.r = rec0
  on : ∀ (k : Nat) (x : SlT), ts[k]? = some x → x.has = true → okRecB x.r (k / 4)
  nd : (tKeys ts 32).Nodup
theorem TabOk.fresh {ts : List SlT} (h : TabOk ts) {k : Nat} {x : SlT} (hx : ts[k]? = some x) (hh : x.has = true) : x.r.key ∉ tKeys ts k := by
  have hk := (List.getElem?_eq_some_iff.1 hx).1
  have hl := h.len
  have h1 := tKeys_succ hx
  rw [hh] at h1
  have h2 : (tKeys ts (k + 1)).Nodup := by
    have e : tKeys ts 32 = tKeys ts (k + 1) ++ (((ts.drop (k + 1)).take (32 - (k + 1))).filter (·.has)).map (·.r.key) := by
      unfold tKeys
      rw [← List.map_append, ← List.filter_append]
      congr 2
      rw [show 32 = (k + 1) + (32 - (k + 1)) by omega, List.take_add]
      simp
    have := h.nd
    rw [e, List.nodup_append] at this
    exact this.1
  rw [h1, List.nodup_append] at h2
  intro hm
  exact h2.2.2 _ hm _ (by simp) rfl
def TStrT : Ty ByteArray := Ty.ofOne 9 16 (fun s => .string s) (fun _ => rfl)
theorem lp_MT2 {H : SH} {w : SV} {ks : List ByteArray} {i6 : Nat} {x : SlT} {v1 v4 v5 : Value} {H0 : SH} (hv : RD H w.toV TStrT ks) (hp : Pick (OB i6 TSlT x) H H0) (hno : x.r.key ∉ ks) (hL : ks.length ≤ 100) : ∀ (n a : Nat), ks.length - a = n → a ≤ ks.length →
    WC F X (.loop L_loessref10_MayTable_2) [(9, .int .i64 (a : Int)), (3, w.toV), (6, .pointer (some ⟨i6, 0, none⟩)), (1, v1), (4, v4), (5, v5)] H (KPost fun y l' H' => y = .exit 4 ∧ l' = [(3, w.toV), (6, .pointer (some ⟨i6, 0, none⟩)), (1, v1), (4, v4), (5, v5)] ∧ H' = H) := by
  intro n
  induction n using Nat.strongRecOn with
  | _ n ih =>
    intro a hn ha
    refine WC_loop ?_
    refine WC_seq ?_
    refine WC_seq ?_
    refine WC_region ?_
    refine WO_step rfl (S_pure rfl ?_)
    refine WO_step rfl (S_pure rfl ?_)
    first | refine WO_step rfl (S_pure rfl ?_) | refine WO_step rfl (S_lenS rfl (by repeat (first | assumption | exact RD.head | exact RD.nil | apply RD.tail)) ?_)
    refine WO_step rfl (S_pure rfl ?_)
    refine WO_nil ?_
    refine KSeq_n ?_
    refine WC_cond rfl (fun hb1 => ?_) (fun hb1 => ?_)
    ·
      try simp only [decide_eq_true_eq, decide_eq_false_iff_not, Bool.not_eq_true', Bool.not_eq_false', beq_iff_eq, bne_iff_ne, beq_eq_false_iff_ne, Int.ofNat_lt, Int.ofNat_le, Int.ofNat_inj, ne_eq, gt_iff_lt, ge_iff_le] at hb1
      obtain ⟨k, hk⟩ := get_of_lt hb1
      have hkm : k ∈ ks := List.mem_of_getElem? hk
      refine WC_skip ?_
      refine KSeq_n ?_
      refine WC_seq ?_
      refine WC_block ?_
      refine WC_seq ?_
      refine WC_region ?_
      refine WO_step rfl (S_pure rfl ?_)
      refine WO_step rfl (S_pure rfl ?_)
      refine WO_step rfl (S_idx rfl rfl (by repeat (first | assumption | exact RD.head | exact RD.nil | apply RD.tail)) (by first | rfl | assumption | (symm; assumption)) (by rfl) (by first | assumption | omega | exact lt_of_get (by assumption) | (simp only [List.length_set]; first | assumption | omega | exact lt_of_get (by assumption))) fun hp62 => ?_)
      refine WO_step rfl (S_loadE rfl (by repeat (first | assumption | exact RD.head | exact RD.nil | apply RD.tail)) (by first | rfl | assumption | (symm; assumption)) (by first | rfl | assumption | (symm; assumption)) (by first | rfl | assumption | (symm; assumption)) (by assumption) ?_)
      refine WO_step rfl (S_pure rfl ?_)
      refine WO_step rfl (S_pure rfl ?_)
      refine WO_step rfl (S_loadO rfl hp (by rfl) (by rfl) ?_)
      first | refine WO_step rfl (S_eqS rfl rfl ?_) | refine WO_step rfl (S_pure rfl ?_)
      refine WO_nil ?_
      refine KSeq_n ?_
      refine WC_cond rfl (fun hb2 => ?_) (fun hb2 => ?_)
      ·
        try simp only [decide_eq_true_eq, decide_eq_false_iff_not, Bool.not_eq_true', Bool.not_eq_false', beq_iff_eq, bne_iff_ne, beq_eq_false_iff_ne, Int.ofNat_lt, Int.ofNat_le, Int.ofNat_inj, ne_eq, gt_iff_lt, ge_iff_le] at hb2
        refine WC_seq ?_
        refine WC_region ?_
        refine WO_step rfl (S_pure rfl ?_)
        refine WO_nil ?_
        refine KSeq_n ?_
        refine WC_ret ?_
        refine KBlock_r ?_
        refine KSeq_r ?_
        refine KLoop_r ?_
        exfalso
        apply hno
        rw [← hb2]; exact hkm
      ·
        try simp only [decide_eq_true_eq, decide_eq_false_iff_not, Bool.not_eq_true', Bool.not_eq_false', beq_iff_eq, bne_iff_ne, beq_eq_false_iff_ne, Int.ofNat_lt, Int.ofNat_le, Int.ofNat_inj, ne_eq, gt_iff_lt, ge_iff_le] at hb2
        refine WC_skip ?_
        refine KBlock_n ?_
        refine KSeq_n ?_
        refine WC_region ?_
        refine WO_step rfl (S_pure rfl ?_)
        first | refine WO_step rfl (S_addN (b := 1) rfl rfl (by omega) ?_) | refine WO_step rfl (S_pure rfl ?_)
        refine WO_step rfl (S_pure rfl ?_)
        refine WO_nil ?_
        refine KLoop_n ?_
        exact WC_weak (ih (ks.length - (a + 1)) (by omega) (a + 1) rfl (by omega)) (by repeat (first | exact SubE.nil | apply SubE.cons rfl)) (by repeat (first | exact HSub.refl | refine HSub.pick (by repeat (first | exact Pick.head | apply Pick.tail)) ?_ | apply HSub.drop))
    ·
      try simp only [decide_eq_true_eq, decide_eq_false_iff_not, Bool.not_eq_true', Bool.not_eq_false', beq_iff_eq, bne_iff_ne, beq_eq_false_iff_ne, Int.ofNat_lt, Int.ofNat_le, Int.ofNat_inj, ne_eq, gt_iff_lt, ge_iff_le] at hb1
      refine WC_exit ?_
      refine KSeq_x ?_
      refine KLoop_x ?_
      exact KPost_i (by repeat (first | exact SubE.nil | apply SubE.cons rfl)) (by repeat (first | exact HSub.refl | refine HSub.pick (by repeat (first | exact Pick.head | apply Pick.tail)) ?_ | apply HSub.drop)) ⟨rfl, rfl, rfl⟩
theorem lp_MT1 {H : SH} {ts : List SlT} {i1 b : Nat} (ht : TabOk ts) (hb : b < 8) : ∀ (n s : Nat) (w : SV), 4 - s = n → s ≤ 4 →
    WC F X (.loop L_loessref10_MayTable_1) [(5, .int .i64 (s : Int)), (4, .int .i64 (b : Int)), (1, .pointer (some ⟨i1, 0, none⟩)), (3, w.toV)] (SL w.toV TStrT (tKeys ts (b * 4 + s)) :: AO i1 70 TSlT ts :: H)
      (KPost fun y l' H' => ∃ w : SV, y = .exit 2 ∧ l' = [(4, .int .i64 (b : Int)), (1, .pointer (some ⟨i1, 0, none⟩)), (3, w.toV)] ∧ H' = SL w.toV TStrT (tKeys ts (b * 4 + 4)) :: AO i1 70 TSlT ts :: H) := by
  intro n
  induction n using Nat.strongRecOn with
  | _ n ih =>
    intro s w hn hs
    have htl := ht.len
    have hkl := tKeys_len ts (b * 4 + s)
    refine WC_loop ?_
    refine WC_seq ?_
    refine WC_seq ?_
    refine WC_region ?_
    refine WO_step rfl (S_pure rfl ?_)
    refine WO_step rfl (S_pure rfl ?_)
    refine WO_nil ?_
    refine KSeq_n ?_
    refine WC_cond rfl (fun hb1 => ?_) (fun hb1 => ?_)
    ·
      try simp only [decide_eq_true_eq, decide_eq_false_iff_not, Bool.not_eq_true', Bool.not_eq_false', beq_iff_eq, bne_iff_ne, beq_eq_false_iff_ne, Int.ofNat_lt, Int.ofNat_le, Int.ofNat_inj, ne_eq, gt_iff_lt, ge_iff_le] at hb1
      obtain ⟨x, hx⟩ := get_of_lt (show b * 4 + s < ts.length by omega)
      have hsucc := tKeys_succ hx
      refine WC_skip ?_
      refine KSeq_n ?_
      refine WC_seq ?_
      refine WC_block ?_
      refine WC_seq ?_
      refine WC_region ?_
      refine WO_step rfl (S_pure rfl ?_)
      refine WO_step rfl (S_pure rfl ?_)
      refine WO_step rfl (S_idxA (j := b) rfl rfl rfl hb ?_)
      refine WO_step rfl (S_idxA (j := s) rfl rfl rfl (by omega) ?_)
      refine WO_step rfl (S_loadA (T := TSlT) (k := b * 4 + s) rfl (by repeat (first | exact Pick.head | apply Pick.tail)) (by show _ = (b * 4 + s) * 6; omega) hx rfl rfl ?_)
      refine WO_step rfl (S_newT TSlT slt0 rfl rfl fun i6 => ?_)
      refine WO_step rfl (S_storeT (T := TSlT) (y := x) rfl rfl (by repeat (first | exact Pick.head | apply Pick.tail)) (by rfl) (by rfl) ?_)
      refine WO_nil ?_
      refine KSeq_n ?_
      refine WC_seq ?_
      refine WC_seq ?_
      refine WC_region ?_
      refine WO_step rfl (S_pure rfl ?_)
      refine WO_step rfl (S_loadO rfl (by repeat (first | exact Pick.head | apply Pick.tail)) (by rfl) (by rfl) ?_)
      refine WO_step rfl (S_pure rfl ?_)
      refine WO_nil ?_
      refine KSeq_n ?_
      refine WC_cond rfl (fun hb2 => ?_) (fun hb2 => ?_)
      ·
        try simp only [decide_eq_true_eq, decide_eq_false_iff_not, Bool.not_eq_true', Bool.not_eq_false', beq_iff_eq, bne_iff_ne, beq_eq_false_iff_ne, Int.ofNat_lt, Int.ofNat_le, Int.ofNat_inj, ne_eq, gt_iff_lt, ge_iff_le] at hb2
        refine WC_seq ?_
        refine WC_seq ?_
        refine WC_region ?_
        refine WO_step rfl (S_pure rfl ?_)
        refine WO_step rfl (S_loadO (v := TRec.val x.r) rfl (by repeat (first | exact Pick.head | apply Pick.tail)) (by rfl) (by rfl) ?_)
        refine WO_step rfl (S_pure rfl ?_)
        refine WO_call rfl rfl rfl ?_
        refine (sp_Eq (a := x.r) (b := rec0)).mono ?_
        rintro _ _ ⟨rfl, rfl⟩
        refine WO_step rfl (S_pure rfl ?_)
        refine WO_nil ?_
        refine KSeq_n ?_
        refine WC_cond rfl (fun hb3 => ?_) (fun hb3 => ?_)
        ·
          try simp only [decide_eq_true_eq, decide_eq_false_iff_not, Bool.not_eq_true', Bool.not_eq_false', beq_iff_eq, bne_iff_ne, beq_eq_false_iff_ne, Int.ofNat_lt, Int.ofNat_le, Int.ofNat_inj, ne_eq, gt_iff_lt, ge_iff_le] at hb3
          refine WC_seq ?_
          refine WC_region ?_
          refine WO_step rfl (S_pure rfl ?_)
          refine WO_nil ?_
          refine KSeq_n ?_
          refine WC_ret ?_
          refine KSeq_r ?_
          refine KSeq_r ?_
          refine KBlock_r ?_
          refine KSeq_r ?_
          refine KLoop_r ?_
          exfalso
          have h0 := ht.off _ x hx (by simpa using hb2)
          apply hb3
          exact h0
        ·
          try simp only [decide_eq_true_eq, decide_eq_false_iff_not, Bool.not_eq_true', Bool.not_eq_false', beq_iff_eq, bne_iff_ne, beq_eq_false_iff_ne, Int.ofNat_lt, Int.ofNat_le, Int.ofNat_inj, ne_eq, gt_iff_lt, ge_iff_le] at hb3
          refine WC_skip ?_
          refine KSeq_n ?_
          refine WC_exit ?_
          refine KSeq_x ?_
          refine KBlock_h ?_
          refine KSeq_n ?_
          refine WC_region ?_
          refine WO_step rfl (S_pure rfl ?_)
          first | refine WO_step rfl (S_addN (b := 1) rfl rfl (by omega) ?_) | refine WO_step rfl (S_pure rfl ?_)
          refine WO_step rfl (S_pure rfl ?_)
          refine WO_nil ?_
          refine KLoop_n ?_
          have hf : x.has = false := by simpa using hb2
          rw [hf] at hsucc
          simp only [Bool.false_eq_true, if_false, List.append_nil] at hsucc
          have := ih (4 - (s + 1)) (by omega) (s + 1) w rfl (by omega)
          rw [show b * 4 + (s + 1) = b * 4 + s + 1 by omega, hsucc] at this
          exact WC_weak this (by repeat (first | exact SubE.nil | apply SubE.cons rfl)) (by repeat (first | exact HSub.refl | refine HSub.pick (by repeat (first | exact Pick.head | apply Pick.tail)) ?_ | apply HSub.drop))
      ·
        try simp only [decide_eq_true_eq, decide_eq_false_iff_not, Bool.not_eq_true', Bool.not_eq_false', beq_iff_eq, bne_iff_ne, beq_eq_false_iff_ne, Int.ofNat_lt, Int.ofNat_le, Int.ofNat_inj, ne_eq, gt_iff_lt, ge_iff_le] at hb2
        have hhas : x.has = true := by simpa using hb2
        obtain ⟨hmr, hbk⟩ := ht.on _ x hx hhas
        rw [show (b * 4 + s) / 4 = b by omega] at hbk
        have hks := may_key hmr
        have hfr := ht.fresh hx hhas
        rw [hhas] at hsucc
        simp only [if_true] at hsucc
        have hkl2 := kH_lt x.r.key
        have hf8 := frst_lt (kH x.r.key)
        have ht8 := tagOf_lt (kH x.r.key)
        refine WC_skip ?_
        refine KSeq_n ?_
        refine WC_seq ?_
        refine WC_region ?_
        refine WO_step rfl (S_pure rfl ?_)
        refine WO_step rfl (S_pure rfl ?_)
        refine WO_step rfl (S_loadO rfl (by repeat (first | exact Pick.head | apply Pick.tail)) (by rfl) (by rfl) ?_)
        refine WO_call rfl rfl rfl ?_
        refine (sp_RHash (s := x.r.key) (by omega)).mono ?_
        rintro _ _ ⟨rfl, rfl⟩
        rw [kH_eq]
        refine WO_step rfl (S_pure rfl ?_)
        refine WO_nil ?_
        refine KSeq_n ?_
        refine WC_seq ?_
        refine WC_region ?_
        refine WO_step rfl (S_pure rfl ?_)
        refine WO_call rfl rfl rfl ?_
        refine (sp_rFirst (by omega)).mono ?_
        rintro _ _ ⟨rfl, rfl⟩
        refine WO_step rfl (S_pure rfl ?_)
        refine WO_nil ?_
        refine KSeq_n ?_
        refine WC_seq ?_
        refine WC_seq ?_
        refine WC_region ?_
        refine WO_step rfl (S_pure rfl ?_)
        refine WO_step rfl (S_loadO (v := TRec.val x.r) rfl (by repeat (first | exact Pick.head | apply Pick.tail)) (by rfl) (by rfl) ?_)
        refine WO_call rfl rfl rfl ?_
        refine (sp_May (r := x.r)).mono ?_
        rintro _ _ ⟨rfl, rfl⟩
        rw [hmr]
        refine WO_step rfl (S_pure rfl ?_)
        refine WO_step rfl (S_pure rfl ?_)
        refine WO_cases (t := 41) rfl (fun hg1 => ?_) (fun hg1 => ?_)
        ·
          try simp only [decide_eq_true_eq, decide_eq_false_iff_not, Bool.not_eq_true', Bool.not_eq_false', beq_iff_eq, bne_iff_ne, beq_eq_false_iff_ne, Int.ofNat_lt, Int.ofNat_le, Int.ofNat_inj, ne_eq, gt_iff_lt, ge_iff_le] at hg1
          refine WO_off rfl ?_
          refine WO_off rfl ?_
          refine WO_off rfl ?_
          refine WO_off rfl ?_
          refine WO_off rfl ?_
          refine WO_off rfl ?_
          refine WO_off rfl ?_
          refine WO_off rfl ?_
          refine WO_off rfl ?_
          refine WO_off rfl ?_
          refine WO_off rfl ?_
          refine WO_step rfl (S_pure rfl ?_)
          refine WO_nil ?_
          refine KSeq_n ?_
          refine WC_cond rfl (fun _ => ?_) (fun h => ?_)
          rotate_left
          · exact absurd h (by decide)
          refine WC_seq ?_
          refine WC_region ?_
          refine WO_step rfl (S_pure rfl ?_)
          refine WO_nil ?_
          refine KSeq_n ?_
          refine WC_ret ?_
          refine KSeq_r ?_
          refine KBlock_r ?_
          refine KSeq_r ?_
          refine KLoop_r ?_
          exact absurd hg1 (by simp)
        ·
          try simp only [decide_eq_true_eq, decide_eq_false_iff_not, Bool.not_eq_true', Bool.not_eq_false', beq_iff_eq, bne_iff_ne, beq_eq_false_iff_ne, Int.ofNat_lt, Int.ofNat_le, Int.ofNat_inj, ne_eq, gt_iff_lt, ge_iff_le] at hg1
          refine WO_step rfl (S_pure rfl ?_)
          refine WO_step rfl (S_pure rfl ?_)
          first | refine WO_step rfl (S_neS rfl rfl ?_) | refine WO_step rfl (S_pure rfl ?_)
          refine WO_step rfl (S_pure rfl ?_)
          refine WO_cases (t := 45) rfl (fun hg2 => ?_) (fun hg2 => ?_)
          ·
            try simp only [decide_eq_true_eq, decide_eq_false_iff_not, Bool.not_eq_true', Bool.not_eq_false', beq_iff_eq, bne_iff_ne, beq_eq_false_iff_ne, Int.ofNat_lt, Int.ofNat_le, Int.ofNat_inj, ne_eq, gt_iff_lt, ge_iff_le] at hg2
            refine WO_step rfl (S_pure rfl ?_)
            refine WO_step rfl (S_pure rfl ?_)
            refine WO_step rfl (S_pure rfl ?_)
            refine WO_call rfl rfl rfl ?_
            refine (sp_rTag (by omega)).mono ?_
            rintro _ _ ⟨rfl, rfl⟩
            refine WO_call rfl rfl rfl ?_
            refine (sp_rOther (by assumption) (by assumption)).mono ?_
            rintro _ _ ⟨rfl, rfl⟩
            first | refine WO_step rfl (S_neS rfl rfl ?_) | refine WO_step rfl (S_pure rfl ?_)
            refine WO_step rfl (S_pure rfl ?_)
            refine WO_step rfl (S_pure rfl ?_)
            refine WO_nil ?_
            refine KSeq_n ?_
            refine WC_cond rfl (fun hb4 => ?_) (fun hb4 => ?_)
            ·
              try simp only [decide_eq_true_eq, decide_eq_false_iff_not, Bool.not_eq_true', Bool.not_eq_false', beq_iff_eq, bne_iff_ne, beq_eq_false_iff_ne, Int.ofNat_lt, Int.ofNat_le, Int.ofNat_inj, ne_eq, gt_iff_lt, ge_iff_le] at hb4
              refine WC_seq ?_
              refine WC_region ?_
              refine WO_step rfl (S_pure rfl ?_)
              refine WO_nil ?_
              refine KSeq_n ?_
              refine WC_ret ?_
              refine KSeq_r ?_
              refine KBlock_r ?_
              refine KSeq_r ?_
              refine KLoop_r ?_
              exfalso
              rcases hbk with h | h
              · apply hg2; rw [h]
              · apply hb4; rw [h]
            ·
              try simp only [decide_eq_true_eq, decide_eq_false_iff_not, Bool.not_eq_true', Bool.not_eq_false', beq_iff_eq, bne_iff_ne, beq_eq_false_iff_ne, Int.ofNat_lt, Int.ofNat_le, Int.ofNat_inj, ne_eq, gt_iff_lt, ge_iff_le] at hb4
              refine WC_skip ?_
              refine KSeq_n ?_
              refine WC_seq ?_
              refine WC_seq ?_
              refine WC_region ?_
              refine WO_step rfl (S_pure rfl ?_)
              refine WO_nil ?_
              refine KSeq_n ?_
              refine WC_block ?_
              --out x4
              refine WC_post (WC_weak (lp_MT2 (H := OB i6 TSlT x :: SL w.toV TStrT (tKeys ts (b * 4 + s)) :: AO i1 70 TSlT ts :: H) (i6 := i6) (x := x) (w := w) (v1 := .pointer (some ⟨i1, 0, none⟩)) (v4 := .int .i64 (b : Int)) (v5 := .int .i64 (s : Int)) (by repeat (first | assumption | exact RD.head | exact RD.nil | apply RD.tail)) .head hfr (by omega) (tKeys ts (b * 4 + s)).length 0 (by omega) (by omega)) (by repeat (first | exact SubE.nil | apply SubE.cons rfl)) (by repeat (first | exact HSub.refl | refine HSub.pick (by repeat (first | exact Pick.head | apply Pick.tail)) ?_ | apply HSub.drop))) ?_
              rintro y l' _ ⟨rfl, rfl, rfl⟩
              refine KBlock_h ?_
              refine KSeq_n ?_
              refine WC_region ?_
              refine WO_step rfl (S_pure rfl ?_)
              refine WO_step rfl (S_pure rfl ?_)
              refine WO_step rfl (S_pure rfl ?_)
              refine WO_step rfl (S_loadO (v := .string x.r.key) rfl (by repeat (first | exact Pick.head | apply Pick.tail)) (by rfl) (by rfl) ?_)
              refine WO_step rfl (S_lit1 (T := TStrT) (y := x.r.key) rfl rfl rfl rfl fun w72 => ?_)
              refine WO_step rfl (S_app rfl rfl (by repeat (first | exact Pick.head | apply Pick.tail)) (by first | exact SRC.str rfl rfl | (apply RD.src; repeat (first | assumption | exact RD.head | exact RD.nil | apply RD.tail))) (by rfl) (by rfl) (by (try simp only [List.length_append, List.length_cons, List.length_nil]); omega) fun w73 => ?_)
              refine WO_step rfl (S_pure rfl ?_)
              refine WO_nil ?_
              refine KBlock_n ?_
              refine KSeq_n ?_
              refine WC_region ?_
              refine WO_step rfl (S_pure rfl ?_)
              first | refine WO_step rfl (S_addN (b := 1) rfl rfl (by omega) ?_) | refine WO_step rfl (S_pure rfl ?_)
              refine WO_step rfl (S_pure rfl ?_)
              refine WO_nil ?_
              refine KLoop_n ?_
              have := ih (4 - (s + 1)) (by omega) (s + 1) w73 rfl (by omega)
              rw [show b * 4 + (s + 1) = b * 4 + s + 1 by omega, hsucc] at this
              exact WC_weak this (by repeat (first | exact SubE.nil | apply SubE.cons rfl)) (by repeat (first | exact HSub.refl | refine HSub.pick (by repeat (first | exact Pick.head | apply Pick.tail)) ?_ | apply HSub.drop))
          ·
            try simp only [decide_eq_true_eq, decide_eq_false_iff_not, Bool.not_eq_true', Bool.not_eq_false', beq_iff_eq, bne_iff_ne, beq_eq_false_iff_ne, Int.ofNat_lt, Int.ofNat_le, Int.ofNat_inj, ne_eq, gt_iff_lt, ge_iff_le] at hg2
            refine WO_off rfl ?_
            refine WO_off rfl ?_
            refine WO_off rfl ?_
            refine WO_off rfl ?_
            refine WO_off rfl ?_
            refine WO_off rfl ?_
            refine WO_step rfl (S_pure rfl ?_)
            refine WO_step rfl (S_pure rfl ?_)
            refine WO_nil ?_
            refine KSeq_n ?_
            refine WC_cond rfl (fun h => ?_) (fun _ => ?_)
            · exact absurd h (by decide)
            refine WC_skip ?_
            refine KSeq_n ?_
            refine WC_seq ?_
            refine WC_seq ?_
            refine WC_region ?_
            refine WO_step rfl (S_pure rfl ?_)
            refine WO_nil ?_
            refine KSeq_n ?_
            refine WC_block ?_
            --out x4
            refine WC_post (WC_weak (lp_MT2 (H := OB i6 TSlT x :: SL w.toV TStrT (tKeys ts (b * 4 + s)) :: AO i1 70 TSlT ts :: H) (i6 := i6) (x := x) (w := w) (v1 := .pointer (some ⟨i1, 0, none⟩)) (v4 := .int .i64 (b : Int)) (v5 := .int .i64 (s : Int)) (by repeat (first | assumption | exact RD.head | exact RD.nil | apply RD.tail)) .head hfr (by omega) (tKeys ts (b * 4 + s)).length 0 (by omega) (by omega)) (by repeat (first | exact SubE.nil | apply SubE.cons rfl)) (by repeat (first | exact HSub.refl | refine HSub.pick (by repeat (first | exact Pick.head | apply Pick.tail)) ?_ | apply HSub.drop))) ?_
            rintro y l' _ ⟨rfl, rfl, rfl⟩
            refine KBlock_h ?_
            refine KSeq_n ?_
            refine WC_region ?_
            refine WO_step rfl (S_pure rfl ?_)
            refine WO_step rfl (S_pure rfl ?_)
            refine WO_step rfl (S_pure rfl ?_)
            refine WO_step rfl (S_loadO (v := .string x.r.key) rfl (by repeat (first | exact Pick.head | apply Pick.tail)) (by rfl) (by rfl) ?_)
            refine WO_step rfl (S_lit1 (T := TStrT) (y := x.r.key) rfl rfl rfl rfl fun w72 => ?_)
            refine WO_step rfl (S_app rfl rfl (by repeat (first | exact Pick.head | apply Pick.tail)) (by first | exact SRC.str rfl rfl | (apply RD.src; repeat (first | assumption | exact RD.head | exact RD.nil | apply RD.tail))) (by rfl) (by rfl) (by (try simp only [List.length_append, List.length_cons, List.length_nil]); omega) fun w73 => ?_)
            refine WO_step rfl (S_pure rfl ?_)
            refine WO_nil ?_
            refine KBlock_n ?_
            refine KSeq_n ?_
            refine WC_region ?_
            refine WO_step rfl (S_pure rfl ?_)
            first | refine WO_step rfl (S_addN (b := 1) rfl rfl (by omega) ?_) | refine WO_step rfl (S_pure rfl ?_)
            refine WO_step rfl (S_pure rfl ?_)
            refine WO_nil ?_
            refine KLoop_n ?_
            have := ih (4 - (s + 1)) (by omega) (s + 1) w73 rfl (by omega)
            rw [show b * 4 + (s + 1) = b * 4 + s + 1 by omega, hsucc] at this
            exact WC_weak this (by repeat (first | exact SubE.nil | apply SubE.cons rfl)) (by repeat (first | exact HSub.refl | refine HSub.pick (by repeat (first | exact Pick.head | apply Pick.tail)) ?_ | apply HSub.drop))
    ·
      try simp only [decide_eq_true_eq, decide_eq_false_iff_not, Bool.not_eq_true', Bool.not_eq_false', beq_iff_eq, bne_iff_ne, beq_eq_false_iff_ne, Int.ofNat_lt, Int.ofNat_le, Int.ofNat_inj, ne_eq, gt_iff_lt, ge_iff_le] at hb1
      refine WC_exit ?_
      refine KSeq_x ?_
      refine KLoop_x ?_
      have e4 : s = 4 := by omega
      subst e4
      exact KPost_i (by repeat (first | exact SubE.nil | apply SubE.cons rfl)) (by repeat (first | exact HSub.refl | refine HSub.pick (by repeat (first | exact Pick.head | apply Pick.tail)) ?_ | apply HSub.drop)) ⟨w, rfl, rfl, rfl⟩
theorem lp_MT0 {H : SH} {ts : List SlT} {i1 : Nat} (ht : TabOk ts) : ∀ (n b : Nat) (w : SV), 8 - b = n → b ≤ 8 →
    WC F X (.loop L_loessref10_MayTable_0) [(4, .int .i64 (b : Int)), (1, .pointer (some ⟨i1, 0, none⟩)), (3, w.toV)] (SL w.toV TStrT (tKeys ts (b * 4)) :: AO i1 70 TSlT ts :: H) (KPost fun y l' H' => y = .exit 0 ∧ l' = [] ∧ H' = H) := by
  intro n
  induction n using Nat.strongRecOn with
  | _ n ih =>
    intro b w hn hb
    refine WC_loop ?_
    refine WC_seq ?_
    refine WC_seq ?_
    refine WC_region ?_
    refine WO_step rfl (S_pure rfl ?_)
    refine WO_step rfl (S_pure rfl ?_)
    refine WO_nil ?_
    refine KSeq_n ?_
    refine WC_cond rfl (fun hb1 => ?_) (fun hb1 => ?_)
    ·
      try simp only [decide_eq_true_eq, decide_eq_false_iff_not, Bool.not_eq_true', Bool.not_eq_false', beq_iff_eq, bne_iff_ne, beq_eq_false_iff_ne, Int.ofNat_lt, Int.ofNat_le, Int.ofNat_inj, ne_eq, gt_iff_lt, ge_iff_le] at hb1
      refine WC_skip ?_
      refine KSeq_n ?_
      refine WC_seq ?_
      refine WC_block ?_
      refine WC_seq ?_
      refine WC_region ?_
      refine WO_step rfl (S_pure rfl ?_)
      refine WO_nil ?_
      refine KSeq_n ?_
      refine WC_block ?_
      --out x2
      refine WC_post (WC_weak (lp_MT1 (H := H) (i1 := i1) (b := b) ht (by omega) 4 0 w (by omega) (by omega)) (by repeat (first | exact SubE.nil | apply SubE.cons rfl)) (by repeat (first | exact HSub.refl | refine HSub.pick (by repeat (first | exact Pick.head | apply Pick.tail)) ?_ | apply HSub.drop))) ?_
      rintro y l' _ ⟨w', rfl, rfl, rfl⟩
      refine KBlock_h ?_
      refine KBlock_n ?_
      refine KSeq_n ?_
      refine WC_region ?_
      refine WO_step rfl (S_pure rfl ?_)
      first | refine WO_step rfl (S_addN (b := 1) rfl rfl (by omega) ?_) | refine WO_step rfl (S_pure rfl ?_)
      refine WO_step rfl (S_pure rfl ?_)
      refine WO_nil ?_
      refine KLoop_n ?_
      have := ih (8 - (b + 1)) (by omega) (b + 1) w' rfl (by omega)
      rw [show (b + 1) * 4 = b * 4 + 4 by omega] at this
      exact WC_weak this (by repeat (first | exact SubE.nil | apply SubE.cons rfl)) (by repeat (first | exact HSub.refl | refine HSub.pick (by repeat (first | exact Pick.head | apply Pick.tail)) ?_ | apply HSub.drop))
    ·
      try simp only [decide_eq_true_eq, decide_eq_false_iff_not, Bool.not_eq_true', Bool.not_eq_false', beq_iff_eq, bne_iff_ne, beq_eq_false_iff_ne, Int.ofNat_lt, Int.ofNat_le, Int.ofNat_inj, ne_eq, gt_iff_lt, ge_iff_le] at hb1
      refine WC_exit ?_
      refine KSeq_x ?_
      refine KLoop_x ?_
      exact KPost_i (l' := []) (by repeat (first | exact SubE.nil | apply SubE.cons rfl)) (by repeat (first | exact HSub.refl | refine HSub.pick (by repeat (first | exact Pick.head | apply Pick.tail)) ?_ | apply HSub.drop)) ⟨rfl, rfl, rfl⟩
theorem sp_MayTable {H : SH} {ts : List SlT} (ht : TabOk ts) : WF F X f_loessref10_MayTable [.agg (TSlT.cells ts).toArray] H (fun r H' => H' = H ∧ r = .bool true) := by
  refine WF_fn F_loessref10_MayTable ?_
  refine WC_seq ?_
  refine WC_region ?_
  refine WO_step rfl (S_boxA (T := TSlT) (xs := ts) rfl fun i1 => ?_)
  refine WO_step rfl (S_pure rfl ?_)
  refine WO_nil ?_
  refine KSeq_n ?_
  refine WC_seq ?_
  refine WC_region ?_
  refine WO_step rfl (S_pure rfl ?_)
  refine WO_nil ?_
  refine KSeq_n ?_
  refine WC_seq ?_
  refine WC_seq ?_
  refine WC_region ?_
  refine WO_step rfl (S_pure rfl ?_)
  refine WO_nil ?_
  refine KSeq_n ?_
  refine WC_block ?_
  --out x0
  refine WC_view (H' := SL (SV.toV .nil) TStrT [] :: AO i1 70 TSlT ts :: H) (fun h hh => HAg.addNil hh) ?_
  refine WC_post (WC_weak (lp_MT0 (H := H) (i1 := i1) ht 8 0 .nil (by omega) (by omega)) (by repeat (first | exact SubE.nil | apply SubE.cons rfl)) (by repeat (first | exact HSub.refl | refine HSub.pick (by repeat (first | exact Pick.head | apply Pick.tail)) ?_ | apply HSub.drop))) ?_
  rintro y l' _ ⟨rfl, rfl, rfl⟩
  refine KBlock_h ?_
  refine KSeq_n ?_
  refine WC_seq ?_
  refine WC_region ?_
  refine WO_step rfl (S_pure rfl ?_)
  refine WO_nil ?_
  refine KSeq_n ?_
  refine WC_ret ?_
  refine KFn_r (ResL.tmp rfl ResL.nil) ?_
  exact ⟨_, (by repeat (first | exact HSub.refl | refine HSub.pick (by repeat (first | exact Pick.head | apply Pick.tail)) ?_ | apply HSub.drop)), rfl, rfl⟩
theorem lp_Rcs {H : SH} {ts : List SlT} {i1 : Nat} (hl : ts.length = 32) : ∀ (n k : Nat) (u : SV), 32 - k = n → k ≤ 32 →
    WC F X (.loop L_loessref10_Records_0) [(4, .int .i64 (k : Int)), (1, .pointer (some ⟨i1, 0, none⟩)), (3, u.toV)] (SL u.toV TRec (newest (tRecs ts k)) :: AO i1 70 TSlT ts :: H) (KPost fun y l' H' => ∃ u : SV, y = .exit 0 ∧ l' = [(3, u.toV)] ∧ H' = SL u.toV TRec (newest (tRecs ts 32)) :: H) := by
  intro n
  induction n using Nat.strongRecOn with
  | _ n ih =>
    intro k u hn hk
    have hnl : (newest (tRecs ts k)).length ≤ 32 := by
      refine Nat.le_trans (newest_len _) ?_
      unfold tRecs
      rw [List.length_map]
      exact Nat.le_trans (List.length_filter_le _ _) (by rw [List.length_take]; omega)
    refine WC_loop ?_
    refine WC_seq ?_
    refine WC_seq ?_
    refine WC_region ?_
    refine WO_step rfl (S_pure rfl ?_)
    refine WO_step rfl (S_pure rfl ?_)
    refine WO_nil ?_
    refine KSeq_n ?_
    refine WC_cond rfl (fun hb1 => ?_) (fun hb1 => ?_)
    ·
      try simp only [decide_eq_true_eq, decide_eq_false_iff_not, Bool.not_eq_true', Bool.not_eq_false', beq_iff_eq, bne_iff_ne, beq_eq_false_iff_ne, Int.ofNat_lt, Int.ofNat_le, Int.ofNat_inj, ne_eq, gt_iff_lt, ge_iff_le] at hb1
      obtain ⟨x, hx⟩ := get_of_lt (show k < ts.length by omega)
      have hsucc := tRecs_succ hx
      refine WC_skip ?_
      refine KSeq_n ?_
      refine WC_seq ?_
      refine WC_block ?_
      refine WC_seq ?_
      refine WC_region ?_
      refine WO_step rfl (S_pure rfl ?_)
      refine WO_step rfl (S_quoN (a := k) (m := 4) rfl rfl (by omega) (by omega) ?_)
      refine WO_step rfl (S_pure rfl ?_)
      refine WO_step rfl (S_remU (a := k) (m := 4) rfl rfl (by omega) ?_)
      refine WO_step rfl (S_idxA (j := k / 4) rfl rfl rfl (by omega) ?_)
      refine WO_step rfl (S_idxA (j := k % 4) rfl rfl rfl (by omega) ?_)
      refine WO_step rfl (S_pure rfl ?_)
      refine WO_step rfl (S_loadAF (T := TSlT) (k := k) (off := 0) (v := .bool x.has) rfl (by repeat (first | exact Pick.head | apply Pick.tail)) (by show _ = k * 6 + 0; omega) hx (by show 0 + 1 ≤ 6; omega) (by rfl) ?_)
      refine WO_nil ?_
      refine KSeq_n ?_
      refine WC_cond rfl (fun hb2 => ?_) (fun hb2 => ?_)
      ·
        try simp only [decide_eq_true_eq, decide_eq_false_iff_not, Bool.not_eq_true', Bool.not_eq_false', beq_iff_eq, bne_iff_ne, beq_eq_false_iff_ne, Int.ofNat_lt, Int.ofNat_le, Int.ofNat_inj, ne_eq, gt_iff_lt, ge_iff_le] at hb2
        refine WC_region ?_
        refine WO_step rfl (S_pure rfl ?_)
        refine WO_step rfl (S_pure rfl ?_)
        refine WO_step rfl (S_quoN (a := k) (m := 4) rfl rfl (by omega) (by omega) ?_)
        refine WO_step rfl (S_pure rfl ?_)
        refine WO_step rfl (S_remU (a := k) (m := 4) rfl rfl (by omega) ?_)
        refine WO_step rfl (S_idxA (j := k / 4) rfl rfl rfl (by omega) ?_)
        refine WO_step rfl (S_idxA (j := k % 4) rfl rfl rfl (by omega) ?_)
        refine WO_step rfl (S_pure rfl ?_)
        refine WO_step rfl (S_loadAF (T := TSlT) (k := k) (off := 1) (v := TRec.val x.r) rfl (by repeat (first | exact Pick.head | apply Pick.tail)) (by show _ = k * 6 + 1; omega) hx (by show 1 + 5 ≤ 6; omega) (by rfl) ?_)
        refine WO_call rfl rfl rfl ?_
        refine (sp_Set (l := newest (tRecs ts k)) (r := x.r) (by repeat (first | assumption | exact RD.head | exact RD.nil | apply RD.tail)) (by omega)).mono ?_
        rintro _ _ ⟨u2, rfl, rfl⟩
        refine WO_step rfl (S_pure rfl ?_)
        refine WO_nil ?_
        refine KBlock_n ?_
        refine KSeq_n ?_
        refine WC_region ?_
        refine WO_step rfl (S_pure rfl ?_)
        first | refine WO_step rfl (S_addN (b := 1) rfl rfl (by omega) ?_) | refine WO_step rfl (S_pure rfl ?_)
        refine WO_step rfl (S_pure rfl ?_)
        refine WO_nil ?_
        refine KLoop_n ?_
        rw [hb2] at hsucc
        simp only [if_true] at hsucc
        have := ih (32 - (k + 1)) (by omega) (k + 1) u2 rfl (by omega)
        rw [hsucc, newest_snoc] at this
        exact WC_weak this (by repeat (first | exact SubE.nil | apply SubE.cons rfl)) (by repeat (first | exact HSub.refl | refine HSub.pick (by repeat (first | exact Pick.head | apply Pick.tail)) ?_ | apply HSub.drop))
      ·
        try simp only [decide_eq_true_eq, decide_eq_false_iff_not, Bool.not_eq_true', Bool.not_eq_false', beq_iff_eq, bne_iff_ne, beq_eq_false_iff_ne, Int.ofNat_lt, Int.ofNat_le, Int.ofNat_inj, ne_eq, gt_iff_lt, ge_iff_le] at hb2
        refine WC_skip ?_
        refine KBlock_n ?_
        refine KSeq_n ?_
        refine WC_region ?_
        refine WO_step rfl (S_pure rfl ?_)
        first | refine WO_step rfl (S_addN (b := 1) rfl rfl (by omega) ?_) | refine WO_step rfl (S_pure rfl ?_)
        refine WO_step rfl (S_pure rfl ?_)
        refine WO_nil ?_
        refine KLoop_n ?_
        rw [hb2] at hsucc
        simp only [Bool.false_eq_true, if_false, List.append_nil] at hsucc
        have := ih (32 - (k + 1)) (by omega) (k + 1) u rfl (by omega)
        rw [hsucc] at this
        exact WC_weak this (by repeat (first | exact SubE.nil | apply SubE.cons rfl)) (by repeat (first | exact HSub.refl | refine HSub.pick (by repeat (first | exact Pick.head | apply Pick.tail)) ?_ | apply HSub.drop))
    ·
      try simp only [decide_eq_true_eq, decide_eq_false_iff_not, Bool.not_eq_true', Bool.not_eq_false', beq_iff_eq, bne_iff_ne, beq_eq_false_iff_ne, Int.ofNat_lt, Int.ofNat_le, Int.ofNat_inj, ne_eq, gt_iff_lt, ge_iff_le] at hb1
      refine WC_exit ?_
      refine KSeq_x ?_
      refine KLoop_x ?_
      have e : k = 32 := by omega
      subst e
      exact KPost_i (l' := [(3, u.toV)]) (by repeat (first | exact SubE.nil | apply SubE.cons rfl)) (by repeat (first | exact HSub.refl | refine HSub.pick (by repeat (first | exact Pick.head | apply Pick.tail)) ?_ | apply HSub.drop)) ⟨u, rfl, rfl, rfl⟩
theorem sp_Records {H : SH} {ts : List SlT} (hl : ts.length = 32) : WF F X f_loessref10_Records [.agg (TSlT.cells ts).toArray] H (fun r H' => ∃ u : SV, r = u.toV ∧ H' = SL u.toV TRec (newest (tRecs ts 32)) :: H) := by
  refine WF_fn F_loessref10_Records ?_
  refine WC_seq ?_
  refine WC_region ?_
  refine WO_step rfl (S_boxA (T := TSlT) (xs := ts) rfl fun i1 => ?_)
  refine WO_step rfl (S_pure rfl ?_)
  refine WO_nil ?_
  refine KSeq_n ?_
  refine WC_seq ?_
  refine WC_region ?_
  refine WO_step rfl (S_pure rfl ?_)
  refine WO_nil ?_
  refine KSeq_n ?_
  refine WC_seq ?_
  refine WC_seq ?_
  refine WC_region ?_
  refine WO_step rfl (S_pure rfl ?_)
  refine WO_nil ?_
  refine KSeq_n ?_
  refine WC_block ?_
  --out x0
  refine WC_view (H' := SL (SV.toV .nil) TRec [] :: AO i1 70 TSlT ts :: H) (fun h hh => HAg.addNil hh) ?_
  refine WC_post (WC_weak (lp_Rcs (H := H) (i1 := i1) hl 32 0 .nil (by omega) (by omega)) (by repeat (first | exact SubE.nil | apply SubE.cons rfl)) (by repeat (first | exact HSub.refl | refine HSub.pick (by repeat (first | exact Pick.head | apply Pick.tail)) ?_ | apply HSub.drop))) ?_
  rintro y l' _ ⟨u, rfl, rfl, rfl⟩
  refine KBlock_h ?_
  refine KSeq_n ?_
  refine WC_seq ?_
  refine WC_region ?_
  refine WO_step rfl (S_pure rfl ?_)
  refine WO_step rfl (S_pure rfl ?_)
  refine WO_nil ?_
  refine KSeq_n ?_
  refine WC_ret ?_
  refine KFn_r (ResL.tmp rfl ResL.nil) ?_
  exact ⟨_, HSub.refl, u, rfl, rfl⟩
/-! ### same -/
def tabT (es : List Ent) (l : List Rec) : List SlT := (List.range 32).map (sltOf es l)
theorem tabT_at {es : List Ent} {l : List Rec} {k : Nat} (h : k < 32) : (tabT es l)[k]? = some (sltOf es l k) := by simp [tabT, h]
theorem tabT_len (es : List Ent) (l : List Rec) : (tabT es l).length = 32 := by simp [tabT]
theorem tRecs_tab {es : List Ent} {l : List Rec} : ∀ k, k ≤ 32 → tRecs (tabT es l) k = recsFrom es l 0 k
  | 0, _ => rfl
  | k + 1, h => by
    have hx := tabT_at (es := es) (l := l) (show k < 32 by omega)
    rw [tRecs_succ hx, tRecs_tab k (by omega)]
    have key : ∀ (n a : Nat), recsFrom es l a (n + 1) = recsFrom es l a n ++ (occ es (a + n)).map (recAt l) := by
      intro n
      induction n with
      | zero => intro a; simp [recsFrom, occFrom]
      | succ n ih =>
        intro a
        have := ih (a + 1)
        unfold recsFrom at this ⊢
        rw [occFrom, List.map_append, this, occFrom, List.map_append, List.append_assoc, show a + 1 + n = a + (n + 1) by omega]
    rw [key k 0, Nat.zero_add]
    congr 1
    unfold sltOf occ
    cases (at' es k).has <;> simp [slt0]
theorem tKeys_recs (ts : List SlT) (k : Nat) : tKeys ts k = keysOf (tRecs ts k) := by
  unfold tKeys tRecs keysOf
  rw [List.map_map]; rfl
theorem tab_perm {es : List Ent} {l : List Rec} (g : LogI es l) : (tRecs (tabT es l) 32).Perm l := by
  rw [tRecs_tab 32 (by omega)]; exact recs_perm g
theorem tab_ok {es : List Ent} {l : List Rec} (g : LogI es l) (hm : ∀ r ∈ l, mayRec r = true) : TabOk (tabT es l) := by
  refine ⟨tabT_len es l, fun k x hx hf => ?_, fun k x hx hh => ?_, ?_⟩
  · have hk : k < 32 := by have := (List.getElem?_eq_some_iff.1 hx).1; rwa [tabT_len] at this
    rw [tabT_at hk] at hx
    cases hx
    unfold sltOf at hf ⊢
    split at hf
    · cases hf
    · rename_i h; rw [if_neg h]; rfl
  · have hk : k < 32 := by have := (List.getElem?_eq_some_iff.1 hx).1; rwa [tabT_len] at this
    rw [tabT_at hk] at hx
    cases hx
    unfold sltOf at hh ⊢
    split at hh
    · rename_i h
      rw [if_pos h]
      obtain ⟨i, r, e1, e2, e3, e4⟩ := g.slot hk h
      have e5 : recAt l (at' es k).id = r := by unfold recAt; rw [e1, Int.toNat_natCast, e2]; rfl
      show okRecB (recAt l (at' es k).id) (k / 4)
      rw [e5]
      exact ⟨hm r (List.mem_of_getElem? e2), e4⟩
    · cases hh
  · rw [tKeys_recs]
    exact ((tab_perm g).map _).nodup_iff.2 g.nd
theorem tab_newest {es : List Ent} {l : List Rec} (g : LogI es l) : newest (tRecs (tabT es l) 32) = newest l := newest_same (tab_perm g) g.nd
theorem S_loadWhole {α : Type} {T : Ty α} {l : SE} {H H0 : SH} {K : Value → SH → Prop} {i n : Nat} {t : TypeId} {a : Opd} {xs : List α} (ha : a.lv l = some (.pointer (some ⟨i, 0, none⟩))) (hp : Pick (AO i t T xs) H H0) (hn : n = xs.length * T.es) (kk : K (.agg (T.cells xs).toArray) H) : Step (.load true n a) l H K := by
  have hc := T.cells_len xs
  exact S_loadO ha hp (by rw [Nat.ble_eq, hc]; omega) (by rw [List.drop_zero, hn, ← hc, List.take_length]; rfl) kk
theorem lp_same1 {H : SH} {j iD n i5 b : Nat} {w : SV} {l : List Rec} {es : List Ent} (g : LogI es l) (hb : b < 8) (v1 : Value) : ∀ (m s : Nat) (ts : List SlT), 4 - s = m → s ≤ 4 → ts.length = 32 → (∀ k, k < b * 4 + s → ts[k]? = some (sltOf es l k)) →
    WC F X (.loop L_loesslaw18_same_1) [(7, .int .i64 (s : Int)), (6, .int .i64 (b : Int)), (0, .pointer (some ⟨j, 0, none⟩)), (1, v1), (5, .pointer (some ⟨i5, 0, none⟩))] (AO i5 70 TSlT ts :: LO j iD w :: SL w.toV TRec l :: DO iD es n :: H)
      (KPost fun y l' H' => ∃ ts, y = .exit 2 ∧ l' = [(6, .int .i64 (b : Int)), (0, .pointer (some ⟨j, 0, none⟩)), (1, v1), (5, .pointer (some ⟨i5, 0, none⟩))] ∧ H' = AO i5 70 TSlT ts :: LO j iD w :: SL w.toV TRec l :: DO iD es n :: H ∧ ts.length = 32 ∧ ∀ k, k < b * 4 + 4 → ts[k]? = some (sltOf es l k)) := by
  intro m
  induction m using Nat.strongRecOn with
  | _ m ih =>
    intro s ts hm hs hl hts
    refine WC_loop ?_
    refine WC_seq ?_
    refine WC_seq ?_
    refine WC_region ?_
    refine WO_step rfl (S_pure rfl ?_)
    refine WO_step rfl (S_pure rfl ?_)
    refine WO_nil ?_
    refine KSeq_n ?_
    refine WC_cond rfl (fun hb1 => ?_) (fun hb1 => ?_)
    ·
      try simp only [decide_eq_true_eq, decide_eq_false_iff_not, Bool.not_eq_true', Bool.not_eq_false', beq_iff_eq, bne_iff_ne, beq_eq_false_iff_ne, Int.ofNat_lt, Int.ofNat_le, Int.ofNat_inj, ne_eq, gt_iff_lt, ge_iff_le] at hb1
      refine WC_skip ?_
      refine KSeq_n ?_
      refine WC_seq ?_
      refine WC_block ?_
      refine WC_seq ?_
      refine WC_region ?_
      refine WO_step rfl (S_pure rfl ?_)
      refine WO_step rfl (S_pure rfl ?_)
      refine WO_step rfl (S_pure rfl ?_)
      refine WO_call rfl rfl rfl ?_
      refine (WF.weak (sp_lSlot (H := AO i5 70 TSlT ts :: H) (j := j) (i := iD) (n := n) (w := w) (b := b) (s := s) g hb (by omega)) (by repeat (first | exact HSub.refl | refine HSub.pick (by repeat (first | exact Pick.head | apply Pick.tail)) ?_ | apply HSub.drop))).mono ?_
      rintro _ _ ⟨rfl, rfl⟩
      obtain ⟨x, hx⟩ : ∃ x, sltOf es l (b * 4 + s) = x := ⟨_, rfl⟩
      rw [hx]
      refine WO_step rfl (S_pure rfl ?_)
      refine WO_step rfl (S_pure rfl ?_)
      refine WO_step rfl (S_pure rfl ?_)
      refine WO_step rfl (S_newT TRec rec0 rfl rfl fun i8 => ?_)
      refine WO_step rfl (S_storeT (T := TRec) (y := x.r) rfl rfl (by repeat (first | exact Pick.head | apply Pick.tail)) (by rfl) (by rfl) ?_)
      refine WO_step rfl (S_pure rfl ?_)
      refine WO_nil ?_
      refine KSeq_n ?_
      refine WC_region ?_
      refine WO_step rfl (S_pure rfl ?_)
      refine WO_step rfl (S_pure rfl ?_)
      refine WO_step rfl (S_pure rfl ?_)
      refine WO_step rfl (S_loadT (T := TRec) (z := x.r) rfl (by repeat (first | exact Pick.head | apply Pick.tail)) (by rfl) (by rfl) ?_)
      refine WO_step rfl (S_pure rfl ?_)
      refine WO_step rfl (S_idxA (j := b) rfl rfl rfl hb ?_)
      refine WO_step rfl (S_idxA (j := s) rfl rfl rfl (by omega) ?_)
      refine WO_step rfl (S_storeA (T := TSlT) (k := b * 4 + s) (x := x) rfl rfl (by repeat (first | exact Pick.head | apply Pick.tail)) (by show _ = (b * 4 + s) * 6; omega) (by omega) (by rfl) rfl ?_)
      refine WO_nil ?_
      refine KBlock_n ?_
      refine KSeq_n ?_
      refine WC_region ?_
      refine WO_step rfl (S_pure rfl ?_)
      first | refine WO_step rfl (S_addN (b := 1) rfl rfl (by omega) ?_) | refine WO_step rfl (S_pure rfl ?_)
      refine WO_step rfl (S_pure rfl ?_)
      refine WO_nil ?_
      refine KLoop_n ?_
      refine WC_weak (ih (4 - (s + 1)) (by omega) (s + 1) (ts.set (b * 4 + s) x) rfl (by omega) (by rw [List.length_set]; exact hl) (fun k hk => ?_)) (by repeat (first | exact SubE.nil | apply SubE.cons rfl)) (by repeat (first | exact HSub.refl | refine HSub.pick (by repeat (first | exact Pick.head | apply Pick.tail)) ?_ | apply HSub.drop))
      rw [List.getElem?_set]
      by_cases e : b * 4 + s = k
      · subst e
        rw [if_pos rfl, if_pos (by omega), hx]
      · rw [if_neg e]; exact hts k (by omega)
    ·
      try simp only [decide_eq_true_eq, decide_eq_false_iff_not, Bool.not_eq_true', Bool.not_eq_false', beq_iff_eq, bne_iff_ne, beq_eq_false_iff_ne, Int.ofNat_lt, Int.ofNat_le, Int.ofNat_inj, ne_eq, gt_iff_lt, ge_iff_le] at hb1
      refine WC_exit ?_
      refine KSeq_x ?_
      refine KLoop_x ?_
      have e4 : s = 4 := by omega
      subst e4
      exact KPost_i (by repeat (first | exact SubE.nil | apply SubE.cons rfl)) (by repeat (first | exact HSub.refl | refine HSub.pick (by repeat (first | exact Pick.head | apply Pick.tail)) ?_ | apply HSub.drop)) ⟨ts, rfl, rfl, rfl, hl, hts⟩
theorem lp_same0 {H : SH} {j iD n i5 : Nat} {w : SV} {l : List Rec} {es : List Ent} (g : LogI es l) (v1 : Value) : ∀ (m b : Nat) (ts : List SlT), 8 - b = m → b ≤ 8 → ts.length = 32 → (∀ k, k < b * 4 → ts[k]? = some (sltOf es l k)) →
    WC F X (.loop L_loesslaw18_same_0) [(6, .int .i64 (b : Int)), (0, .pointer (some ⟨j, 0, none⟩)), (1, v1), (5, .pointer (some ⟨i5, 0, none⟩))] (AO i5 70 TSlT ts :: LO j iD w :: SL w.toV TRec l :: DO iD es n :: H)
      (KPost fun y l' H' => y = .exit 0 ∧ l' = [(0, .pointer (some ⟨j, 0, none⟩)), (1, v1), (5, .pointer (some ⟨i5, 0, none⟩))] ∧ H' = AO i5 70 TSlT (tabT es l) :: LO j iD w :: SL w.toV TRec l :: DO iD es n :: H) := by
  intro m
  induction m using Nat.strongRecOn with
  | _ m ih =>
    intro b ts hm hb hl hts
    refine WC_loop ?_
    refine WC_seq ?_
    refine WC_seq ?_
    refine WC_region ?_
    refine WO_step rfl (S_pure rfl ?_)
    refine WO_step rfl (S_pure rfl ?_)
    refine WO_nil ?_
    refine KSeq_n ?_
    refine WC_cond rfl (fun hb1 => ?_) (fun hb1 => ?_)
    ·
      try simp only [decide_eq_true_eq, decide_eq_false_iff_not, Bool.not_eq_true', Bool.not_eq_false', beq_iff_eq, bne_iff_ne, beq_eq_false_iff_ne, Int.ofNat_lt, Int.ofNat_le, Int.ofNat_inj, ne_eq, gt_iff_lt, ge_iff_le] at hb1
      refine WC_skip ?_
      refine KSeq_n ?_
      refine WC_seq ?_
      refine WC_block ?_
      refine WC_seq ?_
      refine WC_region ?_
      refine WO_step rfl (S_pure rfl ?_)
      refine WO_nil ?_
      refine KSeq_n ?_
      refine WC_block ?_
      --out x2
      refine WC_post (WC_weak (lp_same1 (H := H) (j := j) (iD := iD) (n := n) (i5 := i5) (b := b) (w := w) g (by omega) v1 4 0 ts (by omega) (by omega) hl (by simpa using hts)) (by repeat (first | exact SubE.nil | apply SubE.cons rfl)) (by repeat (first | exact HSub.refl | refine HSub.pick (by repeat (first | exact Pick.head | apply Pick.tail)) ?_ | apply HSub.drop))) ?_
      rintro y l' _ ⟨ts', rfl, rfl, rfl, hl', hts'⟩
      refine KBlock_h ?_
      refine KBlock_n ?_
      refine KSeq_n ?_
      refine WC_region ?_
      refine WO_step rfl (S_pure rfl ?_)
      first | refine WO_step rfl (S_addN (b := 1) rfl rfl (by omega) ?_) | refine WO_step rfl (S_pure rfl ?_)
      refine WO_step rfl (S_pure rfl ?_)
      refine WO_nil ?_
      refine KLoop_n ?_
      exact WC_weak (ih (8 - (b + 1)) (by omega) (b + 1) ts' rfl (by omega) hl' (fun k hk => hts' k (by omega))) (by repeat (first | exact SubE.nil | apply SubE.cons rfl)) (by repeat (first | exact HSub.refl | refine HSub.pick (by repeat (first | exact Pick.head | apply Pick.tail)) ?_ | apply HSub.drop))
    ·
      try simp only [decide_eq_true_eq, decide_eq_false_iff_not, Bool.not_eq_true', Bool.not_eq_false', beq_iff_eq, bne_iff_ne, beq_eq_false_iff_ne, Int.ofNat_lt, Int.ofNat_le, Int.ofNat_inj, ne_eq, gt_iff_lt, ge_iff_le] at hb1
      refine WC_exit ?_
      refine KSeq_x ?_
      refine KLoop_x ?_
      have e8 : b = 8 := by omega
      subst e8
      have e : ts = tabT es l := by
        refine List.ext_getElem? (fun k => ?_)
        by_cases hk : k < 32
        · rw [hts k (by omega), tabT_at hk]
        · rw [List.getElem?_eq_none (by omega), List.getElem?_eq_none (by rw [tabT_len]; omega)]
      subst e
      exact KPost_i (by repeat (first | exact SubE.nil | apply SubE.cons rfl)) (by repeat (first | exact HSub.refl | refine HSub.pick (by repeat (first | exact Pick.head | apply Pick.tail)) ?_ | apply HSub.drop)) ⟨rfl, rfl, rfl⟩
theorem sp_same {H : SH} {j iD : Nat} {w : SV} {l m : List Rec} {es : List Ent} {v : Value} (g : LogI es l) (hm : ∀ r ∈ l, mayRec r = true) (hv : RD H v TRec m) (heq : newest l = m) : WF F X f_loesslaw18_same [.pointer (some ⟨j, 0, none⟩), v] (LO j iD w :: SL w.toV TRec l :: DO iD es l.length :: H) (fun r H' => r = .bool true) := by
  have hlen := g.len
  have hml : m.length = l.length := by rw [← heq]; exact (newest_perm g.nd).length_eq
  have hks : ∀ x ∈ l, x.key.size ≤ maxLen := fun x hx => by have := may_key (hm x hx); exact Nat.le_trans this (by decide)
  refine WF_fn F_loesslaw18_same ?_
  refine WC_seq ?_
  refine WC_region ?_
  refine WO_step rfl (S_pure rfl ?_)
  refine WO_nil ?_
  refine KSeq_n ?_
  refine WC_seq ?_
  refine WC_seq ?_
  refine WC_region ?_
  refine WO_step rfl (S_pure rfl ?_)
  refine WO_call rfl rfl rfl ?_
  refine sp_lLen.mono ?_
  rintro _ _ ⟨rfl, rfl⟩
  refine WO_step rfl (S_pure rfl ?_)
  first | refine WO_step rfl (S_pure rfl ?_) | refine WO_step rfl (S_lenS rfl (by repeat (first | assumption | exact RD.head | exact RD.nil | apply RD.tail)) ?_)
  first | refine WO_step rfl (S_neS rfl rfl ?_) | refine WO_step rfl (S_pure rfl ?_)
  refine WO_step rfl (S_pure rfl ?_)
  refine WO_cases (t := 17) rfl (fun hg1 => ?_) (fun hg1 => ?_)
  ·
    try simp only [decide_eq_true_eq, decide_eq_false_iff_not, Bool.not_eq_true', Bool.not_eq_false', beq_iff_eq, bne_iff_ne, beq_eq_false_iff_ne, Int.ofNat_lt, Int.ofNat_le, Int.ofNat_inj, ne_eq, gt_iff_lt, ge_iff_le] at hg1
    exact absurd hg1 (by simp [hml])
    --stop
  ·
    try simp only [decide_eq_true_eq, decide_eq_false_iff_not, Bool.not_eq_true', Bool.not_eq_false', beq_iff_eq, bne_iff_ne, beq_eq_false_iff_ne, Int.ofNat_lt, Int.ofNat_le, Int.ofNat_inj, ne_eq, gt_iff_lt, ge_iff_le] at hg1
    refine WO_step rfl (S_pure rfl ?_)
    refine WO_call rfl rfl rfl ?_
    refine (sp_lList (by omega) (by assumption)).mono ?_
    rintro _ _ ⟨u19, rfl, rfl⟩
    refine WO_step rfl (S_pure rfl ?_)
    refine WO_call rfl rfl rfl ?_
    refine (sp_EqRecs (l := newest l) (m := m) (by repeat (first | assumption | exact RD.head | exact RD.nil | apply RD.tail)) (by repeat (first | assumption | exact RD.head | exact RD.nil | apply RD.tail)) (by rw [heq]; omega)).mono ?_
    rintro _ _ ⟨rfl, rfl⟩
    refine WO_step rfl (S_pure rfl ?_)
    refine WO_step rfl (S_pure rfl ?_)
    refine WO_nil ?_
    refine KSeq_n ?_
    refine WC_cond rfl (fun hb1 => ?_) (fun hb1 => ?_)
    ·
      try simp only [decide_eq_true_eq, decide_eq_false_iff_not, Bool.not_eq_true', Bool.not_eq_false', beq_iff_eq, bne_iff_ne, beq_eq_false_iff_ne, Int.ofNat_lt, Int.ofNat_le, Int.ofNat_inj, ne_eq, gt_iff_lt, ge_iff_le] at hb1
      refine WC_seq ?_
      refine WC_region ?_
      refine WO_step rfl (S_pure rfl ?_)
      refine WO_nil ?_
      refine KSeq_n ?_
      refine WC_ret ?_
      refine KSeq_r ?_
      refine KFn_r (ResL.tmp rfl ResL.nil) ?_
      exact absurd heq hb1
    ·
      try simp only [decide_eq_true_eq, decide_eq_false_iff_not, Bool.not_eq_true', Bool.not_eq_false', beq_iff_eq, bne_iff_ne, beq_eq_false_iff_ne, Int.ofNat_lt, Int.ofNat_le, Int.ofNat_inj, ne_eq, gt_iff_lt, ge_iff_le] at hb1
      refine WC_skip ?_
      refine KSeq_n ?_
      refine WC_seq ?_
      refine WC_region ?_
      refine WO_step rfl (S_new fun i5 => ?_)
      refine WO_nil ?_
      refine KSeq_n ?_
      refine WC_seq ?_
      refine WC_seq ?_
      refine WC_region ?_
      refine WO_step rfl (S_pure rfl ?_)
      refine WO_nil ?_
      refine KSeq_n ?_
      refine WC_block ?_
      --out x0
      refine WC_view (H' := AO i5 70 TSlT (List.replicate 32 slt0) :: SL u19.toV TRec (newest l) :: LO j iD w :: SL w.toV TRec l :: DO iD es l.length :: H) (fun h hh => hh) ?_
      refine WC_post (WC_weak (lp_same0 (H := SL u19.toV TRec (newest l) :: H) (j := j) (iD := iD) (n := l.length) (i5 := i5) (w := w) g v 8 0 (List.replicate 32 slt0) (by omega) (by omega) (by simp) (by intro k hk; omega)) (by repeat (first | exact SubE.nil | apply SubE.cons rfl)) (by repeat (first | exact HSub.refl | refine HSub.pick (by repeat (first | exact Pick.head | apply Pick.tail)) ?_ | apply HSub.drop))) ?_
      rintro y l' _ ⟨rfl, rfl, rfl⟩
      refine KBlock_h ?_
      refine KSeq_n ?_
      refine WC_seq ?_
      refine WC_region ?_
      refine WO_step rfl (S_pure rfl ?_)
      refine WO_call rfl rfl rfl ?_
      refine (WF.weak (sp_lSlotNo (H := AO i5 70 TSlT (tabT es l) :: SL u19.toV TRec (newest l) :: H) (j := j) (i := iD) (n := l.length) (w := w) (l := l) (es := es) (b := 8) (s := 0) (.inl (by omega))) (by repeat (first | exact HSub.refl | refine HSub.pick (by repeat (first | exact Pick.head | apply Pick.tail)) ?_ | apply HSub.drop))).mono ?_
      rintro _ _ ⟨rfl, rfl⟩
      refine WO_step rfl (S_pure rfl ?_)
      refine WO_step rfl (S_pure rfl ?_)
      refine WO_step rfl (S_pure rfl ?_)
      refine WO_step rfl (S_newT TRec rec0 rfl rfl fun i10 => ?_)
      refine WO_step rfl (S_storeT (T := TRec) (y := rec0) rfl rfl (by repeat (first | exact Pick.head | apply Pick.tail)) (by rfl) (by rfl) ?_)
      refine WO_step rfl (S_pure rfl ?_)
      refine WO_nil ?_
      refine KSeq_n ?_
      refine WC_seq ?_
      refine WC_region ?_
      refine WO_step rfl (S_pure rfl ?_)
      refine WO_step rfl (S_pure rfl ?_)
      refine WO_step rfl (S_pure rfl ?_)
      refine WO_cases (t := 53) rfl (fun hg2 => ?_) (fun hg2 => ?_)
      ·
        try simp only [decide_eq_true_eq, decide_eq_false_iff_not, Bool.not_eq_true', Bool.not_eq_false', beq_iff_eq, bne_iff_ne, beq_eq_false_iff_ne, Int.ofNat_lt, Int.ofNat_le, Int.ofNat_inj, ne_eq, gt_iff_lt, ge_iff_le] at hg2
        refine WO_step rfl (S_loadWhole (T := TSlT) (xs := tabT es l) rfl (by repeat (first | exact Pick.head | apply Pick.tail)) (by rw [tabT_len]; rfl) ?_)
        refine WO_call rfl rfl rfl ?_
        refine (sp_MayTable (tab_ok g hm)).mono ?_
        rintro _ _ ⟨rfl, rfl⟩
        refine WO_step rfl (S_pure rfl ?_)
        refine WO_step rfl (S_pure rfl ?_)
        refine WO_cases (t := 57) rfl (fun hg3 => ?_) (fun hg3 => ?_)
        ·
          try simp only [decide_eq_true_eq, decide_eq_false_iff_not, Bool.not_eq_true', Bool.not_eq_false', beq_iff_eq, bne_iff_ne, beq_eq_false_iff_ne, Int.ofNat_lt, Int.ofNat_le, Int.ofNat_inj, ne_eq, gt_iff_lt, ge_iff_le] at hg3
          refine WO_step rfl (S_loadWhole (T := TSlT) (xs := tabT es l) rfl (by repeat (first | exact Pick.head | apply Pick.tail)) (by rw [tabT_len]; rfl) ?_)
          refine WO_call rfl rfl rfl ?_
          refine (sp_Records (tabT_len es l)).mono ?_
          rintro _ _ ⟨u59, rfl, rfl⟩
          rw [tab_newest g]
          refine WO_step rfl (S_pure rfl ?_)
          refine WO_call rfl rfl rfl ?_
          refine (sp_EqRecs (l := newest l) (m := m) (by repeat (first | assumption | exact RD.head | exact RD.nil | apply RD.tail)) (by repeat (first | assumption | exact RD.head | exact RD.nil | apply RD.tail)) (by rw [heq]; omega)).mono ?_
          rintro _ _ ⟨rfl, rfl⟩
          rw [heq]
          refine WO_step rfl (S_pure rfl ?_)
          refine WO_step rfl (S_pure rfl ?_)
          refine WO_nil ?_
          refine KSeq_n ?_
          refine WC_ret ?_
          refine KFn_r (ResL.tmp rfl ResL.nil) ?_
          exact ⟨_, HSub.refl, by simp [resV]⟩
        ·
          try simp only [decide_eq_true_eq, decide_eq_false_iff_not, Bool.not_eq_true', Bool.not_eq_false', beq_iff_eq, bne_iff_ne, beq_eq_false_iff_ne, Int.ofNat_lt, Int.ofNat_le, Int.ofNat_inj, ne_eq, gt_iff_lt, ge_iff_le] at hg3
          refine WO_off rfl ?_
          refine WO_off rfl ?_
          refine WO_off rfl ?_
          refine WO_off rfl ?_
          refine WO_step rfl (S_pure rfl ?_)
          refine WO_step rfl (S_pure rfl ?_)
          refine WO_nil ?_
          refine KSeq_n ?_
          refine WC_ret ?_
          refine KFn_r (ResL.tmp rfl ResL.nil) ?_
          exact absurd hg3 (by simp)
      ·
        try simp only [decide_eq_true_eq, decide_eq_false_iff_not, Bool.not_eq_true', Bool.not_eq_false', beq_iff_eq, bne_iff_ne, beq_eq_false_iff_ne, Int.ofNat_lt, Int.ofNat_le, Int.ofNat_inj, ne_eq, gt_iff_lt, ge_iff_le] at hg2
        refine WO_off rfl ?_
        refine WO_off rfl ?_
        refine WO_step rfl (S_pure rfl ?_)
        refine WO_step rfl (S_pure rfl ?_)
        refine WO_off rfl ?_
        refine WO_off rfl ?_
        refine WO_off rfl ?_
        refine WO_off rfl ?_
        refine WO_step rfl (S_pure rfl ?_)
        refine WO_step rfl (S_pure rfl ?_)
        refine WO_nil ?_
        refine KSeq_n ?_
        refine WC_ret ?_
        refine KFn_r (ResL.tmp rfl ResL.nil) ?_
        exact absurd hg2 (by simp)

end Go.Proofs.YtjbichljgfcigaaGreat.AM
