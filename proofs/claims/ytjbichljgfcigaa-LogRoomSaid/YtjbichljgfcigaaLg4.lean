/- Walks: what the functions compute. -/
import Derived.Test.YtjbichljgfcigaaLg3
import Derived.Test.YtjbichljgfcigaaLg2
namespace Go.Proofs.Ytjbichljgfcigaa.AM
open Go
set_option linter.unusedSimpArgs false
set_option linter.unusedVariables false
set_option maxRecDepth 4000

/-! ### The law LogRoom -/
theorem S_and15 {l : SE} {H : SH} {K : Value → SH → Prop} {x : Opd} {n : Int} (hx : x.lv l = some (.int .i64 n)) (k : ∀ m : Nat, m < 16 → K (.int .i64 (m : Int)) H) : Step (.bin .and x (.const (.int .i64 15))) l H K := by
  have hlt : (BitVec.ofInt 64 n &&& BitVec.ofInt 64 15).toNat < 16 := by
    rw [BitVec.toNat_and, show (BitVec.ofInt 64 15).toNat = 15 from rfl]
    have := Nat.and_le_right (n := (BitVec.ofInt 64 n).toNat) (m := 15)
    omega
  refine S_pureE (v := .int .i64 (IntKind.wrap .i64 ((BitVec.ofInt 64 n &&& BitVec.ofInt 64 15).toNat : Int))) (v' := .int .i64 (((BitVec.ofInt 64 n &&& BitVec.ofInt 64 15).toNat : Nat) : Int)) (by
    have h2 : (Opd.const (.int .i64 15)).lv l = some (.int .i64 15) := rfl
    simp only [pev, hx, h2, binV, intBin, if_true]; rfl) (by rw [wrap_i64 (by omega) (by omega)]) (k _ hlt)
theorem put_same {l : List Rec} {r : Rec} (hm : mayRec r = true) (hs : (fnd l r.key).isSome = true) : (putF l r).1 = 0 ∧ keysOf (putF l r).2 = keysOf l := by
  have h0 : (putF l r).1 = 0 := by rw [put_code hm]; unfold roomK; rw [hs]; rfl
  refine ⟨h0, ?_⟩
  unfold putF
  rw [if_neg (by rw [hm]; simp)]
  rcases fnd_idx r.key l with ⟨h1, _⟩ | ⟨i, q, h1, h2, h3⟩
  · rw [h1] at hs; cases hs
  · rw [h2, if_pos (Int.natCast_nonneg i), Int.toNat_natCast]
    exact keys_set h3 (fnd_mem' h1).2.symm
def Two (l : List Rec) : Prop := ∀ r ∈ l, r.key.size = 2
theorem Two.put {l : List Rec} {r : Rec} (h : Two l) (hr : r.key.size = 2) : Two (putF l r).2 := fun q hq => by
  rcases put_mem hq with hq | rfl
  · exact h q hq
  · exact hr
def kR (a b : Nat) : ByteArray := ⟨[UInt8.ofNat a, UInt8.ofNat b].toArray⟩
theorem lp_LR0 {H : SH} {n : Int} {j iD : Nat} : ∀ (m i : Nat) (u w : SV) (l : List Rec) (es : List Ent), 60 - i = m → i ≤ 60 → LogI es l → Two l →
    WC F X (.loop L_loesslaw18_LogRoom_0) [(6, .int .i64 (i : Int)), (0, .int .i64 n), (4, .pointer (some ⟨j, 0, none⟩)), (5, u.toV)] (SL u.toV TRec (newest l) :: LO j iD w :: SL w.toV TRec l :: DO iD es l.length :: H)
      (KPost fun x l' H' => ∃ (w : SV) (l : List Rec) (es : List Ent), x = .exit 0 ∧ l' = [(4, .pointer (some ⟨j, 0, none⟩))] ∧ H' = LO j iD w :: SL w.toV TRec l :: DO iD es l.length :: H ∧ LogI es l ∧ Two l) := by
  intro m
  induction m using Nat.strongRecOn with
  | _ m ih =>
    intro i u w l es hm hi hg h2
    have hlen := hg.len
    have hnl : (newest l).length ≤ 32 := by rw [(newest_perm hg.nd).length_eq]; exact hlen
    refine WC_loop ?_
    refine WC_seq ?_
    refine WC_seq ?_
    refine WC_region ?_
    refine WO_step rfl (S_pure rfl ?_)
    refine WO_step rfl (S_pure rfl ?_)
    refine WO_nil ?_
    refine KSeq_n ?_
    refine WC_cond rfl (fun hb1 => ?_) (fun hb1 => ?_)
    ·
      try simp only [decide_eq_true_eq, decide_eq_false_iff_not, Bool.not_eq_true', Bool.not_eq_false', beq_iff_eq, bne_iff_ne, beq_eq_false_iff_ne, Int.ofNat_lt, Int.ofNat_le, Int.ofNat_inj, ne_eq, gt_iff_lt, ge_iff_le] at hb1
      refine WC_skip ?_
      refine KSeq_n ?_
      refine WC_seq ?_
      refine WC_block ?_
      refine WC_seq ?_
      refine WC_region ?_
      refine WO_step rfl (S_pure rfl ?_)
      first | refine WO_step rfl (S_mulN (b := 7) rfl rfl (by omega) ?_) | refine WO_step rfl (S_pure rfl ?_)
      refine WO_step rfl (S_pure rfl ?_)
      refine WO_step rfl (S_and15 rfl fun c hc => ?_)
      first | refine WO_step rfl (S_addN rfl rfl (by omega) ?_) | refine WO_step rfl (S_pure rfl ?_)
      refine WO_step rfl (S_remU (a := i * 7 + c) (m := 26) rfl rfl (by omega) ?_)
      obtain ⟨a, ha, ha26⟩ : ∃ a, (i * 7 + c) % 26 = a ∧ a < 26 := ⟨_, rfl, Nat.mod_lt _ (by omega)⟩
      rw [ha]
      refine WO_step rfl (S_addN (a := 97) (b := a) rfl rfl (by omega) ?_)
      refine WO_step rfl (S_toBn rfl ?_)
      rw [Nat.mod_eq_of_lt (show 97 + a < 256 by omega)]
      refine WO_step rfl (S_pure rfl ?_)
      refine WO_step rfl (S_remU (a := i) (m := 25) rfl rfl (by omega) ?_)
      obtain ⟨b, hb, hb25⟩ : ∃ b, i % 25 = b ∧ b < 25 := ⟨_, rfl, Nat.mod_lt _ (by omega)⟩
      rw [hb]
      refine WO_step rfl (S_addN (a := 97) (b := b) rfl rfl (by omega) ?_)
      refine WO_step rfl (S_toBn rfl ?_)
      rw [Nat.mod_eq_of_lt (show 97 + b < 256 by omega)]
      refine WO_step rfl (S_lit2B rfl rfl (by omega) (by omega) fun w33 => ?_)
      refine WO_step rfl (S_strOf rfl (by repeat (first | assumption | exact RD.head | exact RD.nil | apply RD.tail)) (by rfl) (by rfl) ?_)
      refine WO_step rfl (S_pure rfl ?_)
      refine WO_nil ?_
      refine KSeq_n ?_
      refine WC_seq ?_
      refine WC_region ?_
      refine WO_step rfl (S_pure rfl ?_)
      refine WO_step rfl (S_pure rfl ?_)
      refine WO_step rfl (S_pure rfl ?_)
      refine WO_step rfl (S_pure rfl ?_)
      refine WO_step rfl (S_newT TRec rec0 rfl rfl fun i8 => ?_)
      obtain ⟨r, hr⟩ : ∃ r : Rec, r = ⟨kR (97 + a) (97 + b), false, ⟨1, i, es0⟩⟩ := ⟨_, rfl⟩
      have hrk : r.key = kR (97 + a) (97 + b) := by rw [hr]
      have hr2 : r.key.size = 2 := by rw [hr]; rfl
      have hrm : mayRec r = true := by rw [hr]; simp [mayRec, mayKey, mayRaw, kR, ByteArray.size]
      refine WO_step rfl (S_storeT (T := TRec) (y := r) rfl rfl (by repeat (first | exact Pick.head | apply Pick.tail)) (by rw [hr]; rfl) (by rfl) ?_)
      refine WO_nil ?_
      refine KSeq_n ?_
      refine WC_seq ?_
      refine WC_region ?_
      refine WO_step rfl (S_pure rfl ?_)
      refine WO_step rfl (S_pure rfl ?_)
      refine WO_call rfl rfl rfl ?_
      refine (sp_r22 (l := newest l) (k := kR (97 + a) (97 + b)) (by repeat (first | assumption | exact RD.head | exact RD.nil | apply RD.tail)) (by omega) (fun x hx => by have := h2 x (newest_mem hx); omega) (by rw [← hrk]; omega)).mono ?_
      rintro _ _ ⟨rfl, rfl⟩
      rw [roomK_newest hg.nd, ← hrk]
      refine WO_step rfl (S_pure rfl ?_)
      refine WO_nil ?_
      refine KSeq_n ?_
      refine WC_seq ?_
      refine WC_region ?_
      refine WO_step rfl (S_pure rfl ?_)
      refine WO_step rfl (S_loadT (T := TRec) (z := r) rfl (by repeat (first | exact Pick.head | apply Pick.tail)) (by rfl) (by rfl) ?_)
      refine WO_call rfl rfl rfl ?_
      refine (WF.weak (sp_lPut (H := OB i8 TRec r :: SL u.toV TRec (newest l) :: H) (w := w) (i := iD) (j := j) (r := r) hg) (by repeat (first | exact HSub.refl | refine HSub.pick (by repeat (first | exact Pick.head | apply Pick.tail)) ?_ | apply HSub.drop))).mono ?_
      rintro _ _ ⟨es', w', rfl, rfl, hg'⟩
      rw [put_code hrm]
      refine WO_step rfl (S_pure rfl ?_)
      refine WO_nil ?_
      refine KSeq_n ?_
      refine WC_seq ?_
      refine WC_seq ?_
      refine WC_region ?_
      refine WO_step rfl (S_pure rfl ?_)
      first | refine WO_step rfl (S_eqS rfl rfl ?_) | refine WO_step rfl (S_pure rfl ?_)
      refine WO_step rfl (S_pure rfl ?_)
      refine WO_step rfl (S_pure rfl ?_)
      refine WO_nil ?_
      refine KSeq_n ?_
      refine WC_cond rfl (fun hb2 => ?_) (fun hb2 => ?_)
      ·
        try simp only [decide_eq_true_eq, decide_eq_false_iff_not, Bool.not_eq_true', Bool.not_eq_false', beq_iff_eq, bne_iff_ne, beq_eq_false_iff_ne, Int.ofNat_lt, Int.ofNat_le, Int.ofNat_inj, ne_eq, gt_iff_lt, ge_iff_le] at hb2
        refine WC_seq ?_
        refine WC_region ?_
        refine WO_step rfl (S_pure rfl ?_)
        refine WO_nil ?_
        refine KSeq_n ?_
        refine WC_ret ?_
        refine KSeq_r ?_
        refine KBlock_r ?_
        refine KSeq_r ?_
        refine KLoop_r ?_
        exfalso; revert hb2
        cases roomK l r.key <;> simp
      ·
        try simp only [decide_eq_true_eq, decide_eq_false_iff_not, Bool.not_eq_true', Bool.not_eq_false', beq_iff_eq, bne_iff_ne, beq_eq_false_iff_ne, Int.ofNat_lt, Int.ofNat_le, Int.ofNat_inj, ne_eq, gt_iff_lt, ge_iff_le] at hb2
        refine WC_skip ?_
        refine KSeq_n ?_
        refine WC_seq ?_
        refine WC_seq ?_
        refine WC_region ?_
        refine WO_step rfl (S_pure rfl ?_)
        refine WO_step rfl (S_pure rfl ?_)
        refine WO_nil ?_
        refine KSeq_n ?_
        refine WC_cond rfl (fun hb3 => ?_) (fun hb3 => ?_)
        ·
          try simp only [decide_eq_true_eq, decide_eq_false_iff_not, Bool.not_eq_true', Bool.not_eq_false', beq_iff_eq, bne_iff_ne, beq_eq_false_iff_ne, Int.ofNat_lt, Int.ofNat_le, Int.ofNat_inj, ne_eq, gt_iff_lt, ge_iff_le] at hb3
          refine WC_exit ?_
          refine KSeq_x ?_
          refine KBlock_x (by decide) ?_
          refine KSeq_x ?_
          refine KLoop_x ?_
          exact KPost_i (by repeat (first | exact SubE.nil | apply SubE.cons rfl)) (by repeat (first | exact HSub.refl | refine HSub.pick (by repeat (first | exact Pick.head | apply Pick.tail)) ?_ | apply HSub.drop)) ⟨w', (putF l r).2, es', rfl, rfl, rfl, hg', h2.put hr2⟩
        ·
          try simp only [decide_eq_true_eq, decide_eq_false_iff_not, Bool.not_eq_true', Bool.not_eq_false', beq_iff_eq, bne_iff_ne, beq_eq_false_iff_ne, Int.ofNat_lt, Int.ofNat_le, Int.ofNat_inj, ne_eq, gt_iff_lt, ge_iff_le] at hb3
          refine WC_skip ?_
          refine KSeq_n ?_
          refine WC_region ?_
          refine WO_step rfl (S_pure rfl ?_)
          refine WO_step rfl (S_loadT (T := TRec) (z := r) rfl (by repeat (first | exact Pick.head | apply Pick.tail)) (by rfl) (by rfl) ?_)
          refine WO_call rfl rfl rfl ?_
          refine (sp_Set (l := newest l) (r := r) (by repeat (first | assumption | exact RD.head | exact RD.nil | apply RD.tail)) (by omega)).mono ?_
          rintro _ _ ⟨u2, rfl, rfl⟩
          have hrt : roomK l r.key = true := by simpa using hb3
          have h0 : (putF l r).1 = 0 := by rw [put_code hrm, hrt]; rfl
          rw [← newest_put hg.nd hg'.nd h0]
          refine WO_step rfl (S_pure rfl ?_)
          refine WO_nil ?_
          refine KBlock_n ?_
          refine KSeq_n ?_
          refine WC_region ?_
          refine WO_step rfl (S_pure rfl ?_)
          first | refine WO_step rfl (S_addN (b := 1) rfl rfl (by omega) ?_) | refine WO_step rfl (S_pure rfl ?_)
          refine WO_step rfl (S_pure rfl ?_)
          refine WO_nil ?_
          refine KLoop_n ?_
          exact WC_weak (ih (60 - (i + 1)) (by omega) (i + 1) u2 w' (putF l r).2 es' rfl (by omega) hg' (h2.put hr2)) (by repeat (first | exact SubE.nil | apply SubE.cons rfl)) (by repeat (first | exact HSub.refl | refine HSub.pick (by repeat (first | exact Pick.head | apply Pick.tail)) ?_ | apply HSub.drop))
    ·
      try simp only [decide_eq_true_eq, decide_eq_false_iff_not, Bool.not_eq_true', Bool.not_eq_false', beq_iff_eq, bne_iff_ne, beq_eq_false_iff_ne, Int.ofNat_lt, Int.ofNat_le, Int.ofNat_inj, ne_eq, gt_iff_lt, ge_iff_le] at hb1
      refine WC_exit ?_
      refine KSeq_x ?_
      refine KLoop_x ?_
      exact KPost_i (by repeat (first | exact SubE.nil | apply SubE.cons rfl)) (by repeat (first | exact HSub.refl | refine HSub.pick (by repeat (first | exact Pick.head | apply Pick.tail)) ?_ | apply HSub.drop)) ⟨w, l, es, rfl, rfl, rfl, hg, h2⟩
theorem lp_LR1 {H : SH} {j iD : Nat} {u : SV} {l0 : List Rec} (hn0 : (keysOf l0).Nodup) (h20 : Two l0) (hl0 : l0.length ≤ 32) : ∀ (m a : Nat) (w : SV) (l : List Rec) (es : List Ent), (newest l0).length - a = m → a ≤ (newest l0).length → LogI es l → keysOf l = keysOf l0 →
    WC F X (.loop L_loesslaw18_LogRoom_1) [(12, .int .i64 (a : Int)), (4, .pointer (some ⟨j, 0, none⟩)), (11, u.toV)] (SL u.toV TRec (newest l0) :: LO j iD w :: SL w.toV TRec l :: DO iD es l.length :: H)
      (KPost fun x l' H' => ∃ (w : SV) (l : List Rec) (es : List Ent), x = .exit 2 ∧ l' = [(4, .pointer (some ⟨j, 0, none⟩)), (11, u.toV)] ∧ H' = SL u.toV TRec (newest l0) :: LO j iD w :: SL w.toV TRec l :: DO iD es l.length :: H ∧ keysOf l = keysOf l0) := by
  intro m
  induction m using Nat.strongRecOn with
  | _ m ih =>
    intro a w l es hm ha hg hk
    have hnl : (newest l0).length ≤ 32 := by rw [(newest_perm hn0).length_eq]; exact hl0
    refine WC_loop ?_
    refine WC_seq ?_
    refine WC_seq ?_
    refine WC_region ?_
    refine WO_step rfl (S_pure rfl ?_)
    refine WO_step rfl (S_pure rfl ?_)
    first | refine WO_step rfl (S_pure rfl ?_) | refine WO_step rfl (S_lenS rfl (by repeat (first | assumption | exact RD.head | exact RD.nil | apply RD.tail)) ?_)
    refine WO_step rfl (S_pure rfl ?_)
    refine WO_nil ?_
    refine KSeq_n ?_
    refine WC_cond rfl (fun hb1 => ?_) (fun hb1 => ?_)
    ·
      try simp only [decide_eq_true_eq, decide_eq_false_iff_not, Bool.not_eq_true', Bool.not_eq_false', beq_iff_eq, bne_iff_ne, beq_eq_false_iff_ne, Int.ofNat_lt, Int.ofNat_le, Int.ofNat_inj, ne_eq, gt_iff_lt, ge_iff_le] at hb1
      obtain ⟨q, hq⟩ := get_of_lt hb1
      have hq0 : q ∈ l0 := newest_mem (List.mem_of_getElem? hq)
      have hq2 := h20 q hq0
      obtain ⟨r, hr⟩ : ∃ r : Rec, r = ⟨q.key, true, raw0⟩ := ⟨_, rfl⟩
      have hrm : mayRec r = true := by rw [hr]; simp [mayRec, mayKey, hq2]
      have hin : (fnd l r.key).isSome = true := by
        cases e : fnd l r.key with
        | some _ => rfl
        | none =>
          exfalso
          rw [fnd_none_iff] at e
          have : q.key ∈ keysOf l := by rw [hk]; exact List.mem_map.2 ⟨q, hq0, rfl⟩
          obtain ⟨z, hz, hze⟩ := List.mem_map.1 this
          exact e z hz (by rw [hze, hr])
      obtain ⟨h0, hkk⟩ := put_same hrm hin
      refine WC_skip ?_
      refine KSeq_n ?_
      refine WC_seq ?_
      refine WC_block ?_
      refine WC_seq ?_
      refine WC_region ?_
      refine WO_step rfl (S_pure rfl ?_)
      refine WO_step rfl (S_pure rfl ?_)
      refine WO_step rfl (S_pure rfl ?_)
      refine WO_step rfl (S_idx rfl rfl (by repeat (first | assumption | exact RD.head | exact RD.nil | apply RD.tail)) (by first | rfl | assumption | (symm; assumption)) (by rfl) (by first | assumption | omega | exact lt_of_get (by assumption) | (simp only [List.length_set]; first | assumption | omega | exact lt_of_get (by assumption))) fun hp65 => ?_)
      refine WO_step rfl (S_fldE rfl (by repeat (first | assumption | apply IsP.padd)) ?_)
      refine WO_step rfl (S_loadF rfl (by repeat (first | assumption | exact RD.head | exact RD.nil | apply RD.tail)) (by rfl) (by assumption) (by rfl) (by rfl) ?_)
      refine WO_step rfl (S_pure rfl ?_)
      refine WO_call rfl rfl rfl ?_
      refine (WF.weak (show WF F X _ [_, TRec.val ⟨q.key, true, raw0⟩] _ _ from by rw [← hr]; exact sp_lPut (H := SL u.toV TRec (newest l0) :: H) (w := w) (i := iD) (j := j) (r := r) hg) (by repeat (first | exact HSub.refl | refine HSub.pick (by repeat (first | exact Pick.head | apply Pick.tail)) ?_ | apply HSub.drop))).mono ?_
      rintro _ _ ⟨es', w', rfl, rfl, hg'⟩
      rw [h0]
      first | refine WO_step rfl (S_neS rfl rfl ?_) | refine WO_step rfl (S_pure rfl ?_)
      refine WO_nil ?_
      refine KSeq_n ?_
      refine WC_cond rfl (fun hb2 => ?_) (fun hb2 => ?_)
      ·
        try simp only [decide_eq_true_eq, decide_eq_false_iff_not, Bool.not_eq_true', Bool.not_eq_false', beq_iff_eq, bne_iff_ne, beq_eq_false_iff_ne, Int.ofNat_lt, Int.ofNat_le, Int.ofNat_inj, ne_eq, gt_iff_lt, ge_iff_le] at hb2
        refine WC_seq ?_
        refine WC_region ?_
        refine WO_step rfl (S_pure rfl ?_)
        refine WO_nil ?_
        refine KSeq_n ?_
        refine WC_ret ?_
        refine KBlock_r ?_
        refine KSeq_r ?_
        refine KLoop_r ?_
        exact absurd hb2 (by simp)
      ·
        try simp only [decide_eq_true_eq, decide_eq_false_iff_not, Bool.not_eq_true', Bool.not_eq_false', beq_iff_eq, bne_iff_ne, beq_eq_false_iff_ne, Int.ofNat_lt, Int.ofNat_le, Int.ofNat_inj, ne_eq, gt_iff_lt, ge_iff_le] at hb2
        refine WC_skip ?_
        refine KBlock_n ?_
        refine KSeq_n ?_
        refine WC_region ?_
        refine WO_step rfl (S_pure rfl ?_)
        first | refine WO_step rfl (S_addN (b := 1) rfl rfl (by omega) ?_) | refine WO_step rfl (S_pure rfl ?_)
        refine WO_step rfl (S_pure rfl ?_)
        refine WO_nil ?_
        refine KLoop_n ?_
        exact WC_weak (ih ((newest l0).length - (a + 1)) (by omega) (a + 1) w' (putF l r).2 es' rfl (by omega) hg' (by rw [hkk]; exact hk)) (by repeat (first | exact SubE.nil | apply SubE.cons rfl)) (by repeat (first | exact HSub.refl | refine HSub.pick (by repeat (first | exact Pick.head | apply Pick.tail)) ?_ | apply HSub.drop))
    ·
      try simp only [decide_eq_true_eq, decide_eq_false_iff_not, Bool.not_eq_true', Bool.not_eq_false', beq_iff_eq, bne_iff_ne, beq_eq_false_iff_ne, Int.ofNat_lt, Int.ofNat_le, Int.ofNat_inj, ne_eq, gt_iff_lt, ge_iff_le] at hb1
      refine WC_exit ?_
      refine KSeq_x ?_
      refine KLoop_x ?_
      exact KPost_i (by repeat (first | exact SubE.nil | apply SubE.cons rfl)) (by repeat (first | exact HSub.refl | refine HSub.pick (by repeat (first | exact Pick.head | apply Pick.tail)) ?_ | apply HSub.drop)) ⟨w, l, es, rfl, rfl, rfl, hk⟩
theorem law_LogRoom {H : SH} {n : Int} (_ : (Lit.int .i64 n).wf = true) : WF F X f_loesslaw18_LogRoom [.int .i64 n] H (fun v _ => v = .bool true) := by
  refine WF_fn F_loesslaw18_LogRoom ?_
  refine WC_seq ?_
  refine WC_region ?_
  refine WO_step rfl (S_pure rfl ?_)
  refine WO_nil ?_
  refine KSeq_n ?_
  refine WC_seq ?_
  refine WC_region ?_
  refine WO_call rfl rfl rfl ?_
  refine sp_begun.mono ?_
  rintro _ H1 ⟨rfl, rfl⟩
  refine WO_step rfl (S_pure rfl ?_)
  refine WO_nil ?_
  refine KSeq_n ?_
  refine WC_seq ?_
  refine WC_seq ?_
  refine WC_region ?_
  refine WO_step rfl (S_pure rfl ?_)
  refine WO_step rfl (S_pure rfl ?_)
  refine WO_nil ?_
  refine KSeq_n ?_
  refine WC_cond rfl (fun hb1 => ?_) (fun hb1 => ?_)
  ·
    try simp only [decide_eq_true_eq, decide_eq_false_iff_not, Bool.not_eq_true', Bool.not_eq_false', beq_iff_eq, bne_iff_ne, beq_eq_false_iff_ne, Int.ofNat_lt, Int.ofNat_le, Int.ofNat_inj, ne_eq, gt_iff_lt, ge_iff_le] at hb1
    exact absurd hb1 (by simp)
    --stop
  ·
    try simp only [decide_eq_true_eq, decide_eq_false_iff_not, Bool.not_eq_true', Bool.not_eq_false', beq_iff_eq, bne_iff_ne, beq_eq_false_iff_ne, Int.ofNat_lt, Int.ofNat_le, Int.ofNat_inj, ne_eq, gt_iff_lt, ge_iff_le] at hb1
    refine WC_skip ?_
    refine KSeq_n ?_
    refine WC_seq ?_
    refine WC_region ?_
    refine WO_call rfl rfl rfl ?_
    refine sp_lNew.mono ?_
    rintro _ _ ⟨jL, iL, rfl, rfl⟩
    refine WO_step rfl (S_pure rfl ?_)
    refine WO_nil ?_
    refine KSeq_n ?_
    refine WC_seq ?_
    refine WC_region ?_
    refine WO_step rfl (S_pure rfl ?_)
    refine WO_nil ?_
    refine KSeq_n ?_
    refine WC_seq ?_
    refine WC_seq ?_
    refine WC_region ?_
    refine WO_step rfl (S_pure rfl ?_)
    refine WO_nil ?_
    refine KSeq_n ?_
    refine WC_block ?_
    --out x0
    refine WC_view (H' := SL (SV.toV .nil) TRec (newest []) :: _) (fun h hh => HAg.addNil hh) ?_
    refine WC_post (WC_weak (lp_LR0 (H := H1) (n := n) (j := jL) (iD := iL) 60 0 .nil .nil [] _ (by omega) (by omega) LogI.new (by intro r hr; simp at hr)) (by repeat (first | exact SubE.nil | apply SubE.cons rfl)) (by repeat (first | exact HSub.refl | refine HSub.pick (by repeat (first | exact Pick.head | apply Pick.tail)) ?_ | apply HSub.drop))) ?_
    rintro x l' _ ⟨w, l, es, rfl, rfl, rfl, hg, h2⟩
    have hlen := hg.len
    refine KBlock_h ?_
    refine KSeq_n ?_
    refine WC_seq ?_
    refine WC_region ?_
    refine WO_step rfl (S_pure rfl ?_)
    refine WO_call rfl rfl rfl ?_
    refine (sp_lList (by omega) (fun x hx => by rw [h2 x hx]; decide)).mono ?_
    rintro _ _ ⟨u, rfl, rfl⟩
    refine WO_step rfl (S_pure rfl ?_)
    refine WO_nil ?_
    refine KSeq_n ?_
    refine WC_seq ?_
    refine WC_seq ?_
    refine WC_region ?_
    refine WO_step rfl (S_pure rfl ?_)
    refine WO_nil ?_
    refine KSeq_n ?_
    refine WC_block ?_
    --out x2
    refine WC_post (WC_weak (lp_LR1 (H := H1) (j := jL) (iD := iL) (u := u) hg.nd h2 hlen (newest l).length 0 w l es (by omega) (by omega) hg rfl) (by repeat (first | exact SubE.nil | apply SubE.cons rfl)) (by repeat (first | exact HSub.refl | refine HSub.pick (by repeat (first | exact Pick.head | apply Pick.tail)) ?_ | apply HSub.drop))) ?_
    rintro x l' _ ⟨w2, l2, es2, rfl, rfl, rfl, hk2⟩
    refine KBlock_h ?_
    refine KSeq_n ?_
    refine WC_seq ?_
    refine WC_region ?_
    refine WO_step rfl (S_pure rfl ?_)
    refine WO_call rfl rfl rfl ?_
    refine (WF.weak (sp_lLen (H := SL u.toV TRec (newest l) :: H1) (j := jL) (i := iL) (w := w2) (l := l2) (es := es2) (n := l2.length)) (by repeat (first | exact HSub.refl | refine HSub.pick (by repeat (first | exact Pick.head | apply Pick.tail)) ?_ | apply HSub.drop))).mono ?_
    rintro _ _ ⟨rfl, rfl⟩
    refine WO_step rfl (S_pure rfl ?_)
    first | refine WO_step rfl (S_pure rfl ?_) | refine WO_step rfl (S_lenS rfl (by repeat (first | assumption | exact RD.head | exact RD.nil | apply RD.tail)) ?_)
    first | refine WO_step rfl (S_eqS rfl rfl ?_) | refine WO_step rfl (S_pure rfl ?_)
    refine WO_step rfl (S_pure rfl ?_)
    refine WO_nil ?_
    refine KSeq_n ?_
    refine WC_ret ?_
    refine KFn_r (ResL.tmp rfl ResL.nil) ?_
    refine ⟨_, HSub.refl, ?_⟩
    have e1 : l2.length = l.length := by have := congrArg List.length hk2; simpa [keysOf] using this
    have e2 := (newest_perm hg.nd).length_eq
    simp [resV, e1, e2]
end Go.Proofs.Ytjbichljgfcigaa.AM
