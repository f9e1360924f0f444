/- Walks: what the functions compute. -/
import Derived.Test.YtdpiggphcohmmaaM15
namespace Go.Proofs.Ytdpiggphcohmmaa.AM
open Go
set_option linter.unusedSimpArgs false
set_option linter.unusedVariables false
set_option maxRecDepth 4000

/-! ### The laws MergeAsk, MergeTwice, MergeNew -/
def valOf (o : Option Rec) : Option Raw := o.bind (fun r => if r.gone then none else some r.val)
theorem fndP_none {l : List Pair} {k : ByteArray} (h : ∀ y ∈ l, y.key ≠ k) : fndP l k = none := by
  induction l with
  | nil => rfl
  | cons x l ih =>
    show (if x.key = k then some x.val else fndP l k) = none
    rw [if_neg (h x (List.mem_cons_self ..)), ih (fun y hy => h y (List.mem_cons_of_mem _ hy))]
theorem pairs_mem {M : List Rec} {p : Pair} (h : p ∈ pairsOf M) : ∃ r ∈ M, r.gone = false ∧ p = ⟨r.key, r.val⟩ := by
  obtain ⟨r, hr, rfl⟩ := List.mem_map.1 h
  have := List.mem_filter.1 hr
  exact ⟨r, this.1, by simpa using this.2, rfl⟩
theorem fndP_pairs : ∀ {M : List Rec}, Str M → ∀ k, fndP (pairsOf M) k = valOf (fnd M k)
  | [], _, k => rfl
  | x :: M, h, k => by
    have hp := List.pairwise_cons.1 h
    have ih := fndP_pairs hp.2 k
    by_cases hk : x.key = k
    · subst hk
      have e1 : fnd (x :: M) x.key = some x := by simp [fnd]
      rw [e1]
      cases hg : x.gone with
      | false =>
        have e2 : pairsOf (x :: M) = ⟨x.key, x.val⟩ :: pairsOf M := by simp [pairsOf, hg]
        rw [e2]; simp [fndP, valOf, hg]
      | true =>
        have e2 : pairsOf (x :: M) = pairsOf M := by simp [pairsOf, hg]
        rw [e2, fndP_none]
        · simp [valOf, hg]
        · intro y hy e
          obtain ⟨r, hr, _, rfl⟩ := pairs_mem hy
          have := hp.1 r hr
          rw [show r.key = x.key from e, lessK_irrefl] at this; cases this
    · have e1 : fnd (x :: M) k = fnd M k := by simp [fnd, hk]
      rw [e1, ← ih]
      cases hg : x.gone with
      | false =>
        have e2 : pairsOf (x :: M) = ⟨x.key, x.val⟩ :: pairsOf M := by simp [pairsOf, hg]
        rw [e2]; simp [fndP, hk]
      | true =>
        have e2 : pairsOf (x :: M) = pairsOf M := by simp [pairsOf, hg]
        rw [e2]
theorem val_mrgd (l : List Rec) (k : ByteArray) : fndP (pairsOf (mrgd l)) k = valOf (fnd l k) := by
  rw [fndP_pairs (mrgd_spec l).1, (mrgd_spec l).2]
theorem Str.fnd {M : List Rec} (h : Str M) {r : Rec} (hr : r ∈ M) : AM.fnd M r.key = some r := by
  induction M with
  | nil => simp at hr
  | cons x M ih =>
    have hp := List.pairwise_cons.1 h
    rcases List.mem_cons.1 hr with rfl | hr
    · simp [AM.fnd]
    · have : ¬ x.key = r.key := fun e => by have := hp.1 r hr; rw [e, lessK_irrefl] at this; cases this
      simp [AM.fnd, this, ih hp.2 hr]
theorem lp_Ask {H : SH} {v : Value} {svs : List SV} {ls : List (List Rec)} {ask : ByteArray} {i7 : Nat} (hv : Rds H v svs TRecs TRec ls) (hll : ls.length ≤ 1000) (h20 : ∀ l ∈ ls, l.length ≤ 20) : ∀ (n i : Nat), ls.length - i = n → i ≤ ls.length → AM.fnd (ls.take i).flatten ask = none →
    WC F X (.loop L_loesslaw23_MergeAsk_0) [(9, .int .i64 i), (6, v), (1, .string ask), (7, .pointer (some ⟨i7, 0, none⟩)), (8, .bool (valOf (AM.fnd ls.flatten ask)).isSome)] (OB i7 TRaw ((valOf (AM.fnd ls.flatten ask)).getD raw0) :: H)
      (KPost fun x l' H' => (x = .ret ∧ l' = [(4, .bool true)]) ∨ (x = .exit 0 ∧ l' = [(8, .bool false)])) := by
  have hout := hv.out
  have hlen := hv.len
  intro n
  induction n using Nat.strongRecOn with
  | _ n ih =>
    intro i hn hi hnone
    refine WC_loop ?_
    refine WC_seq ?_
    refine WC_seq ?_
    refine WC_region ?_
    refine WO_step rfl (S_pure rfl ?_)
    refine WO_step rfl (S_pure rfl ?_)
    refine WO_step rfl (S_lenS rfl hout.tail ?_)
    rw [hlen]
    refine WO_step rfl (S_pure rfl ?_)
    refine WO_nil ?_
    refine KSeq_n ?_
    refine WC_cond rfl (fun hb1 => ?_) (fun hb1 => ?_)
    ·
      try simp only [decide_eq_true_eq, decide_eq_false_iff_not, Bool.not_eq_true', Bool.not_eq_false', beq_iff_eq, bne_iff_ne, beq_eq_false_iff_ne, Int.ofNat_lt, Int.ofNat_le, Int.ofNat_inj, ne_eq, gt_iff_lt, ge_iff_le] at hb1
      obtain ⟨l, hl1⟩ := get_of_lt hb1
      obtain ⟨sv, hsv⟩ := get_of_lt (l := svs) (a := i) (by rw [hlen]; exact hb1)
      have hin := hv.ins i sv l hsv hl1
      have hl20 := h20 l (List.mem_of_getElem? hl1)
      have hft := flat_take hl1
      have hfl : ls.flatten = (ls.take i).flatten ++ (l ++ (ls.drop (i + 1)).flatten) := by
        conv => lhs; rw [← List.take_append_drop i ls, drop_get hl1]
        rw [List.flatten_append, List.flatten_cons]
      refine WC_skip ?_
      refine KSeq_n ?_
      refine WC_seq ?_
      refine WC_block ?_
      refine WC_seq ?_
      refine WC_region ?_
      refine WO_step rfl (S_pure rfl ?_)
      refine WO_step rfl (S_pure rfl ?_)
      refine WO_step rfl (S_idx rfl rfl (by repeat (first | assumption | exact RD.head | exact RD.nil | apply RD.tail)) (by first | rfl | assumption | (symm; assumption)) (by rfl) (by first | assumption | omega | exact lt_of_get (by assumption) | (simp only [List.length_set]; first | assumption | omega | exact lt_of_get (by assumption))) fun hp38 => ?_)
      refine WO_step rfl (S_loadE rfl (by repeat (first | assumption | exact RD.head | exact RD.nil | apply RD.tail)) (by first | rfl | assumption | (symm; assumption)) (by first | rfl | assumption | (symm; assumption)) (by first | rfl | assumption | (symm; assumption)) (by assumption) ?_)
      refine WO_step rfl (S_pure rfl ?_)
      refine WO_call rfl rfl rfl ?_
      refine (sp_Find hin.tail (by omega)).mono ?_
      rintro _ _ ⟨rfl, rfl⟩
      obtain ⟨o, ho⟩ : ∃ o, o = AM.fnd l ask := ⟨_, rfl⟩
      rw [← ho]
      refine WO_step rfl (S_pure rfl ?_)
      refine WO_step rfl (S_pure rfl ?_)
      refine WO_step rfl (S_pure rfl ?_)
      refine WO_step rfl (S_new fun i10 => ?_)
      first | refine WO_step rfl (S_storeT rfl rfl (by repeat (first | exact Pick.head | apply Pick.tail)) (by rfl) (by rfl) ?_) | refine WO_step rfl (S_storeO rfl rfl (by repeat (first | exact Pick.head | apply Pick.tail)) (by first | rfl | exact SV.cells1 _) (by rfl) (by first | rfl | exact SV.ones _) ?_)
      refine WO_step rfl (S_pure rfl ?_)
      refine WO_nil ?_
      refine KSeq_n ?_
      refine WC_seq ?_
      refine WC_region ?_
      refine WO_step rfl (S_pure rfl ?_)
      refine WO_nil ?_
      refine KSeq_n ?_
      refine WC_cond rfl (fun hb2 => ?_) (fun hb2 => ?_)
      ·
        try simp only [decide_eq_true_eq, decide_eq_false_iff_not, Bool.not_eq_true', Bool.not_eq_false', beq_iff_eq, bne_iff_ne, beq_eq_false_iff_ne, Int.ofNat_lt, Int.ofNat_le, Int.ofNat_inj, ne_eq, gt_iff_lt, ge_iff_le] at hb2
        obtain ⟨r, rfl⟩ := Option.isSome_iff_exists.1 hb2
        have hall : AM.fnd ls.flatten ask = some r := by rw [hfl, fnd_app, hnone, fnd_app, ← ho]; simp
        rw [hall]
        have hvo : valOf (some r) = if r.gone then none else some r.val := rfl
        refine WC_seq ?_
        refine WC_region ?_
        refine WO_step rfl (S_pure rfl ?_)
        refine WO_step rfl (S_pure rfl ?_)
        refine WO_step rfl (S_loadO rfl (by repeat (first | exact Pick.head | apply Pick.tail)) (by rfl) (by rfl) ?_)
        refine WO_step rfl (S_pure rfl ?_)
        refine WO_step rfl (S_pure rfl ?_)
        refine WO_step rfl (S_pure rfl ?_)
        refine WO_cases (t := 50) rfl (fun hg1 => ?_) (fun hg1 => ?_)
        ·
          try simp only [decide_eq_true_eq, decide_eq_false_iff_not, Bool.not_eq_true', Bool.not_eq_false', beq_iff_eq, bne_iff_ne, beq_eq_false_iff_ne, Int.ofNat_lt, Int.ofNat_le, Int.ofNat_inj, ne_eq, gt_iff_lt, ge_iff_le] at hg1
          refine WO_step rfl (S_pure rfl ?_)
          refine WO_step rfl (S_pure rfl ?_)
          refine WO_step rfl (S_pure rfl ?_)
          refine WO_cases (t := 53) rfl (fun hg2 => ?_) (fun hg2 => ?_)
          ·
            try simp only [decide_eq_true_eq, decide_eq_false_iff_not, Bool.not_eq_true', Bool.not_eq_false', beq_iff_eq, bne_iff_ne, beq_eq_false_iff_ne, Int.ofNat_lt, Int.ofNat_le, Int.ofNat_inj, ne_eq, gt_iff_lt, ge_iff_le] at hg2
            refine WO_off rfl ?_
            refine WO_off rfl ?_
            refine WO_off rfl ?_
            refine WO_off rfl ?_
            refine WO_off rfl ?_
            refine WO_off rfl ?_
            refine WO_off rfl ?_
            refine WO_off rfl ?_
            refine WO_off rfl ?_
            refine WO_off rfl ?_
            refine WO_off rfl ?_
            refine WO_off rfl ?_
            refine WO_off rfl ?_
            refine WO_off rfl ?_
            refine WO_off rfl ?_
            refine WO_off rfl ?_
            refine WO_off rfl ?_
            refine WO_off rfl ?_
            refine WO_off rfl ?_
            refine WO_off rfl ?_
            refine WO_off rfl ?_
            refine WO_off rfl ?_
            refine WO_step rfl (S_pure rfl ?_)
            refine WO_step rfl (S_pure rfl ?_)
            refine WO_step rfl (S_pure rfl ?_)
            refine WO_nil ?_
            refine KSeq_n ?_
            refine WC_ret ?_
            refine KBlock_r ?_
            refine KSeq_r ?_
            refine KLoop_r ?_
            have hgo : r.gone = true ∨ r.gone = false := by cases r.gone <;> simp
            rcases hgo with hgo | hgo <;> simp only [valOf, Option.bind_some, hgo, if_true, Bool.false_eq_true, if_false, Option.isSome_some, Option.isSome_none, Option.getD_some] at * <;>
              first
                | (exfalso; simp_all; done)
                | exact KPost_i (l' := [(4, .bool true)]) (by repeat (first | exact SubE.nil | apply SubE.cons rfl | (apply SubE.consEq rfl; simp_all; done))) HSub.refl (.inl ⟨rfl, rfl⟩)
          ·
            try simp only [decide_eq_true_eq, decide_eq_false_iff_not, Bool.not_eq_true', Bool.not_eq_false', beq_iff_eq, bne_iff_ne, beq_eq_false_iff_ne, Int.ofNat_lt, Int.ofNat_le, Int.ofNat_inj, ne_eq, gt_iff_lt, ge_iff_le] at hg2
            refine WO_step rfl (S_pure rfl ?_)
            refine WO_step rfl (S_loadO rfl (by repeat (first | exact Pick.head | apply Pick.tail)) (by rfl) (by rfl) ?_)
            refine WO_step rfl (S_pure rfl ?_)
            refine WO_step rfl (S_pure rfl ?_)
            refine WO_step rfl (S_loadO rfl (by repeat (first | exact Pick.head | apply Pick.tail)) (by rfl) (by rfl) ?_)
            first | refine WO_step rfl (S_eqS rfl rfl ?_) | refine WO_step rfl (S_pure rfl ?_)
            refine WO_step rfl (S_pure rfl ?_)
            refine WO_cases (t := 60) rfl (fun hg3 => ?_) (fun hg3 => ?_)
            ·
              try simp only [decide_eq_true_eq, decide_eq_false_iff_not, Bool.not_eq_true', Bool.not_eq_false', beq_iff_eq, bne_iff_ne, beq_eq_false_iff_ne, Int.ofNat_lt, Int.ofNat_le, Int.ofNat_inj, ne_eq, gt_iff_lt, ge_iff_le] at hg3
              refine WO_step rfl (S_pure rfl ?_)
              refine WO_step rfl (S_loadO rfl (by repeat (first | exact Pick.head | apply Pick.tail)) (by rfl) (by rfl) ?_)
              refine WO_step rfl (S_pure rfl ?_)
              refine WO_step rfl (S_pure rfl ?_)
              refine WO_step rfl (S_loadO rfl (by repeat (first | exact Pick.head | apply Pick.tail)) (by rfl) (by rfl) ?_)
              first | refine WO_step rfl (S_eqS rfl rfl ?_) | refine WO_step rfl (S_pure rfl ?_)
              refine WO_step rfl (S_pure rfl ?_)
              refine WO_step rfl (S_pure rfl ?_)
              refine WO_cases (t := 68) rfl (fun hg4 => ?_) (fun hg4 => ?_)
              ·
                try simp only [decide_eq_true_eq, decide_eq_false_iff_not, Bool.not_eq_true', Bool.not_eq_false', beq_iff_eq, bne_iff_ne, beq_eq_false_iff_ne, Int.ofNat_lt, Int.ofNat_le, Int.ofNat_inj, ne_eq, gt_iff_lt, ge_iff_le] at hg4
                refine WO_step rfl (S_pure rfl ?_)
                refine WO_step rfl (S_loadO rfl (by repeat (first | exact Pick.head | apply Pick.tail)) (by rfl) (by rfl) ?_)
                refine WO_step rfl (S_pure rfl ?_)
                refine WO_step rfl (S_pure rfl ?_)
                refine WO_step rfl (S_loadO rfl (by repeat (first | exact Pick.head | apply Pick.tail)) (by rfl) (by rfl) ?_)
                first | refine WO_step rfl (S_eqS rfl rfl ?_) | refine WO_step rfl (S_pure rfl ?_)
                refine WO_step rfl (S_pure rfl ?_)
                refine WO_step rfl (S_pure rfl ?_)
                refine WO_step rfl (S_pure rfl ?_)
                refine WO_step rfl (S_pure rfl ?_)
                refine WO_nil ?_
                refine KSeq_n ?_
                refine WC_ret ?_
                refine KBlock_r ?_
                refine KSeq_r ?_
                refine KLoop_r ?_
                have hgo : r.gone = true ∨ r.gone = false := by cases r.gone <;> simp
                rcases hgo with hgo | hgo <;> simp only [valOf, Option.bind_some, hgo, if_true, Bool.false_eq_true, if_false, Option.isSome_some, Option.isSome_none, Option.getD_some] at * <;>
                  first
                    | (exfalso; simp_all; done)
                    | exact KPost_i (l' := [(4, .bool true)]) (by repeat (first | exact SubE.nil | apply SubE.cons rfl | (apply SubE.consEq rfl; simp_all; done))) HSub.refl (.inl ⟨rfl, rfl⟩)
              ·
                try simp only [decide_eq_true_eq, decide_eq_false_iff_not, Bool.not_eq_true', Bool.not_eq_false', beq_iff_eq, bne_iff_ne, beq_eq_false_iff_ne, Int.ofNat_lt, Int.ofNat_le, Int.ofNat_inj, ne_eq, gt_iff_lt, ge_iff_le] at hg4
                refine WO_off rfl ?_
                refine WO_off rfl ?_
                refine WO_off rfl ?_
                refine WO_off rfl ?_
                refine WO_off rfl ?_
                refine WO_off rfl ?_
                refine WO_step rfl (S_pure rfl ?_)
                refine WO_step rfl (S_pure rfl ?_)
                refine WO_step rfl (S_pure rfl ?_)
                refine WO_step rfl (S_pure rfl ?_)
                refine WO_nil ?_
                refine KSeq_n ?_
                refine WC_ret ?_
                refine KBlock_r ?_
                refine KSeq_r ?_
                refine KLoop_r ?_
                have hgo : r.gone = true ∨ r.gone = false := by cases r.gone <;> simp
                rcases hgo with hgo | hgo <;> simp only [valOf, Option.bind_some, hgo, if_true, Bool.false_eq_true, if_false, Option.isSome_some, Option.isSome_none, Option.getD_some] at * <;>
                  first
                    | (exfalso; simp_all; done)
                    | exact KPost_i (l' := [(4, .bool true)]) (by repeat (first | exact SubE.nil | apply SubE.cons rfl | (apply SubE.consEq rfl; simp_all; done))) HSub.refl (.inl ⟨rfl, rfl⟩)
            ·
              try simp only [decide_eq_true_eq, decide_eq_false_iff_not, Bool.not_eq_true', Bool.not_eq_false', beq_iff_eq, bne_iff_ne, beq_eq_false_iff_ne, Int.ofNat_lt, Int.ofNat_le, Int.ofNat_inj, ne_eq, gt_iff_lt, ge_iff_le] at hg3
              refine WO_off rfl ?_
              refine WO_off rfl ?_
              refine WO_off rfl ?_
              refine WO_off rfl ?_
              refine WO_off rfl ?_
              refine WO_off rfl ?_
              refine WO_step rfl (S_pure rfl ?_)
              refine WO_step rfl (S_pure rfl ?_)
              refine WO_off rfl ?_
              refine WO_off rfl ?_
              refine WO_off rfl ?_
              refine WO_off rfl ?_
              refine WO_off rfl ?_
              refine WO_off rfl ?_
              refine WO_step rfl (S_pure rfl ?_)
              refine WO_step rfl (S_pure rfl ?_)
              refine WO_step rfl (S_pure rfl ?_)
              refine WO_step rfl (S_pure rfl ?_)
              refine WO_nil ?_
              refine KSeq_n ?_
              refine WC_ret ?_
              refine KBlock_r ?_
              refine KSeq_r ?_
              refine KLoop_r ?_
              have hgo : r.gone = true ∨ r.gone = false := by cases r.gone <;> simp
              rcases hgo with hgo | hgo <;> simp only [valOf, Option.bind_some, hgo, if_true, Bool.false_eq_true, if_false, Option.isSome_some, Option.isSome_none, Option.getD_some] at * <;>
                first
                  | (exfalso; simp_all; done)
                  | exact KPost_i (l' := [(4, .bool true)]) (by repeat (first | exact SubE.nil | apply SubE.cons rfl | (apply SubE.consEq rfl; simp_all; done))) HSub.refl (.inl ⟨rfl, rfl⟩)
        ·
          try simp only [decide_eq_true_eq, decide_eq_false_iff_not, Bool.not_eq_true', Bool.not_eq_false', beq_iff_eq, bne_iff_ne, beq_eq_false_iff_ne, Int.ofNat_lt, Int.ofNat_le, Int.ofNat_inj, ne_eq, gt_iff_lt, ge_iff_le] at hg1
          refine WO_off rfl ?_
          refine WO_off rfl ?_
          refine WO_off rfl ?_
          refine WO_off rfl ?_
          refine WO_off rfl ?_
          refine WO_off rfl ?_
          refine WO_off rfl ?_
          refine WO_off rfl ?_
          refine WO_off rfl ?_
          refine WO_off rfl ?_
          refine WO_off rfl ?_
          refine WO_off rfl ?_
          refine WO_off rfl ?_
          refine WO_off rfl ?_
          refine WO_off rfl ?_
          refine WO_off rfl ?_
          refine WO_off rfl ?_
          refine WO_off rfl ?_
          refine WO_off rfl ?_
          refine WO_off rfl ?_
          refine WO_off rfl ?_
          refine WO_off rfl ?_
          refine WO_off rfl ?_
          refine WO_off rfl ?_
          refine WO_off rfl ?_
          refine WO_off rfl ?_
          refine WO_step rfl (S_pure rfl ?_)
          refine WO_step rfl (S_pure rfl ?_)
          refine WO_nil ?_
          refine KSeq_n ?_
          refine WC_ret ?_
          refine KBlock_r ?_
          refine KSeq_r ?_
          refine KLoop_r ?_
          have hgo : r.gone = true ∨ r.gone = false := by cases r.gone <;> simp
          rcases hgo with hgo | hgo <;> simp only [valOf, Option.bind_some, hgo, if_true, Bool.false_eq_true, if_false, Option.isSome_some, Option.isSome_none, Option.getD_some] at * <;>
            first
              | (exfalso; simp_all; done)
              | exact KPost_i (l' := [(4, .bool true)]) (by repeat (first | exact SubE.nil | apply SubE.cons rfl | (apply SubE.consEq rfl; simp_all; done))) HSub.refl (.inl ⟨rfl, rfl⟩)
      ·
        try simp only [decide_eq_true_eq, decide_eq_false_iff_not, Bool.not_eq_true', Bool.not_eq_false', beq_iff_eq, bne_iff_ne, beq_eq_false_iff_ne, Int.ofNat_lt, Int.ofNat_le, Int.ofNat_inj, ne_eq, gt_iff_lt, ge_iff_le] at hb2
        refine WC_skip ?_
        refine KBlock_n ?_
        refine KSeq_n ?_
        refine WC_region ?_
        refine WO_step rfl (S_pure rfl ?_)
        first | refine WO_step rfl (S_addN (b := 1) rfl rfl (by omega) ?_) | refine WO_step rfl (S_pure rfl ?_)
        refine WO_step rfl (S_pure rfl ?_)
        refine WO_nil ?_
        refine KLoop_n ?_
        have hno : o = none := by cases o with
          | none => rfl
          | some r => simp at hb2
        subst hno
        exact WC_weak (ih (ls.length - (i + 1)) (by omega) (i + 1) rfl (by omega) (by rw [hft, fnd_app, hnone, ← ho]; rfl)) (by repeat (first | exact SubE.nil | apply SubE.cons rfl)) (by repeat (first | exact HSub.refl | refine HSub.pick (by repeat (first | exact Pick.head | apply Pick.tail)) ?_ | apply HSub.drop))
    ·
      try simp only [decide_eq_true_eq, decide_eq_false_iff_not, Bool.not_eq_true', Bool.not_eq_false', beq_iff_eq, bne_iff_ne, beq_eq_false_iff_ne, Int.ofNat_lt, Int.ofNat_le, Int.ofNat_inj, ne_eq, gt_iff_lt, ge_iff_le] at hb1
      refine WC_exit ?_
      refine KSeq_x ?_
      refine KLoop_x ?_
      have hz : AM.fnd ls.flatten ask = none := by
        rw [show i = ls.length by omega, List.take_length] at hnone; exact hnone
      rw [hz]; exact KPost_i (l' := [(8, .bool false)]) (by repeat (first | exact SubE.nil | apply SubE.cons rfl)) HSub.refl (.inr ⟨rfl, rfl⟩)
theorem walk_MergeAsk {H : SH} {v : Value} {svs : List SV} {ls : List (List Rec)} {ask : ByteArray} (hv : Rds H v svs TRecs TRec ls) (hok : ∀ l ∈ ls, ∀ x ∈ l, okRec x) (hsz : ask.size ≤ maxLen) : WF F X f_loesslaw23_MergeAsk [v, .string ask] H (fun r _ => r = .bool true) := by
  refine WF_fn F_loesslaw23_MergeAsk ?_
  refine WC_seq ?_
  refine WC_region ?_
  refine WO_step rfl (S_pure rfl ?_)
  refine WO_nil ?_
  refine KSeq_n ?_
  refine WC_seq ?_
  refine WC_region ?_
  refine WO_call rfl rfl rfl ?_
  refine sp_begun.mono ?_
  rintro _ _ ⟨rfl, rfl⟩
  refine WO_step rfl (S_pure rfl ?_)
  refine WO_nil ?_
  refine KSeq_n ?_
  refine WC_seq ?_
  refine WC_seq ?_
  refine WC_region ?_
  refine WO_step rfl (S_pure rfl ?_)
  refine WO_step rfl (S_pure rfl ?_)
  refine WO_nil ?_
  refine KSeq_n ?_
  refine WC_cond rfl (fun hb1 => ?_) (fun hb1 => ?_)
  ·
    try simp only [decide_eq_true_eq, decide_eq_false_iff_not, Bool.not_eq_true', Bool.not_eq_false', beq_iff_eq, bne_iff_ne, beq_eq_false_iff_ne, Int.ofNat_lt, Int.ofNat_le, Int.ofNat_inj, ne_eq, gt_iff_lt, ge_iff_le] at hb1
    exact absurd hb1 (by decide)
    --stop
  ·
    try simp only [decide_eq_true_eq, decide_eq_false_iff_not, Bool.not_eq_true', Bool.not_eq_false', beq_iff_eq, bne_iff_ne, beq_eq_false_iff_ne, Int.ofNat_lt, Int.ofNat_le, Int.ofNat_inj, ne_eq, gt_iff_lt, ge_iff_le] at hb1
    refine WC_skip ?_
    refine KSeq_n ?_
    refine WC_seq ?_
    refine WC_region ?_
    refine WO_step rfl (S_pure rfl ?_)
    refine WO_call rfl rfl rfl ?_
    refine (sp_sources hv).mono ?_
    rintro _ _ ⟨w4, us, B, rfl, hB, hR, rfl⟩
    obtain ⟨hf1, hf2, hf3, hf4⟩ := srcs_facts ls
    generalize srcsOf ls = L at *
    have hml := mrgd_len L.flatten
    have hpl := pairsOf_len (mrgd L.flatten)
    refine WO_step rfl (S_pure rfl ?_)
    refine WO_call rfl rfl rfl ?_
    refine (sp_Cut3 (n := 20)).mono ?_
    rintro _ _ ⟨rfl, rfl⟩
    refine WO_step rfl (S_pure rfl ?_)
    refine WO_step rfl (S_pure rfl ?_)
    refine WO_nil ?_
    refine KSeq_n ?_
    refine WC_seq ?_
    refine WC_region ?_
    refine WO_step rfl (S_pure rfl ?_)
    refine WO_call rfl rfl rfl ?_
    refine (sp_All hR (by omega) (by omega) hf3).mono ?_
    rintro _ _ ⟨wA, rfl, rfl⟩
    refine WO_step rfl (S_pure rfl ?_)
    refine WO_call rfl rfl rfl ?_
    refine (sp_Val (l := pairsOf (mrgd L.flatten)) (by repeat (first | assumption | exact RD.head | exact RD.nil | apply RD.tail)) (by omega)).mono ?_
    rintro _ _ ⟨rfl, rfl⟩
    rw [val_mrgd]
    refine WO_step rfl (S_pure rfl ?_)
    refine WO_step rfl (S_pure rfl ?_)
    refine WO_step rfl (S_pure rfl ?_)
    refine WO_step rfl (S_new fun i7 => ?_)
    first | refine WO_step rfl (S_storeT rfl rfl (by repeat (first | exact Pick.head | apply Pick.tail)) (by rfl) (by rfl) ?_) | refine WO_step rfl (S_storeO rfl rfl (by repeat (first | exact Pick.head | apply Pick.tail)) (by first | rfl | exact SV.cells1 _) (by rfl) (by first | rfl | exact SV.ones _) ?_)
    refine WO_step rfl (S_pure rfl ?_)
    refine WO_nil ?_
    refine KSeq_n ?_
    refine WC_seq ?_
    refine WC_seq ?_
    refine WC_region ?_
    refine WO_step rfl (S_pure rfl ?_)
    refine WO_nil ?_
    refine KSeq_n ?_
    refine WC_block ?_
    --out r x0
    refine WC_post (WC_weak (lp_Ask (H := SL wA.toV TPair (pairsOf (mrgd L.flatten)) :: SL w4.toV TRecs us :: B) (i7 := i7) (hR.sub HSub.refl.drop) (by omega) hf4 L.length 0 (by omega) (by omega) rfl) (by repeat (first | exact SubE.nil | apply SubE.cons rfl)) (by repeat (first | exact HSub.refl | refine HSub.pick (by repeat (first | exact Pick.head | apply Pick.tail)) ?_ | apply HSub.drop))) ?_
    rintro y l' H' (⟨rfl, rfl⟩ | ⟨rfl, rfl⟩)
    ·
      refine KBlock_r ?_
      refine KSeq_r ?_
      refine KFn_r (ResL.tmp rfl ResL.nil) ?_
      exact ⟨_, HSub.refl, rfl⟩
    ·
      refine KBlock_h ?_
      refine KSeq_n ?_
      refine WC_seq ?_
      refine WC_region ?_
      refine WO_step rfl (S_pure rfl ?_)
      refine WO_nil ?_
      refine KSeq_n ?_
      refine WC_seq ?_
      refine WC_region ?_
      refine WO_step rfl (S_pure rfl ?_)
      refine WO_call rfl rfl rfl ?_
      refine sp_NextNil.mono ?_
      rintro _ _ ⟨rfl, rfl⟩
      refine WO_step rfl (S_pure rfl ?_)
      refine WO_step rfl (S_pure rfl ?_)
      refine WO_step rfl (S_pure rfl ?_)
      refine WO_step rfl (S_new fun i13 => ?_)
      first | refine WO_step rfl (S_storeT rfl rfl (by repeat (first | exact Pick.head | apply Pick.tail)) (by rfl) (by rfl) ?_) | refine WO_step rfl (S_storeO rfl rfl (by repeat (first | exact Pick.head | apply Pick.tail)) (by first | rfl | exact SV.cells1 _) (by rfl) (by first | rfl | exact SV.ones _) ?_)
      refine WO_step rfl (S_pure rfl ?_)
      refine WO_nil ?_
      refine KSeq_n ?_
      refine WC_seq ?_
      refine WC_region ?_
      refine WO_step rfl (S_pure rfl ?_)
      refine WO_step rfl (S_pure rfl ?_)
      refine WO_step rfl (S_pure rfl ?_)
      refine WO_cases (t := 85) rfl (fun hg1 => ?_) (fun hg1 => ?_)
      ·
        try simp only [decide_eq_true_eq, decide_eq_false_iff_not, Bool.not_eq_true', Bool.not_eq_false', beq_iff_eq, bne_iff_ne, beq_eq_false_iff_ne, Int.ofNat_lt, Int.ofNat_le, Int.ofNat_inj, ne_eq, gt_iff_lt, ge_iff_le] at hg1
        refine WO_step rfl (S_pure rfl ?_)
        refine WO_step rfl (S_pure rfl ?_)
        refine WO_step rfl (S_pure rfl ?_)
        refine WO_step rfl (S_pure rfl ?_)
        refine WO_nil ?_
        refine KSeq_n ?_
        refine WC_ret ?_
        refine KFn_r (ResL.tmp rfl ResL.nil) ?_
        exact ⟨_, HSub.refl, rfl⟩
      ·
        try simp only [decide_eq_true_eq, decide_eq_false_iff_not, Bool.not_eq_true', Bool.not_eq_false', beq_iff_eq, bne_iff_ne, beq_eq_false_iff_ne, Int.ofNat_lt, Int.ofNat_le, Int.ofNat_inj, ne_eq, gt_iff_lt, ge_iff_le] at hg1
        exact absurd hg1 (by decide)
        --stop
def recsP (l : List Pair) : List Rec := l.map (fun p => ⟨p.key, false, p.val⟩)
theorem lp_Tw {H : SH} {v v4 : Value} {l : List Pair} (hv : RD H v TPair l) (hb : l.length ≤ 1000) : ∀ (n a : Nat) (w : SV), l.length - a = n → a ≤ l.length →
    WC F X (.loop L_loesslaw23_MergeTwice_0) [(7, .int .i64 a), (5, v), (6, w.toV), (4, v4)] (SL w.toV TRec (recsP (l.take a)) :: H)
      (KPost fun x l' H' => ∃ w : SV, x = .exit 0 ∧ l' = [(5, v), (6, w.toV), (4, v4)] ∧ H' = SL w.toV TRec (recsP l) :: H) := by
  intro n
  induction n using Nat.strongRecOn with
  | _ n ih =>
    intro a w hn ha
    have hpl : (recsP (l.take a)).length ≤ 1000 := by rw [recsP, List.length_map, List.length_take]; omega
    refine WC_loop ?_
    refine WC_seq ?_
    refine WC_seq ?_
    refine WC_region ?_
    refine WO_step rfl (S_pure rfl ?_)
    refine WO_step rfl (S_pure rfl ?_)
    first | refine WO_step rfl (S_pure rfl ?_) | refine WO_step rfl (S_lenS rfl (by repeat (first | assumption | exact RD.head | exact RD.nil | apply RD.tail)) ?_)
    refine WO_step rfl (S_pure rfl ?_)
    refine WO_nil ?_
    refine KSeq_n ?_
    refine WC_cond rfl (fun hb1 => ?_) (fun hb1 => ?_)
    ·
      try simp only [decide_eq_true_eq, decide_eq_false_iff_not, Bool.not_eq_true', Bool.not_eq_false', beq_iff_eq, bne_iff_ne, beq_eq_false_iff_ne, Int.ofNat_lt, Int.ofNat_le, Int.ofNat_inj, ne_eq, gt_iff_lt, ge_iff_le] at hb1
      obtain ⟨x, hx⟩ := get_of_lt hb1
      have htk : recsP (l.take (a + 1)) = recsP (l.take a) ++ [⟨x.key, false, x.val⟩] := by rw [recsP, List.take_add_one, hx]; simp [recsP]
      refine WC_skip ?_
      refine KSeq_n ?_
      refine WC_seq ?_
      refine WC_block ?_
      refine WC_region ?_
      refine WO_step rfl (S_pure rfl ?_)
      refine WO_step rfl (S_pure rfl ?_)
      refine WO_step rfl (S_pure rfl ?_)
      refine WO_step rfl (S_idx rfl rfl (by repeat (first | assumption | exact RD.head | exact RD.nil | apply RD.tail)) (by first | rfl | assumption | (symm; assumption)) (by rfl) (by first | assumption | omega | exact lt_of_get (by assumption) | (simp only [List.length_set]; first | assumption | omega | exact lt_of_get (by assumption))) fun hp24 => ?_)
      refine WO_step rfl (S_fldE rfl (by assumption) ?_)
      refine WO_step rfl (S_loadF rfl (by repeat (first | assumption | exact RD.head | exact RD.nil | apply RD.tail)) (by rfl) (by assumption) (by rfl) (by rfl) ?_)
      refine WO_step rfl (S_pure rfl ?_)
      refine WO_step rfl (S_pure rfl ?_)
      refine WO_step rfl (S_idx rfl rfl (by repeat (first | assumption | exact RD.head | exact RD.nil | apply RD.tail)) (by first | rfl | assumption | (symm; assumption)) (by rfl) (by first | assumption | omega | exact lt_of_get (by assumption) | (simp only [List.length_set]; first | assumption | omega | exact lt_of_get (by assumption))) fun hp29 => ?_)
      refine WO_step rfl (S_fldE rfl (by assumption) ?_)
      refine WO_step rfl (S_loadF rfl (by repeat (first | assumption | exact RD.head | exact RD.nil | apply RD.tail)) (by rfl) (by assumption) (by rfl) (by rfl) ?_)
      refine WO_step rfl (S_pure rfl ?_)
      refine WO_step rfl (S_lit1 (T := TRec) (y := ⟨x.key, false, x.val⟩) rfl rfl rfl rfl fun w33 => ?_)
      refine WO_step rfl (S_app rfl rfl (by repeat (first | exact Pick.head | apply Pick.tail)) (by first | exact SRC.str rfl rfl | (apply RD.src; repeat (first | assumption | exact RD.head | exact RD.nil | apply RD.tail))) (by rfl) (by rfl) (by (try simp only [List.length_append, List.length_cons, List.length_nil]); omega) fun w34 => ?_)
      refine WO_step rfl (S_pure rfl ?_)
      refine WO_nil ?_
      refine KBlock_n ?_
      refine KSeq_n ?_
      refine WC_region ?_
      refine WO_step rfl (S_pure rfl ?_)
      first | refine WO_step rfl (S_addN (b := 1) rfl rfl (by omega) ?_) | refine WO_step rfl (S_pure rfl ?_)
      refine WO_step rfl (S_pure rfl ?_)
      refine WO_nil ?_
      refine KLoop_n ?_
      exact WC_weak (ih (l.length - (a + 1)) (by omega) (a + 1) w34 rfl (by omega)) (by repeat (first | exact SubE.nil | apply SubE.cons rfl)) (by rw [htk]; exact (by repeat (first | exact HSub.refl | refine HSub.pick (by repeat (first | exact Pick.head | apply Pick.tail)) ?_ | apply HSub.drop)))
    ·
      try simp only [decide_eq_true_eq, decide_eq_false_iff_not, Bool.not_eq_true', Bool.not_eq_false', beq_iff_eq, bne_iff_ne, beq_eq_false_iff_ne, Int.ofNat_lt, Int.ofNat_le, Int.ofNat_inj, ne_eq, gt_iff_lt, ge_iff_le] at hb1
      refine WC_exit ?_
      refine KSeq_x ?_
      refine KLoop_x ?_
      refine KPost_i (l' := [(5, v), (6, w.toV), (4, v4)]) (H' := SL w.toV TRec (recsP l) :: H) (by repeat (first | exact SubE.nil | apply SubE.cons rfl)) ?_ ⟨w, rfl, rfl, rfl⟩
      rw [List.take_of_length_le (by omega)]; exact (by repeat (first | exact HSub.refl | refine HSub.pick (by repeat (first | exact Pick.head | apply Pick.tail)) ?_ | apply HSub.drop))
theorem recs_pairs (M : List Rec) : recsP (pairsOf M) = M.filter (fun r => !r.gone) := by
  unfold recsP pairsOf
  rw [List.map_map]
  induction M with
  | nil => rfl
  | cons x M ih =>
    cases hg : x.gone with
    | true => simpa [List.filter_cons, hg] using ih
    | false =>
      simp only [List.filter_cons, hg, Bool.not_false, if_true, List.map_cons, ih, Function.comp]
      congr 1
      cases x; simp at hg; simp [hg]
theorem Str.sor {M : List Rec} (h : Str M) : Sor (leOf ltR) M := h.imp fun {a b} hab => by simp [leOf, ltR, lessK_asymm hab]
theorem isort_of_sor : ∀ {M : List Rec}, Sor (leOf ltR) M → isort (leOf ltR) M = M
  | [], _ => rfl
  | x :: M, h => by
    have hp := List.pairwise_cons.1 h
    show ins (leOf ltR) x (isort (leOf ltR) M) = x :: M
    rw [isort_of_sor hp.2]
    cases M with
    | nil => rfl
    | cons y M => simp only [ins]; rw [if_pos (hp.1 y (List.mem_cons_self ..))]
theorem mrgd_of_str {M : List Rec} (h : Str M) : mrgd M = M := Str.uniq (mrgd_spec M).1 h fun k => (mrgd_spec M).2 k
theorem mrgd_twice {M : List Rec} (h : Str M) : mrgd (M ++ M) = M := Str.uniq (mrgd_spec _).1 h fun k => by
  rw [(mrgd_spec _).2, fnd_app]; cases AM.fnd M k <;> rfl
theorem pairs_recs (l : List Pair) : pairsOf (recsP l) = l := by
  unfold recsP pairsOf
  induction l with
  | nil => rfl
  | cons x l ih => simpa using ih
theorem S_lit2SV {l : SE} {H : SH} {K : Value → SH → Prop} {t : TypeId} {z1 z2 : Value} {x y : Opd} {w u : SV} {T : Ty SV} (hx : x.lv l = some w.toV) (hy : y.lv l = some u.toV) (hT : T.es = 1) (hTe : T.enc = fun w => [w.toV]) (ht : t = T.t) (k : ∀ q : SV, K q.toV (SL q.toV T [w, u] :: H)) : Step (.lit t 1 2 [z1, z2] [(0, (1, x)), (1, (1, y))]) l H K := by
  have e : T.cells [w, u] = [w.toV, u.toV] := by simp [Ty.cells, hTe]
  have hv : lfill l [z1, z2] [(0, (1, x)), (1, (1, y))] = some [w.toV, u.toV] := by simp only [lfill, hx, hy, SV.cells]; rfl
  subst ht
  refine S_lit hv (by simp [SV.one]) rfl (fun q => ?_)
  have := k q
  unfold SL at this
  rw [e, hT] at this; exact this
theorem Rds.one {H : SH} {w u : SV} {l : List Rec} (hu : RD H u.toV TRec l) (ho : RD H w.toV TRecs [u]) : Rds H w.toV [u] TRecs TRec [l] := by
  refine ⟨ho, rfl, fun i sv l' h1 h2 => ?_⟩
  cases i with
  | zero => simp at h1 h2; subst h1 h2; exact hu
  | succ i => simp at h1
theorem walk_MergeTwice {H : SH} {v : Value} {svs : List SV} {ls : List (List Rec)} (hv : Rds H v svs TRecs TRec ls) (hok : ∀ l ∈ ls, ∀ x ∈ l, okRec x) : WF F X f_loesslaw23_MergeTwice [v] H (fun r _ => r = .bool true) := by
  refine WF_fn F_loesslaw23_MergeTwice ?_
  refine WC_seq ?_
  refine WC_region ?_
  refine WO_step rfl (S_pure rfl ?_)
  refine WO_nil ?_
  refine KSeq_n ?_
  refine WC_seq ?_
  refine WC_region ?_
  refine WO_call rfl rfl rfl ?_
  refine sp_begun.mono ?_
  rintro _ _ ⟨rfl, rfl⟩
  refine WO_step rfl (S_pure rfl ?_)
  refine WO_nil ?_
  refine KSeq_n ?_
  refine WC_seq ?_
  refine WC_seq ?_
  refine WC_region ?_
  refine WO_step rfl (S_pure rfl ?_)
  refine WO_step rfl (S_pure rfl ?_)
  refine WO_nil ?_
  refine KSeq_n ?_
  refine WC_cond rfl (fun hb1 => ?_) (fun hb1 => ?_)
  ·
    try simp only [decide_eq_true_eq, decide_eq_false_iff_not, Bool.not_eq_true', Bool.not_eq_false', beq_iff_eq, bne_iff_ne, beq_eq_false_iff_ne, Int.ofNat_lt, Int.ofNat_le, Int.ofNat_inj, ne_eq, gt_iff_lt, ge_iff_le] at hb1
    exact absurd hb1 (by decide)
    --stop
  ·
    try simp only [decide_eq_true_eq, decide_eq_false_iff_not, Bool.not_eq_true', Bool.not_eq_false', beq_iff_eq, bne_iff_ne, beq_eq_false_iff_ne, Int.ofNat_lt, Int.ofNat_le, Int.ofNat_inj, ne_eq, gt_iff_lt, ge_iff_le] at hb1
    refine WC_skip ?_
    refine KSeq_n ?_
    refine WC_seq ?_
    refine WC_region ?_
    refine WO_step rfl (S_pure rfl ?_)
    refine WO_call rfl rfl rfl ?_
    refine (sp_sources hv).mono ?_
    rintro _ _ ⟨w4, us, B, rfl, hB, hR, rfl⟩
    obtain ⟨hf1, hf2, hf3, hf4⟩ := srcs_facts ls
    generalize srcsOf ls = L at *
    have hml := mrgd_len L.flatten
    have hpl := pairsOf_len (mrgd L.flatten)
    have hM := (mrgd_spec L.flatten).1
    have hrm : ∀ x ∈ recsP (pairsOf (mrgd L.flatten)), x ∈ mrgd L.flatten := fun x hx => by rw [recs_pairs] at hx; exact (List.mem_filter.1 hx).1
    have hrs : Str (recsP (pairsOf (mrgd L.flatten))) := by rw [recs_pairs]; exact List.Pairwise.filter _ hM
    have hshr : short (recsP (pairsOf (mrgd L.flatten))) := fun x hx => hf3 x (mrgd_mem (hrm x hx))
    have hrl : (recsP (pairsOf (mrgd L.flatten))).length ≤ 100 := by rw [recsP, List.length_map]; omega
    have hpr := pairs_recs (pairsOf (mrgd L.flatten))
    generalize hPP : pairsOf (mrgd L.flatten) = PP at *
    refine WO_step rfl (S_pure rfl ?_)
    refine WO_nil ?_
    refine KSeq_n ?_
    refine WC_seq ?_
    refine WC_region ?_
    refine WO_step rfl (S_pure rfl ?_)
    refine WO_call rfl rfl rfl ?_
    refine (sp_All hR (by omega) (by omega) hf3).mono ?_
    rintro _ _ ⟨wA, rfl, rfl⟩
    rw [hPP]
    refine WO_step rfl (S_pure rfl ?_)
    refine WO_nil ?_
    refine KSeq_n ?_
    refine WC_seq ?_
    refine WC_region ?_
    refine WO_step rfl (S_pure rfl ?_)
    refine WO_nil ?_
    refine KSeq_n ?_
    refine WC_seq ?_
    refine WC_seq ?_
    refine WC_region ?_
    refine WO_step rfl (S_pure rfl ?_)
    refine WO_nil ?_
    refine KSeq_n ?_
    refine WC_block ?_
    refine WC_view (H' := SL (SV.toV .nil) TRec [] :: SL wA.toV TPair PP :: SL w4.toV TRecs us :: B) (fun h hh => (HAg.addNil hh)) ?_
    refine WC_post (WC_weak (lp_Tw (H := SL wA.toV TPair PP :: SL w4.toV TRecs us :: B) (v4 := w4.toV) RD.head (by omega) PP.length 0 .nil (by omega) (by omega)) (by repeat (first | exact SubE.nil | apply SubE.cons rfl)) (by repeat (first | exact HSub.refl | refine HSub.pick (by repeat (first | exact Pick.head | apply Pick.tail)) ?_ | apply HSub.drop))) ?_
    rintro y l' H' ⟨w6, rfl, rfl, rfl⟩
    generalize hRP : recsP PP = RP at *
    refine KBlock_h ?_
    refine KSeq_n ?_
    refine WC_seq ?_
    refine WC_region ?_
    refine WO_step rfl (S_pure rfl ?_)
    refine WO_step rfl (S_pure rfl ?_)
    refine WO_step rfl (S_lit2SV (T := TRecs) (w := w6) (u := w6) rfl rfl rfl rfl rfl fun w37 => ?_)
    refine WO_call rfl rfl rfl ?_
    have h2 : Rds (SL w37.toV TRecs [w6, w6] :: SL w6.toV TRec RP :: SL wA.toV TPair PP :: SL w4.toV TRecs us :: B) w37.toV [w6, w6] TRecs TRec [RP, RP] := by
      refine ⟨RD.head, rfl, fun i sv l' h1 h2 => ?_⟩
      match i, h1, h2 with
      | 0, h1, h2 => simp at h1 h2; subst h1 h2; exact RD.head.tail
      | 1, h1, h2 => simp at h1 h2; subst h1 h2; exact RD.head.tail
      | i + 2, h1, h2 => simp at h1
    refine (sp_All h2 (by simp; omega) (by simp) (by intro x hx; simp at hx; exact hshr x hx)).mono ?_
    rintro _ _ ⟨wA1, rfl, rfl⟩
    rw [show [RP, RP].flatten = RP ++ RP by simp, mrgd_twice hrs, hpr]
    refine WO_step rfl (S_pure rfl ?_)
    refine WO_call rfl rfl rfl ?_
    refine (sp_EqPairs (l := PP) (m := PP) RD.head RD.head.tail.tail.tail (by omega)).mono ?_
    rintro _ _ ⟨rfl, rfl⟩
    refine WO_step rfl (S_pure rfl ?_)
    refine WO_cases (t := 41) rfl (fun hg1 => ?_) (fun hg1 => ?_)
    ·
      try simp only [decide_eq_true_eq, decide_eq_false_iff_not, Bool.not_eq_true', Bool.not_eq_false', beq_iff_eq, bne_iff_ne, beq_eq_false_iff_ne, Int.ofNat_lt, Int.ofNat_le, Int.ofNat_inj, ne_eq, gt_iff_lt, ge_iff_le] at hg1
      refine WO_step rfl (S_litSV (T := TRecs) (w := .nil) rfl rfl rfl rfl fun w42 => ?_)
      refine WO_step rfl (S_pure rfl ?_)
      refine WO_step rfl (S_app (xs := [SV.nil]) (ys := us) (T := TRecs) rfl rfl Pick.head (RD.src (RD.sub (by repeat (first | exact HSub.refl | refine HSub.pick (by repeat (first | exact Pick.head | apply Pick.tail)) ?_ | apply HSub.drop)) hR.out)) (by rfl) (by rfl) (by have := hR.len; simp; omega) fun w44 => ?_)
      refine WO_call rfl rfl rfl ?_
      have h3 : Rds (SL w44.toV TRecs ([SV.nil] ++ us) :: SL wA1.toV TPair PP :: SL w37.toV TRecs [w6, w6] :: SL w6.toV TRec RP :: SL wA.toV TPair PP :: SL w4.toV TRecs us :: B) w44.toV (SV.nil :: us) TRecs TRec ([] :: L) := (hR.sub (by repeat (first | exact HSub.refl | refine HSub.pick (by repeat (first | exact Pick.head | apply Pick.tail)) ?_ | apply HSub.drop))).cons RD.nil RD.head
      refine (sp_All h3 (by simp only [List.flatten_cons, List.nil_append]; omega) (by simp; omega) (by simpa using hf3)).mono ?_
      rintro _ _ ⟨wA2, rfl, rfl⟩
      rw [show ([] :: L).flatten = L.flatten by simp, hPP]
      refine WO_step rfl (S_pure rfl ?_)
      refine WO_call rfl rfl rfl ?_
      refine (sp_EqPairs (l := PP) (m := PP) RD.head (by repeat (first | assumption | exact RD.head | exact RD.nil | apply RD.tail)) (by omega)).mono ?_
      rintro _ _ ⟨rfl, rfl⟩
      refine WO_step rfl (S_pure rfl ?_)
      refine WO_step rfl (S_pure rfl ?_)
      refine WO_cases (t := 49) rfl (fun hg2 => ?_) (fun hg2 => ?_)
      ·
        try simp only [decide_eq_true_eq, decide_eq_false_iff_not, Bool.not_eq_true', Bool.not_eq_false', beq_iff_eq, bne_iff_ne, beq_eq_false_iff_ne, Int.ofNat_lt, Int.ofNat_le, Int.ofNat_inj, ne_eq, gt_iff_lt, ge_iff_le] at hg2
        refine WO_step rfl (S_pure rfl ?_)
        refine WO_step rfl (S_litSV (T := TRecs) (w := w6) rfl rfl rfl rfl fun w51 => ?_)
        refine WO_call rfl rfl rfl ?_
        have h4 := Rds.one (H := SL w51.toV TRecs [w6] :: SL wA2.toV TPair PP :: SL w44.toV TRecs ([SV.nil] ++ us) :: SL wA1.toV TPair PP :: SL w37.toV TRecs [w6, w6] :: SL w6.toV TRec RP :: SL wA.toV TPair PP :: SL w4.toV TRecs us :: B) (w := w51) (u := w6) (l := RP) (by repeat (first | assumption | exact RD.head | exact RD.nil | apply RD.tail)) RD.head
        refine (sp_All h4 (by simp; omega) (by simp) (by simpa using hshr)).mono ?_
        rintro _ _ ⟨wA3, rfl, rfl⟩
        rw [show [RP].flatten = RP by simp, mrgd_of_str hrs, hpr]
        refine WO_step rfl (S_pure rfl ?_)
        refine WO_call rfl rfl rfl ?_
        refine (sp_EqPairs (l := PP) (m := PP) RD.head (by repeat (first | assumption | exact RD.head | exact RD.nil | apply RD.tail)) (by omega)).mono ?_
        rintro _ _ ⟨rfl, rfl⟩
        refine WO_step rfl (S_pure rfl ?_)
        refine WO_step rfl (S_pure rfl ?_)
        refine WO_cases (t := 56) rfl (fun hg3 => ?_) (fun hg3 => ?_)
        ·
          try simp only [decide_eq_true_eq, decide_eq_false_iff_not, Bool.not_eq_true', Bool.not_eq_false', beq_iff_eq, bne_iff_ne, beq_eq_false_iff_ne, Int.ofNat_lt, Int.ofNat_le, Int.ofNat_inj, ne_eq, gt_iff_lt, ge_iff_le] at hg3
          refine WO_step rfl (S_pure rfl ?_)
          refine WO_call rfl rfl rfl ?_
          refine (sp_Sort (v := w6) (l := RP) (by repeat (first | assumption | exact RD.head | exact RD.nil | apply RD.tail)) (by omega) hshr).mono ?_
          rintro _ _ ⟨wS, rfl, rfl⟩
          rw [isort_of_sor hrs.sor]
          refine WO_step rfl (S_pure rfl ?_)
          refine WO_call rfl rfl rfl ?_
          refine (sp_EqRecs (l := RP) (m := RP) RD.head (by repeat (first | assumption | exact RD.head | exact RD.nil | apply RD.tail)) (by omega)).mono ?_
          rintro _ _ ⟨rfl, rfl⟩
          refine WO_step rfl (S_pure rfl ?_)
          refine WO_step rfl (S_pure rfl ?_)
          refine WO_nil ?_
          refine KSeq_n ?_
          refine WC_ret ?_
          refine KFn_r (ResL.tmp rfl ResL.nil) ?_
          refine ⟨_, HSub.refl, ?_⟩
          simp [resV]
        ·
          try simp only [decide_eq_true_eq, decide_eq_false_iff_not, Bool.not_eq_true', Bool.not_eq_false', beq_iff_eq, bne_iff_ne, beq_eq_false_iff_ne, Int.ofNat_lt, Int.ofNat_le, Int.ofNat_inj, ne_eq, gt_iff_lt, ge_iff_le] at hg3
          exact absurd hg3 (by simp)
          --stop
      ·
        try simp only [decide_eq_true_eq, decide_eq_false_iff_not, Bool.not_eq_true', Bool.not_eq_false', beq_iff_eq, bne_iff_ne, beq_eq_false_iff_ne, Int.ofNat_lt, Int.ofNat_le, Int.ofNat_inj, ne_eq, gt_iff_lt, ge_iff_le] at hg2
        exact absurd hg2 (by simp)
        --stop
    ·
      try simp only [decide_eq_true_eq, decide_eq_false_iff_not, Bool.not_eq_true', Bool.not_eq_false', beq_iff_eq, bne_iff_ne, beq_eq_false_iff_ne, Int.ofNat_lt, Int.ofNat_le, Int.ofNat_inj, ne_eq, gt_iff_lt, ge_iff_le] at hg1
      exact absurd hg1 (by simp)
      --stop
end Go.Proofs.Ytdpiggphcohmmaa.AM
