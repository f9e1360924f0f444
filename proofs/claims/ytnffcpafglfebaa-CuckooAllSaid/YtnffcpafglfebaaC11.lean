/- Walks: what the functions compute. -/
import Derived.Test.YtnffcpafglfebaaC10
namespace Go.Proofs.Ytnffcpafglfebaa.AM
open Go
set_option linter.unusedSimpArgs false
set_option linter.unusedVariables false
set_option maxRecDepth 4000

/-! ### lies -/
theorem Pick.back {r : Res} {H H0 : SH} (h : Pick r H H0) : HSub (r :: H0) H := ⟨[], by simpa using h.perm.symm⟩
theorem lp_lies_2 {H : SH} {w : SV} {l : List Kv} {e : Ent} {b : Nat} (hb : b < 8) (het : e.tag < 32768) (hv : RD H w.toV TKv l) (hall : ∀ x ∈ l, x.h < 18446744073709551616) (hL : l.length ≤ 100) (v0 v1 v7 : Value) : ∀ (n i : Nat) (sm : Int), l.length - i = n → i ≤ l.length → ((sm = -1 ∧ ∀ x ∈ l.take i, fits x e b = false) ∨ ∃ (k : Nat) (x : Kv), sm = (k : Int) ∧ l[k]? = some x ∧ fits x e b = true) →
    WC F X (.loop L_loesslaw17_lies_2) [(12, .int .i64 (i : Int)), (11, .int .i64 sm), (5, w.toV), (6, .int .i64 (b : Int)), (8, .int .i64 e.id), (9, .int .i64 (e.tag : Int)), (0, v0), (1, v1), (7, v7)] H
      (KPost fun x l' H' => ∃ sm, x = .exit 4 ∧ l' = [(11, .int .i64 sm), (5, w.toV), (6, .int .i64 (b : Int)), (0, v0), (1, v1), (7, v7)] ∧ H' = H ∧ ((sm = -1 ∧ ∀ x ∈ l, fits x e b = false) ∨ ∃ (k : Nat) (x : Kv), sm = (k : Int) ∧ l[k]? = some x ∧ fits x e b = true)) := by
  intro n
  induction n using Nat.strongRecOn with
  | _ n ih =>
    intro i sm hn hi hsm
    refine WC_loop ?_
    refine WC_seq ?_
    refine WC_seq ?_
    refine WC_region ?_
    refine WO_step rfl (S_pure rfl ?_)
    refine WO_step rfl (S_pure rfl ?_)
    first | refine WO_step rfl (S_pure rfl ?_) | refine WO_step rfl (S_lenS rfl (by repeat (first | assumption | exact RD.head | exact RD.nil | apply RD.tail)) ?_)
    refine WO_step rfl (S_pure rfl ?_)
    refine WO_nil ?_
    refine KSeq_n ?_
    refine WC_cond rfl (fun hb1 => ?_) (fun hb1 => ?_)
    ·
      try simp only [decide_eq_true_eq, decide_eq_false_iff_not, Bool.not_eq_true', Bool.not_eq_false', beq_iff_eq, bne_iff_ne, beq_eq_false_iff_ne, Int.ofNat_lt, Int.ofNat_le, Int.ofNat_inj, ne_eq, gt_iff_lt, ge_iff_le] at hb1
      obtain ⟨q, hq⟩ := get_of_lt hb1
      have hqh := hall q (List.mem_of_getElem? hq)
      have hqf := frst_lt q.h
      have hstep : ∀ c : Bool, fits q e b = c → ∀ sm' : Int, sm' = (if c then (i : Int) else sm) → ((sm' = -1 ∧ ∀ x ∈ l.take (i + 1), fits x e b = false) ∨ ∃ (k : Nat) (x : Kv), sm' = (k : Int) ∧ l[k]? = some x ∧ fits x e b = true) := by
        intro c hc sm' hs'
        cases c with
        | true => exact .inr ⟨i, q, hs', hq, hc⟩
        | false =>
          rcases hsm with ⟨h1, h2⟩ | h
          · refine .inl ⟨by rw [hs']; exact h1, fun x hx => ?_⟩
            rw [List.take_add_one, hq] at hx
            rcases List.mem_append.1 hx with hx | hx
            · exact h2 x hx
            · simp at hx; rw [hx]; exact hc
          · obtain ⟨k, x, h1, h2, h3⟩ := h
            exact .inr ⟨k, x, by rw [hs']; exact h1, h2, h3⟩
      refine WC_skip ?_
      refine KSeq_n ?_
      refine WC_seq ?_
      refine WC_block ?_
      refine WC_seq ?_
      refine WC_region ?_
      refine WO_step rfl (S_pure rfl ?_)
      refine WO_step rfl (S_pure rfl ?_)
      refine WO_step rfl (S_idx rfl rfl (by repeat (first | assumption | exact RD.head | exact RD.nil | apply RD.tail)) (by first | rfl | assumption | (symm; assumption)) (by rfl) (by first | assumption | omega | exact lt_of_get (by assumption) | (simp only [List.length_set]; first | assumption | omega | exact lt_of_get (by assumption))) fun hp54 => ?_)
      refine WO_step rfl (S_fldE rfl (by repeat (first | assumption | apply IsP.padd)) ?_)
      refine WO_step rfl (S_loadF rfl (by repeat (first | assumption | exact RD.head | exact RD.nil | apply RD.tail)) (by rfl) (by assumption) (by rfl) (by rfl) ?_)
      refine WO_call rfl rfl rfl ?_
      refine (sp_rFirst (by omega)).mono ?_
      rintro _ _ ⟨rfl, rfl⟩
      refine WO_step rfl (S_pure rfl ?_)
      refine WO_nil ?_
      refine KSeq_n ?_
      refine WC_seq ?_
      refine WC_region ?_
      refine WO_step rfl (S_pure rfl ?_)
      refine WO_step rfl (S_pure rfl ?_)
      refine WO_step rfl (S_idx rfl rfl (by repeat (first | assumption | exact RD.head | exact RD.nil | apply RD.tail)) (by first | rfl | assumption | (symm; assumption)) (by rfl) (by first | assumption | omega | exact lt_of_get (by assumption) | (simp only [List.length_set]; first | assumption | omega | exact lt_of_get (by assumption))) fun hp60 => ?_)
      refine WO_step rfl (S_fldE rfl (by repeat (first | assumption | apply IsP.padd)) ?_)
      refine WO_step rfl (S_loadF rfl (by repeat (first | assumption | exact RD.head | exact RD.nil | apply RD.tail)) (by rfl) (by assumption) (by rfl) (by rfl) ?_)
      refine WO_step rfl (S_pure rfl ?_)
      first | refine WO_step rfl (S_eqS rfl rfl ?_) | refine WO_step rfl (S_pure rfl ?_)
      refine WO_step rfl (S_pure rfl ?_)
      refine WO_cases (t := 65) rfl (fun hg1 => ?_) (fun hg1 => ?_)
      ·
        try simp only [decide_eq_true_eq, decide_eq_false_iff_not, Bool.not_eq_true', Bool.not_eq_false', beq_iff_eq, bne_iff_ne, beq_eq_false_iff_ne, Int.ofNat_lt, Int.ofNat_le, Int.ofNat_inj, ne_eq, gt_iff_lt, ge_iff_le] at hg1
        refine WO_step rfl (S_pure rfl ?_)
        refine WO_step rfl (S_pure rfl ?_)
        refine WO_step rfl (S_idx rfl rfl (by repeat (first | assumption | exact RD.head | exact RD.nil | apply RD.tail)) (by first | rfl | assumption | (symm; assumption)) (by rfl) (by first | assumption | omega | exact lt_of_get (by assumption) | (simp only [List.length_set]; first | assumption | omega | exact lt_of_get (by assumption))) fun hp68 => ?_)
        refine WO_step rfl (S_fldE rfl (by repeat (first | assumption | apply IsP.padd)) ?_)
        refine WO_step rfl (S_loadF rfl (by repeat (first | assumption | exact RD.head | exact RD.nil | apply RD.tail)) (by rfl) (by assumption) (by rfl) (by rfl) ?_)
        refine WO_call rfl rfl rfl ?_
        refine (sp_rTag (by omega)).mono ?_
        rintro _ _ ⟨rfl, rfl⟩
        refine WO_step rfl (S_pure rfl ?_)
        first | refine WO_step rfl (S_eqS rfl rfl ?_) | refine WO_step rfl (S_pure rfl ?_)
        refine WO_step rfl (S_pure rfl ?_)
        refine WO_step rfl (S_pure rfl ?_)
        refine WO_cases (t := 75) rfl (fun hg2 => ?_) (fun hg2 => ?_)
        ·
          try simp only [decide_eq_true_eq, decide_eq_false_iff_not, Bool.not_eq_true', Bool.not_eq_false', beq_iff_eq, bne_iff_ne, beq_eq_false_iff_ne, Int.ofNat_lt, Int.ofNat_le, Int.ofNat_inj, ne_eq, gt_iff_lt, ge_iff_le] at hg2
          refine WO_step rfl (S_pure rfl ?_)
          refine WO_step rfl (S_pure rfl ?_)
          first | refine WO_step rfl (S_eqS rfl rfl ?_) | refine WO_step rfl (S_pure rfl ?_)
          refine WO_step rfl (S_pure rfl ?_)
          refine WO_cases (t := 79) rfl (fun hg3 => ?_) (fun hg3 => ?_)
          ·
            try simp only [decide_eq_true_eq, decide_eq_false_iff_not, Bool.not_eq_true', Bool.not_eq_false', beq_iff_eq, bne_iff_ne, beq_eq_false_iff_ne, Int.ofNat_lt, Int.ofNat_le, Int.ofNat_inj, ne_eq, gt_iff_lt, ge_iff_le] at hg3
            refine WO_off rfl ?_
            refine WO_off rfl ?_
            refine WO_off rfl ?_
            refine WO_off rfl ?_
            refine WO_off rfl ?_
            refine WO_step rfl (S_pure rfl ?_)
            refine WO_step rfl (S_pure rfl ?_)
            refine WO_nil ?_
            refine KSeq_n ?_
            refine WC_cond rfl (fun _ => ?_) (fun h => ?_)
            rotate_left
            · exact absurd h (by decide)
            refine WC_region ?_
            refine WO_step rfl (S_pure rfl ?_)
            refine WO_step rfl (S_pure rfl ?_)
            refine WO_nil ?_
            refine KBlock_n ?_
            refine KSeq_n ?_
            refine WC_region ?_
            refine WO_step rfl (S_pure rfl ?_)
            first | refine WO_step rfl (S_addN (b := 1) rfl rfl (by omega) ?_) | refine WO_step rfl (S_pure rfl ?_)
            refine WO_step rfl (S_pure rfl ?_)
            refine WO_nil ?_
            refine KLoop_n ?_
            exact WC_weak (ih (l.length - (i + 1)) (by clear hstep hsm; omega) (i + 1) (i : Int) rfl (by clear hstep hsm; omega) (hstep true (fits_iff.2 ⟨hg1, hg2, .inl hg3⟩) _ rfl)) (by repeat (first | exact SubE.nil | apply SubE.cons rfl)) (by repeat (first | exact HSub.refl | refine HSub.pick (by repeat (first | exact Pick.head | apply Pick.tail)) ?_ | apply HSub.drop))
          ·
            try simp only [decide_eq_true_eq, decide_eq_false_iff_not, Bool.not_eq_true', Bool.not_eq_false', beq_iff_eq, bne_iff_ne, beq_eq_false_iff_ne, Int.ofNat_lt, Int.ofNat_le, Int.ofNat_inj, ne_eq, gt_iff_lt, ge_iff_le] at hg3
            refine WO_step rfl (S_pure rfl ?_)
            refine WO_step rfl (S_pure rfl ?_)
            refine WO_step rfl (S_pure rfl ?_)
            refine WO_call rfl rfl rfl ?_
            refine (sp_rOther (by assumption) (by assumption)).mono ?_
            rintro _ _ ⟨rfl, rfl⟩
            first | refine WO_step rfl (S_eqS rfl rfl ?_) | refine WO_step rfl (S_pure rfl ?_)
            refine WO_step rfl (S_pure rfl ?_)
            refine WO_step rfl (S_pure rfl ?_)
            refine WO_nil ?_
            refine KSeq_n ?_
            refine WC_cond rfl (fun hb2 => ?_) (fun hb2 => ?_)
            ·
              try simp only [decide_eq_true_eq, decide_eq_false_iff_not, Bool.not_eq_true', Bool.not_eq_false', beq_iff_eq, bne_iff_ne, beq_eq_false_iff_ne, Int.ofNat_lt, Int.ofNat_le, Int.ofNat_inj, ne_eq, gt_iff_lt, ge_iff_le] at hb2
              refine WC_region ?_
              refine WO_step rfl (S_pure rfl ?_)
              refine WO_step rfl (S_pure rfl ?_)
              refine WO_nil ?_
              refine KBlock_n ?_
              refine KSeq_n ?_
              refine WC_region ?_
              refine WO_step rfl (S_pure rfl ?_)
              first | refine WO_step rfl (S_addN (b := 1) rfl rfl (by omega) ?_) | refine WO_step rfl (S_pure rfl ?_)
              refine WO_step rfl (S_pure rfl ?_)
              refine WO_nil ?_
              refine KLoop_n ?_
              exact WC_weak (ih (l.length - (i + 1)) (by clear hstep hsm; omega) (i + 1) (i : Int) rfl (by clear hstep hsm; omega) (hstep true (fits_iff.2 ⟨hg1, hg2, .inr hb2⟩) _ rfl)) (by repeat (first | exact SubE.nil | apply SubE.cons rfl)) (by repeat (first | exact HSub.refl | refine HSub.pick (by repeat (first | exact Pick.head | apply Pick.tail)) ?_ | apply HSub.drop))
            ·
              try simp only [decide_eq_true_eq, decide_eq_false_iff_not, Bool.not_eq_true', Bool.not_eq_false', beq_iff_eq, bne_iff_ne, beq_eq_false_iff_ne, Int.ofNat_lt, Int.ofNat_le, Int.ofNat_inj, ne_eq, gt_iff_lt, ge_iff_le] at hb2
              refine WC_skip ?_
              refine KBlock_n ?_
              refine KSeq_n ?_
              refine WC_region ?_
              refine WO_step rfl (S_pure rfl ?_)
              first | refine WO_step rfl (S_addN (b := 1) rfl rfl (by omega) ?_) | refine WO_step rfl (S_pure rfl ?_)
              refine WO_step rfl (S_pure rfl ?_)
              refine WO_nil ?_
              refine KLoop_n ?_
              exact WC_weak (ih (l.length - (i + 1)) (by clear hstep hsm; omega) (i + 1) sm rfl (by clear hstep hsm; omega) (hstep false (by simp [fits, hg3, hb2]) _ rfl)) (by repeat (first | exact SubE.nil | apply SubE.cons rfl)) (by repeat (first | exact HSub.refl | refine HSub.pick (by repeat (first | exact Pick.head | apply Pick.tail)) ?_ | apply HSub.drop))
        ·
          try simp only [decide_eq_true_eq, decide_eq_false_iff_not, Bool.not_eq_true', Bool.not_eq_false', beq_iff_eq, bne_iff_ne, beq_eq_false_iff_ne, Int.ofNat_lt, Int.ofNat_le, Int.ofNat_inj, ne_eq, gt_iff_lt, ge_iff_le] at hg2
          refine WO_off rfl ?_
          refine WO_off rfl ?_
          refine WO_off rfl ?_
          refine WO_off rfl ?_
          refine WO_off rfl ?_
          refine WO_off rfl ?_
          refine WO_off rfl ?_
          refine WO_off rfl ?_
          refine WO_off rfl ?_
          refine WO_off rfl ?_
          refine WO_step rfl (S_pure rfl ?_)
          refine WO_nil ?_
          refine KSeq_n ?_
          refine WC_cond rfl (fun h => ?_) (fun _ => ?_)
          · exact absurd h (by decide)
          refine WC_skip ?_
          refine KBlock_n ?_
          refine KSeq_n ?_
          refine WC_region ?_
          refine WO_step rfl (S_pure rfl ?_)
          first | refine WO_step rfl (S_addN (b := 1) rfl rfl (by omega) ?_) | refine WO_step rfl (S_pure rfl ?_)
          refine WO_step rfl (S_pure rfl ?_)
          refine WO_nil ?_
          refine KLoop_n ?_
          exact WC_weak (ih (l.length - (i + 1)) (by clear hstep hsm; omega) (i + 1) sm rfl (by clear hstep hsm; omega) (hstep false (by simp [fits, hg2]) _ rfl)) (by repeat (first | exact SubE.nil | apply SubE.cons rfl)) (by repeat (first | exact HSub.refl | refine HSub.pick (by repeat (first | exact Pick.head | apply Pick.tail)) ?_ | apply HSub.drop))
      ·
        try simp only [decide_eq_true_eq, decide_eq_false_iff_not, Bool.not_eq_true', Bool.not_eq_false', beq_iff_eq, bne_iff_ne, beq_eq_false_iff_ne, Int.ofNat_lt, Int.ofNat_le, Int.ofNat_inj, ne_eq, gt_iff_lt, ge_iff_le] at hg1
        refine WO_off rfl ?_
        refine WO_off rfl ?_
        refine WO_off rfl ?_
        refine WO_off rfl ?_
        refine WO_off rfl ?_
        refine WO_off rfl ?_
        refine WO_off rfl ?_
        refine WO_off rfl ?_
        refine WO_step rfl (S_pure rfl ?_)
        refine WO_step rfl (S_pure rfl ?_)
        refine WO_off rfl ?_
        refine WO_off rfl ?_
        refine WO_off rfl ?_
        refine WO_off rfl ?_
        refine WO_off rfl ?_
        refine WO_off rfl ?_
        refine WO_off rfl ?_
        refine WO_off rfl ?_
        refine WO_off rfl ?_
        refine WO_off rfl ?_
        refine WO_step rfl (S_pure rfl ?_)
        refine WO_nil ?_
        refine KSeq_n ?_
        refine WC_cond rfl (fun h => ?_) (fun _ => ?_)
        · exact absurd h (by decide)
        refine WC_skip ?_
        refine KBlock_n ?_
        refine KSeq_n ?_
        refine WC_region ?_
        refine WO_step rfl (S_pure rfl ?_)
        first | refine WO_step rfl (S_addN (b := 1) rfl rfl (by omega) ?_) | refine WO_step rfl (S_pure rfl ?_)
        refine WO_step rfl (S_pure rfl ?_)
        refine WO_nil ?_
        refine KLoop_n ?_
        exact WC_weak (ih (l.length - (i + 1)) (by clear hstep hsm; omega) (i + 1) sm rfl (by clear hstep hsm; omega) (hstep false (by simp [fits, hg1]) _ rfl)) (by repeat (first | exact SubE.nil | apply SubE.cons rfl)) (by repeat (first | exact HSub.refl | refine HSub.pick (by repeat (first | exact Pick.head | apply Pick.tail)) ?_ | apply HSub.drop))
    ·
      try simp only [decide_eq_true_eq, decide_eq_false_iff_not, Bool.not_eq_true', Bool.not_eq_false', beq_iff_eq, bne_iff_ne, beq_eq_false_iff_ne, Int.ofNat_lt, Int.ofNat_le, Int.ofNat_inj, ne_eq, gt_iff_lt, ge_iff_le] at hb1
      refine WC_exit ?_
      refine KSeq_x ?_
      refine KLoop_x ?_
      rw [List.take_of_length_le (by clear hsm; omega)] at hsm
      exact KPost_i (by repeat (first | exact SubE.nil | apply SubE.cons rfl)) (by repeat (first | exact HSub.refl | refine HSub.pick (by repeat (first | exact Pick.head | apply Pick.tail)) ?_ | apply HSub.drop)) ⟨sm, rfl, rfl, rfl, hsm⟩
theorem lp_lies_1 {H : SH} {i n b : Nat} {es : List Ent} (g : Good es) (hb : b < 8) (v1 : Value) : ∀ (m s : Nat) (w : SV) (L : List Kv), 4 - s = m → s ≤ 4 → Left es (b * 4 + s) L → (∀ x ∈ L, x.h < 18446744073709551616) → L.length ≤ 100 →
    WC F X (.loop L_loesslaw17_lies_1) [(7, .int .i64 (s : Int)), (6, .int .i64 (b : Int)), (0, .pointer (some ⟨i, 0, none⟩)), (1, v1), (5, w.toV)] (SL w.toV TKv L :: DO i es n :: H)
      (KPost fun x l' H' => ∃ (w : SV) (L : List Kv), x = .exit 2 ∧ l' = [(6, .int .i64 (b : Int)), (0, .pointer (some ⟨i, 0, none⟩)), (1, v1), (5, w.toV)] ∧ H' = SL w.toV TKv L :: DO i es n :: H ∧ Left es (b * 4 + 4) L ∧ (∀ x ∈ L, x.h < 18446744073709551616) ∧ L.length ≤ 100) := by
  intro m
  induction m using Nat.strongRecOn with
  | _ m ih =>
    intro s w L hm hs hleft hall hL
    refine WC_loop ?_
    refine WC_seq ?_
    refine WC_seq ?_
    refine WC_region ?_
    refine WO_step rfl (S_pure rfl ?_)
    refine WO_step rfl (S_pure rfl ?_)
    refine WO_nil ?_
    refine KSeq_n ?_
    refine WC_cond rfl (fun hb1 => ?_) (fun hb1 => ?_)
    ·
      try simp only [decide_eq_true_eq, decide_eq_false_iff_not, Bool.not_eq_true', Bool.not_eq_false', beq_iff_eq, bne_iff_ne, beq_eq_false_iff_ne, Int.ofNat_lt, Int.ofNat_le, Int.ofNat_inj, ne_eq, gt_iff_lt, ge_iff_le] at hb1
      refine WC_skip ?_
      refine KSeq_n ?_
      refine WC_seq ?_
      refine WC_block ?_
      refine WC_seq ?_
      refine WC_region ?_
      refine WO_step rfl (S_pure rfl ?_)
      refine WO_step rfl (S_pure rfl ?_)
      refine WO_step rfl (S_pure rfl ?_)
      refine WO_call rfl rfl rfl ?_
      refine (sp_At g.len (by repeat (first | exact Pick.head | apply Pick.tail)) hb (by omega)).mono ?_
      rintro _ _ ⟨rfl, rfl⟩
      have het := g.tag (b * 4 + s) (by omega)
      have hq4 : (b * 4 + s) / 4 = b := by omega
      refine WO_step rfl (S_pure rfl ?_)
      refine WO_step rfl (S_pure rfl ?_)
      refine WO_step rfl (S_pure rfl ?_)
      refine WO_step rfl (S_pure rfl ?_)
      refine WO_step rfl (S_pure rfl ?_)
      refine WO_step rfl (S_pure rfl ?_)
      refine WO_step rfl (S_pure rfl ?_)
      refine WO_nil ?_
      refine KSeq_n ?_
      refine WC_seq ?_
      refine WC_seq ?_
      refine WC_region ?_
      refine WO_step rfl (S_pure rfl ?_)
      refine WO_step rfl (S_pure rfl ?_)
      refine WO_nil ?_
      refine KSeq_n ?_
      refine WC_cond rfl (fun hb2 => ?_) (fun hb2 => ?_)
      ·
        try simp only [decide_eq_true_eq, decide_eq_false_iff_not, Bool.not_eq_true', Bool.not_eq_false', beq_iff_eq, bne_iff_ne, beq_eq_false_iff_ne, Int.ofNat_lt, Int.ofNat_le, Int.ofNat_inj, ne_eq, gt_iff_lt, ge_iff_le] at hb2
        refine WC_seq ?_
        refine WC_seq ?_
        refine WC_region ?_
        refine WO_step rfl (S_pure rfl ?_)
        first | refine WO_step rfl (S_neS rfl rfl ?_) | refine WO_step rfl (S_pure rfl ?_)
        refine WO_step rfl (S_pure rfl ?_)
        refine WO_cases (t := 42) rfl (fun hg1 => ?_) (fun hg1 => ?_)
        ·
          try simp only [decide_eq_true_eq, decide_eq_false_iff_not, Bool.not_eq_true', Bool.not_eq_false', beq_iff_eq, bne_iff_ne, beq_eq_false_iff_ne, Int.ofNat_lt, Int.ofNat_le, Int.ofNat_inj, ne_eq, gt_iff_lt, ge_iff_le] at hg1
          refine WO_off rfl ?_
          refine WO_off rfl ?_
          refine WO_step rfl (S_pure rfl ?_)
          refine WO_nil ?_
          refine KSeq_n ?_
          refine WC_cond rfl (fun _ => ?_) (fun h => ?_)
          rotate_left
          · exact absurd h (by decide)
          refine WC_seq ?_
          refine WC_region ?_
          refine WO_step rfl (S_pure rfl ?_)
          refine WO_nil ?_
          refine KSeq_n ?_
          refine WC_ret ?_
          refine KSeq_r ?_
          refine KSeq_r ?_
          refine KBlock_r ?_
          refine KSeq_r ?_
          refine KLoop_r ?_
          exfalso
          have h0 := g.off (b * 4 + s) (by omega) hb2
          rw [h0] at hg1
          simp [ent0] at hg1
        ·
          try simp only [decide_eq_true_eq, decide_eq_false_iff_not, Bool.not_eq_true', Bool.not_eq_false', beq_iff_eq, bne_iff_ne, beq_eq_false_iff_ne, Int.ofNat_lt, Int.ofNat_le, Int.ofNat_inj, ne_eq, gt_iff_lt, ge_iff_le] at hg1
          refine WO_step rfl (S_pure rfl ?_)
          first | refine WO_step rfl (S_neS rfl rfl ?_) | refine WO_step rfl (S_pure rfl ?_)
          refine WO_step rfl (S_pure rfl ?_)
          refine WO_nil ?_
          refine KSeq_n ?_
          refine WC_cond rfl (fun hb3 => ?_) (fun hb3 => ?_)
          ·
            try simp only [decide_eq_true_eq, decide_eq_false_iff_not, Bool.not_eq_true', Bool.not_eq_false', beq_iff_eq, bne_iff_ne, beq_eq_false_iff_ne, Int.ofNat_lt, Int.ofNat_le, Int.ofNat_inj, ne_eq, gt_iff_lt, ge_iff_le] at hb3
            refine WC_seq ?_
            refine WC_region ?_
            refine WO_step rfl (S_pure rfl ?_)
            refine WO_nil ?_
            refine KSeq_n ?_
            refine WC_ret ?_
            refine KSeq_r ?_
            refine KSeq_r ?_
            refine KBlock_r ?_
            refine KSeq_r ?_
            refine KLoop_r ?_
            exfalso
            have h0 := g.off (b * 4 + s) (by omega) hb2
            rw [h0] at hb3
            simp [ent0] at hb3
          ·
            try simp only [decide_eq_true_eq, decide_eq_false_iff_not, Bool.not_eq_true', Bool.not_eq_false', beq_iff_eq, bne_iff_ne, beq_eq_false_iff_ne, Int.ofNat_lt, Int.ofNat_le, Int.ofNat_inj, ne_eq, gt_iff_lt, ge_iff_le] at hb3
            refine WC_skip ?_
            refine KSeq_n ?_
            refine WC_exit ?_
            refine KSeq_x ?_
            refine KBlock_h ?_
            refine KSeq_n ?_
            refine WC_region ?_
            refine WO_step rfl (S_pure rfl ?_)
            first | refine WO_step rfl (S_addN (b := 1) rfl rfl (by omega) ?_) | refine WO_step rfl (S_pure rfl ?_)
            refine WO_step rfl (S_pure rfl ?_)
            refine WO_nil ?_
            refine KLoop_n ?_
            exact WC_weak (ih (4 - (s + 1)) (by omega) (s + 1) w L rfl (by omega) (hleft.none (by omega) hb2) hall hL) (by repeat (first | exact SubE.nil | apply SubE.cons rfl)) (by repeat (first | exact HSub.refl | refine HSub.pick (by repeat (first | exact Pick.head | apply Pick.tail)) ?_ | apply HSub.drop))
      ·
        try simp only [decide_eq_true_eq, decide_eq_false_iff_not, Bool.not_eq_true', Bool.not_eq_false', beq_iff_eq, bne_iff_ne, beq_eq_false_iff_ne, Int.ofNat_lt, Int.ofNat_le, Int.ofNat_inj, ne_eq, gt_iff_lt, ge_iff_le] at hb2
        refine WC_skip ?_
        refine KSeq_n ?_
        refine WC_seq ?_
        refine WC_region ?_
        refine WO_step rfl (S_pure rfl ?_)
        refine WO_nil ?_
        refine KSeq_n ?_
        refine WC_seq ?_
        refine WC_seq ?_
        refine WC_region ?_
        refine WO_step rfl (S_pure rfl ?_)
        refine WO_nil ?_
        refine KSeq_n ?_
        refine WC_block ?_
        --out x4
        refine WC_post (WC_weak (lp_lies_2 (H := SL w.toV TKv L :: DO i es n :: H) (w := w) (l := L) (e := at' es (b * 4 + s)) hb het RD.head hall hL (.pointer (some ⟨i, 0, none⟩)) v1 (.int .i64 (s : Int)) L.length 0 (-1) (by omega) (by omega) (.inl ⟨rfl, by simp⟩)) (by repeat (first | exact SubE.nil | apply SubE.cons rfl)) (by repeat (first | exact HSub.refl | refine HSub.pick (by repeat (first | exact Pick.head | apply Pick.tail)) ?_ | apply HSub.drop))) ?_
        rintro x l' _ ⟨sm, rfl, rfl, rfl, hsm⟩
        refine KBlock_h ?_
        refine KSeq_n ?_
        refine WC_seq ?_
        refine WC_seq ?_
        refine WC_region ?_
        refine WO_step rfl (S_pure rfl ?_)
        refine WO_step rfl (S_pure rfl ?_)
        refine WO_nil ?_
        refine KSeq_n ?_
        refine WC_cond rfl (fun hb4 => ?_) (fun hb4 => ?_)
        ·
          try simp only [decide_eq_true_eq, decide_eq_false_iff_not, Bool.not_eq_true', Bool.not_eq_false', beq_iff_eq, bne_iff_ne, beq_eq_false_iff_ne, Int.ofNat_lt, Int.ofNat_le, Int.ofNat_inj, ne_eq, gt_iff_lt, ge_iff_le] at hb4
          refine WC_seq ?_
          refine WC_region ?_
          refine WO_step rfl (S_pure rfl ?_)
          refine WO_nil ?_
          refine KSeq_n ?_
          refine WC_ret ?_
          refine KSeq_r ?_
          refine KBlock_r ?_
          refine KSeq_r ?_
          refine KLoop_r ?_
          exfalso
          have hhas : (at' es (b * 4 + s)).has = true := by simpa using hb2
          rcases hsm with ⟨_, hno⟩ | ⟨k, x, rfl, _⟩
          · obtain ⟨x, hx, hf⟩ := hleft.some (by omega) hhas
            rw [hq4, hno x hx] at hf; cases hf
          · omega
        ·
          try simp only [decide_eq_true_eq, decide_eq_false_iff_not, Bool.not_eq_true', Bool.not_eq_false', beq_iff_eq, bne_iff_ne, beq_eq_false_iff_ne, Int.ofNat_lt, Int.ofNat_le, Int.ofNat_inj, ne_eq, gt_iff_lt, ge_iff_le] at hb4
          have hhas : (at' es (b * 4 + s)).has = true := by simpa using hb2
          obtain ⟨k, x, rfl, hkx, hfit⟩ : ∃ (k : Nat) (x : Kv), sm = (k : Int) ∧ L[k]? = some x ∧ fits x (at' es (b * 4 + s)) b = true := by
            rcases hsm with ⟨h, _⟩ | h
            · rw [h] at hb4; exact absurd hb4 (by decide)
            · exact h
          have hkl := (List.getElem?_eq_some_iff.1 hkx).1
          have hsplit : L = L.take k ++ x :: L.drop (k + 1) := by
            obtain ⟨hlt, he⟩ := List.getElem?_eq_some_iff.1 hkx
            rw [← he]; simp
          clear hsm
          refine WC_skip ?_
          refine KSeq_n ?_
          refine WC_region ?_
          refine WO_step rfl (S_pure rfl ?_)
          refine WO_step rfl (S_pure rfl ?_)
          refine WO_step rfl (S_pure rfl ?_)
          refine WO_step rfl (S_cutV (a := 0) (b := k) (m := k) rfl RD.head (by rfl) LB.dflt (LB.mk rfl rfl) (LB.mk rfl rfl) (by omega) (by omega) (by omega) ?_)
          refine WO_step rfl (S_pure rfl ?_)
          refine WO_step rfl (S_pure rfl ?_)
          first | refine WO_step rfl (S_addN (b := 1) rfl rfl (by omega) ?_) | refine WO_step rfl (S_pure rfl ?_)
          refine WO_step rfl (S_cutV (a := k + 1) (b := L.length) (m := L.length) rfl RD.head (by rfl) (LB.mk rfl rfl) LB.dflt LB.dflt (by omega) (by omega) (by omega) ?_)
          refine WO_step rfl (S_appD (T := TKv) (lo := 0) (n := k) (ys := L.drop (k + 1)) rfl rfl .head rfl (by omega) (RD.src (RD.tailSl RD.head rfl (by omega))) rfl rfl (by rw [List.length_drop]; omega) fun w98 => ?_)
          rw [List.drop_zero]
          refine WO_step rfl (S_pure rfl ?_)
          refine WO_nil ?_
          refine KBlock_n ?_
          refine KSeq_n ?_
          refine WC_region ?_
          refine WO_step rfl (S_pure rfl ?_)
          first | refine WO_step rfl (S_addN (b := 1) rfl rfl (by omega) ?_) | refine WO_step rfl (S_pure rfl ?_)
          refine WO_step rfl (S_pure rfl ?_)
          refine WO_nil ?_
          refine KLoop_n ?_
          rw [hsplit] at hleft
          have hl2 := hleft.take (by omega) hhas (by rw [hq4]; exact hfit)
          exact WC_weak (ih (4 - (s + 1)) (by omega) (s + 1) w98 (L.take k ++ L.drop (k + 1)) rfl (by omega) hl2 (fun y hy => hall y (by rcases List.mem_append.1 hy with hy | hy; exact List.mem_of_mem_take hy; exact List.mem_of_mem_drop hy)) (by rw [List.length_append, List.length_take, List.length_drop]; omega)) (by repeat (first | exact SubE.nil | apply SubE.cons rfl)) (by repeat (first | exact HSub.refl | refine HSub.pick (by repeat (first | exact Pick.head | apply Pick.tail)) ?_ | apply HSub.drop))
    ·
      try simp only [decide_eq_true_eq, decide_eq_false_iff_not, Bool.not_eq_true', Bool.not_eq_false', beq_iff_eq, bne_iff_ne, beq_eq_false_iff_ne, Int.ofNat_lt, Int.ofNat_le, Int.ofNat_inj, ne_eq, gt_iff_lt, ge_iff_le] at hb1
      refine WC_exit ?_
      refine KSeq_x ?_
      refine KLoop_x ?_
      have e4 : s = 4 := by omega
      subst e4
      exact KPost_i (by repeat (first | exact SubE.nil | apply SubE.cons rfl)) (by repeat (first | exact HSub.refl | refine HSub.pick (by repeat (first | exact Pick.head | apply Pick.tail)) ?_ | apply HSub.drop)) ⟨w, L, rfl, rfl, rfl, hleft, hall, hL⟩
theorem lp_lies_0 {H : SH} {i n : Nat} {es : List Ent} (g : Good es) (v1 : Value) : ∀ (m b : Nat) (w : SV) (L : List Kv), 8 - b = m → b ≤ 8 → Left es (b * 4) L → (∀ x ∈ L, x.h < 18446744073709551616) → L.length ≤ 100 →
    WC F X (.loop L_loesslaw17_lies_0) [(6, .int .i64 (b : Int)), (0, .pointer (some ⟨i, 0, none⟩)), (1, v1), (5, w.toV)] (SL w.toV TKv L :: DO i es n :: H)
      (KPost fun x l' H' => ∃ (w : SV), x = .exit 0 ∧ l' = [(0, .pointer (some ⟨i, 0, none⟩)), (1, v1), (5, w.toV)] ∧ H' = SL w.toV TKv [] :: DO i es n :: H) := by
  intro m
  induction m using Nat.strongRecOn with
  | _ m ih =>
    intro b w L hm hb hleft hall hL
    refine WC_loop ?_
    refine WC_seq ?_
    refine WC_seq ?_
    refine WC_region ?_
    refine WO_step rfl (S_pure rfl ?_)
    refine WO_step rfl (S_pure rfl ?_)
    refine WO_nil ?_
    refine KSeq_n ?_
    refine WC_cond rfl (fun hb1 => ?_) (fun hb1 => ?_)
    ·
      try simp only [decide_eq_true_eq, decide_eq_false_iff_not, Bool.not_eq_true', Bool.not_eq_false', beq_iff_eq, bne_iff_ne, beq_eq_false_iff_ne, Int.ofNat_lt, Int.ofNat_le, Int.ofNat_inj, ne_eq, gt_iff_lt, ge_iff_le] at hb1
      refine WC_skip ?_
      refine KSeq_n ?_
      refine WC_seq ?_
      refine WC_block ?_
      refine WC_seq ?_
      refine WC_region ?_
      refine WO_step rfl (S_pure rfl ?_)
      refine WO_nil ?_
      refine KSeq_n ?_
      refine WC_block ?_
      --out x2
      refine WC_post (WC_weak (lp_lies_1 (H := H) (i := i) (n := n) g (by omega) v1 4 0 w L (by omega) (by omega) hleft hall hL) (by repeat (first | exact SubE.nil | apply SubE.cons rfl)) (by repeat (first | exact HSub.refl | refine HSub.pick (by repeat (first | exact Pick.head | apply Pick.tail)) ?_ | apply HSub.drop))) ?_
      rintro x l' _ ⟨w', L', rfl, rfl, rfl, hleft', hall', hL'⟩
      refine KBlock_h ?_
      refine KBlock_n ?_
      refine KSeq_n ?_
      refine WC_region ?_
      refine WO_step rfl (S_pure rfl ?_)
      first | refine WO_step rfl (S_addN (b := 1) rfl rfl (by omega) ?_) | refine WO_step rfl (S_pure rfl ?_)
      refine WO_step rfl (S_pure rfl ?_)
      refine WO_nil ?_
      refine KLoop_n ?_
      exact WC_weak (ih (8 - (b + 1)) (by omega) (b + 1) w' L' rfl (by omega) (by rw [show (b + 1) * 4 = b * 4 + 4 by omega]; exact hleft') hall' hL') (by repeat (first | exact SubE.nil | apply SubE.cons rfl)) (by repeat (first | exact HSub.refl | refine HSub.pick (by repeat (first | exact Pick.head | apply Pick.tail)) ?_ | apply HSub.drop))
    ·
      try simp only [decide_eq_true_eq, decide_eq_false_iff_not, Bool.not_eq_true', Bool.not_eq_false', beq_iff_eq, bne_iff_ne, beq_eq_false_iff_ne, Int.ofNat_lt, Int.ofNat_le, Int.ofNat_inj, ne_eq, gt_iff_lt, ge_iff_le] at hb1
      refine WC_exit ?_
      refine KSeq_x ?_
      refine KLoop_x ?_
      have e8 : b = 8 := by omega
      subst e8
      have hnil := hleft.end'
      subst hnil
      exact KPost_i (by repeat (first | exact SubE.nil | apply SubE.cons rfl)) (by repeat (first | exact HSub.refl | refine HSub.pick (by repeat (first | exact Pick.head | apply Pick.tail)) ?_ | apply HSub.drop)) ⟨w, rfl, rfl, rfl⟩
theorem sp_lies {H H0 : SH} {i : Nat} {es : List Ent} {v1 : Value} {l : List Kv} (g : Good es) (hp : Pick (DO i es l.length) H H0) (hv : RD H v1 TKv l) (hh : Holds es l) (hall : ∀ x ∈ l, x.h < 18446744073709551616) (hL : l.length ≤ 100) : WF F X f_loesslaw17_lies [.pointer (some ⟨i, 0, none⟩), v1] H (fun r H' => H' = H ∧ r = .bool true) := by
  have hel := g.len
  refine WF_fn F_loesslaw17_lies ?_
  refine WC_seq ?_
  refine WC_region ?_
  refine WO_step rfl (S_pure rfl ?_)
  refine WO_nil ?_
  refine KSeq_n ?_
  refine WC_seq ?_
  refine WC_region ?_
  refine WO_step rfl (S_pure rfl ?_)
  refine WO_step rfl (S_appN rfl rfl (by first | exact SRC.str rfl rfl | (apply RD.src; repeat (first | assumption | exact RD.head | exact RD.nil | apply RD.tail))) (by rfl) (by rfl) (by (try simp only [List.length_append, List.length_cons, List.length_nil]); omega) fun w21 => ?_)
  refine WO_step rfl (S_pure rfl ?_)
  refine WO_nil ?_
  refine KSeq_n ?_
  refine WC_seq ?_
  refine WC_seq ?_
  refine WC_region ?_
  refine WO_step rfl (S_pure rfl ?_)
  refine WO_nil ?_
  refine KSeq_n ?_
  refine WC_block ?_
  --out x0
  refine WC_post (WC_weak (lp_lies_0 (H := H0) (i := i) (n := l.length) g v1 8 0 w21 l (by omega) (by omega) (Left.start hh) hall hL) (by repeat (first | exact SubE.nil | apply SubE.cons rfl)) (HSub.pick .head (HSub.pick hp HSub.refl))) ?_
  rintro x l' _ ⟨w', rfl, rfl, rfl⟩
  have hv' : RD (DO i es l.length :: H0) v1 TKv l := hv.sub hp.back
  refine KBlock_h ?_
  refine KSeq_n ?_
  refine WC_seq ?_
  refine WC_region ?_
  refine WO_step rfl (S_pure rfl ?_)
  refine WO_call rfl rfl rfl ?_
  refine (sp_AtNo (b := 8) (s := 0) (.inl (by omega))).mono ?_
  rintro _ _ ⟨rfl, rfl⟩
  refine WO_step rfl (S_pure rfl ?_)
  refine WO_step rfl (S_pure rfl ?_)
  refine WO_step rfl (S_pure rfl ?_)
  refine WO_step rfl (S_pure rfl ?_)
  refine WO_step rfl (S_pure rfl ?_)
  refine WO_step rfl (S_pure rfl ?_)
  refine WO_step rfl (S_pure rfl ?_)
  refine WO_nil ?_
  refine KSeq_n ?_
  refine WC_seq ?_
  refine WC_region ?_
  refine WO_step rfl (S_pure rfl ?_)
  refine WO_call rfl rfl rfl ?_
  refine (sp_AtNo (b := 0) (s := 4) (.inr (by omega))).mono ?_
  rintro _ _ ⟨rfl, rfl⟩
  refine WO_step rfl (S_pure rfl ?_)
  refine WO_step rfl (S_pure rfl ?_)
  refine WO_step rfl (S_pure rfl ?_)
  refine WO_step rfl (S_pure rfl ?_)
  refine WO_step rfl (S_pure rfl ?_)
  refine WO_step rfl (S_pure rfl ?_)
  refine WO_step rfl (S_pure rfl ?_)
  refine WO_nil ?_
  refine KSeq_n ?_
  refine WC_seq ?_
  refine WC_region ?_
  refine WO_step rfl (S_pure rfl ?_)
  first | refine WO_step rfl (S_pure rfl ?_) | refine WO_step rfl (S_lenS rfl (by repeat (first | assumption | exact RD.head | exact RD.nil | apply RD.tail)) ?_)
  first | refine WO_step rfl (S_eqS rfl rfl ?_) | refine WO_step rfl (S_pure rfl ?_)
  refine WO_step rfl (S_pure rfl ?_)
  refine WO_cases (t := 114) rfl (fun hg1 => ?_) (fun hg1 => ?_)
  ·
    try simp only [decide_eq_true_eq, decide_eq_false_iff_not, Bool.not_eq_true', Bool.not_eq_false', beq_iff_eq, bne_iff_ne, beq_eq_false_iff_ne, Int.ofNat_lt, Int.ofNat_le, Int.ofNat_inj, ne_eq, gt_iff_lt, ge_iff_le] at hg1
    refine WO_step rfl (S_pure rfl ?_)
    refine WO_step rfl (S_pure rfl ?_)
    refine WO_step rfl (S_pure rfl ?_)
    refine WO_step rfl (S_pure rfl ?_)
    refine WO_cases (t := 118) rfl (fun hg2 => ?_) (fun hg2 => ?_)
    ·
      try simp only [decide_eq_true_eq, decide_eq_false_iff_not, Bool.not_eq_true', Bool.not_eq_false', beq_iff_eq, bne_iff_ne, beq_eq_false_iff_ne, Int.ofNat_lt, Int.ofNat_le, Int.ofNat_inj, ne_eq, gt_iff_lt, ge_iff_le] at hg2
      refine WO_step rfl (S_pure rfl ?_)
      refine WO_step rfl (S_pure rfl ?_)
      refine WO_step rfl (S_pure rfl ?_)
      refine WO_step rfl (S_pure rfl ?_)
      refine WO_cases (t := 122) rfl (fun hg3 => ?_) (fun hg3 => ?_)
      ·
        try simp only [decide_eq_true_eq, decide_eq_false_iff_not, Bool.not_eq_true', Bool.not_eq_false', beq_iff_eq, bne_iff_ne, beq_eq_false_iff_ne, Int.ofNat_lt, Int.ofNat_le, Int.ofNat_inj, ne_eq, gt_iff_lt, ge_iff_le] at hg3
        refine WO_step rfl (S_pure rfl ?_)
        refine WO_call rfl rfl rfl ?_
        refine (sp_Len hel (by repeat (first | exact Pick.head | apply Pick.tail))).mono ?_
        rintro _ _ ⟨rfl, rfl⟩
        refine WO_step rfl (S_pure rfl ?_)
        first | refine WO_step rfl (S_pure rfl ?_) | refine WO_step rfl (S_lenS rfl (by repeat (first | assumption | exact RD.head | exact RD.nil | apply RD.tail)) ?_)
        first | refine WO_step rfl (S_eqS rfl rfl ?_) | refine WO_step rfl (S_pure rfl ?_)
        refine WO_step rfl (S_pure rfl ?_)
        refine WO_step rfl (S_pure rfl ?_)
        refine WO_nil ?_
        refine KSeq_n ?_
        refine WC_ret ?_
        refine KFn_r (ResL.tmp rfl ResL.nil) ?_
        exact ⟨H, (HSub.refl.drop).trans hp.back, rfl, by simp [resV]⟩
      ·
        try simp only [decide_eq_true_eq, decide_eq_false_iff_not, Bool.not_eq_true', Bool.not_eq_false', beq_iff_eq, bne_iff_ne, beq_eq_false_iff_ne, Int.ofNat_lt, Int.ofNat_le, Int.ofNat_inj, ne_eq, gt_iff_lt, ge_iff_le] at hg3
        refine WO_off rfl ?_
        refine WO_off rfl ?_
        refine WO_off rfl ?_
        refine WO_off rfl ?_
        refine WO_off rfl ?_
        refine WO_step rfl (S_pure rfl ?_)
        refine WO_step rfl (S_pure rfl ?_)
        refine WO_nil ?_
        refine KSeq_n ?_
        refine WC_ret ?_
        refine KFn_r (ResL.tmp rfl ResL.nil) ?_
        exact absurd hg3 (by simp)
    ·
      try simp only [decide_eq_true_eq, decide_eq_false_iff_not, Bool.not_eq_true', Bool.not_eq_false', beq_iff_eq, bne_iff_ne, beq_eq_false_iff_ne, Int.ofNat_lt, Int.ofNat_le, Int.ofNat_inj, ne_eq, gt_iff_lt, ge_iff_le] at hg2
      refine WO_off rfl ?_
      refine WO_off rfl ?_
      refine WO_step rfl (S_pure rfl ?_)
      refine WO_step rfl (S_pure rfl ?_)
      refine WO_off rfl ?_
      refine WO_off rfl ?_
      refine WO_off rfl ?_
      refine WO_off rfl ?_
      refine WO_off rfl ?_
      refine WO_step rfl (S_pure rfl ?_)
      refine WO_step rfl (S_pure rfl ?_)
      refine WO_nil ?_
      refine KSeq_n ?_
      refine WC_ret ?_
      refine KFn_r (ResL.tmp rfl ResL.nil) ?_
      exact absurd hg2 (by simp)
  ·
    try simp only [decide_eq_true_eq, decide_eq_false_iff_not, Bool.not_eq_true', Bool.not_eq_false', beq_iff_eq, bne_iff_ne, beq_eq_false_iff_ne, Int.ofNat_lt, Int.ofNat_le, Int.ofNat_inj, ne_eq, gt_iff_lt, ge_iff_le] at hg1
    refine WO_off rfl ?_
    refine WO_off rfl ?_
    refine WO_step rfl (S_pure rfl ?_)
    refine WO_step rfl (S_pure rfl ?_)
    refine WO_off rfl ?_
    refine WO_off rfl ?_
    refine WO_step rfl (S_pure rfl ?_)
    refine WO_step rfl (S_pure rfl ?_)
    refine WO_off rfl ?_
    refine WO_off rfl ?_
    refine WO_off rfl ?_
    refine WO_off rfl ?_
    refine WO_off rfl ?_
    refine WO_step rfl (S_pure rfl ?_)
    refine WO_step rfl (S_pure rfl ?_)
    refine WO_nil ?_
    refine KSeq_n ?_
    refine WC_ret ?_
    refine KFn_r (ResL.tmp rfl ResL.nil) ?_
    exact absurd hg1 (by simp)
end Go.Proofs.Ytnffcpafglfebaa.AM
