/- Walks: what the functions compute. -/
import Derived.Test.YtaadijbfkbdhoaaOc
namespace Go.Proofs.Ytaadijbfkbdhoaa.AM
open Go
set_option linter.unusedSimpArgs false
set_option linter.unusedVariables false
set_option maxRecDepth 4000

/-! ### The law OrderKeys -/
def keysOf (l : List Rec) : List ByteArray := l.map (·.key)
theorem snoc_of_pos {α : Type} {A : List α} (h : 0 < A.length) : ∃ B y, A = B ++ [y] := by
  have hne : A ≠ [] := by intro e; rw [e] at h; exact absurd h (by simp)
  exact ⟨A.dropLast, A.getLast hne, (List.dropLast_concat_getLast hne).symm⟩
theorem setR_perm {r : Rec} : ∀ {l : List Rec} {d : Bool}, (∀ y ∈ l, y.key ≠ r.key) → (setR r l d).Perm (if d then l else r :: l)
  | [], true, _ => by simp [setR]
  | [], false, _ => by simp [setR]
  | x :: l, true, h => by
    have hx := h x (List.mem_cons_self ..)
    have := setR_perm (r := r) (l := l) (d := true) (fun y hy => h y (List.mem_cons_of_mem _ hy))
    rw [setR_c5 hx]
    exact this.cons x
  | x :: l, false, h => by
    have hx := h x (List.mem_cons_self ..)
    have h1 := setR_perm (r := r) (l := l) (d := true) (fun y hy => h y (List.mem_cons_of_mem _ hy))
    have h2 := setR_perm (r := r) (l := l) (d := false) (fun y hy => h y (List.mem_cons_of_mem _ hy))
    by_cases hlt : kl x < kl r
    · rw [setR_c3 hlt hx]
      exact (h2.cons x).trans (List.Perm.swap r x l)
    · rw [setR_c1 hlt hx]
      exact (h1.cons x).cons r
theorem newest_perm {l : List Rec} (h : (keysOf l).Nodup) : (newest l).Perm l := by
  have key : ∀ (n : Nat) (l : List Rec), l.length = n → (keysOf l).Nodup → (newest l).Perm l := by
    intro n
    induction n with
    | zero => intro l hl _; rw [List.length_eq_zero_iff.1 hl]; exact List.Perm.refl _
    | succ n ih =>
      intro l hl hn
      obtain ⟨B, y, rfl⟩ := snoc_of_pos (A := l) (by omega)
      rw [newest_snoc]
      unfold keysOf at hn
      rw [List.map_append, List.nodup_append] at hn
      have hB := ih B (by simp at hl; exact hl) hn.1
      refine (setR_perm (d := false) (fun z hz => ?_)).trans ?_
      · exact fun e => hn.2.2 z.key (List.mem_map.2 ⟨z, hB.mem_iff.1 hz, rfl⟩) y.key (by simp) e
      · simp only [Bool.false_eq_true, if_false]
        exact (hB.cons y).trans (List.perm_append_singleton y B).symm
  exact key _ l rfl h
/-- Is there room for a key, by the document? -/
theorem filter_set_perm {α : Type} {p : α → Bool} {x y : α} (hp : p y = true) (hx : p x = false) : ∀ {l : List α} {k : Nat}, l[k]? = some x → ((l.set k y).filter p).Perm (y :: l.filter p)
  | [], k, h => by simp at h
  | z :: l, 0, h => by
    simp at h; subst h
    rw [List.set_cons_zero, List.filter_cons_of_pos hp, List.filter_cons_of_neg (by rw [hx]; decide)]
  | z :: l, k + 1, h => by
    rw [List.getElem?_cons_succ] at h
    have ih := filter_set_perm hp hx h
    rw [List.set_cons_succ]
    cases hz : p z with
    | true =>
      rw [List.filter_cons_of_pos hz, List.filter_cons_of_pos hz]
      exact (ih.cons z).trans (List.Perm.swap y z _)
    | false =>
      rw [List.filter_cons_of_neg (by rw [hz]; decide), List.filter_cons_of_neg (by rw [hz]; decide)]
      exact ih
/-- Two records laid. -/
theorem lay2 {a b : ByteArray} (ha1 : 1 ≤ a.size) (ha2 : a.size ≤ 16) (hb1 : 1 ≤ b.size) (hb2 : b.size ≤ 16) (hab : a ≠ b) : (tRecs (layN [goneR a, goneR b] [] 2) 32).Perm [goneR b, goneR a] := by
  have hfa := frst_lt (kH a)
  have hfb := frst_lt (kH b)
  have h1 := lay1 ha1 ha2 [goneR b]
  generalize hT : zeroT.set (4 * frst (kH a)) ⟨true, goneR a⟩ = T1 at h1
  have hl1 : T1.length = 32 := by rw [← hT, List.length_set]; exact zeroT_len
  have hfil : T1.filter (·.has) = [⟨true, goneR a⟩] := by rw [← hT]; exact filter_set rfl zeroT_has (by rw [zeroT_len]; omega)
  have hkeys : ∀ k, k ∈ tKeys T1 32 → k = a := by
    intro k hk
    rw [← tRecs_keys, tRecs_all hl1, hfil] at hk
    simpa [goneR] using hk
  have hsk : skipR T1 (goneR b) = false := by
    unfold skipR
    rw [goneR_may hb1 hb2]
    cases hs : (fnd (newest (tRecs T1 32)) (goneR b).key).isSome with
    | false => rfl
    | true => exact absurd (hkeys b ((skip_iff _ _).1 hs)).symm hab
  have hz : T1[4 * frst (kH b) + 1]? = some slt0 := by
    rw [← hT, List.getElem?_set, if_neg (by omega)]
    unfold zeroT
    rw [List.getElem?_replicate, if_pos (by omega)]
  have h2 : layN [goneR a, goneR b] [] 2 = T1.set (4 * frst (kH b) + 1) ⟨true, goneR b⟩ := by
    rw [layN, h1, List.getElem?_cons_succ, List.getElem?_cons_zero]
    simp only []
    rw [cut_goneR (by omega)]
    unfold layStep
    rw [hsk, if_neg (by decide), placeN]
    have hb : bktOf (goneR b).key (([] : List Bool).getD 1 false) = frst (kH b) := by
      unfold bktOf
      rw [if_neg (by simp)]
      unfold goneR; rfl
    rw [hb, show (4 - (3 + 1) + 1) % 4 = 1 from rfl]
    rw [if_neg (by rw [List.getD_eq_getElem?_getD, hz]; decide)]
  rw [h2, tRecs_all (by rw [List.length_set]; exact hl1)]
  have := (filter_set_perm (p := fun x : SlT => x.has) (y := ⟨true, goneR b⟩) rfl rfl hz).map (·.r)
  rw [hfil] at this
  exact this
theorem lay2_end {a b : ByteArray} (ha1 : 1 ≤ a.size) (ha2 : a.size ≤ 16) (hb1 : 1 ≤ b.size) (hb2 : b.size ≤ 16) (hab : a ≠ b) : ∃ x y, newest (tRecs (lay [goneR a, goneR b] []) 32) = [x, y] ∧ kl x < kl y := by
  have h2 := lay2 ha1 ha2 hb1 hb2 hab
  have he := layN_end (l := [goneR a, goneR b]) (turn := []) (i := 2) (by simp) 38
  have : lay [goneR a, goneR b] [] = layN [goneR a, goneR b] [] 2 := by unfold lay; rw [← he]
  rw [this]
  generalize layN [goneR a, goneR b] [] 2 = W at h2
  have hn : (keysOf (tRecs W 32)).Nodup := by
    unfold keysOf
    rw [(h2.map (·.key)).nodup_iff]
    simp [goneR]
    exact fun e => hab e.symm
  have hlen := (newest_perm hn).length_eq.trans h2.length_eq
  have hinc := (newest_spec (tRecs W 32)).1
  match hN : newest (tRecs W 32), hlen with
  | [x, y], _ =>
    rw [hN] at hinc
    exact ⟨x, y, rfl, by simpa [Inc] using hinc⟩
theorem S_ltS {l : SE} {H : SH} {K : Value → SH → Prop} {x y : Opd} {a b : ByteArray} (hx : x.lv l = some (.string a)) (hy : y.lv l = some (.string b)) (k : K (.bool (decide (a.data.toList < b.data.toList))) H) : Step (.bin .lss x y) l H K :=
  S_pureE (v := .bool (Op.bytesLess a.toList b.toList)) (by simp only [pev, hx, hy, binV, strBin]) (by rw [bytesLess_eq, toList_data, toList_data]) k
theorem S_lit2R {l : SE} {H : SH} {K : Value → SH → Prop} {x y : Opd} {zs : List Value} {a b : Rec} (hx : x.lv l = some (TRec.val a)) (hy : y.lv l = some (TRec.val b)) (hz : zs.length = 10) (kk : ∀ w : SV, K w.toV (SL w.toV TRec [a, b] :: H)) : Step (.lit 28 5 2 zs [(0, (5, x)), (5, (5, y))]) l H K := by
  have e : lfill l zs [(0, (5, x)), (5, (5, y))] = some (TRec.enc a ++ TRec.enc b) := by
    match zs, hz with
    | [z1, z2, z3, z4, z5, z6, z7, z8, z9, z10], _ => simp only [lfill, hx, hy]; rfl
  exact S_lit e rfl rfl fun w => kk w
theorem sp_Cut3' {H : SH} {s : ByteArray} {n : Nat} : WF F X f_loesslaw3_Cut [.string s, .int .i64 n] H (fun r H' => H' = H ∧ r = .string (cut s n)) := by
  refine WF_fn F_loesslaw3_Cut ?_
  refine WC_seq ?_
  refine WC_region ?_
  refine WO_step rfl (S_pure rfl ?_)
  refine WO_nil ?_
  refine KSeq_n ?_
  refine WC_seq ?_
  refine WC_seq ?_
  refine WC_region ?_
  refine WO_step rfl (S_pure rfl ?_)
  refine WO_step rfl (S_pure rfl ?_)
  refine WO_step rfl (S_pure rfl ?_)
  refine WO_step rfl (S_pure rfl ?_)
  refine WO_nil ?_
  refine KSeq_n ?_
  refine WC_cond rfl (fun hb1 => ?_) (fun hb1 => ?_)
  ·
    try simp only [bsT] at hb1
    refine WC_seq ?_
    refine WC_region ?_
    refine WO_step rfl (S_pure rfl ?_)
    refine WO_step rfl (S_pure rfl ?_)
    refine WO_step rfl (S_cutS rfl LB.dflt (LB.mk rfl rfl) ?_ ?_ ?_)
    · omega
    · omega
    refine WO_step rfl (S_pure rfl ?_)
    refine WO_nil ?_
    refine KSeq_n ?_
    refine WC_ret ?_
    refine KSeq_r ?_
    refine KFn_r (ResL.tmp rfl ResL.nil) ?_
    refine ⟨_, hsA, rfl, ?_⟩
    simp [resV, cut, hb1]
  ·
    try simp only [bsT] at hb1
    refine WC_skip ?_
    refine KSeq_n ?_
    refine WC_seq ?_
    refine WC_region ?_
    refine WO_step rfl (S_pure rfl ?_)
    refine WO_step rfl (S_pure rfl ?_)
    refine WO_nil ?_
    refine KSeq_n ?_
    refine WC_ret ?_
    refine KFn_r (ResL.tmp rfl ResL.nil) ?_
    refine ⟨_, hsA, rfl, ?_⟩
    simp [resV, cut, hb1]
theorem law_OrderKeys {H : SH} {a b : ByteArray} (_ : a.size ≤ maxLen) (_ : b.size ≤ maxLen) : WF F X f_loesslaw19_OrderKeys [.string a, .string b] H (fun v _ => v = .bool true) := by
  refine WF_addNil (T := TBool) ?_
  have ha := cut_size a 16
  have hb := cut_size b 16
  refine WF_fn F_loesslaw19_OrderKeys ?_
  refine WC_seq ?_
  refine WC_region ?_
  refine WO_step rfl (S_pure rfl ?_)
  refine WO_nil ?_
  refine KSeq_n ?_
  refine WC_seq ?_
  refine WC_region ?_
  refine WO_call rfl rfl rfl ?_
  refine sp_begunT.mono ?_
  rintro _ _ ⟨rfl, rfl⟩
  refine WO_step rfl (S_pure rfl ?_)
  refine WO_nil ?_
  refine KSeq_n ?_
  refine WC_seq ?_
  refine WC_seq ?_
  refine WC_region ?_
  refine WO_step rfl (S_pure rfl ?_)
  refine WO_step rfl (S_pure rfl ?_)
  refine WO_nil ?_
  refine KSeq_n ?_
  refine WC_cond rfl (fun hb1 => ?_) (fun hb1 => ?_)
  ·
    try simp only [bsT] at hb1
    exact absurd hb1 (by simp)
    --stop
  ·
    try simp only [bsT] at hb1
    refine WC_skip ?_
    refine KSeq_n ?_
    refine WC_seq ?_
    refine WC_region ?_
    refine WO_step rfl (S_pure rfl ?_)
    refine WO_call rfl rfl rfl ?_
    refine (sp_Cut3' (n := 16)).mono ?_
    rintro _ _ ⟨rfl, rfl⟩
    refine WO_step rfl (S_pure rfl ?_)
    refine WO_call rfl rfl rfl ?_
    refine (sp_Cut3' (n := 16)).mono ?_
    rintro _ _ ⟨rfl, rfl⟩
    generalize cut a 16 = a' at *
    generalize cut b 16 = b' at *
    refine WO_step rfl (S_pure rfl ?_)
    refine WO_step rfl (S_pure rfl ?_)
    refine WO_nil ?_
    refine KSeq_n ?_
    refine WC_seq ?_
    refine WC_seq ?_
    refine WC_region ?_
    refine WO_step rfl (S_pure rfl ?_)
    first | refine WO_step rfl (S_eqS rfl rfl ?_) | refine WO_step rfl (S_pure rfl ?_)
    refine WO_step rfl (S_pure rfl ?_)
    refine WO_cases (t := 17) rfl (fun hg1 => ?_) (fun hg1 => ?_)
    ·
      try simp only [bsT] at hg1
      refine WO_off rfl ?_
      refine WO_off rfl ?_
      refine WO_step rfl (S_pure rfl ?_)
      refine WO_step rfl (S_pure rfl ?_)
      refine WO_off rfl ?_
      refine WO_off rfl ?_
      refine WO_off rfl ?_
      refine WO_step rfl (S_pure rfl ?_)
      refine WO_nil ?_
      refine KSeq_n ?_
      refine WC_cond rfl (fun _ => ?_) (fun h => ?_)
      rotate_left
      · exact absurd h (by decide)
      refine WC_seq ?_
      refine WC_region ?_
      refine WO_step rfl (S_pure rfl ?_)
      refine WO_nil ?_
      refine KSeq_n ?_
      refine WC_ret ?_
      refine KSeq_r ?_
      refine KFn_r (ResL.tmp rfl ResL.nil) ?_
      exact ⟨_, HSub.refl, rfl⟩
    ·
      try simp only [bsT] at hg1
      refine WO_step rfl (S_pure rfl ?_)
      first | refine WO_step rfl (S_eqS rfl rfl ?_) | refine WO_step rfl (S_pure rfl ?_)
      refine WO_step rfl (S_pure rfl ?_)
      refine WO_step rfl (S_pure rfl ?_)
      refine WO_cases (t := 21) rfl (fun hg2 => ?_) (fun hg2 => ?_)
      ·
        try simp only [bsT] at hg2
        refine WO_off rfl ?_
        refine WO_off rfl ?_
        refine WO_off rfl ?_
        refine WO_step rfl (S_pure rfl ?_)
        refine WO_nil ?_
        refine KSeq_n ?_
        refine WC_cond rfl (fun _ => ?_) (fun h => ?_)
        rotate_left
        · exact absurd h (by decide)
        refine WC_seq ?_
        refine WC_region ?_
        refine WO_step rfl (S_pure rfl ?_)
        refine WO_nil ?_
        refine KSeq_n ?_
        refine WC_ret ?_
        refine KSeq_r ?_
        refine KFn_r (ResL.tmp rfl ResL.nil) ?_
        exact ⟨_, HSub.refl, rfl⟩
      ·
        try simp only [bsT] at hg2
        refine WO_step rfl (S_pure rfl ?_)
        refine WO_step rfl (S_pure rfl ?_)
        first | refine WO_step rfl (S_eqS rfl rfl ?_) | refine WO_step rfl (S_pure rfl ?_)
        refine WO_step rfl (S_pure rfl ?_)
        refine WO_nil ?_
        refine KSeq_n ?_
        refine WC_cond rfl (fun hb2 => ?_) (fun hb2 => ?_)
        ·
          try simp only [bsT] at hb2
          refine WC_seq ?_
          refine WC_region ?_
          refine WO_step rfl (S_pure rfl ?_)
          refine WO_nil ?_
          refine KSeq_n ?_
          refine WC_ret ?_
          refine KSeq_r ?_
          refine KFn_r (ResL.tmp rfl ResL.nil) ?_
          exact ⟨_, HSub.refl, rfl⟩
        ·
          try simp only [bsT] at hb2
          have ha1 : 1 ≤ a'.size := by
            rcases Nat.eq_zero_or_pos a'.size with h | h
            · exact absurd (ByteArray.size_eq_zero_iff.1 h) hg1
            · omega
          have hb1' : 1 ≤ b'.size := by
            rcases Nat.eq_zero_or_pos b'.size with h | h
            · exact absurd (ByteArray.size_eq_zero_iff.1 h) hg2
            · omega
          have g0 : GoodT (lay [goneR a', goneR b'] []) := lay_good (fun x hx => by
            simp at hx
            rcases hx with rfl | rfl
            · rw [cut_goneR (by omega)]; exact goneR_wf (by omega)
            · rw [cut_goneR (by omega)]; exact goneR_wf (by omega)) []
          obtain ⟨p, q, hpq, hlt⟩ := lay2_end ha1 ha hb1' hb hb2
          generalize hW : lay [goneR a', goneR b'] [] = W at g0 hpq
          have hl := g0.1
          have hw := g0.2.1
          have hm := g0.2.2
          have hp0 : [p, q][0]? = some p := rfl
          have hq1 : [p, q][1]? = some q := rfl
          refine WC_skip ?_
          refine KSeq_n ?_
          refine WC_seq ?_
          refine WC_region ?_
          refine WO_step rfl (S_pure rfl ?_)
          refine WO_step rfl (S_pure rfl ?_)
          refine WO_step rfl (S_pure rfl ?_)
          refine WO_step rfl (S_pure rfl ?_)
          refine WO_step rfl (S_lit2R (a := goneR a') (b := goneR b') rfl rfl rfl fun w30 => ?_)
          refine WO_call rfl rfl rfl ?_
          refine (sp_Lay (l := [goneR a', goneR b']) (turn := []) rdA rdA).mono ?_
          rintro _ _ ⟨rfl, rfl⟩
          rw [hW]
          refine WO_step rfl (S_new fun i6 => ?_)
          refine WO_step rfl (S_storeAll (T := TSlT) (xs := W) rfl rfl pkA (by rfl) (by rw [hl]; rfl) ?_)
          refine WO_nil ?_
          refine KSeq_n ?_
          refine WC_seq ?_
          refine WC_region ?_
          refine WO_step rfl (S_loadAll (T := TSlT) (xs := W) rfl pkA (by rw [hl]; rfl) ?_)
          refine WO_call rfl rfl rfl ?_
          refine (sp_OfT hl).mono ?_
          rintro _ _ ⟨rfl, rfl⟩
          refine WO_call rfl rfl rfl ?_
          refine (sp_oList hl hw.small).mono ?_
          rintro _ _ ⟨u34, rfl, rfl⟩
          rw [hpq]
          refine WO_step rfl (S_pure rfl ?_)
          refine WO_nil ?_
          refine KSeq_n ?_
          refine WC_seq ?_
          refine WC_region ?_
          refine WO_step rfl (S_pure rfl ?_)
          first | refine WO_step rfl (S_pure rfl ?_) | refine WO_step rfl (S_lenS rfl rdA ?_)
          first | refine WO_step rfl (S_eqS rfl rfl ?_) | refine WO_step rfl (S_pure rfl ?_)
          refine WO_step rfl (S_pure rfl ?_)
          refine WO_cases (t := 38) rfl (fun hg3 => ?_) (fun hg3 => ?_)
          ·
            try simp only [bsT] at hg3
            refine WO_step rfl (S_pure rfl ?_)
            refine WO_step rfl (S_idx (j := 0) rfl rfl rdA (by first | rfl | assumption | (symm; assumption)) (by rfl) (by first | assumption | omega | exact lt_of_get (by assumption) | (simp only [List.length_set]; first | assumption | omega | exact lt_of_get (by assumption))) fun hp40 => ?_)
            refine WO_step rfl (S_fldE rfl (by repeat (first | assumption | apply IsP.padd)) ?_)
            refine WO_step rfl (S_loadF rfl rdA (by rfl) (by assumption) (by rfl) (by rfl) ?_)
            refine WO_step rfl (S_pure rfl ?_)
            refine WO_step rfl (S_idx (j := 1) rfl rfl rdA (by first | rfl | assumption | (symm; assumption)) (by rfl) (by first | assumption | omega | exact lt_of_get (by assumption) | (simp only [List.length_set]; first | assumption | omega | exact lt_of_get (by assumption))) fun hp44 => ?_)
            refine WO_step rfl (S_fldE rfl (by repeat (first | assumption | apply IsP.padd)) ?_)
            refine WO_step rfl (S_loadF rfl rdA (by rfl) (by assumption) (by rfl) (by rfl) ?_)
            refine WO_step rfl (S_ltS (a := p.key) (b := q.key) rfl rfl ?_)
            refine WO_step rfl (S_pure rfl ?_)
            refine WO_step rfl (S_pure rfl ?_)
            refine WO_cases (t := 49) rfl (fun hg4 => ?_) (fun hg4 => ?_)
            ·
              try simp only [bsT] at hg4
              refine WO_step rfl (S_loadAll (T := TSlT) (xs := W) rfl pkA (by rw [hl]; rfl) ?_)
              refine WO_call rfl rfl rfl ?_
              refine (sp_OfT hl).mono ?_
              rintro _ _ ⟨rfl, rfl⟩
              refine WO_call rfl rfl rfl ?_
              refine (sp_oMay hl hw.small).mono ?_
              rintro _ _ ⟨rfl, rfl⟩
              rw [hm]
              refine WO_step rfl (S_pure rfl ?_)
              refine WO_step rfl (S_pure rfl ?_)
              refine WO_nil ?_
              refine KSeq_n ?_
              refine WC_ret ?_
              refine KFn_r (ResL.tmp rfl ResL.nil) ?_
              exact ⟨_, HSub.refl, rfl⟩
            ·
              try simp only [bsT] at hg4
              refine WO_off rfl ?_
              refine WO_off rfl ?_
              refine WO_off rfl ?_
              refine WO_step rfl (S_pure rfl ?_)
              refine WO_step rfl (S_pure rfl ?_)
              refine WO_nil ?_
              refine KSeq_n ?_
              refine WC_ret ?_
              refine KFn_r (ResL.tmp rfl ResL.nil) ?_
              exact absurd hlt hg4
          ·
            try simp only [bsT] at hg3
            refine WO_off rfl ?_
            refine WO_off rfl ?_
            refine WO_off rfl ?_
            refine WO_off rfl ?_
            refine WO_off rfl ?_
            refine WO_off rfl ?_
            refine WO_off rfl ?_
            refine WO_off rfl ?_
            refine WO_off rfl ?_
            refine WO_step rfl (S_pure rfl ?_)
            refine WO_step rfl (S_pure rfl ?_)
            refine WO_off rfl ?_
            refine WO_off rfl ?_
            refine WO_off rfl ?_
            refine WO_step rfl (S_pure rfl ?_)
            refine WO_step rfl (S_pure rfl ?_)
            refine WO_nil ?_
            refine KSeq_n ?_
            refine WC_ret ?_
            refine KFn_r (ResL.tmp rfl ResL.nil) ?_
            exact absurd rfl hg3

end Go.Proofs.Ytaadijbfkbdhoaa.AM
