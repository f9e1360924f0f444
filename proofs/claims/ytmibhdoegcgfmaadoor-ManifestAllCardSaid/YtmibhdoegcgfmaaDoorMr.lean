/- Walks: what the functions compute. -/
import Derived.Test.YtmibhdoegcgfmaaDoorMp
namespace Go.Proofs.YtmibhdoegcgfmaaDoor.AM
open Go
set_option linter.unusedSimpArgs false
set_option linter.unusedVariables false
set_option maxRecDepth 4000

/-! ### Which manifests may be, as the program has it -/
def inZ (xs : List Int) (s : Int) : Bool := xs.any fun y => decide (y = s)
theorem inZ_iff {xs : List Int} {s : Int} : inZ xs s = true ↔ s ∈ xs := by
  unfold inZ
  rw [List.any_eq_true]
  constructor
  · rintro ⟨y, h1, h2⟩; rw [← of_decide_eq_true h2]; exact h1
  · intro h; exact ⟨s, h, decide_eq_true rfl⟩
theorem lp_zidx {H : SH} {v : Value} {xs : List Int} {s : Int} (hv : RD H v TI64 xs) (hL : xs.length ≤ 1000000) : ∀ (n i : Nat), xs.length - i = n → i ≤ xs.length → (∀ y ∈ xs.take i, y ≠ s) →
    WC F X (.loop L_slices_Index_int64_0) [(8, .int .i64 (i : Int)), (7, .int .i64 (xs.length : Int)), (0, v), (1, .int .i64 s)] H
      (KPost fun x l' H' => H' = H ∧ ((x = .exit 0 ∧ l' = [] ∧ s ∉ xs) ∨ (x = .ret ∧ ∃ k : Nat, l' = [(4, .int .i64 (k : Int))] ∧ s ∈ xs))) := by
  intro n
  induction n using Nat.strongRecOn with
  | _ n ih =>
    intro i hn hi hno
    refine WC_loop ?_
    refine WC_seq ?_
    refine WC_region ?_
    refine WO_step rfl (S_pure rfl ?_)
    refine WO_nil ?_
    refine KSeq_n ?_
    refine WC_seq ?_
    refine WC_cond rfl (fun hb1 => ?_) (fun hb1 => ?_)
    ·
      try simp only [decide_eq_true_eq, decide_eq_false_iff_not, Bool.not_eq_true', Bool.not_eq_false', beq_iff_eq, bne_iff_ne, beq_eq_false_iff_ne, Int.ofNat_lt, Int.ofNat_le, Int.ofNat_inj, ne_eq, gt_iff_lt, ge_iff_le] at hb1
      obtain ⟨y, hx⟩ := get_of_lt hb1
      refine WC_skip ?_
      refine KSeq_n ?_
      refine WC_seq ?_
      refine WC_block ?_
      refine WC_seq ?_
      refine WC_region ?_
      refine WO_step rfl (S_pure rfl ?_)
      refine WO_step rfl (S_pure rfl ?_)
      refine WO_nil ?_
      refine KSeq_n ?_
      refine WC_seq ?_
      refine WC_region ?_
      refine WO_step rfl (S_pure rfl ?_)
      refine WO_step rfl (S_pure rfl ?_)
      refine WO_step rfl (S_pure rfl ?_)
      refine WO_step rfl (S_idx rfl rfl (by repeat (first | assumption | exact RD.head | exact RD.nil | apply RD.tail)) (by first | rfl | assumption | (symm; assumption)) (by rfl) (by first | assumption | omega | exact lt_of_get (by assumption) | (simp only [List.length_set]; first | assumption | omega | exact lt_of_get (by assumption))) fun hp14 => ?_)
      refine WO_step rfl (S_loadE rfl (by repeat (first | assumption | exact RD.head | exact RD.nil | apply RD.tail)) (by first | rfl | assumption | (symm; assumption)) (by first | rfl | assumption | (symm; assumption)) (by first | rfl | assumption | (symm; assumption)) (by assumption) ?_)
      first | refine WO_step rfl (S_eqS rfl rfl ?_) | refine WO_step rfl (S_pure rfl ?_)
      refine WO_nil ?_
      refine KSeq_n ?_
      refine WC_cond rfl (fun hb2 => ?_) (fun hb2 => ?_)
      ·
        try simp only [decide_eq_true_eq, decide_eq_false_iff_not, Bool.not_eq_true', Bool.not_eq_false', beq_iff_eq, bne_iff_ne, beq_eq_false_iff_ne, Int.ofNat_lt, Int.ofNat_le, Int.ofNat_inj, ne_eq, gt_iff_lt, ge_iff_le] at hb2
        refine WC_seq ?_
        refine WC_region ?_
        refine WO_step rfl (S_pure rfl ?_)
        refine WO_step rfl (S_pure rfl ?_)
        refine WO_nil ?_
        refine KSeq_n ?_
        refine WC_ret ?_
        refine KBlock_r ?_
        refine KSeq_r ?_
        refine KLoop_r ?_
        exact KPost_i (l' := [(4, .int .i64 (i : Int))]) (by repeat (first | exact SubE.nil | apply SubE.cons rfl)) (by repeat (first | exact HSub.refl | refine HSub.pick (by repeat (first | exact Pick.head | apply Pick.tail)) ?_ | apply HSub.drop)) ⟨rfl, .inr ⟨rfl, i, rfl, by rw [hb2]; exact List.mem_of_getElem? hx⟩⟩
      ·
        try simp only [decide_eq_true_eq, decide_eq_false_iff_not, Bool.not_eq_true', Bool.not_eq_false', beq_iff_eq, bne_iff_ne, beq_eq_false_iff_ne, Int.ofNat_lt, Int.ofNat_le, Int.ofNat_inj, ne_eq, gt_iff_lt, ge_iff_le] at hb2
        refine WC_skip ?_
        refine KBlock_n ?_
        refine KSeq_n ?_
        refine WC_region ?_
        first | refine WO_step rfl (S_addN (b := 1) rfl rfl (by omega) ?_) | refine WO_step rfl (S_pure rfl ?_)
        refine WO_step rfl (S_pure rfl ?_)
        refine WO_nil ?_
        refine KLoop_n ?_
        refine WC_weak (ih (xs.length - (i + 1)) (by omega) (i + 1) rfl (by omega) (fun z hz => ?_)) (by repeat (first | exact SubE.nil | apply SubE.cons rfl)) (by repeat (first | exact HSub.refl | refine HSub.pick (by repeat (first | exact Pick.head | apply Pick.tail)) ?_ | apply HSub.drop))
        rw [List.take_add_one, hx] at hz
        rcases List.mem_append.1 hz with hz | hz
        · exact hno z hz
        · simp at hz; subst hz; exact fun e => hb2 e.symm
    ·
      try simp only [decide_eq_true_eq, decide_eq_false_iff_not, Bool.not_eq_true', Bool.not_eq_false', beq_iff_eq, bne_iff_ne, beq_eq_false_iff_ne, Int.ofNat_lt, Int.ofNat_le, Int.ofNat_inj, ne_eq, gt_iff_lt, ge_iff_le] at hb1
      refine WC_exit ?_
      refine KSeq_x ?_
      refine KLoop_x ?_
      have ei : i = xs.length := by omega
      subst ei
      exact KPost_i (l' := []) SubE.nil (by repeat (first | exact HSub.refl | refine HSub.pick (by repeat (first | exact Pick.head | apply Pick.tail)) ?_ | apply HSub.drop)) ⟨rfl, .inl ⟨rfl, rfl, fun hm => hno s (by simpa using hm) rfl⟩⟩
theorem sp_zidx {H : SH} {v : Value} {xs : List Int} {s : Int} (hv : RD H v TI64 xs) (hL : xs.length ≤ 1000000) : WF F X f_slices_Index_int64 [v, .int .i64 s] H (fun r H' => H' = H ∧ ∃ J : Int, r = .int .i64 J ∧ (0 ≤ J ↔ s ∈ xs)) := by
  refine WF_fn F_slices_Index_int64 ?_
  refine WC_seq ?_
  refine WC_region ?_
  refine WO_step rfl (S_pure rfl ?_)
  refine WO_nil ?_
  refine KSeq_n ?_
  refine WC_seq ?_
  refine WC_seq ?_
  refine WC_region ?_
  refine WO_step rfl (S_pure rfl ?_)
  first | refine WO_step rfl (S_pure rfl ?_) | refine WO_step rfl (S_lenS rfl (by repeat (first | assumption | exact RD.head | exact RD.nil | apply RD.tail)) ?_)
  refine WO_step rfl (S_pure rfl ?_)
  refine WO_nil ?_
  refine KSeq_n ?_
  refine WC_block ?_
  --out r x0
  refine WC_post (WC_weak (lp_zidx (s := s) hv hL xs.length 0 (by omega) (by omega) (by simp)) (by repeat (first | exact SubE.nil | apply SubE.cons rfl)) (by repeat (first | exact HSub.refl | refine HSub.pick (by repeat (first | exact Pick.head | apply Pick.tail)) ?_ | apply HSub.drop))) ?_
  rintro x l' _ ⟨rfl, ⟨rfl, rfl, hno⟩ | ⟨rfl, k, rfl, hin⟩⟩
  rotate_left
  ·
    refine KBlock_r ?_
    refine KSeq_r ?_
    refine KFn_r (ResL.tmp rfl ResL.nil) ?_
    exact ⟨_, HSub.refl, rfl, _, rfl, by simp [hin]⟩
  ·
    refine KBlock_h ?_
    refine KSeq_n ?_
    refine WC_seq ?_
    refine WC_region ?_
    refine WO_step rfl (S_pure rfl ?_)
    refine WO_nil ?_
    refine KSeq_n ?_
    refine WC_ret ?_
    refine KFn_r (ResL.tmp rfl ResL.nil) ?_
    exact ⟨_, HSub.refl, rfl, _, rfl, by simp [hno]⟩
theorem sp_zin {H : SH} {v : Value} {xs : List Int} {s : Int} (hv : RD H v TI64 xs) (hL : xs.length ≤ 1000000) : WF F X f_slices_Contains_int64 [v, .int .i64 s] H (fun r H' => H' = H ∧ r = .bool (inZ xs s)) := by
  refine WF_fn F_slices_Contains_int64 ?_
  refine WC_seq ?_
  refine WC_region ?_
  refine WO_step rfl (S_pure rfl ?_)
  refine WO_nil ?_
  refine KSeq_n ?_
  refine WC_seq ?_
  refine WC_region ?_
  refine WO_step rfl (S_pure rfl ?_)
  refine WO_step rfl (S_pure rfl ?_)
  refine WO_call rfl rfl rfl ?_
  refine (sp_zidx (s := s) hv hL).mono ?_
  rintro _ _ ⟨rfl, J, rfl, hJ⟩
  refine WO_step rfl (S_pure rfl ?_)
  refine WO_step rfl (S_pure rfl ?_)
  refine WO_nil ?_
  refine KSeq_n ?_
  refine WC_ret ?_
  refine KFn_r (ResL.tmp rfl ResL.nil) ?_
  refine ⟨_, HSub.refl, rfl, ?_⟩
  simp only [resV]
  congr 1
  rw [Bool.eq_iff_iff, decide_eq_true_eq, inZ_iff, ← hJ]
def okM (n : Int) (l : List Int) (i : Nat) : Prop := ∀ j x, j < i → l[j]? = some x → (x = 0 ∧ j < 2) ∨ (1 ≤ x ∧ x ≤ n ∧ x ∉ l.take j)
theorem okM.step {n x : Int} {l : List Int} {i : Nat} (h : okM n l i) (hx : l[i]? = some x) (hk : (x = 0 ∧ i < 2) ∨ (1 ≤ x ∧ x ≤ n ∧ x ∉ l.take i)) : okM n l (i + 1) := fun j y hj hy => by
  by_cases e : j = i
  · subst e; rw [hx] at hy; cases hy; exact hk
  · exact h j y (by omega) hy
theorem nodup_take {xs : List Int} : xs.Nodup ↔ ∀ j x, xs[j]? = some x → x ∉ xs.take j := by
  constructor
  · intro h j x hx hm; exact not_nodup hx hm h
  · intro h
    refine List.pairwise_iff_getElem.2 fun i j hi hj hij e => ?_
    refine h j xs[j] (List.getElem?_eq_getElem hj) ?_
    rw [← e]
    exact List.mem_of_getElem? (i := i) (by rw [List.getElem?_take, if_pos hij]; exact List.getElem?_eq_getElem hi)
theorem okM_iff {n f s : Int} {xs : List Int} : okM n (f :: s :: xs) (f :: s :: xs).length ↔ 0 ≤ f ∧ 0 ≤ s ∧ okAll n (all0 f s xs) := by
  have key : okM n (f :: s :: xs) (f :: s :: xs).length ↔ (f = 0 ∨ (1 ≤ f ∧ f ≤ n)) ∧ (s = 0 ∨ (1 ≤ s ∧ s ≤ n ∧ s ≠ f)) ∧ ((∀ x ∈ xs, 1 ≤ x ∧ x ≤ n ∧ x ≠ f ∧ x ≠ s) ∧ xs.Nodup) := by
    constructor
    · intro h
      refine ⟨?_, ?_, ?_, ?_⟩
      · rcases h 0 f (by simp) rfl with h | h
        · exact .inl h.1
        · exact .inr ⟨h.1, h.2.1⟩
      · rcases h 1 s (by simp) rfl with h | h
        · exact .inl h.1
        · exact .inr ⟨h.1, h.2.1, by simpa using h.2.2⟩
      · intro x hx
        obtain ⟨j, hj⟩ := List.getElem?_of_mem hx
        have hjl := (List.getElem?_eq_some_iff.1 hj).1
        rcases h (j + 2) x (by simp; omega) (by simpa using hj) with h | h
        · omega
        · have h3 := h.2.2
          simp at h3
          exact ⟨h.1, h.2.1, h3.1, h3.2.1⟩
      · refine nodup_take.2 fun j x hj => ?_
        have hjl := (List.getElem?_eq_some_iff.1 hj).1
        rcases h (j + 2) x (by simp; omega) (by simpa using hj) with h | h
        · omega
        · have h3 := h.2.2
          simp at h3
          exact h3.2.2
    · rintro ⟨h1, h2, h3, h4⟩ j x hj hx
      match j, hx with
      | 0, hx =>
        simp at hx; subst hx
        rcases h1 with h1 | h1
        · exact .inl ⟨h1, by omega⟩
        · exact .inr ⟨h1.1, h1.2, by simp⟩
      | 1, hx =>
        simp at hx; subst hx
        rcases h2 with h2 | h2
        · exact .inl ⟨h2, by omega⟩
        · exact .inr ⟨h2.1, h2.2.1, by simpa using h2.2.2⟩
      | j + 2, hx =>
        simp at hx
        have hm := h3 x (List.mem_of_getElem? hx)
        refine .inr ⟨hm.1, hm.2.1, ?_⟩
        have := nodup_take.1 h4 j x hx
        simp [hm.2.2.1, hm.2.2.2, this]
  rw [key]
  unfold okAll all0
  by_cases hf : f = 0 <;> by_cases hs : s = 0
  · subst hf hs
    simp only [if_true, List.nil_append]
    constructor
    · rintro ⟨_, _, h3, h4⟩; exact ⟨Int.le_refl _, Int.le_refl _, fun x hx => ⟨(h3 x hx).1, (h3 x hx).2.1⟩, h4⟩
    · rintro ⟨_, _, h3, h4⟩; exact ⟨.inl trivial, .inl trivial, fun x hx => by have := h3 x hx; omega, h4⟩
  · subst hf
    simp only [if_true, if_neg hs, List.nil_append, List.singleton_append, List.mem_cons, forall_eq_or_imp, List.nodup_cons]
    constructor
    · rintro ⟨_, h2, h3, h4⟩
      have h2' := h2.resolve_left hs
      exact ⟨Int.le_refl _, by omega, ⟨⟨h2'.1, h2'.2.1⟩, fun x hx => ⟨(h3 x hx).1, (h3 x hx).2.1⟩⟩, fun hm => (h3 s hm).2.2.2 rfl, h4⟩
    · rintro ⟨_, _, ⟨h1, h3⟩, h5, h4⟩
      exact ⟨.inl trivial, .inr ⟨h1.1, h1.2, hs⟩, fun x hx => ⟨(h3 x hx).1, (h3 x hx).2, by have := h3 x hx; omega, fun e => h5 (e ▸ hx)⟩, h4⟩
  · subst hs
    simp only [if_true, if_neg hf, List.append_nil, List.singleton_append, List.mem_cons, forall_eq_or_imp, List.nodup_cons]
    constructor
    · rintro ⟨h1, _, h3, h4⟩
      have h1' := h1.resolve_left hf
      exact ⟨by omega, Int.le_refl _, ⟨h1', fun x hx => ⟨(h3 x hx).1, (h3 x hx).2.1⟩⟩, fun hm => (h3 f hm).2.2.1 rfl, h4⟩
    · rintro ⟨_, _, ⟨h1, h3⟩, h5, h4⟩
      exact ⟨.inr h1, .inl trivial, fun x hx => ⟨(h3 x hx).1, (h3 x hx).2, fun e => h5 (e ▸ hx), by have := h3 x hx; omega⟩, h4⟩
  · simp only [if_neg hf, if_neg hs, List.singleton_append, List.cons_append, List.nil_append, List.mem_cons, forall_eq_or_imp, List.nodup_cons, not_or]
    constructor
    · rintro ⟨h1, h2, h3, h4⟩
      have h1' := h1.resolve_left hf
      have h2' := h2.resolve_left hs
      exact ⟨by omega, by omega, ⟨h1', ⟨h2'.1, h2'.2.1⟩, fun x hx => ⟨(h3 x hx).1, (h3 x hx).2.1⟩⟩, ⟨fun e => h2'.2.2 e.symm, fun hm => (h3 f hm).2.2.1 rfl⟩, fun hm => (h3 s hm).2.2.2 rfl, h4⟩
    · rintro ⟨_, _, ⟨h1, h2, h3⟩, ⟨h5, h6⟩, h7, h4⟩
      exact ⟨.inr h1, .inr ⟨h2.1, h2.2, fun e => h5 e.symm⟩, fun x hx => ⟨(h3 x hx).1, (h3 x hx).2, fun e => h6 (e ▸ hx), fun e => h7 (e ▸ hx)⟩, h4⟩
theorem S_lit2I {l : SE} {H : SH} {K : Value → SH → Prop} {x y : Opd} {z1 z2 : Value} {a b : Int} (hx : x.lv l = some (.int .i64 a)) (hy : y.lv l = some (.int .i64 b)) (kk : ∀ w : SV, K w.toV (SL w.toV TI64 [a, b] :: H)) : Step (.lit 2 1 2 [z1, z2] [(0, (1, x)), (1, (1, y))]) l H K := by
  refine S_lit (vs := [.int .i64 a, .int .i64 b]) (by simp [lfill, hx, hy, AM.cells, Value.cells, splice]) rfl rfl (fun w => ?_)
  exact kk w
theorem lp_May {H : SH} {w : SV} {l : List Int} {i1 : Nat} {n f s : Int} {h : SV} (hL : l.length ≤ 1000) : ∀ (m i : Nat), l.length - i = m → i ≤ l.length → okM n l i →
    WC F X (.loop L_manifest_May_0) [(30, .int .i64 (i : Int)), (29, .int .i64 (l.length : Int)), (28, w.toV), (3, w.toV), (1, .pointer (some ⟨i1, 0, none⟩))] (SL w.toV TI64 l :: MO i1 29 n f s h :: H)
      (KPost fun y l' H' => H' = H ∧ ((y = .exit 0 ∧ l' = [] ∧ okM n l l.length) ∨ (y = .ret ∧ l' = [(2, .bool false)] ∧ ¬ okM n l l.length))) := by
  intro m
  induction m using Nat.strongRecOn with
  | _ m ih =>
    intro i hm hi hok
    refine WC_loop ?_
    refine WC_seq ?_
    refine WC_region ?_
    refine WO_step rfl (S_pure rfl ?_)
    refine WO_nil ?_
    refine KSeq_n ?_
    refine WC_seq ?_
    refine WC_cond rfl (fun hb1 => ?_) (fun hb1 => ?_)
    ·
      try simp only [decide_eq_true_eq, decide_eq_false_iff_not, Bool.not_eq_true', Bool.not_eq_false', beq_iff_eq, bne_iff_ne, beq_eq_false_iff_ne, Int.ofNat_lt, Int.ofNat_le, Int.ofNat_inj, ne_eq, gt_iff_lt, ge_iff_le] at hb1
      obtain ⟨x, hx⟩ := get_of_lt hb1
      refine WC_skip ?_
      refine KSeq_n ?_
      refine WC_seq ?_
      refine WC_block ?_
      refine WC_seq ?_
      refine WC_region ?_
      refine WO_step rfl (S_pure rfl ?_)
      refine WO_step rfl (S_idx rfl rfl (by repeat (first | assumption | exact RD.head | exact RD.nil | apply RD.tail)) (by first | rfl | assumption | (symm; assumption)) (by rfl) (by first | assumption | omega | exact lt_of_get (by assumption) | (simp only [List.length_set]; first | assumption | omega | exact lt_of_get (by assumption))) fun hp33 => ?_)
      refine WO_step rfl (S_loadE rfl (by repeat (first | assumption | exact RD.head | exact RD.nil | apply RD.tail)) (by first | rfl | assumption | (symm; assumption)) (by first | rfl | assumption | (symm; assumption)) (by first | rfl | assumption | (symm; assumption)) (by assumption) ?_)
      refine WO_step rfl (S_pure rfl ?_)
      refine WO_step rfl (S_pure rfl ?_)
      refine WO_nil ?_
      refine KSeq_n ?_
      refine WC_seq ?_
      refine WC_seq ?_
      refine WC_region ?_
      refine WO_step rfl (S_pure rfl ?_)
      first | refine WO_step rfl (S_eqS rfl rfl ?_) | refine WO_step rfl (S_pure rfl ?_)
      refine WO_step rfl (S_pure rfl ?_)
      refine WO_cases (t := 37) rfl (fun hg1 => ?_) (fun hg1 => ?_)
      ·
        try simp only [decide_eq_true_eq, decide_eq_false_iff_not, Bool.not_eq_true', Bool.not_eq_false', beq_iff_eq, bne_iff_ne, beq_eq_false_iff_ne, Int.ofNat_lt, Int.ofNat_le, Int.ofNat_inj, ne_eq, gt_iff_lt, ge_iff_le] at hg1
        refine WO_step rfl (S_pure rfl ?_)
        refine WO_step rfl (S_pure rfl ?_)
        refine WO_step rfl (S_pure rfl ?_)
        refine WO_nil ?_
        refine KSeq_n ?_
        refine WC_cond rfl (fun hb2 => ?_) (fun hb2 => ?_)
        ·
          try simp only [decide_eq_true_eq, decide_eq_false_iff_not, Bool.not_eq_true', Bool.not_eq_false', beq_iff_eq, bne_iff_ne, beq_eq_false_iff_ne, Int.ofNat_lt, Int.ofNat_le, Int.ofNat_inj, ne_eq, gt_iff_lt, ge_iff_le] at hb2
          refine WC_exit ?_
          refine KSeq_x ?_
          refine KBlock_h ?_
          refine KSeq_n ?_
          refine WC_region ?_
          first | refine WO_step rfl (S_addN (b := 1) rfl rfl (by omega) ?_) | refine WO_step rfl (S_pure rfl ?_)
          refine WO_step rfl (S_pure rfl ?_)
          refine WO_nil ?_
          refine KLoop_n ?_
          exact WC_weak (ih (l.length - (i + 1)) (by omega) (i + 1) rfl (by omega) (hok.step hx (.inl ⟨hg1, by omega⟩))) (by repeat (first | exact SubE.nil | apply SubE.cons rfl)) (by repeat (first | exact HSub.refl | refine HSub.pick (by repeat (first | exact Pick.head | apply Pick.tail)) ?_ | apply HSub.drop))
        ·
          try simp only [decide_eq_true_eq, decide_eq_false_iff_not, Bool.not_eq_true', Bool.not_eq_false', beq_iff_eq, bne_iff_ne, beq_eq_false_iff_ne, Int.ofNat_lt, Int.ofNat_le, Int.ofNat_inj, ne_eq, gt_iff_lt, ge_iff_le] at hb2
          refine WC_skip ?_
          refine KSeq_n ?_
          refine WC_seq ?_
          refine WC_region ?_
          refine WO_step rfl (S_pure rfl ?_)
          refine WO_step rfl (S_pure rfl ?_)
          refine WO_step rfl (S_pure rfl ?_)
          refine WO_cases (t := 43) rfl (fun hg2 => ?_) (fun hg2 => ?_)
          ·
            try simp only [decide_eq_true_eq, decide_eq_false_iff_not, Bool.not_eq_true', Bool.not_eq_false', beq_iff_eq, bne_iff_ne, beq_eq_false_iff_ne, Int.ofNat_lt, Int.ofNat_le, Int.ofNat_inj, ne_eq, gt_iff_lt, ge_iff_le] at hg2
            refine WO_off rfl ?_
            refine WO_off rfl ?_
            refine WO_off rfl ?_
            refine WO_off rfl ?_
            refine WO_step rfl (S_pure rfl ?_)
            refine WO_step rfl (S_pure rfl ?_)
            refine WO_off rfl ?_
            refine WO_off rfl ?_
            refine WO_off rfl ?_
            refine WO_off rfl ?_
            refine WO_off rfl ?_
            refine WO_step rfl (S_pure rfl ?_)
            refine WO_nil ?_
            refine KSeq_n ?_
            refine WC_cond rfl (fun _ => ?_) (fun h => ?_)
            rotate_left
            · exact absurd h (by decide)
            refine WC_seq ?_
            refine WC_region ?_
            refine WO_step rfl (S_pure rfl ?_)
            refine WO_nil ?_
            refine KSeq_n ?_
            refine WC_ret ?_
            refine KBlock_r ?_
            refine KSeq_r ?_
            refine KLoop_r ?_
            exact KPost_i (l' := [(2, .bool false)]) (by repeat (first | exact SubE.nil | apply SubE.cons rfl)) (by repeat (first | exact HSub.refl | refine HSub.pick (by repeat (first | exact Pick.head | apply Pick.tail)) ?_ | apply HSub.drop)) ⟨rfl, .inr ⟨rfl, rfl, fun ho => by
              have q := ho i x hb1 hx
              rcases q with ⟨q1, q2⟩ | ⟨q1, q2, q3⟩
              · omega
              · first | omega | exact q3 (inZ_iff.1 (by simpa using hg2))⟩⟩
          ·
            try simp only [decide_eq_true_eq, decide_eq_false_iff_not, Bool.not_eq_true', Bool.not_eq_false', beq_iff_eq, bne_iff_ne, beq_eq_false_iff_ne, Int.ofNat_lt, Int.ofNat_le, Int.ofNat_inj, ne_eq, gt_iff_lt, ge_iff_le] at hg2
            refine WO_step rfl (S_pure rfl ?_)
            refine WO_step rfl (S_pure rfl ?_)
            refine WO_step rfl (S_loadO rfl (by repeat (first | exact Pick.head | apply Pick.tail)) (by rfl) (by rfl) ?_)
            refine WO_step rfl (S_pure rfl ?_)
            refine WO_step rfl (S_pure rfl ?_)
            refine WO_step rfl (S_pure rfl ?_)
            refine WO_cases (t := 49) rfl (fun hg3 => ?_) (fun hg3 => ?_)
            ·
              try simp only [decide_eq_true_eq, decide_eq_false_iff_not, Bool.not_eq_true', Bool.not_eq_false', beq_iff_eq, bne_iff_ne, beq_eq_false_iff_ne, Int.ofNat_lt, Int.ofNat_le, Int.ofNat_inj, ne_eq, gt_iff_lt, ge_iff_le] at hg3
              refine WO_off rfl ?_
              refine WO_off rfl ?_
              refine WO_off rfl ?_
              refine WO_off rfl ?_
              refine WO_off rfl ?_
              refine WO_step rfl (S_pure rfl ?_)
              refine WO_nil ?_
              refine KSeq_n ?_
              refine WC_cond rfl (fun _ => ?_) (fun h => ?_)
              rotate_left
              · exact absurd h (by decide)
              refine WC_seq ?_
              refine WC_region ?_
              refine WO_step rfl (S_pure rfl ?_)
              refine WO_nil ?_
              refine KSeq_n ?_
              refine WC_ret ?_
              refine KBlock_r ?_
              refine KSeq_r ?_
              refine KLoop_r ?_
              exact KPost_i (l' := [(2, .bool false)]) (by repeat (first | exact SubE.nil | apply SubE.cons rfl)) (by repeat (first | exact HSub.refl | refine HSub.pick (by repeat (first | exact Pick.head | apply Pick.tail)) ?_ | apply HSub.drop)) ⟨rfl, .inr ⟨rfl, rfl, fun ho => by
                have q := ho i x hb1 hx
                rcases q with ⟨q1, q2⟩ | ⟨q1, q2, q3⟩
                · omega
                · first | omega | exact q3 (inZ_iff.1 (by simpa using hg3))⟩⟩
            ·
              try simp only [decide_eq_true_eq, decide_eq_false_iff_not, Bool.not_eq_true', Bool.not_eq_false', beq_iff_eq, bne_iff_ne, beq_eq_false_iff_ne, Int.ofNat_lt, Int.ofNat_le, Int.ofNat_inj, ne_eq, gt_iff_lt, ge_iff_le] at hg3
              refine WO_step rfl (S_pure rfl ?_)
              refine WO_step rfl (S_pure rfl ?_)
              refine WO_step rfl (S_cut rfl (by repeat (first | assumption | exact RD.head | exact RD.nil | apply RD.tail)) (by rfl) LB.dflt (LB.mk rfl rfl) LB.dflt (by omega) (by omega) (by omega) ?_)
              refine WO_step rfl (S_pure rfl ?_)
              refine WO_call rfl rfl rfl ?_
              refine (sp_zin (xs := l.take i) (s := x) ?_ (by rw [List.length_take]; omega)).mono ?_
              · exact RD.sub' (lo := 0) (n := i) .head rfl (by omega)
              rintro _ _ ⟨rfl, rfl⟩
              refine WO_step rfl (S_pure rfl ?_)
              refine WO_nil ?_
              refine KSeq_n ?_
              refine WC_cond rfl (fun hb3 => ?_) (fun hb3 => ?_)
              ·
                try simp only [decide_eq_true_eq, decide_eq_false_iff_not, Bool.not_eq_true', Bool.not_eq_false', beq_iff_eq, bne_iff_ne, beq_eq_false_iff_ne, Int.ofNat_lt, Int.ofNat_le, Int.ofNat_inj, ne_eq, gt_iff_lt, ge_iff_le] at hb3
                refine WC_seq ?_
                refine WC_region ?_
                refine WO_step rfl (S_pure rfl ?_)
                refine WO_nil ?_
                refine KSeq_n ?_
                refine WC_ret ?_
                refine KBlock_r ?_
                refine KSeq_r ?_
                refine KLoop_r ?_
                exact KPost_i (l' := [(2, .bool false)]) (by repeat (first | exact SubE.nil | apply SubE.cons rfl)) (by repeat (first | exact HSub.refl | refine HSub.pick (by repeat (first | exact Pick.head | apply Pick.tail)) ?_ | apply HSub.drop)) ⟨rfl, .inr ⟨rfl, rfl, fun ho => by
                  have q := ho i x hb1 hx
                  rcases q with ⟨q1, q2⟩ | ⟨q1, q2, q3⟩
                  · omega
                  · first | omega | exact q3 (inZ_iff.1 (by simpa using hb3))⟩⟩
              ·
                try simp only [decide_eq_true_eq, decide_eq_false_iff_not, Bool.not_eq_true', Bool.not_eq_false', beq_iff_eq, bne_iff_ne, beq_eq_false_iff_ne, Int.ofNat_lt, Int.ofNat_le, Int.ofNat_inj, ne_eq, gt_iff_lt, ge_iff_le] at hb3
                refine WC_skip ?_
                refine KBlock_n ?_
                refine KSeq_n ?_
                refine WC_region ?_
                first | refine WO_step rfl (S_addN (b := 1) rfl rfl (by omega) ?_) | refine WO_step rfl (S_pure rfl ?_)
                refine WO_step rfl (S_pure rfl ?_)
                refine WO_nil ?_
                refine KLoop_n ?_
                exact WC_weak (ih (l.length - (i + 1)) (by omega) (i + 1) rfl (by omega) (hok.step hx (.inr ⟨by omega, by omega, fun hm => by rw [inZ_iff.2 hm] at hb3; cases hb3⟩))) (by repeat (first | exact SubE.nil | apply SubE.cons rfl)) (by repeat (first | exact HSub.refl | refine HSub.pick (by repeat (first | exact Pick.head | apply Pick.tail)) ?_ | apply HSub.drop))
      ·
        try simp only [decide_eq_true_eq, decide_eq_false_iff_not, Bool.not_eq_true', Bool.not_eq_false', beq_iff_eq, bne_iff_ne, beq_eq_false_iff_ne, Int.ofNat_lt, Int.ofNat_le, Int.ofNat_inj, ne_eq, gt_iff_lt, ge_iff_le] at hg1
        refine WO_off rfl ?_
        refine WO_off rfl ?_
        refine WO_step rfl (S_pure rfl ?_)
        refine WO_nil ?_
        refine KSeq_n ?_
        refine WC_cond rfl (fun h => ?_) (fun _ => ?_)
        · exact absurd h (by decide)
        refine WC_skip ?_
        refine KSeq_n ?_
        refine WC_seq ?_
        refine WC_region ?_
        refine WO_step rfl (S_pure rfl ?_)
        refine WO_step rfl (S_pure rfl ?_)
        refine WO_step rfl (S_pure rfl ?_)
        refine WO_cases (t := 43) rfl (fun hg4 => ?_) (fun hg4 => ?_)
        ·
          try simp only [decide_eq_true_eq, decide_eq_false_iff_not, Bool.not_eq_true', Bool.not_eq_false', beq_iff_eq, bne_iff_ne, beq_eq_false_iff_ne, Int.ofNat_lt, Int.ofNat_le, Int.ofNat_inj, ne_eq, gt_iff_lt, ge_iff_le] at hg4
          refine WO_off rfl ?_
          refine WO_off rfl ?_
          refine WO_off rfl ?_
          refine WO_off rfl ?_
          refine WO_step rfl (S_pure rfl ?_)
          refine WO_step rfl (S_pure rfl ?_)
          refine WO_off rfl ?_
          refine WO_off rfl ?_
          refine WO_off rfl ?_
          refine WO_off rfl ?_
          refine WO_off rfl ?_
          refine WO_step rfl (S_pure rfl ?_)
          refine WO_nil ?_
          refine KSeq_n ?_
          refine WC_cond rfl (fun _ => ?_) (fun h => ?_)
          rotate_left
          · exact absurd h (by decide)
          refine WC_seq ?_
          refine WC_region ?_
          refine WO_step rfl (S_pure rfl ?_)
          refine WO_nil ?_
          refine KSeq_n ?_
          refine WC_ret ?_
          refine KBlock_r ?_
          refine KSeq_r ?_
          refine KLoop_r ?_
          exact KPost_i (l' := [(2, .bool false)]) (by repeat (first | exact SubE.nil | apply SubE.cons rfl)) (by repeat (first | exact HSub.refl | refine HSub.pick (by repeat (first | exact Pick.head | apply Pick.tail)) ?_ | apply HSub.drop)) ⟨rfl, .inr ⟨rfl, rfl, fun ho => by
            have q := ho i x hb1 hx
            rcases q with ⟨q1, q2⟩ | ⟨q1, q2, q3⟩
            · omega
            · first | omega | exact q3 (inZ_iff.1 (by simpa using hg4))⟩⟩
        ·
          try simp only [decide_eq_true_eq, decide_eq_false_iff_not, Bool.not_eq_true', Bool.not_eq_false', beq_iff_eq, bne_iff_ne, beq_eq_false_iff_ne, Int.ofNat_lt, Int.ofNat_le, Int.ofNat_inj, ne_eq, gt_iff_lt, ge_iff_le] at hg4
          refine WO_step rfl (S_pure rfl ?_)
          refine WO_step rfl (S_pure rfl ?_)
          refine WO_step rfl (S_loadO rfl (by repeat (first | exact Pick.head | apply Pick.tail)) (by rfl) (by rfl) ?_)
          refine WO_step rfl (S_pure rfl ?_)
          refine WO_step rfl (S_pure rfl ?_)
          refine WO_step rfl (S_pure rfl ?_)
          refine WO_cases (t := 49) rfl (fun hg5 => ?_) (fun hg5 => ?_)
          ·
            try simp only [decide_eq_true_eq, decide_eq_false_iff_not, Bool.not_eq_true', Bool.not_eq_false', beq_iff_eq, bne_iff_ne, beq_eq_false_iff_ne, Int.ofNat_lt, Int.ofNat_le, Int.ofNat_inj, ne_eq, gt_iff_lt, ge_iff_le] at hg5
            refine WO_off rfl ?_
            refine WO_off rfl ?_
            refine WO_off rfl ?_
            refine WO_off rfl ?_
            refine WO_off rfl ?_
            refine WO_step rfl (S_pure rfl ?_)
            refine WO_nil ?_
            refine KSeq_n ?_
            refine WC_cond rfl (fun _ => ?_) (fun h => ?_)
            rotate_left
            · exact absurd h (by decide)
            refine WC_seq ?_
            refine WC_region ?_
            refine WO_step rfl (S_pure rfl ?_)
            refine WO_nil ?_
            refine KSeq_n ?_
            refine WC_ret ?_
            refine KBlock_r ?_
            refine KSeq_r ?_
            refine KLoop_r ?_
            exact KPost_i (l' := [(2, .bool false)]) (by repeat (first | exact SubE.nil | apply SubE.cons rfl)) (by repeat (first | exact HSub.refl | refine HSub.pick (by repeat (first | exact Pick.head | apply Pick.tail)) ?_ | apply HSub.drop)) ⟨rfl, .inr ⟨rfl, rfl, fun ho => by
              have q := ho i x hb1 hx
              rcases q with ⟨q1, q2⟩ | ⟨q1, q2, q3⟩
              · omega
              · first | omega | exact q3 (inZ_iff.1 (by simpa using hg5))⟩⟩
          ·
            try simp only [decide_eq_true_eq, decide_eq_false_iff_not, Bool.not_eq_true', Bool.not_eq_false', beq_iff_eq, bne_iff_ne, beq_eq_false_iff_ne, Int.ofNat_lt, Int.ofNat_le, Int.ofNat_inj, ne_eq, gt_iff_lt, ge_iff_le] at hg5
            refine WO_step rfl (S_pure rfl ?_)
            refine WO_step rfl (S_pure rfl ?_)
            refine WO_step rfl (S_cut rfl (by repeat (first | assumption | exact RD.head | exact RD.nil | apply RD.tail)) (by rfl) LB.dflt (LB.mk rfl rfl) LB.dflt (by omega) (by omega) (by omega) ?_)
            refine WO_step rfl (S_pure rfl ?_)
            refine WO_call rfl rfl rfl ?_
            refine (sp_zin (xs := l.take i) (s := x) ?_ (by rw [List.length_take]; omega)).mono ?_
            · exact RD.sub' (lo := 0) (n := i) .head rfl (by omega)
            rintro _ _ ⟨rfl, rfl⟩
            refine WO_step rfl (S_pure rfl ?_)
            refine WO_nil ?_
            refine KSeq_n ?_
            refine WC_cond rfl (fun hb4 => ?_) (fun hb4 => ?_)
            ·
              try simp only [decide_eq_true_eq, decide_eq_false_iff_not, Bool.not_eq_true', Bool.not_eq_false', beq_iff_eq, bne_iff_ne, beq_eq_false_iff_ne, Int.ofNat_lt, Int.ofNat_le, Int.ofNat_inj, ne_eq, gt_iff_lt, ge_iff_le] at hb4
              refine WC_seq ?_
              refine WC_region ?_
              refine WO_step rfl (S_pure rfl ?_)
              refine WO_nil ?_
              refine KSeq_n ?_
              refine WC_ret ?_
              refine KBlock_r ?_
              refine KSeq_r ?_
              refine KLoop_r ?_
              exact KPost_i (l' := [(2, .bool false)]) (by repeat (first | exact SubE.nil | apply SubE.cons rfl)) (by repeat (first | exact HSub.refl | refine HSub.pick (by repeat (first | exact Pick.head | apply Pick.tail)) ?_ | apply HSub.drop)) ⟨rfl, .inr ⟨rfl, rfl, fun ho => by
                have q := ho i x hb1 hx
                rcases q with ⟨q1, q2⟩ | ⟨q1, q2, q3⟩
                · omega
                · first | omega | exact q3 (inZ_iff.1 (by simpa using hb4))⟩⟩
            ·
              try simp only [decide_eq_true_eq, decide_eq_false_iff_not, Bool.not_eq_true', Bool.not_eq_false', beq_iff_eq, bne_iff_ne, beq_eq_false_iff_ne, Int.ofNat_lt, Int.ofNat_le, Int.ofNat_inj, ne_eq, gt_iff_lt, ge_iff_le] at hb4
              refine WC_skip ?_
              refine KBlock_n ?_
              refine KSeq_n ?_
              refine WC_region ?_
              first | refine WO_step rfl (S_addN (b := 1) rfl rfl (by omega) ?_) | refine WO_step rfl (S_pure rfl ?_)
              refine WO_step rfl (S_pure rfl ?_)
              refine WO_nil ?_
              refine KLoop_n ?_
              exact WC_weak (ih (l.length - (i + 1)) (by omega) (i + 1) rfl (by omega) (hok.step hx (.inr ⟨by omega, by omega, fun hm => by rw [inZ_iff.2 hm] at hb4; cases hb4⟩))) (by repeat (first | exact SubE.nil | apply SubE.cons rfl)) (by repeat (first | exact HSub.refl | refine HSub.pick (by repeat (first | exact Pick.head | apply Pick.tail)) ?_ | apply HSub.drop))
    ·
      try simp only [decide_eq_true_eq, decide_eq_false_iff_not, Bool.not_eq_true', Bool.not_eq_false', beq_iff_eq, bne_iff_ne, beq_eq_false_iff_ne, Int.ofNat_lt, Int.ofNat_le, Int.ofNat_inj, ne_eq, gt_iff_lt, ge_iff_le] at hb1
      refine WC_exit ?_
      refine KSeq_x ?_
      refine KLoop_x ?_
      have ei : i = l.length := by omega
      subst ei
      exact KPost_i (l' := []) SubE.nil (by repeat (first | exact HSub.refl | refine HSub.pick (by repeat (first | exact Pick.head | apply Pick.tail)) ?_ | apply HSub.drop)) ⟨rfl, .inl ⟨rfl, rfl, hok⟩⟩
theorem sp_May {H : SH} {n f s : Int} {h : SV} {xs : List Int} (hv : RD H h.toV TI64 xs) (hL : xs.length ≤ 100000) : WF F X f_manifest_May [mfV n f s h] H (fun r H' => H' = H ∧ ∃ b : Bool, r = .bool b ∧ (b = true ↔ MayP n f s xs)) := by
  refine WF_fn F_manifest_May ?_
  refine WC_seq ?_
  refine WC_region ?_
  refine WO_step rfl (S_box rfl (by cases h <;> rfl) fun i1 => ?_)
  refine WO_step rfl (S_pure rfl ?_)
  refine WO_nil ?_
  refine KSeq_n ?_
  refine WC_seq ?_
  refine WC_seq ?_
  refine WC_region ?_
  refine WO_step rfl (S_pure rfl ?_)
  refine WO_step rfl (S_loadO rfl (by repeat (first | exact Pick.head | apply Pick.tail)) (by rfl) (by rfl) ?_)
  refine WO_step rfl (S_pure rfl ?_)
  refine WO_step rfl (S_pure rfl ?_)
  refine WO_cases (t := 9) rfl (fun hg1 => ?_) (fun hg1 => ?_)
  ·
    try simp only [decide_eq_true_eq, decide_eq_false_iff_not, Bool.not_eq_true', Bool.not_eq_false', beq_iff_eq, bne_iff_ne, beq_eq_false_iff_ne, Int.ofNat_lt, Int.ofNat_le, Int.ofNat_inj, ne_eq, gt_iff_lt, ge_iff_le] at hg1
    refine WO_off rfl ?_
    refine WO_off rfl ?_
    refine WO_off rfl ?_
    refine WO_step rfl (S_pure rfl ?_)
    refine WO_step rfl (S_pure rfl ?_)
    refine WO_off rfl ?_
    refine WO_off rfl ?_
    refine WO_off rfl ?_
    refine WO_off rfl ?_
    refine WO_step rfl (S_pure rfl ?_)
    refine WO_nil ?_
    refine KSeq_n ?_
    refine WC_cond rfl (fun _ => ?_) (fun h => ?_)
    rotate_left
    · exact absurd h (by decide)
    refine WC_seq ?_
    refine WC_region ?_
    refine WO_step rfl (S_pure rfl ?_)
    refine WO_nil ?_
    refine KSeq_n ?_
    refine WC_ret ?_
    refine KSeq_r ?_
    refine KFn_r (ResL.tmp rfl ResL.nil) ?_
    exact ⟨_, (by repeat (first | exact HSub.refl | refine HSub.pick (by repeat (first | exact Pick.head | apply Pick.tail)) ?_ | apply HSub.drop)), rfl, false, rfl, ⟨fun h => (by cases h), fun h => by obtain ⟨q1, q2, q3, q4, q5, _⟩ := h; omega⟩⟩
  ·
    try simp only [decide_eq_true_eq, decide_eq_false_iff_not, Bool.not_eq_true', Bool.not_eq_false', beq_iff_eq, bne_iff_ne, beq_eq_false_iff_ne, Int.ofNat_lt, Int.ofNat_le, Int.ofNat_inj, ne_eq, gt_iff_lt, ge_iff_le] at hg1
    refine WO_step rfl (S_pure rfl ?_)
    refine WO_step rfl (S_loadO rfl (by repeat (first | exact Pick.head | apply Pick.tail)) (by rfl) (by rfl) ?_)
    refine WO_step rfl (S_pure rfl ?_)
    refine WO_step rfl (S_pure rfl ?_)
    refine WO_step rfl (S_pure rfl ?_)
    refine WO_cases (t := 14) rfl (fun hg2 => ?_) (fun hg2 => ?_)
    ·
      try simp only [decide_eq_true_eq, decide_eq_false_iff_not, Bool.not_eq_true', Bool.not_eq_false', beq_iff_eq, bne_iff_ne, beq_eq_false_iff_ne, Int.ofNat_lt, Int.ofNat_le, Int.ofNat_inj, ne_eq, gt_iff_lt, ge_iff_le] at hg2
      refine WO_off rfl ?_
      refine WO_off rfl ?_
      refine WO_off rfl ?_
      refine WO_off rfl ?_
      refine WO_step rfl (S_pure rfl ?_)
      refine WO_nil ?_
      refine KSeq_n ?_
      refine WC_cond rfl (fun _ => ?_) (fun h => ?_)
      rotate_left
      · exact absurd h (by decide)
      refine WC_seq ?_
      refine WC_region ?_
      refine WO_step rfl (S_pure rfl ?_)
      refine WO_nil ?_
      refine KSeq_n ?_
      refine WC_ret ?_
      refine KSeq_r ?_
      refine KFn_r (ResL.tmp rfl ResL.nil) ?_
      exact ⟨_, (by repeat (first | exact HSub.refl | refine HSub.pick (by repeat (first | exact Pick.head | apply Pick.tail)) ?_ | apply HSub.drop)), rfl, false, rfl, ⟨fun h => (by cases h), fun h => by obtain ⟨q1, q2, q3, q4, q5, _⟩ := h; omega⟩⟩
    ·
      try simp only [decide_eq_true_eq, decide_eq_false_iff_not, Bool.not_eq_true', Bool.not_eq_false', beq_iff_eq, bne_iff_ne, beq_eq_false_iff_ne, Int.ofNat_lt, Int.ofNat_le, Int.ofNat_inj, ne_eq, gt_iff_lt, ge_iff_le] at hg2
      refine WO_step rfl (S_pure rfl ?_)
      refine WO_step rfl (S_loadO rfl (by repeat (first | exact Pick.head | apply Pick.tail)) (by rfl) (by rfl) ?_)
      first | refine WO_step rfl (S_pure rfl ?_) | refine WO_step rfl (S_lenS rfl (by repeat (first | assumption | exact RD.head | exact RD.nil | apply RD.tail)) ?_)
      refine WO_step rfl (S_pure rfl ?_)
      refine WO_step rfl (S_pure rfl ?_)
      refine WO_nil ?_
      refine KSeq_n ?_
      refine WC_cond rfl (fun hb1 => ?_) (fun hb1 => ?_)
      ·
        try simp only [decide_eq_true_eq, decide_eq_false_iff_not, Bool.not_eq_true', Bool.not_eq_false', beq_iff_eq, bne_iff_ne, beq_eq_false_iff_ne, Int.ofNat_lt, Int.ofNat_le, Int.ofNat_inj, ne_eq, gt_iff_lt, ge_iff_le] at hb1
        refine WC_seq ?_
        refine WC_region ?_
        refine WO_step rfl (S_pure rfl ?_)
        refine WO_nil ?_
        refine KSeq_n ?_
        refine WC_ret ?_
        refine KSeq_r ?_
        refine KFn_r (ResL.tmp rfl ResL.nil) ?_
        exact ⟨_, (by repeat (first | exact HSub.refl | refine HSub.pick (by repeat (first | exact Pick.head | apply Pick.tail)) ?_ | apply HSub.drop)), rfl, false, rfl, ⟨fun h => (by cases h), fun h => by obtain ⟨q1, q2, q3, q4, q5, _⟩ := h; omega⟩⟩
      ·
        try simp only [decide_eq_true_eq, decide_eq_false_iff_not, Bool.not_eq_true', Bool.not_eq_false', beq_iff_eq, bne_iff_ne, beq_eq_false_iff_ne, Int.ofNat_lt, Int.ofNat_le, Int.ofNat_inj, ne_eq, gt_iff_lt, ge_iff_le] at hb1
        refine WC_skip ?_
        refine KSeq_n ?_
        refine WC_seq ?_
        refine WC_region ?_
        refine WO_step rfl (S_pure rfl ?_)
        refine WO_step rfl (S_loadO rfl (by repeat (first | exact Pick.head | apply Pick.tail)) (by rfl) (by rfl) ?_)
        refine WO_step rfl (S_pure rfl ?_)
        refine WO_step rfl (S_loadO rfl (by repeat (first | exact Pick.head | apply Pick.tail)) (by rfl) (by rfl) ?_)
        refine WO_step rfl (S_lit2I (a := f) (b := s) rfl rfl fun w24 => ?_)
        refine WO_step rfl (S_pure rfl ?_)
        refine WO_step rfl (S_loadO rfl (by repeat (first | exact Pick.head | apply Pick.tail)) (by rfl) (by rfl) ?_)
        refine WO_step rfl (S_app rfl rfl (by repeat (first | exact Pick.head | apply Pick.tail)) (by first | exact SRC.str rfl rfl | (apply RD.src; repeat (first | assumption | exact RD.head | exact RD.nil | apply RD.tail))) (by rfl) (by rfl) (by (try simp only [List.length_append, List.length_cons, List.length_nil]); omega) fun w27 => ?_)
        refine WO_step rfl (S_pure rfl ?_)
        refine WO_nil ?_
        refine KSeq_n ?_
        refine WC_seq ?_
        refine WC_seq ?_
        refine WC_region ?_
        refine WO_step rfl (S_pure rfl ?_)
        first | refine WO_step rfl (S_pure rfl ?_) | refine WO_step rfl (S_lenS rfl (by repeat (first | assumption | exact RD.head | exact RD.nil | apply RD.tail)) ?_)
        refine WO_step rfl (S_pure rfl ?_)
        refine WO_nil ?_
        refine KSeq_n ?_
        refine WC_block ?_
        --out r x0
        have e0 : [f, s] ++ xs = f :: s :: xs := rfl
        rw [e0]
        refine WC_post (WC_weak (lp_May (H := H) (l := f :: s :: xs) (i1 := i1) (w := w27) (n := n) (f := f) (s := s) (h := h) (by simp; omega) (f :: s :: xs).length 0 (by omega) (by omega) (fun j x hj => by omega)) (by repeat (first | exact SubE.nil | apply SubE.cons rfl)) (by repeat (first | exact HSub.refl | refine HSub.pick (by repeat (first | exact Pick.head | apply Pick.tail)) ?_ | apply HSub.drop))) ?_
        rintro x l' _ ⟨rfl, ⟨rfl, rfl, ho⟩ | ⟨rfl, rfl, ho⟩⟩
        rotate_left
        ·
          refine KBlock_r ?_
          refine KSeq_r ?_
          refine KFn_r (ResL.tmp rfl ResL.nil) ?_
          exact ⟨_, (by repeat (first | exact HSub.refl | refine HSub.pick (by repeat (first | exact Pick.head | apply Pick.tail)) ?_ | apply HSub.drop)), rfl, false, rfl, ⟨fun h => (by cases h), fun h => absurd (okM_iff.2 ⟨h.2.2.2.1, h.2.2.2.2.1, h.2.2.2.2.2⟩) ho⟩⟩
        ·
          refine KBlock_h ?_
          refine KSeq_n ?_
          refine WC_seq ?_
          refine WC_region ?_
          refine WO_step rfl (S_pure rfl ?_)
          refine WO_nil ?_
          refine KSeq_n ?_
          refine WC_ret ?_
          refine KFn_r (ResL.tmp rfl ResL.nil) ?_
          obtain ⟨o1, o2, o3⟩ := okM_iff.1 ho
          exact ⟨_, (by repeat (first | exact HSub.refl | refine HSub.pick (by repeat (first | exact Pick.head | apply Pick.tail)) ?_ | apply HSub.drop)), rfl, true, rfl, ⟨fun _ => ⟨by omega, by omega, by omega, o1, o2, o3⟩, fun _ => rfl⟩⟩
end Go.Proofs.YtmibhdoegcgfmaaDoor.AM
