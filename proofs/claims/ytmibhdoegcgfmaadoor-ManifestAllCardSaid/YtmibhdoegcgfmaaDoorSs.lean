/- Walks: what the functions compute. -/
import Derived.Test.YtmibhdoegcgfmaaDoorTypes
import Derived.Test.YtmibhdoegcgfmaaDoorArith
namespace Go.Proofs.YtmibhdoegcgfmaaDoor.AM
open Go
set_option linter.unusedSimpArgs false
set_option linter.unusedVariables false
set_option maxRecDepth 4000

/-! ### Sorting few texts -/
def TS : Ty ByteArray := Ty.ofOne 9 16 (fun s => .string s) (fun _ => rfl)
theorem bl_irrefl : ∀ a : List UInt8, Op.bytesLess a a = false
  | [] => rfl
  | x :: a => by simp [Op.bytesLess, bl_irrefl a]
theorem bl_tri : ∀ a b : List UInt8, Op.bytesLess a b = true ∨ a = b ∨ Op.bytesLess b a = true
  | [], [] => .inr (.inl rfl)
  | [], y :: b => .inl rfl
  | x :: a, [] => .inr (.inr rfl)
  | x :: a, y :: b => by
    have ih := bl_tri a b
    simp only [Op.bytesLess, Bool.or_eq_true, Bool.and_eq_true, decide_eq_true_eq, beq_iff_eq, List.cons.injEq]
    rcases UInt8.lt_or_lt_of_ne (a := x) (b := y) |> fun f => (Classical.em (x = y)).elim (fun e => Or.inl e) (fun e => Or.inr (f e)) with e | e | e
    · subst e; rcases ih with h | h | h
      · exact .inl (.inr ⟨rfl, h⟩)
      · exact .inr (.inl ⟨rfl, h⟩)
      · exact .inr (.inr (.inr ⟨rfl, h⟩))
    · exact .inl (.inl e)
    · exact .inr (.inr (.inl e))
theorem bl_trans : ∀ a b c : List UInt8, Op.bytesLess a b = true → Op.bytesLess b c = true → Op.bytesLess a c = true
  | [], [], _, h, _ => by cases h
  | [], y :: b, [], _, h => by cases h
  | [], y :: b, z :: c, _, _ => rfl
  | x :: a, [], _, h, _ => by cases h
  | x :: a, y :: b, [], _, h => by cases h
  | x :: a, y :: b, z :: c, h1, h2 => by
    simp only [Op.bytesLess, Bool.or_eq_true, Bool.and_eq_true, decide_eq_true_eq, beq_iff_eq] at h1 h2 ⊢
    rcases h1 with h1 | ⟨rfl, h1⟩
    · rcases h2 with h2 | ⟨rfl, h2⟩
      · exact .inl (UInt8.lt_trans h1 h2)
      · exact .inl h1
    · rcases h2 with h2 | ⟨rfl, h2⟩
      · exact .inl h2
      · exact .inr ⟨rfl, bl_trans a b c h1 h2⟩
def sltB (a b : ByteArray) : Bool := Op.bytesLess a.toList b.toList
def sle (a b : ByteArray) : Prop := sltB b a = false
theorem slt_tri (a b : ByteArray) : sltB a b = true ∨ a = b ∨ sltB b a = true := by
  rcases bl_tri a.toList b.toList with h | h | h
  · exact .inl h
  · right; left; rw [toList_data, toList_data] at h; exact ba_ext h
  · exact .inr (.inr h)
theorem slt_irrefl (a : ByteArray) : sltB a a = false := bl_irrefl _
theorem slt_trans {a b c : ByteArray} (h : sltB a b = true) (k : sltB b c = true) : sltB a c = true := bl_trans _ _ _ h k
theorem sle_of_lt {a b : ByteArray} (h : sltB a b = true) : sle a b := by
  cases hb : sltB b a with
  | false => exact hb
  | true => have := slt_trans h hb; rw [slt_irrefl] at this; cases this
theorem sle_anti {a b : ByteArray} (h : sle a b) (k : sle b a) : a = b := by
  unfold sle at h k
  rcases slt_tri a b with e | e | e
  · rw [k] at e; cases e
  · exact e
  · rw [h] at e; cases e
theorem sle_trans {a b c : ByteArray} (h : sle a b) (k : sle b c) : sle a c := by
  cases hc : sltB c a with
  | false => exact hc
  | true =>
    exfalso
    unfold sle at h k
    rcases slt_tri b c with e | e | e
    · rw [slt_trans e hc] at h; cases h
    · subst e; rw [hc] at h; cases h
    · rw [k] at e; cases e
def SSor (l : List ByteArray) : Prop := l.Pairwise sle
theorem ssor_perm {a b : List ByteArray} (ha : SSor a) (hb : SSor b) (h : a.Perm b) : a = b := List.Perm.eq_of_pairwise (le := sle) (fun x y _ _ h1 h2 => sle_anti h1 h2) ha hb h
theorem ssor_ins {A B : List ByteArray} {x : ByteArray} (h : SSor (A ++ B)) (hA : ∀ y ∈ A, sle y x) (hB : ∀ y ∈ B, sle x y) : SSor (A ++ x :: B) := by
  unfold SSor at *
  rw [List.pairwise_append] at h ⊢
  refine ⟨h.1, List.pairwise_cons.2 ⟨hB, h.2.1⟩, fun a ha b hb => ?_⟩
  rcases List.mem_cons.1 hb with rfl | hb
  · exact hA a ha
  · exact h.2.2 a ha b hb
theorem ssor_last {A : List ByteArray} {y x : ByteArray} (h : SSor (A ++ [y])) (hy : sle y x) : ∀ z ∈ A ++ [y], sle z x := by
  unfold SSor at h
  rw [List.pairwise_append] at h
  intro z hz
  rcases List.mem_append.1 hz with hz | hz
  · exact sle_trans (h.2.2 z hz y (by simp)) hy
  · simp at hz; subst hz; exact hy
theorem Pick.sub {r : Res} {H H0 : SH} (h : Pick r H H0) : HSub H (r :: H0) := HSub.pick h HSub.refl
theorem snoc_of_pos {α : Type} {A : List α} (h : 0 < A.length) : ∃ B y, A = B ++ [y] := by
  have hne : A ≠ [] := by intro e; rw [e] at h; exact absurd h (by simp)
  exact ⟨A.dropLast, A.getLast hne, (List.dropLast_concat_getLast hne).symm⟩
theorem sp_isNaN {H : SH} {a : ByteArray} : WF F X f_cmp_isNaN_string [.string a] H (fun r H' => H' = H ∧ r = .bool false) := by
  refine WF_fn F_cmp_isNaN_string ?_
  refine WC_seq ?_
  refine WC_region ?_
  refine WO_step rfl (S_pure rfl ?_)
  refine WO_nil ?_
  refine KSeq_n ?_
  refine WC_seq ?_
  refine WC_region ?_
  refine WO_step rfl (S_pure rfl ?_)
  refine WO_step rfl (S_pure rfl ?_)
  first | refine WO_step rfl (S_neS rfl rfl ?_) | refine WO_step rfl (S_pure rfl ?_)
  refine WO_step rfl (S_pure rfl ?_)
  refine WO_nil ?_
  refine KSeq_n ?_
  refine WC_ret ?_
  refine KFn_r (ResL.tmp rfl ResL.nil) ?_
  exact ⟨_, HSub.refl, rfl, by simp [resV]⟩
theorem sp_Less {H : SH} {a b : ByteArray} : WF F X f_cmp_Less_string [.string a, .string b] H (fun r H' => H' = H ∧ r = .bool (sltB a b)) := by
  refine WF_fn F_cmp_Less_string ?_
  refine WC_seq ?_
  refine WC_region ?_
  refine WO_step rfl (S_pure rfl ?_)
  refine WO_nil ?_
  refine KSeq_n ?_
  refine WC_seq ?_
  refine WC_region ?_
  refine WO_step rfl (S_pure rfl ?_)
  refine WO_call rfl rfl rfl ?_
  refine sp_isNaN.mono ?_
  rintro _ _ ⟨rfl, rfl⟩
  refine WO_step rfl (S_pure rfl ?_)
  refine WO_cases (t := 7) rfl (fun hg1 => ?_) (fun hg1 => ?_)
  ·
    try simp only [decide_eq_true_eq, decide_eq_false_iff_not, Bool.not_eq_true', Bool.not_eq_false', beq_iff_eq, bne_iff_ne, beq_eq_false_iff_ne, Int.ofNat_lt, Int.ofNat_le, Int.ofNat_inj, ne_eq, gt_iff_lt, ge_iff_le] at hg1
    exact absurd hg1 (by simp)
    --stop
  ·
    try simp only [decide_eq_true_eq, decide_eq_false_iff_not, Bool.not_eq_true', Bool.not_eq_false', beq_iff_eq, bne_iff_ne, beq_eq_false_iff_ne, Int.ofNat_lt, Int.ofNat_le, Int.ofNat_inj, ne_eq, gt_iff_lt, ge_iff_le] at hg1
    refine WO_off rfl ?_
    refine WO_off rfl ?_
    refine WO_off rfl ?_
    refine WO_step rfl (S_pure rfl ?_)
    refine WO_step rfl (S_pure rfl ?_)
    refine WO_step rfl (S_pure rfl ?_)
    refine WO_step rfl (S_pure rfl ?_)
    refine WO_step rfl (S_pure rfl ?_)
    refine WO_step rfl (S_pure rfl ?_)
    refine WO_step rfl (S_pure rfl ?_)
    refine WO_nil ?_
    refine KSeq_n ?_
    refine WC_ret ?_
    refine KFn_r (ResL.tmp rfl ResL.nil) ?_
    exact ⟨_, (by repeat (first | exact HSub.refl | refine HSub.pick (by repeat (first | exact Pick.head | apply Pick.tail)) ?_ | apply HSub.drop)), rfl, rfl⟩
theorem lp_is_1 {H : SH} {w : SV} {x : ByteArray} {Q : List ByteArray} (v6 : Value) (N : Nat) (hN : N ≤ 1000) : ∀ (n : Nat) (A B : List ByteArray), A.length = n → A.length + B.length + Q.length + 1 ≤ 1000 → SSor (A ++ B) → (∀ y ∈ B, sle x y) →
    WC F X (.loop L_slices_insertionSortOrdered_string_1) [(7, .int .i64 (A.length : Int)), (1, .int .i64 0), (2, .int .i64 (N : Int)), (0, w.toV), (6, v6)] (SL w.toV TS (A ++ x :: B ++ Q) :: H)
      (KPost fun y l' H' => ∃ A' B', y = .exit 2 ∧ l' = [(1, .int .i64 0), (2, .int .i64 (N : Int)), (0, w.toV), (6, v6)] ∧ H' = SL w.toV TS (A' ++ x :: B' ++ Q) :: H ∧ A' ++ B' = A ++ B ∧ SSor (A' ++ x :: B')) := by
  intro n
  induction n using Nat.strongRecOn with
  | _ n ih =>
    intro A B hn hl hs hB
    refine WC_loop ?_
    refine WC_seq ?_
    refine WC_seq ?_
    refine WC_region ?_
    refine WO_step rfl (S_pure rfl ?_)
    refine WO_step rfl (S_pure rfl ?_)
    refine WO_step rfl (S_pure rfl ?_)
    refine WO_step rfl (S_pure rfl ?_)
    refine WO_cases (t := 19) rfl (fun hg1 => ?_) (fun hg1 => ?_)
    ·
      try simp only [decide_eq_true_eq, decide_eq_false_iff_not, Bool.not_eq_true', Bool.not_eq_false', beq_iff_eq, bne_iff_ne, beq_eq_false_iff_ne, Int.ofNat_lt, Int.ofNat_le, Int.ofNat_inj, ne_eq, gt_iff_lt, ge_iff_le] at hg1
      obtain ⟨A, y, rfl⟩ := snoc_of_pos (A := A) (by omega)
      simp only [List.length_append, List.length_cons, List.length_nil] at *
      have hx : (A ++ [y] ++ x :: B ++ Q)[A.length + (0 + 1)]? = some x := by simp
      have hy : (A ++ [y] ++ x :: B ++ Q)[A.length + (0 + 1) - 1]? = some y := by simp
      refine WO_step rfl (S_pure rfl ?_)
      refine WO_step rfl (S_pure rfl ?_)
      refine WO_step rfl (S_idx rfl rfl (by repeat (first | assumption | exact RD.head | exact RD.nil | apply RD.tail)) (by first | rfl | assumption | (symm; assumption)) (by rfl) (by first | assumption | omega | exact lt_of_get (by assumption) | (simp only [List.length_set]; first | assumption | omega | exact lt_of_get (by assumption))) fun hp22 => ?_)
      refine WO_step rfl (S_loadE rfl (by repeat (first | assumption | exact RD.head | exact RD.nil | apply RD.tail)) (by first | rfl | assumption | (symm; assumption)) (by first | rfl | assumption | (symm; assumption)) (by first | rfl | assumption | (symm; assumption)) (by assumption) ?_)
      refine WO_step rfl (S_pure rfl ?_)
      refine WO_step rfl (S_pure rfl ?_)
      first | refine WO_step rfl (S_subN (b := 1) rfl rfl (by omega) ?_) | refine WO_step rfl (S_pure rfl ?_)
      refine WO_step rfl (S_idx rfl rfl (by repeat (first | assumption | exact RD.head | exact RD.nil | apply RD.tail)) (by first | rfl | assumption | (symm; assumption)) (by rfl) (by first | assumption | omega | exact lt_of_get (by assumption) | (simp only [List.length_set]; first | assumption | omega | exact lt_of_get (by assumption))) fun hp27 => ?_)
      refine WO_step rfl (S_loadE rfl (by repeat (first | assumption | exact RD.head | exact RD.nil | apply RD.tail)) (by first | rfl | assumption | (symm; assumption)) (by first | rfl | assumption | (symm; assumption)) (by first | rfl | assumption | (symm; assumption)) (by assumption) ?_)
      refine WO_call rfl rfl rfl ?_
      refine sp_Less.mono ?_
      rintro _ _ ⟨rfl, rfl⟩
      refine WO_step rfl (S_pure rfl ?_)
      refine WO_nil ?_
      refine KSeq_n ?_
      refine WC_cond rfl (fun hb1 => ?_) (fun hb1 => ?_)
      ·
        try simp only [decide_eq_true_eq, decide_eq_false_iff_not, Bool.not_eq_true', Bool.not_eq_false', beq_iff_eq, bne_iff_ne, beq_eq_false_iff_ne, Int.ofNat_lt, Int.ofNat_le, Int.ofNat_inj, ne_eq, gt_iff_lt, ge_iff_le] at hb1
        refine WC_skip ?_
        refine KSeq_n ?_
        refine WC_seq ?_
        refine WC_block ?_
        refine WC_region ?_
        refine WO_step rfl (S_pure rfl ?_)
        refine WO_step rfl (S_pure rfl ?_)
        refine WO_step rfl (S_pure rfl ?_)
        refine WO_step rfl (S_pure rfl ?_)
        first | refine WO_step rfl (S_subN (b := 1) rfl rfl (by omega) ?_) | refine WO_step rfl (S_pure rfl ?_)
        refine WO_step rfl (S_pure rfl ?_)
        refine WO_step rfl (S_pure rfl ?_)
        first | refine WO_step rfl (S_subN (b := 1) rfl rfl (by omega) ?_) | refine WO_step rfl (S_pure rfl ?_)
        refine WO_step rfl (S_idx rfl rfl (by repeat (first | assumption | exact RD.head | exact RD.nil | apply RD.tail)) (by first | rfl | assumption | (symm; assumption)) (by rfl) (by first | assumption | omega | exact lt_of_get (by assumption) | (simp only [List.length_set]; first | assumption | omega | exact lt_of_get (by assumption))) fun hp41 => ?_)
        refine WO_step rfl (S_loadE rfl (by repeat (first | assumption | exact RD.head | exact RD.nil | apply RD.tail)) (by first | rfl | assumption | (symm; assumption)) (by first | rfl | assumption | (symm; assumption)) (by first | rfl | assumption | (symm; assumption)) (by assumption) ?_)
        refine WO_step rfl (S_pure rfl ?_)
        refine WO_step rfl (S_pure rfl ?_)
        refine WO_step rfl (S_idx rfl rfl (by repeat (first | assumption | exact RD.head | exact RD.nil | apply RD.tail)) (by first | rfl | assumption | (symm; assumption)) (by rfl) (by first | assumption | omega | exact lt_of_get (by assumption) | (simp only [List.length_set]; first | assumption | omega | exact lt_of_get (by assumption))) fun hp45 => ?_)
        refine WO_step rfl (S_loadE rfl (by repeat (first | assumption | exact RD.head | exact RD.nil | apply RD.tail)) (by first | rfl | assumption | (symm; assumption)) (by first | rfl | assumption | (symm; assumption)) (by first | rfl | assumption | (symm; assumption)) (by assumption) ?_)
        refine WO_step rfl (S_idx rfl rfl (by repeat (first | assumption | exact RD.head | exact RD.nil | apply RD.tail)) (by first | rfl | assumption | (symm; assumption)) (by rfl) (by first | assumption | omega | exact lt_of_get (by assumption) | (simp only [List.length_set]; first | assumption | omega | exact lt_of_get (by assumption))) fun hp47 => ?_)
        refine WO_step rfl (S_storeW rfl rfl (by repeat (first | exact Pick.head | apply Pick.tail)) (by first | rfl | assumption | (symm; assumption)) (by rfl) (by first | rfl | assumption | (symm; assumption)) (by first | assumption | omega | exact lt_of_get (by assumption) | (simp only [List.length_set]; first | assumption | omega | exact lt_of_get (by assumption))) ?_)
        refine WO_step rfl (S_idx rfl rfl (by repeat (first | assumption | exact RD.head | exact RD.nil | apply RD.tail)) (by first | rfl | assumption | (symm; assumption)) (by rfl) (by first | assumption | omega | exact lt_of_get (by assumption) | (simp only [List.length_set]; first | assumption | omega | exact lt_of_get (by assumption))) fun hp48 => ?_)
        refine WO_step rfl (S_storeW rfl rfl (by repeat (first | exact Pick.head | apply Pick.tail)) (by first | rfl | assumption | (symm; assumption)) (by rfl) (by first | rfl | assumption | (symm; assumption)) (by first | assumption | omega | exact lt_of_get (by assumption) | (simp only [List.length_set]; first | assumption | omega | exact lt_of_get (by assumption))) ?_)
        refine WO_nil ?_
        refine KBlock_n ?_
        refine KSeq_n ?_
        refine WC_region ?_
        refine WO_step rfl (S_pure rfl ?_)
        first | refine WO_step rfl (S_subN (b := 1) rfl rfl (by omega) ?_) | refine WO_step rfl (S_pure rfl ?_)
        refine WO_step rfl (S_pure rfl ?_)
        refine WO_nil ?_
        refine KLoop_n ?_
        have e : ((A ++ [y] ++ x :: B ++ Q).set (A.length + (0 + 1)) y).set (A.length + (0 + 1) - 1) x = A ++ x :: (y :: B) ++ Q := by simp
        rw [e]
        refine WC_post (WC_weak (ih A.length (by omega) A (y :: B) rfl (by simp only [List.length_cons]; omega) (by simpa using hs) (fun z hz => ?_)) (by repeat (first | exact SubE.nil | apply SubE.cons rfl)) (by repeat (first | exact HSub.refl | refine HSub.pick (by repeat (first | exact Pick.head | apply Pick.tail)) ?_ | apply HSub.drop))) ?_
        · rcases List.mem_cons.1 hz with rfl | hz
          · exact sle_of_lt (by simpa using hb1)
          · exact hB z hz
        · rintro u l' H' ⟨A', B', rfl, rfl, rfl, h1, h2⟩
          exact KPost_i (by repeat (first | exact SubE.nil | apply SubE.cons rfl)) (by repeat (first | exact HSub.refl | refine HSub.pick (by repeat (first | exact Pick.head | apply Pick.tail)) ?_ | apply HSub.drop)) ⟨A', B', rfl, rfl, rfl, by rw [h1]; simp, h2⟩
      ·
        try simp only [decide_eq_true_eq, decide_eq_false_iff_not, Bool.not_eq_true', Bool.not_eq_false', beq_iff_eq, bne_iff_ne, beq_eq_false_iff_ne, Int.ofNat_lt, Int.ofNat_le, Int.ofNat_inj, ne_eq, gt_iff_lt, ge_iff_le] at hb1
        refine WC_exit ?_
        refine KSeq_x ?_
        refine KLoop_x ?_
        refine KPost_i (l' := [(1, .int .i64 0), (2, .int .i64 (N : Int)), (0, w.toV), (6, v6)]) (by repeat (first | exact SubE.nil | apply SubE.cons rfl)) (by repeat (first | exact HSub.refl | refine HSub.pick (by repeat (first | exact Pick.head | apply Pick.tail)) ?_ | apply HSub.drop)) ⟨A ++ [y], B, rfl, rfl, rfl, rfl, ssor_ins hs (ssor_last (List.pairwise_append.1 hs).1 (by simpa [sle] using hb1)) hB⟩
    ·
      try simp only [decide_eq_true_eq, decide_eq_false_iff_not, Bool.not_eq_true', Bool.not_eq_false', beq_iff_eq, bne_iff_ne, beq_eq_false_iff_ne, Int.ofNat_lt, Int.ofNat_le, Int.ofNat_inj, ne_eq, gt_iff_lt, ge_iff_le] at hg1
      refine WO_off rfl ?_
      refine WO_off rfl ?_
      refine WO_off rfl ?_
      refine WO_off rfl ?_
      refine WO_off rfl ?_
      refine WO_off rfl ?_
      refine WO_off rfl ?_
      refine WO_off rfl ?_
      refine WO_off rfl ?_
      refine WO_off rfl ?_
      refine WO_step rfl (S_pure rfl ?_)
      refine WO_nil ?_
      refine KSeq_n ?_
      refine WC_cond rfl (fun h => ?_) (fun _ => ?_)
      · exact absurd h (by decide)
      refine WC_exit ?_
      refine KSeq_x ?_
      refine KLoop_x ?_
      have hA : A = [] := List.length_eq_zero_iff.1 (by omega)
      subst hA
      exact KPost_i (by repeat (first | exact SubE.nil | apply SubE.cons rfl)) (by repeat (first | exact HSub.refl | refine HSub.pick (by repeat (first | exact Pick.head | apply Pick.tail)) ?_ | apply HSub.drop)) ⟨[], B, rfl, rfl, rfl, rfl, ssor_ins hs (by simp) hB⟩
theorem lp_is_0 {H : SH} {w : SV} {L : List ByteArray} (hL : L.length ≤ 1000) : ∀ (n i : Nat) (P Q : List ByteArray), L.length - i = n → (P.length = i ∧ 0 < i) ∨ (L = [] ∧ i = 1) → SSor P → (P ++ Q).Perm L →
    WC F X (.loop L_slices_insertionSortOrdered_string_0) [(6, .int .i64 (i : Int)), (1, .int .i64 0), (2, .int .i64 (L.length : Int)), (0, w.toV)] (SL w.toV TS (P ++ Q) :: H)
      (KPost fun y l' H' => ∃ L', y = .exit 0 ∧ l' = [] ∧ H' = SL w.toV TS L' :: H ∧ SSor L' ∧ L'.Perm L) := by
  intro n
  induction n using Nat.strongRecOn with
  | _ n ih =>
    intro i P Q hn hi hs hp
    have hpl := hp.length_eq
    rw [List.length_append] at hpl
    refine WC_loop ?_
    refine WC_seq ?_
    refine WC_seq ?_
    refine WC_region ?_
    refine WO_step rfl (S_pure rfl ?_)
    refine WO_step rfl (S_pure rfl ?_)
    refine WO_step rfl (S_pure rfl ?_)
    refine WO_nil ?_
    refine KSeq_n ?_
    refine WC_cond rfl (fun hb1 => ?_) (fun hb1 => ?_)
    ·
      try simp only [decide_eq_true_eq, decide_eq_false_iff_not, Bool.not_eq_true', Bool.not_eq_false', beq_iff_eq, bne_iff_ne, beq_eq_false_iff_ne, Int.ofNat_lt, Int.ofNat_le, Int.ofNat_inj, ne_eq, gt_iff_lt, ge_iff_le] at hb1
      have hi : P.length = i ∧ 0 < i := by
        rcases hi with hi | ⟨rfl, rfl⟩
        · exact hi
        · exact absurd hb1 (by simp)
      obtain ⟨x, Q, rfl⟩ : ∃ x Q', Q = x :: Q' := by
        cases Q with
        | nil => rw [List.length_nil] at hpl; omega
        | cons x Q => exact ⟨x, Q, rfl⟩
      rw [List.length_cons] at hpl
      refine WC_skip ?_
      refine KSeq_n ?_
      refine WC_seq ?_
      refine WC_block ?_
      refine WC_seq ?_
      refine WC_region ?_
      refine WO_step rfl (S_pure rfl ?_)
      refine WO_step rfl (S_pure rfl ?_)
      refine WO_nil ?_
      refine KSeq_n ?_
      refine WC_block ?_
      --out x2
      have e0 : P ++ x :: Q = P ++ x :: [] ++ Q := by simp
      rw [e0]
      refine WC_post (WC_weak (lp_is_1 (x := x) (Q := Q) (w := w) (H := H) (.int .i64 (i : Int)) L.length hL P.length P [] rfl (by simp only [List.length_nil]; omega) (by simpa using hs) (by simp)) (by rw [hi.1]; exact (by repeat (first | exact SubE.nil | apply SubE.cons rfl))) (by repeat (first | exact HSub.refl | refine HSub.pick (by repeat (first | exact Pick.head | apply Pick.tail)) ?_ | apply HSub.drop))) ?_
      rintro y l' H' ⟨A', B', rfl, rfl, rfl, h1, h2⟩
      refine KBlock_h ?_
      refine KBlock_n ?_
      refine KSeq_n ?_
      refine WC_region ?_
      refine WO_step rfl (S_pure rfl ?_)
      first | refine WO_step rfl (S_addN (b := 1) rfl rfl (by omega) ?_) | refine WO_step rfl (S_pure rfl ?_)
      refine WO_step rfl (S_pure rfl ?_)
      refine WO_nil ?_
      refine KLoop_n ?_
      refine WC_weak (ih (L.length - (i + 1)) (by omega) (i + 1) (A' ++ x :: B') Q rfl (.inl ⟨?_, by omega⟩) h2 ?_) (by repeat (first | exact SubE.nil | apply SubE.cons rfl)) (by repeat (first | exact HSub.refl | refine HSub.pick (by repeat (first | exact Pick.head | apply Pick.tail)) ?_ | apply HSub.drop))
      · have := congrArg List.length h1
        simp only [List.length_append, List.length_cons, List.length_nil] at this ⊢
        omega
      · refine List.Perm.trans ?_ hp
        rw [e0]
        refine List.Perm.append_right Q ?_
        refine (List.perm_middle.trans ?_).trans List.perm_middle.symm
        rw [h1]
    ·
      try simp only [decide_eq_true_eq, decide_eq_false_iff_not, Bool.not_eq_true', Bool.not_eq_false', beq_iff_eq, bne_iff_ne, beq_eq_false_iff_ne, Int.ofNat_lt, Int.ofNat_le, Int.ofNat_inj, ne_eq, gt_iff_lt, ge_iff_le] at hb1
      refine WC_exit ?_
      refine KSeq_x ?_
      refine KLoop_x ?_
      refine KPost_i (by repeat (first | exact SubE.nil | apply SubE.cons rfl)) (by repeat (first | exact HSub.refl | refine HSub.pick (by repeat (first | exact Pick.head | apply Pick.tail)) ?_ | apply HSub.drop)) ⟨P ++ Q, rfl, rfl, rfl, ?_, hp⟩
      rcases hi with hi | ⟨rfl, rfl⟩
      · have hQ : Q = [] := List.length_eq_zero_iff.1 (by omega)
        rw [hQ, List.append_nil]; exact hs
      · rw [List.Perm.eq_nil hp]; exact List.Pairwise.nil
theorem sp_is {H H0 : SH} {w : SV} {L : List ByteArray} (hp : Pick (SL w.toV TS L) H H0) (hL : L.length ≤ 1000) : WF F X f_slices_insertionSortOrdered_string [w.toV, .int .i64 0, .int .i64 (L.length : Int)] H (fun r H' => ∃ L', H' = SL w.toV TS L' :: H0 ∧ SSor L' ∧ L'.Perm L) := by
  refine WF.weak ?_ hp.sub
  refine WF_fn F_slices_insertionSortOrdered_string ?_
  refine WC_seq ?_
  refine WC_region ?_
  refine WO_step rfl (S_pure rfl ?_)
  first | refine WO_step rfl (S_addN (b := 1) rfl rfl (by omega) ?_) | refine WO_step rfl (S_pure rfl ?_)
  refine WO_step rfl (S_pure rfl ?_)
  refine WO_nil ?_
  refine KSeq_n ?_
  refine WC_block ?_
  --out x0
  obtain ⟨P, Q, hPQ, hP, hsP⟩ : ∃ P Q, L = P ++ Q ∧ ((P.length = 1 ∧ 0 < 1) ∨ (L = [] ∧ 1 = 1)) ∧ SSor P := by
    cases L with
    | nil => exact ⟨[], [], rfl, .inr ⟨rfl, rfl⟩, List.Pairwise.nil⟩
    | cons x L => exact ⟨[x], L, rfl, .inl ⟨rfl, by omega⟩, List.pairwise_singleton _ _⟩
  refine WC_post (WC_weak (lp_is_0 (H := H0) (w := w) hL (L.length - 1) 1 P Q rfl hP hsP (by rw [← hPQ])) (by repeat (first | exact SubE.nil | apply SubE.cons rfl)) (by rw [← hPQ]; exact HSub.refl)) ?_
  rintro y l' H' ⟨L', rfl, rfl, rfl, h1, h2⟩
  refine KBlock_h ?_
  refine KFn_n ResL.nil ?_
  exact ⟨_, HSub.refl, L', rfl, h1, h2⟩
theorem S_idxSx {l : SE} {H : SH} {K : Value → SH → Prop} {s : ByteArray} {x i : Opd} {kd : IntKind} {J : Int} {j : Nat} (hx : x.lv l = some (.string s)) (hi : i.lv l = some (.int kd J)) (hJ : J = (j : Int)) (hj : j < s.data.toList.length) (k : ∀ b : UInt8, K (.int .u8 ((b.toNat : Nat) : Int)) H) : Step (.idxS x i) l H K := by
  obtain ⟨b, hb⟩ := get_of_lt hj
  exact S_idxS hx hi hJ hb (k b)
theorem S_toBn {l : SE} {H : SH} {K : Value → SH → Prop} {x : Opd} {a : Nat} {kd : IntKind} (hx : x.lv l = some (.int kd (a : Int))) (k : K (.int .u8 ((a % 256 : Nat) : Int)) H) : Step (.conv .u8 x) l H K :=
  S_pureE (v := .int .u8 (IntKind.wrap .u8 (a : Int))) (by simp only [pev, hx]) (by rw [wrapB]; rfl) k
theorem sp_Len64 {H : SH} {n : Nat} (hn : n < 256) : WF F X f_math_bits_Len64 [.int .u64 (n : Int)] H (fun r H' => H' = H ∧ ∃ v : Int, r = .int .i64 v) := by
  refine WF_fn F_math_bits_Len64 ?_
  refine WC_seq ?_
  refine WC_region ?_
  refine WO_step rfl (S_pure rfl ?_)
  refine WO_nil ?_
  refine KSeq_n ?_
  refine WC_seq ?_
  refine WC_seq ?_
  refine WC_region ?_
  refine WO_step rfl (S_pure rfl ?_)
  refine WO_step rfl (S_pure rfl ?_)
  refine WO_nil ?_
  refine KSeq_n ?_
  refine WC_cond rfl (fun hb1 => ?_) (fun hb1 => ?_)
  ·
    try simp only [decide_eq_true_eq, decide_eq_false_iff_not, Bool.not_eq_true', Bool.not_eq_false', beq_iff_eq, bne_iff_ne, beq_eq_false_iff_ne, Int.ofNat_lt, Int.ofNat_le, Int.ofNat_inj, ne_eq, gt_iff_lt, ge_iff_le] at hb1
    exfalso; omega
    --stop
  ·
    try simp only [decide_eq_true_eq, decide_eq_false_iff_not, Bool.not_eq_true', Bool.not_eq_false', beq_iff_eq, bne_iff_ne, beq_eq_false_iff_ne, Int.ofNat_lt, Int.ofNat_le, Int.ofNat_inj, ne_eq, gt_iff_lt, ge_iff_le] at hb1
    refine WC_skip ?_
    refine KSeq_n ?_
    refine WC_seq ?_
    refine WC_seq ?_
    refine WC_region ?_
    refine WO_step rfl (S_pure rfl ?_)
    refine WO_step rfl (S_pure rfl ?_)
    refine WO_nil ?_
    refine KSeq_n ?_
    refine WC_cond rfl (fun hb2 => ?_) (fun hb2 => ?_)
    ·
      try simp only [decide_eq_true_eq, decide_eq_false_iff_not, Bool.not_eq_true', Bool.not_eq_false', beq_iff_eq, bne_iff_ne, beq_eq_false_iff_ne, Int.ofNat_lt, Int.ofNat_le, Int.ofNat_inj, ne_eq, gt_iff_lt, ge_iff_le] at hb2
      exfalso; omega
      --stop
    ·
      try simp only [decide_eq_true_eq, decide_eq_false_iff_not, Bool.not_eq_true', Bool.not_eq_false', beq_iff_eq, bne_iff_ne, beq_eq_false_iff_ne, Int.ofNat_lt, Int.ofNat_le, Int.ofNat_inj, ne_eq, gt_iff_lt, ge_iff_le] at hb2
      refine WC_skip ?_
      refine KSeq_n ?_
      refine WC_seq ?_
      refine WC_seq ?_
      refine WC_region ?_
      refine WO_step rfl (S_pure rfl ?_)
      refine WO_step rfl (S_pure rfl ?_)
      refine WO_nil ?_
      refine KSeq_n ?_
      refine WC_cond rfl (fun hb3 => ?_) (fun hb3 => ?_)
      ·
        try simp only [decide_eq_true_eq, decide_eq_false_iff_not, Bool.not_eq_true', Bool.not_eq_false', beq_iff_eq, bne_iff_ne, beq_eq_false_iff_ne, Int.ofNat_lt, Int.ofNat_le, Int.ofNat_inj, ne_eq, gt_iff_lt, ge_iff_le] at hb3
        exfalso; omega
        --stop
      ·
        try simp only [decide_eq_true_eq, decide_eq_false_iff_not, Bool.not_eq_true', Bool.not_eq_false', beq_iff_eq, bne_iff_ne, beq_eq_false_iff_ne, Int.ofNat_lt, Int.ofNat_le, Int.ofNat_inj, ne_eq, gt_iff_lt, ge_iff_le] at hb3
        refine WC_skip ?_
        refine KSeq_n ?_
        refine WC_seq ?_
        refine WC_region ?_
        refine WO_step rfl (S_pure rfl ?_)
        refine WO_step rfl (S_pure rfl ?_)
        refine WO_step rfl (S_toBn rfl ?_)
        refine WO_step rfl (S_idxSx rfl rfl rfl (Nat.lt_of_lt_of_le (Nat.mod_lt n (by omega)) (Nat.le_of_ble_eq_true rfl)) fun b => ?_)
        first | refine WO_step rfl (S_toI rfl (by omega) ?_) | refine WO_step rfl (S_pure rfl ?_)
        first | refine WO_step rfl (S_addN rfl rfl (by omega) ?_) | refine WO_step rfl (S_pure rfl ?_)
        refine WO_step rfl (S_pure rfl ?_)
        refine WO_nil ?_
        refine KSeq_n ?_
        refine WC_ret ?_
        refine KFn_r (ResL.tmp rfl ResL.nil) ?_
        exact ⟨_, HSub.refl, rfl, _, rfl⟩
theorem sp_Len0 {H : SH} {n : Nat} (hn : n < 256) : WF F X f_math_bits_Len [.int .u64 (n : Int)] H (fun r H' => H' = H ∧ ∃ v : Int, r = .int .i64 v) := by
  refine WF_fn F_math_bits_Len ?_
  refine WC_seq ?_
  refine WC_region ?_
  refine WO_step rfl (S_pure rfl ?_)
  refine WO_nil ?_
  refine KSeq_n ?_
  refine WC_seq ?_
  refine WC_cond rfl (fun hb1 => ?_) (fun hb1 => ?_)
  ·
    try simp only [decide_eq_true_eq, decide_eq_false_iff_not, Bool.not_eq_true', Bool.not_eq_false', beq_iff_eq, bne_iff_ne, beq_eq_false_iff_ne, Int.ofNat_lt, Int.ofNat_le, Int.ofNat_inj, ne_eq, gt_iff_lt, ge_iff_le] at hb1
    exact absurd hb1 (by simp)
    --stop
  ·
    try simp only [decide_eq_true_eq, decide_eq_false_iff_not, Bool.not_eq_true', Bool.not_eq_false', beq_iff_eq, bne_iff_ne, beq_eq_false_iff_ne, Int.ofNat_lt, Int.ofNat_le, Int.ofNat_inj, ne_eq, gt_iff_lt, ge_iff_le] at hb1
    refine WC_skip ?_
    refine KSeq_n ?_
    refine WC_seq ?_
    refine WC_region ?_
    refine WO_step rfl (S_pure rfl ?_)
    refine WO_call rfl rfl rfl ?_
    refine (sp_Len64 (by omega)).mono ?_
    rintro _ _ ⟨rfl, n7, rfl⟩
    refine WO_step rfl (S_pure rfl ?_)
    refine WO_nil ?_
    refine KSeq_n ?_
    refine WC_ret ?_
    refine KFn_r (ResL.tmp rfl ResL.nil) ?_
    exact ⟨_, HSub.refl, rfl, _, rfl⟩
theorem lp_pdq {H H0 : SH} {w : SV} {L : List ByteArray} {v : Int} (hp : Pick (SL w.toV TS L) H H0) (hL : L.length ≤ 12) :
    WC F X (.loop L_slices_pdqsortOrdered_string_0) [(0, w.toV), (1, .int .i64 0), (2, .int .i64 (L.length : Int)), (3, .int .i64 v), (8, .bool true), (9, .bool true)] H (KPost fun x l' H' => x = .ret ∧ l' = [] ∧ ∃ L', H' = SL w.toV TS L' :: H0 ∧ SSor L' ∧ L'.Perm L) := by
  refine WC_loop ?_
  refine WC_block ?_
  refine WC_seq ?_
  refine WC_region ?_
  refine WO_step rfl (S_pure rfl ?_)
  refine WO_step rfl (S_pure rfl ?_)
  refine WO_step rfl (S_subN (a := L.length) (b := 0) rfl rfl (by omega) ?_)
  refine WO_step rfl (S_pure rfl ?_)
  refine WO_nil ?_
  refine KSeq_n ?_
  refine WC_seq ?_
  refine WC_seq ?_
  refine WC_region ?_
  refine WO_step rfl (S_pure rfl ?_)
  refine WO_step rfl (S_pure rfl ?_)
  refine WO_nil ?_
  refine KSeq_n ?_
  refine WC_cond rfl (fun hb1 => ?_) (fun hb1 => ?_)
  ·
    try simp only [decide_eq_true_eq, decide_eq_false_iff_not, Bool.not_eq_true', Bool.not_eq_false', beq_iff_eq, bne_iff_ne, beq_eq_false_iff_ne, Int.ofNat_lt, Int.ofNat_le, Int.ofNat_inj, ne_eq, gt_iff_lt, ge_iff_le] at hb1
    refine WC_seq ?_
    refine WC_region ?_
    refine WO_step rfl (S_pure rfl ?_)
    refine WO_step rfl (S_pure rfl ?_)
    refine WO_step rfl (S_pure rfl ?_)
    refine WO_call rfl rfl rfl ?_
    refine (sp_is hp (by omega)).mono ?_
    rintro _ _ ⟨L', rfl, h1, h2⟩
    refine WO_nil ?_
    refine KSeq_n ?_
    refine WC_ret ?_
    refine KSeq_r ?_
    refine KBlock_r ?_
    refine KLoop_r ?_
    exact KPost_i (by repeat (first | exact SubE.nil | apply SubE.cons rfl)) (by repeat (first | exact HSub.refl | refine HSub.pick (by repeat (first | exact Pick.head | apply Pick.tail)) ?_ | apply HSub.drop)) ⟨rfl, rfl, L', rfl, h1, h2⟩
  ·
    try simp only [decide_eq_true_eq, decide_eq_false_iff_not, Bool.not_eq_true', Bool.not_eq_false', beq_iff_eq, bne_iff_ne, beq_eq_false_iff_ne, Int.ofNat_lt, Int.ofNat_le, Int.ofNat_inj, ne_eq, gt_iff_lt, ge_iff_le] at hb1
    exfalso; omega
    --stop
theorem sp_pdq {H H0 : SH} {w : SV} {L : List ByteArray} {v : Int} (hp : Pick (SL w.toV TS L) H H0) (hL : L.length ≤ 12) : WF F X f_slices_pdqsortOrdered_string [w.toV, .int .i64 0, .int .i64 (L.length : Int), .int .i64 v] H (fun r H' => ∃ L', H' = SL w.toV TS L' :: H0 ∧ SSor L' ∧ L'.Perm L) := by
  refine WF_fn F_slices_pdqsortOrdered_string ?_
  refine WC_seq ?_
  refine WC_region ?_
  refine WO_step rfl (S_pure rfl ?_)
  refine WO_nil ?_
  refine KSeq_n ?_
  refine WC_seq ?_
  refine WC_region ?_
  refine WO_step rfl (S_pure rfl ?_)
  refine WO_nil ?_
  refine KSeq_n ?_
  refine WC_block ?_
  --out r
  refine WC_post (WC_weak (lp_pdq (v := v) hp hL) (by repeat (first | exact SubE.nil | apply SubE.cons rfl)) (by repeat (first | exact HSub.refl | refine HSub.pick (by repeat (first | exact Pick.head | apply Pick.tail)) ?_ | apply HSub.drop))) ?_
  rintro y l' H' ⟨rfl, rfl, L', rfl, h1, h2⟩
  refine KBlock_r ?_
  refine KFn_r ResL.nil ?_
  exact ⟨_, HSub.refl, L', rfl, h1, h2⟩
theorem sp_Sort {H H0 : SH} {w : SV} {L : List ByteArray} (hp : Pick (SL w.toV TS L) H H0) (hL : L.length ≤ 12) : WF F X f_slices_Sort_string [w.toV] H (fun r H' => ∃ L', H' = SL w.toV TS L' :: H0 ∧ SSor L' ∧ L'.Perm L) := by
  have hrd := RD.pick hp
  refine WF_fn F_slices_Sort_string ?_
  refine WC_seq ?_
  refine WC_region ?_
  refine WO_step rfl (S_pure rfl ?_)
  first | refine WO_step rfl (S_pure rfl ?_) | refine WO_step rfl (S_lenS rfl (by repeat (first | assumption | exact RD.head | exact RD.nil | apply RD.tail)) ?_)
  refine WO_step rfl (S_pure rfl ?_)
  refine WO_nil ?_
  refine KSeq_n ?_
  refine WC_region ?_
  refine WO_step rfl (S_pure rfl ?_)
  refine WO_step rfl (S_pure rfl ?_)
  refine WO_step rfl (S_pure rfl ?_)
  first | refine WO_step rfl (S_toU rfl (by omega) ?_) | refine WO_step rfl (S_pure rfl ?_)
  refine WO_call rfl rfl rfl ?_
  refine (sp_Len0 (by omega)).mono ?_
  rintro _ _ ⟨rfl, n9, rfl⟩
  refine WO_call rfl rfl rfl ?_
  refine (sp_pdq hp hL).mono ?_
  rintro _ _ ⟨L', rfl, h1, h2⟩
  refine WO_nil ?_
  refine KFn_n ResL.nil ?_
  exact ⟨_, HSub.refl, L', rfl, h1, h2⟩
end Go.Proofs.YtmibhdoegcgfmaaDoor.AM
