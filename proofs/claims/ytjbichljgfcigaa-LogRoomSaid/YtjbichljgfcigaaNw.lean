/- Walks: what the functions compute. -/
import Derived.Test.YtjbichljgfcigaaTypes
namespace Go.Proofs.Ytjbichljgfcigaa.AM
open Go
set_option linter.unusedSimpArgs false
set_option linter.unusedVariables false
set_option maxRecDepth 4000

/-! ### Records by rising keys, plainly -/
def kl (r : Rec) : List UInt8 := r.key.data.toList
theorem kl_inj {a b : Rec} (h : kl a = kl b) : a.key = b.key := ba_ext h
def Inc (l : List Rec) : Prop := l.Pairwise (fun a b => kl a < kl b)
theorem fnd_none' {l : List Rec} {k : ByteArray} (h : ∀ y ∈ l, y.key ≠ k) : fnd l k = none := by
  induction l with
  | nil => rfl
  | cons x l ih =>
    show (if x.key = k then some x else fnd l k) = none
    rw [if_neg (h x (List.mem_cons_self ..)), ih (fun y hy => h y (List.mem_cons_of_mem _ hy))]
theorem fnd_mem' : ∀ {l : List Rec} {k : ByteArray} {r : Rec}, fnd l k = some r → r ∈ l ∧ r.key = k
  | x :: l, k, r, h => by
    unfold fnd at h; split at h
    · cases h; exact ⟨List.mem_cons_self .., by assumption⟩
    · have := fnd_mem' h; exact ⟨List.mem_cons_of_mem _ this.1, this.2⟩
theorem Inc.uniq : ∀ {a b : List Rec}, Inc a → Inc b → (∀ k, fnd a k = fnd b k) → a = b
  | [], [], _, _, _ => rfl
  | [], y :: b, _, _, h => by have := h y.key; simp [fnd] at this
  | x :: a, [], _, _, h => by have := h x.key; simp [fnd] at this
  | x :: a, y :: b, ha, hb, h => by
    have pa := List.pairwise_cons.1 ha
    have pb := List.pairwise_cons.1 hb
    have hxy : x = y := by
      have h1 := h x.key
      have h2 := h y.key
      simp only [fnd, if_true] at h1 h2
      by_cases e : x.key = y.key
      · rw [if_pos e.symm] at h1; exact Option.some.inj h1
      · rw [if_neg (Ne.symm e)] at h1
        rw [if_neg e] at h2
        have m1 := (fnd_mem' h1.symm).1
        have m2 := (fnd_mem' h2).1
        exact absurd (List.lt_trans (pb.1 x m1) (pa.1 y m2)) (List.lt_irrefl _)
    subst hxy
    congr 1
    refine Inc.uniq pa.2 pb.2 fun k => ?_
    by_cases e : x.key = k
    · rw [fnd_none' fun z hz hk => ?_, fnd_none' fun z hz hk => ?_]
      · have := pb.1 z hz; unfold kl at this; rw [hk, ← e] at this; exact absurd this (List.lt_irrefl _)
      · have := pa.1 z hz; unfold kl at this; rw [hk, ← e] at this; exact absurd this (List.lt_irrefl _)
    · have := h k
      simp only [fnd, if_neg e] at this
      exact this
/-- The ref's Set. -/
def setR (r : Rec) : List Rec → Bool → List Rec
  | [], d => if d then [] else [r]
  | x :: l, d => (if d = false ∧ ¬ kl x < kl r then [r] else []) ++ ((if x.key = r.key then [] else [x]) ++ setR r l (d || !decide (kl x < kl r)))
theorem setR_true (r : Rec) : ∀ l, setR r l true = l.filter (fun x => !decide (x.key = r.key))
  | [] => rfl
  | x :: l => by
    simp only [setR, Bool.true_or, setR_true r l, List.filter_cons]
    by_cases e : x.key = r.key <;> simp [e]
theorem setR_mem {r y : Rec} : ∀ {l : List Rec} {d : Bool}, y ∈ setR r l d → y = r ∨ y ∈ l
  | [], d, h => by
    unfold setR at h; split at h
    · simp at h
    · simp at h; exact .inl h
  | x :: l, d, h => by
    unfold setR at h
    rcases List.mem_append.1 h with h | h
    · split at h
      · simp at h; exact .inl h
      · simp at h
    · rcases List.mem_append.1 h with h | h
      · split at h
        · simp at h
        · simp at h; exact .inr (by simp [h])
      · rcases setR_mem h with h | h
        · exact .inl h
        · exact .inr (List.mem_cons_of_mem _ h)
theorem fnd_filter (r : Rec) (k : ByteArray) (hk : k ≠ r.key) : ∀ l : List Rec, fnd (l.filter (fun x => !decide (x.key = r.key))) k = fnd l k
  | [] => rfl
  | x :: l => by
    rw [List.filter_cons]
    by_cases e : x.key = r.key
    · simp only [e, decide_true, Bool.not_true, Bool.false_eq_true, if_false]
      rw [fnd_filter r k hk l]; simp only [fnd]; rw [if_neg (by rw [e]; exact Ne.symm hk)]
    · simp only [e, decide_false, Bool.not_false, if_true]
      simp only [fnd, fnd_filter r k hk l]
theorem setR_spec (r : Rec) : ∀ l : List Rec, Inc l → Inc (setR r l false) ∧ ∀ k, fnd (setR r l false) k = if r.key = k then some r else fnd l k
  | [], _ => by
    simp only [setR, Bool.false_eq_true, if_false]
    exact ⟨List.pairwise_singleton _ _, fun k => rfl⟩
  | x :: l, h => by
    have p := List.pairwise_cons.1 h
    by_cases hx : kl x < kl r
    · have hne : x.key ≠ r.key := by intro e; unfold kl at hx; rw [e] at hx; exact absurd hx (List.lt_irrefl _)
      obtain ⟨h1, h2⟩ := setR_spec r l p.2
      have e : setR r (x :: l) false = x :: setR r l false := by simp [setR, hx, hne]
      rw [e]
      refine ⟨List.pairwise_cons.2 ⟨fun y hy => ?_, h1⟩, fun k => ?_⟩
      · rcases setR_mem hy with rfl | hy
        · exact hx
        · exact p.1 y hy
      · simp only [fnd, h2]
        by_cases e : r.key = k
        · rw [if_pos e, if_pos e, if_neg (by rw [← e]; exact hne)]
        · rw [if_neg e, if_neg e]
    · have hr : ∀ y ∈ l, kl r < kl y := fun y hy => by
        exact List.lt_of_le_of_lt (List.not_lt.1 hx) (p.1 y hy)
      have e : setR r (x :: l) false = r :: ((if x.key = r.key then [] else [x]) ++ l.filter (fun x => !decide (x.key = r.key))) := by simp [setR, hx, setR_true]
      rw [e]
      have hfl : Inc (l.filter (fun x => !decide (x.key = r.key))) := List.Pairwise.filter _ p.2
      by_cases ek : x.key = r.key
      · rw [if_pos ek, List.nil_append]
        refine ⟨List.pairwise_cons.2 ⟨fun y hy => hr y (List.mem_filter.1 hy).1, hfl⟩, fun k => ?_⟩
        by_cases e : r.key = k
        · rw [if_pos e]; simp only [fnd]; rw [if_pos e]
        · rw [if_neg e]; simp only [fnd]; rw [if_neg e, if_neg (by rw [ek]; exact e), fnd_filter r k (Ne.symm e)]
      · rw [if_neg ek]
        have hxr : kl r < kl x := by
          by_cases h' : kl r < kl x
          · exact h'
          · exact absurd (kl_inj (List.le_antisymm (List.not_lt.1 h') (List.not_lt.1 hx))) ek
        refine ⟨List.pairwise_cons.2 ⟨fun y hy => ?_, ?_⟩, fun k => ?_⟩
        · simp only [List.singleton_append, List.mem_cons] at hy
          rcases hy with rfl | hy
          · exact hxr
          · exact hr y (List.mem_filter.1 hy).1
        · exact List.pairwise_cons.2 ⟨fun y hy => p.1 y (List.mem_filter.1 hy).1, hfl⟩
        · by_cases e : r.key = k
          · rw [if_pos e]; simp only [fnd]; rw [if_pos e]
          · rw [if_neg e]; simp only [fnd, List.singleton_append]; rw [if_neg e, fnd_filter r k (Ne.symm e)]
def newest (l : List Rec) : List Rec := l.foldl (fun o r => setR r o false) []
theorem newest_snoc (l : List Rec) (x : Rec) : newest (l ++ [x]) = setR x (newest l) false := by simp [newest]
theorem newest_spec (l : List Rec) : Inc (newest l) ∧ ∀ k, fnd (newest l) k = fnd l.reverse k := by
  have : ∀ (n : Nat) (l : List Rec), l.length = n → Inc (newest l) ∧ ∀ k, fnd (newest l) k = fnd l.reverse k := by
    intro n
    induction n with
    | zero => intro l hl; rw [List.length_eq_zero_iff.1 hl]; exact ⟨List.Pairwise.nil, fun k => rfl⟩
    | succ n ih =>
      intro l hl
      obtain ⟨l', x, rfl⟩ : ∃ l' x, l = l' ++ [x] := ⟨l.dropLast, l.getLast (by intro h; rw [h] at hl; simp at hl), (List.dropLast_concat_getLast _).symm⟩
      obtain ⟨h1, h2⟩ := ih l' (by simpa using hl)
      rw [newest_snoc]
      obtain ⟨h3, h4⟩ := setR_spec x _ h1
      refine ⟨h3, fun k => ?_⟩
      rw [h4, h2, List.reverse_append]
      simp only [List.reverse_cons, List.reverse_nil, List.nil_append, List.singleton_append, fnd]
  exact this _ l rfl
theorem fnd_mid : ∀ (a b : List Rec) (k : ByteArray), fnd (a ++ b) k = (fnd a k).or (fnd b k)
  | [], b, k => rfl
  | x :: a, b, k => by
    rw [List.cons_append]; simp only [fnd]
    split
    · rfl
    · exact fnd_mid a b k
theorem fnd_rev : ∀ (l : List Rec), Inc l → ∀ k, fnd l.reverse k = fnd l k
  | [], _, k => rfl
  | x :: l, h, k => by
    have p := List.pairwise_cons.1 h
    rw [List.reverse_cons, fnd_mid, fnd_rev l p.2]
    by_cases e : x.key = k
    · have e1 : fnd (x :: l) k = some x := if_pos e
      have e2 : fnd [x] k = some x := if_pos e
      rw [e1, e2, fnd_none' (l := l) (k := k) fun z hz hk => ?_]
      · rfl
      · have := p.1 z hz; unfold kl at this; rw [hk, ← e] at this; exact absurd this (List.lt_irrefl _)
    · have e1 : fnd (x :: l) k = fnd l k := if_neg e
      have e2 : fnd [x] k = none := if_neg e
      rw [e1, e2]; cases fnd l k <;> rfl
theorem newest_twice (l : List Rec) : newest (newest l) = newest l := by
  obtain ⟨h1, h2⟩ := newest_spec l
  obtain ⟨h3, h4⟩ := newest_spec (newest l)
  exact Inc.uniq h3 h1 fun k => by rw [h4, fnd_rev _ h1]
/-! ### Maps, plainly -/
def mGt {α : Type} (k : ByteArray) : List (ByteArray × α) → Option α
  | [] => none
  | (k', y) :: l => if k = k' then some y else mGt k l
def mSt {α : Type} (k : ByteArray) (x : α) : List (ByteArray × α) → List (ByteArray × α)
  | [] => [(k, x)]
  | (k', y) :: l => if k = k' then (k, x) :: l else (k', y) :: mSt k x l
theorem mGt_mSt {α : Type} (k k' : ByteArray) (x : α) : ∀ l, mGt k (mSt k' x l) = if k = k' then some x else mGt k l
  | [] => rfl
  | (k'', y) :: l => by
    simp only [mSt]
    by_cases e : k' = k''
    · rw [if_pos e]; simp only [mGt]; subst e; by_cases e2 : k = k' <;> simp [e2]
    · rw [if_neg e]; simp only [mGt, mGt_mSt k k' x l]
      by_cases e2 : k = k''
      · rw [if_pos e2, if_pos e2, if_neg (by rw [e2]; exact Ne.symm e)]
      · rw [if_neg e2, if_neg e2]
theorem mGt_some {α : Type} {k : ByteArray} : ∀ {l : List (ByteArray × α)}, k ∈ l.map (·.1) ↔ (mGt k l).isSome
  | [] => by simp [mGt]
  | (k', y) :: l => by
    simp only [List.map_cons, List.mem_cons, mGt]
    by_cases e : k = k'
    · simp [e]
    · simp only [e, false_or, if_false]; exact mGt_some
theorem mSt_keys {α : Type} (k : ByteArray) (x : α) : ∀ l, (mSt k x l).map (·.1) = if (mGt k l).isSome then l.map (·.1) else l.map (·.1) ++ [k]
  | [] => by simp [mSt, mGt]
  | (k', y) :: l => by
    simp only [mSt, mGt]
    by_cases e : k = k'
    · subst e; simp
    · simp only [e, if_false, List.map_cons, mSt_keys k x l]
      split <;> simp
theorem mSt_nd {α : Type} {k : ByteArray} {x : α} {l : List (ByteArray × α)} (h : (l.map (·.1)).Nodup) : ((mSt k x l).map (·.1)).Nodup := by
  rw [mSt_keys]
  split
  · exact h
  · rename_i hn
    exact List.nodup_append.2 ⟨h, by simp, fun a ha b hb => by simp at hb; subst hb; rintro rfl; exact hn (mGt_some.1 ha)⟩
theorem mSt_len {α : Type} (k : ByteArray) (x : α) (l : List (ByteArray × α)) : (mSt k x l).length ≤ l.length + 1 := by
  have := congrArg List.length (mSt_keys k x l)
  rw [List.length_map] at this
  rw [this]; split <;> simp
def mpOf (l : List Rec) : List (ByteArray × Rec) := l.foldl (fun mp r => mSt r.key r mp) []
theorem mpOf_snoc (l : List Rec) (x : Rec) : mpOf (l ++ [x]) = mSt x.key x (mpOf l) := by simp [mpOf]
theorem mpOf_spec (l : List Rec) : ((mpOf l).map (·.1)).Nodup ∧ (∀ k, mGt k (mpOf l) = fnd l.reverse k) ∧ (mpOf l).length ≤ l.length := by
  have : ∀ (n : Nat) (l : List Rec), l.length = n → ((mpOf l).map (·.1)).Nodup ∧ (∀ k, mGt k (mpOf l) = fnd l.reverse k) ∧ (mpOf l).length ≤ l.length := by
    intro n
    induction n with
    | zero => intro l hl; rw [List.length_eq_zero_iff.1 hl]; exact ⟨List.Pairwise.nil, fun k => rfl, by simp [mpOf]⟩
    | succ n ih =>
      intro l hl
      obtain ⟨l', x, rfl⟩ : ∃ l' x, l = l' ++ [x] := ⟨l.dropLast, l.getLast (by intro h; rw [h] at hl; simp at hl), (List.dropLast_concat_getLast _).symm⟩
      obtain ⟨h1, h2, h3⟩ := ih l' (by simpa using hl)
      rw [mpOf_snoc]
      refine ⟨mSt_nd h1, fun k => ?_, ?_⟩
      · rw [mGt_mSt, h2, List.reverse_append]
        simp only [List.reverse_cons, List.reverse_nil, List.nil_append, List.singleton_append, fnd, eq_comm (a := k)]
      · have := mSt_len x.key x (mpOf l'); simp; omega
  exact this _ l rfl

end Go.Proofs.Ytjbichljgfcigaa.AM
