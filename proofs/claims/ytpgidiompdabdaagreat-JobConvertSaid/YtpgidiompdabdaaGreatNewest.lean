/- Walks: what the functions compute. -/
import Derived.Test.YtpgidiompdabdaaGreatVal
namespace Go.Proofs.YtpgidiompdabdaaGreat.AM
open Go
set_option linter.unusedSimpArgs false
set_option linter.unusedVariables false
set_option maxRecDepth 4000

/-! ### Records by rising keys, plainly -/
def kl (r : Rec) : List UInt8 := r.key.data.toList
theorem kl_inj {a b : Rec} (h : kl a = kl b) : a.key = b.key := ba_ext h
def Inc (l : List Rec) : Prop := l.Pairwise (fun a b => kl a < kl b)
theorem fnd_none' {l : List Rec} {k : ByteArray} (h : ∀ y ∈ l, y.key ≠ k) : fnd l k = none := by
  induction l with
  | nil => rfl
  | cons x l ih =>
    show (if x.key = k then some x else fnd l k) = none
    rw [if_neg (h x (List.mem_cons_self ..)), ih (fun y hy => h y (List.mem_cons_of_mem _ hy))]
theorem fnd_mem' : ∀ {l : List Rec} {k : ByteArray} {r : Rec}, fnd l k = some r → r ∈ l ∧ r.key = k
  | x :: l, k, r, h => by
    unfold fnd at h; split at h
    · cases h; exact ⟨List.mem_cons_self .., by assumption⟩
    · have := fnd_mem' h; exact ⟨List.mem_cons_of_mem _ this.1, this.2⟩
theorem Inc.uniq : ∀ {a b : List Rec}, Inc a → Inc b → (∀ k, fnd a k = fnd b k) → a = b
  | [], [], _, _, _ => rfl
  | [], y :: b, _, _, h => by have := h y.key; simp [fnd] at this
  | x :: a, [], _, _, h => by have := h x.key; simp [fnd] at this
  | x :: a, y :: b, ha, hb, h => by
    have pa := List.pairwise_cons.1 ha
    have pb := List.pairwise_cons.1 hb
    have hxy : x = y := by
      have h1 := h x.key
      have h2 := h y.key
      simp only [fnd, if_true] at h1 h2
      by_cases e : x.key = y.key
      · rw [if_pos e.symm] at h1; exact Option.some.inj h1
      · rw [if_neg (Ne.symm e)] at h1
        rw [if_neg e] at h2
        have m1 := (fnd_mem' h1.symm).1
        have m2 := (fnd_mem' h2).1
        exact absurd (List.lt_trans (pb.1 x m1) (pa.1 y m2)) (List.lt_irrefl _)
    subst hxy
    congr 1
    refine Inc.uniq pa.2 pb.2 fun k => ?_
    by_cases e : x.key = k
    · rw [fnd_none' fun z hz hk => ?_, fnd_none' fun z hz hk => ?_]
      · have := pb.1 z hz; unfold kl at this; rw [hk, ← e] at this; exact absurd this (List.lt_irrefl _)
      · have := pa.1 z hz; unfold kl at this; rw [hk, ← e] at this; exact absurd this (List.lt_irrefl _)
    · have := h k
      simp only [fnd, if_neg e] at this
      exact this
/-- The ref's Set. -/
def setR (r : Rec) : List Rec → Bool → List Rec
  | [], d => if d then [] else [r]
  | x :: l, d => (if d = false ∧ ¬ kl x < kl r then [r] else []) ++ ((if x.key = r.key then [] else [x]) ++ setR r l (d || !decide (kl x < kl r)))
theorem setR_true (r : Rec) : ∀ l, setR r l true = l.filter (fun x => !decide (x.key = r.key))
  | [] => rfl
  | x :: l => by
    simp only [setR, Bool.true_or, setR_true r l, List.filter_cons]
    by_cases e : x.key = r.key <;> simp [e]
theorem setR_mem {r y : Rec} : ∀ {l : List Rec} {d : Bool}, y ∈ setR r l d → y = r ∨ y ∈ l
  | [], d, h => by
    unfold setR at h; split at h
    · simp at h
    · simp at h; exact .inl h
  | x :: l, d, h => by
    unfold setR at h
    rcases List.mem_append.1 h with h | h
    · split at h
      · simp at h; exact .inl h
      · simp at h
    · rcases List.mem_append.1 h with h | h
      · split at h
        · simp at h
        · simp at h; exact .inr (by simp [h])
      · rcases setR_mem h with h | h
        · exact .inl h
        · exact .inr (List.mem_cons_of_mem _ h)
theorem fnd_filter (r : Rec) (k : ByteArray) (hk : k ≠ r.key) : ∀ l : List Rec, fnd (l.filter (fun x => !decide (x.key = r.key))) k = fnd l k
  | [] => rfl
  | x :: l => by
    rw [List.filter_cons]
    by_cases e : x.key = r.key
    · simp only [e, decide_true, Bool.not_true, Bool.false_eq_true, if_false]
      rw [fnd_filter r k hk l]; simp only [fnd]; rw [if_neg (by rw [e]; exact Ne.symm hk)]
    · simp only [e, decide_false, Bool.not_false, if_true]
      simp only [fnd, fnd_filter r k hk l]
theorem setR_spec (r : Rec) : ∀ l : List Rec, Inc l → Inc (setR r l false) ∧ ∀ k, fnd (setR r l false) k = if r.key = k then some r else fnd l k
  | [], _ => by
    simp only [setR, Bool.false_eq_true, if_false]
    exact ⟨List.pairwise_singleton _ _, fun k => rfl⟩
  | x :: l, h => by
    have p := List.pairwise_cons.1 h
    by_cases hx : kl x < kl r
    · have hne : x.key ≠ r.key := by intro e; unfold kl at hx; rw [e] at hx; exact absurd hx (List.lt_irrefl _)
      obtain ⟨h1, h2⟩ := setR_spec r l p.2
      have e : setR r (x :: l) false = x :: setR r l false := by simp [setR, hx, hne]
      rw [e]
      refine ⟨List.pairwise_cons.2 ⟨fun y hy => ?_, h1⟩, fun k => ?_⟩
      · rcases setR_mem hy with rfl | hy
        · exact hx
        · exact p.1 y hy
      · simp only [fnd, h2]
        by_cases e : r.key = k
        · rw [if_pos e, if_pos e, if_neg (by rw [← e]; exact hne)]
        · rw [if_neg e, if_neg e]
    · have hr : ∀ y ∈ l, kl r < kl y := fun y hy => by
        exact List.lt_of_le_of_lt (List.not_lt.1 hx) (p.1 y hy)
      have e : setR r (x :: l) false = r :: ((if x.key = r.key then [] else [x]) ++ l.filter (fun x => !decide (x.key = r.key))) := by simp [setR, hx, setR_true]
      rw [e]
      have hfl : Inc (l.filter (fun x => !decide (x.key = r.key))) := List.Pairwise.filter _ p.2
      by_cases ek : x.key = r.key
      · rw [if_pos ek, List.nil_append]
        refine ⟨List.pairwise_cons.2 ⟨fun y hy => hr y (List.mem_filter.1 hy).1, hfl⟩, fun k => ?_⟩
        by_cases e : r.key = k
        · rw [if_pos e]; simp only [fnd]; rw [if_pos e]
        · rw [if_neg e]; simp only [fnd]; rw [if_neg e, if_neg (by rw [ek]; exact e), fnd_filter r k (Ne.symm e)]
      · rw [if_neg ek]
        have hxr : kl r < kl x := by
          by_cases h' : kl r < kl x
          · exact h'
          · exact absurd (kl_inj (List.le_antisymm (List.not_lt.1 h') (List.not_lt.1 hx))) ek
        refine ⟨List.pairwise_cons.2 ⟨fun y hy => ?_, ?_⟩, fun k => ?_⟩
        · simp only [List.singleton_append, List.mem_cons] at hy
          rcases hy with rfl | hy
          · exact hxr
          · exact hr y (List.mem_filter.1 hy).1
        · exact List.pairwise_cons.2 ⟨fun y hy => p.1 y (List.mem_filter.1 hy).1, hfl⟩
        · by_cases e : r.key = k
          · rw [if_pos e]; simp only [fnd]; rw [if_pos e]
          · rw [if_neg e]; simp only [fnd, List.singleton_append]; rw [if_neg e, fnd_filter r k (Ne.symm e)]
def newest (l : List Rec) : List Rec := l.foldl (fun o r => setR r o false) []
theorem newest_snoc (l : List Rec) (x : Rec) : newest (l ++ [x]) = setR x (newest l) false := by simp [newest]
theorem newest_spec (l : List Rec) : Inc (newest l) ∧ ∀ k, fnd (newest l) k = fnd l.reverse k := by
  have : ∀ (n : Nat) (l : List Rec), l.length = n → Inc (newest l) ∧ ∀ k, fnd (newest l) k = fnd l.reverse k := by
    intro n
    induction n with
    | zero => intro l hl; rw [List.length_eq_zero_iff.1 hl]; exact ⟨List.Pairwise.nil, fun k => rfl⟩
    | succ n ih =>
      intro l hl
      obtain ⟨l', x, rfl⟩ : ∃ l' x, l = l' ++ [x] := ⟨l.dropLast, l.getLast (by intro h; rw [h] at hl; simp at hl), (List.dropLast_concat_getLast _).symm⟩
      obtain ⟨h1, h2⟩ := ih l' (by simpa using hl)
      rw [newest_snoc]
      obtain ⟨h3, h4⟩ := setR_spec x _ h1
      refine ⟨h3, fun k => ?_⟩
      rw [h4, h2, List.reverse_append]
      simp only [List.reverse_cons, List.reverse_nil, List.nil_append, List.singleton_append, fnd]
  exact this _ l rfl
theorem fnd_mid : ∀ (a b : List Rec) (k : ByteArray), fnd (a ++ b) k = (fnd a k).or (fnd b k)
  | [], b, k => rfl
  | x :: a, b, k => by
    rw [List.cons_append]; simp only [fnd]
    split
    · rfl
    · exact fnd_mid a b k
theorem fnd_rev : ∀ (l : List Rec), Inc l → ∀ k, fnd l.reverse k = fnd l k
  | [], _, k => rfl
  | x :: l, h, k => by
    have p := List.pairwise_cons.1 h
    rw [List.reverse_cons, fnd_mid, fnd_rev l p.2]
    by_cases e : x.key = k
    · have e1 : fnd (x :: l) k = some x := if_pos e
      have e2 : fnd [x] k = some x := if_pos e
      rw [e1, e2, fnd_none' (l := l) (k := k) fun z hz hk => ?_]
      · rfl
      · have := p.1 z hz; unfold kl at this; rw [hk, ← e] at this; exact absurd this (List.lt_irrefl _)
    · have e1 : fnd (x :: l) k = fnd l k := if_neg e
      have e2 : fnd [x] k = none := if_neg e
      rw [e1, e2]; cases fnd l k <;> rfl
theorem newest_twice (l : List Rec) : newest (newest l) = newest l := by
  obtain ⟨h1, h2⟩ := newest_spec l
  obtain ⟨h3, h4⟩ := newest_spec (newest l)
  exact Inc.uniq h3 h1 fun k => by rw [h4, fnd_rev _ h1]
/-! ### Maps, plainly -/
def mGt {α : Type} (k : ByteArray) : List (ByteArray × α) → Option α
  | [] => none
  | (k', y) :: l => if k = k' then some y else mGt k l
def mSt {α : Type} (k : ByteArray) (x : α) : List (ByteArray × α) → List (ByteArray × α)
  | [] => [(k, x)]
  | (k', y) :: l => if k = k' then (k, x) :: l else (k', y) :: mSt k x l
theorem mGt_mSt {α : Type} (k k' : ByteArray) (x : α) : ∀ l, mGt k (mSt k' x l) = if k = k' then some x else mGt k l
  | [] => rfl
  | (k'', y) :: l => by
    simp only [mSt]
    by_cases e : k' = k''
    · rw [if_pos e]; simp only [mGt]; subst e; by_cases e2 : k = k' <;> simp [e2]
    · rw [if_neg e]; simp only [mGt, mGt_mSt k k' x l]
      by_cases e2 : k = k''
      · rw [if_pos e2, if_pos e2, if_neg (by rw [e2]; exact Ne.symm e)]
      · rw [if_neg e2, if_neg e2]
theorem mGt_some {α : Type} {k : ByteArray} : ∀ {l : List (ByteArray × α)}, k ∈ l.map (·.1) ↔ (mGt k l).isSome
  | [] => by simp [mGt]
  | (k', y) :: l => by
    simp only [List.map_cons, List.mem_cons, mGt]
    by_cases e : k = k'
    · simp [e]
    · simp only [e, false_or, if_false]; exact mGt_some
theorem mSt_keys {α : Type} (k : ByteArray) (x : α) : ∀ l, (mSt k x l).map (·.1) = if (mGt k l).isSome then l.map (·.1) else l.map (·.1) ++ [k]
  | [] => by simp [mSt, mGt]
  | (k', y) :: l => by
    simp only [mSt, mGt]
    by_cases e : k = k'
    · subst e; simp
    · simp only [e, if_false, List.map_cons, mSt_keys k x l]
      split <;> simp
theorem mSt_nd {α : Type} {k : ByteArray} {x : α} {l : List (ByteArray × α)} (h : (l.map (·.1)).Nodup) : ((mSt k x l).map (·.1)).Nodup := by
  rw [mSt_keys]
  split
  · exact h
  · rename_i hn
    exact List.nodup_append.2 ⟨h, by simp, fun a ha b hb => by simp at hb; subst hb; rintro rfl; exact hn (mGt_some.1 ha)⟩
theorem mSt_len {α : Type} (k : ByteArray) (x : α) (l : List (ByteArray × α)) : (mSt k x l).length ≤ l.length + 1 := by
  have := congrArg List.length (mSt_keys k x l)
  rw [List.length_map] at this
  rw [this]; split <;> simp
def mpOf (l : List Rec) : List (ByteArray × Rec) := l.foldl (fun mp r => mSt r.key r mp) []
theorem mpOf_snoc (l : List Rec) (x : Rec) : mpOf (l ++ [x]) = mSt x.key x (mpOf l) := by simp [mpOf]
theorem mpOf_spec (l : List Rec) : ((mpOf l).map (·.1)).Nodup ∧ (∀ k, mGt k (mpOf l) = fnd l.reverse k) ∧ (mpOf l).length ≤ l.length := by
  have : ∀ (n : Nat) (l : List Rec), l.length = n → ((mpOf l).map (·.1)).Nodup ∧ (∀ k, mGt k (mpOf l) = fnd l.reverse k) ∧ (mpOf l).length ≤ l.length := by
    intro n
    induction n with
    | zero => intro l hl; rw [List.length_eq_zero_iff.1 hl]; exact ⟨List.Pairwise.nil, fun k => rfl, by simp [mpOf]⟩
    | succ n ih =>
      intro l hl
      obtain ⟨l', x, rfl⟩ : ∃ l' x, l = l' ++ [x] := ⟨l.dropLast, l.getLast (by intro h; rw [h] at hl; simp at hl), (List.dropLast_concat_getLast _).symm⟩
      obtain ⟨h1, h2, h3⟩ := ih l' (by simpa using hl)
      rw [mpOf_snoc]
      refine ⟨mSt_nd h1, fun k => ?_, ?_⟩
      · rw [mGt_mSt, h2, List.reverse_append]
        simp only [List.reverse_cons, List.reverse_nil, List.nil_append, List.singleton_append, fnd, eq_comm (a := k)]
      · have := mSt_len x.key x (mpOf l'); simp; omega
  exact this _ l rfl
/-! ### Maps in the heap -/
def mEnc {α : Type} (T : Ty α) (mp : List (ByteArray × α)) : List (Value × Value) := mp.map fun p => (Value.string p.1, T.val p.2)
theorem kEq1_s (a b : ByteArray) : kEq1 .s (.string a) (.string b) = some (decide (a = b)) := by simp only [kEq1, ba_beq]
theorem mFind_enc {α : Type} (T : Ty α) (k : ByteArray) : ∀ mp : List (ByteArray × α), mFind .s (.string k) (mEnc T mp) = some ((mGt k mp).map T.val)
  | [] => rfl
  | (k', y) :: l => by
    have ih := mFind_enc T k l
    unfold mEnc at ih ⊢
    simp only [List.map_cons, mFind, kEq1_s, mGt]
    by_cases e : k = k'
    · simp [e]
    · simp only [e, decide_false, if_false]; exact ih
theorem mSet_enc {α : Type} (T : Ty α) (k : ByteArray) (x : α) : ∀ mp : List (ByteArray × α), mSet .s (.string k) (T.val x) (mEnc T mp) = mEnc T (mSt k x mp)
  | [] => rfl
  | (k', y) :: l => by
    have ih := mSet_enc T k x l
    unfold mEnc at ih ⊢
    simp only [List.map_cons, mSet, kEq1_s, mSt]
    by_cases e : k = k'
    · simp [e]
    · simp only [e, decide_false, if_false, List.map_cons]; rw [ih]
/-- A map of one's own. -/
def MP {α : Type} (i : Nat) (T : Ty α) (mp : List (ByteArray × α)) : Res := .obj i (.map (mEnc T mp))
theorem S_mkMap {α : Type} {l : SE} {H : SH} {K : Value → SH → Prop} (T : Ty α) (k : ∀ i, K (.map (some i)) (MP i T [] :: H)) : Step .mkMap l H K :=
  fun e h _ hH => ⟨_, _, _, rfl, hH.push rfl, k _⟩
theorem S_upd {α : Type} {l : SE} {H H0 : SH} {K : Value → SH → Prop} {m k x : Opd} {i : Nat} {s : ByteArray} {T : Ty α} {y : α} {mp : List (ByteArray × α)} (hm : m.lv l = some (.map (some i))) (hk : k.lv l = some (.string s)) (hx : x.lv l = some (T.val y)) (hp : Pick (MP i T mp) H H0) (kk : K undef (MP i T (mSt s y mp) :: H0)) : Step (.upd .s m k x) l H K :=
  fun e h hA hH => by
    have hH' := hH.perm hp.perm
    obtain ⟨h1, h2, h3⟩ := hH'.1 _ (List.mem_cons_self ..)
    have hm' : mapAt h i = some (mEnc T mp) := by unfold mapAt; rw [if_pos h1, h2]
    refine ⟨undef, h.put i (.map (mEnc T (mSt s y mp))), MP i T (mSt s y mp) :: H0, by simp only [ev, Opd.lv_ev hA hm, Opd.lv_ev hA hk, Opd.lv_ev hA hx, hm', kEq1_s, mFind_enc, mSet_enc], ?_, kk⟩
    exact hH'.write rfl h2 rfl rfl ⟨h1, AH.get_put_same _ _ _, rfl⟩
theorem S_look {α : Type} {l : SE} {H H0 : SH} {K : Value → SH → Prop} {z : Value} {m k : Opd} {i : Nat} {s : ByteArray} {T : Ty α} {mp : List (ByteArray × α)} {y : α} (hm : m.lv l = some (.map (some i))) (hk : k.lv l = some (.string s)) (hp : Pick (MP i T mp) H H0) (hy : mGt s mp = some y) (kk : K (T.val y) H) : Step (.look .s z false m k) l H K :=
  fun e h hA hH => by
    have hH' := hH.perm hp.perm
    obtain ⟨h1, h2, h3⟩ := hH'.1 _ (List.mem_cons_self ..)
    have hm' : mapAt h i = some (mEnc T mp) := by unfold mapAt; rw [if_pos h1, h2]
    exact ⟨_, h, _, by simp only [ev, Opd.lv_ev hA hm, Opd.lv_ev hA hk, hm', kEq1_s, mFind_enc, hy]; rfl, hH, kk⟩
def TStr : Ty ByteArray := Ty.ofOne 9 1 (fun s => .string s) (fun _ => rfl)
theorem keysL_enc {α : Type} (T : Ty α) : ∀ mp : List (ByteArray × α), (∀ p ∈ mp, p.1.size ≤ maxLen) → keysL (mEnc T mp) = some (mp.map fun p => p.1.data.toList)
  | [], _ => rfl
  | (k, y) :: l, h => by
    have ih := keysL_enc T l (fun p hp => h p (List.mem_cons_of_mem _ hp))
    unfold mEnc at ih ⊢
    simp only [List.map_cons, keysL]
    rw [if_pos (h _ (List.mem_cons_self ..)), ih]; rfl
def skeys {α : Type} (mp : List (ByteArray × α)) : List ByteArray := (sortB (mp.map fun p => p.1.data.toList)).map fun l => ⟨l.toArray⟩
theorem X_keys {g : FuncId} {vs : List Value} {h : AH} {r : Value × AH} (hg : pur.contains g = false) (hr : keysX 45 61 44 9 g vs h = some r) : X g vs h = some r := HX.keys hg hr
theorem sp_Keys {H : SH} {i : Nat} : WF F X 45 [.map (some i)] H (fun r H' => ∃ j, H' = .obj j (.seq (some i)) :: H ∧ r = .func (.func 61) #[] #[.pointer (some ⟨j, 0, none⟩)]) :=
  WF_ext fun a hH => ⟨_, _, _, X_keys rfl rfl, hH.push rfl, _, rfl, rfl⟩
theorem sp_Sorted {α : Type} {T : Ty α} {H H1 H2 : SH} {i j : Nat} {mp : List (ByteArray × α)} (h1 : Pick (.obj j (.seq (some i))) H H1) (h2 : Pick (MP i T mp) H H2) (hs : ∀ p ∈ mp, p.1.size ≤ maxLen) (hl : mp.length ≤ 1000000) : WF F X 44 [.func (.func 61) #[] #[.pointer (some ⟨j, 0, none⟩)]] H (fun r H' => ∃ w : SV, H' = SL w.toV TStr (skeys mp) :: H ∧ r = w.toV) :=
  WF_ext fun a hH => by
    obtain ⟨a1, a2, a3⟩ := (hH.perm h1.perm).1 _ (List.mem_cons_self ..)
    obtain ⟨b1, b2, b3⟩ := (hH.perm h2.perm).1 _ (List.mem_cons_self ..)
    have hm' : mapAt a i = some (mEnc T mp) := by unfold mapAt; rw [if_pos b1, b2]
    have hkk := keysL_enc T mp hs
    have hel : (mEnc T mp).length = mp.length := by simp [mEnc]
    by_cases he : mp = []
    · subst he
      refine ⟨.slice none 0 0, a, _, X_keys rfl ?_, hH.addNil, .nil, rfl, rfl⟩
      simp only [keysX]
      rw [if_neg (by decide), if_pos trivial, if_pos ⟨trivial, rfl⟩]
      simp only [a2, hm', hkk]
      rfl
    · obtain ⟨x, xs, hx⟩ : ∃ x xs, (mp.map fun p => p.1.data.toList) = x :: xs := by
        cases mp with
        | nil => exact absurd rfl he
        | cons p mp => exact ⟨_, _, rfl⟩
      have hlen : (x :: xs).length = mp.length := by rw [← hx]; simp
      refine ⟨.slice (some ⟨a.next, 0, none⟩) (x :: xs).length 1, a.push (.row false 9 ((sortB (x :: xs)).map encStr)), SL (SV.mk a.next 0 (x :: xs).length 1).toV TStr (skeys mp) :: H, X_keys rfl ?_, ?_, SV.mk a.next 0 (x :: xs).length 1, rfl, rfl⟩
      · simp only [keysX]
        rw [if_neg (by decide), if_pos trivial, if_pos ⟨trivial, rfl⟩]
        simp only [a2, hm', hkk, hx]
        rw [if_pos (by rw [hel]; omega)]
      · have hcl : ((sortB (x :: xs)).map encStr).length = (x :: xs).length * 1 := by rw [List.length_map, (sortB_perm _).length_eq, Nat.mul_one]
        have hsk : skeys mp = (sortB (x :: xs)).map fun l => ⟨l.toArray⟩ := by unfold skeys; rw [hx]
        have hc : TStr.cells (skeys mp) = (sortB (x :: xs)).map encStr := by
          rw [hsk]
          show List.flatMap (fun s => [Value.string s]) _ = _
          rw [flatMap_one, List.map_map]; rfl
        have hn : (skeys mp).length = (x :: xs).length := by rw [hsk, List.length_map, (sortB_perm _).length_eq]
        show HAg (.sl (SV.mk a.next 0 (x :: xs).length 1).toV TStr.t TStr.es (skeys mp).length (TStr.cells (skeys mp)) :: H) _
        rw [hc, hn]
        exact hH.add _ (r := .sl (.slice (some ⟨a.next, 0, none⟩) (x :: xs).length 1) 9 1 (x :: xs).length ((sortB (x :: xs)).map encStr)) ⟨hcl, .inr ⟨a.next, 0, _, rfl, Nat.lt_succ_self _, AH.get_push_same _ _, by rw [hcl]; omega, by rw [List.drop_zero, ← hcl, List.take_length]⟩⟩ rfl
/-! ### RecordNewest -/
def outM (mp : List (ByteArray × Rec)) : List Rec := (skeys mp).map fun k => (mGt k mp).getD rec0
theorem ba_back (k : ByteArray) : (⟨k.data.toList.toArray⟩ : ByteArray) = k := ba_ext (by simp)
theorem skeys_mem {α : Type} {mp : List (ByteArray × α)} {k : ByteArray} : k ∈ skeys mp ↔ k ∈ mp.map (·.1) := by
  unfold skeys
  constructor
  · intro h
    obtain ⟨l, hl, rfl⟩ := List.mem_map.1 h
    obtain ⟨p, hp, rfl⟩ := List.mem_map.1 ((sortB_perm _).mem_iff.1 hl)
    rw [ba_back]; exact List.mem_map.2 ⟨p, hp, rfl⟩
  · intro h
    obtain ⟨p, hp, rfl⟩ := List.mem_map.1 h
    exact List.mem_map.2 ⟨p.1.data.toList, (sortB_perm _).mem_iff.2 (List.mem_map.2 ⟨p, hp, rfl⟩), ba_back _⟩
theorem skeys_len {α : Type} (mp : List (ByteArray × α)) : (skeys mp).length = mp.length := by
  unfold skeys; rw [List.length_map, (sortB_perm _).length_eq, List.length_map]
theorem skeys_inc {α : Type} {mp : List (ByteArray × α)} (h : (mp.map (·.1)).Nodup) : (skeys mp).Pairwise (fun a b => a.data.toList < b.data.toList) := by
  unfold skeys
  rw [List.pairwise_map]
  have hnd : (sortB (mp.map fun p => p.1.data.toList)).Nodup := by
    refine (sortB_perm _).nodup_iff.2 ?_
    have e : (mp.map fun p => p.1.data.toList) = (mp.map (·.1)).map (fun k => k.data.toList) := by rw [List.map_map]; rfl
    rw [e]
    exact List.Pairwise.map _ (fun a b hab hh => hab (ba_ext hh)) h
  refine ((sortB_sorted _).and hnd).imp ?_
  rintro a b ⟨h1, h2⟩
  simp only [leB, decide_eq_true_eq] at h1
  simp only [List.toList_toArray]
  by_cases h3 : a < b
  · exact h3
  · exact absurd (List.le_antisymm h1 (List.not_lt.1 h3)) h2
theorem fnd_map {f : ByteArray → Rec} {k : ByteArray} : ∀ ks : List ByteArray, (∀ a ∈ ks, (f a).key = a) → (k ∈ ks → fnd (ks.map f) k = some (f k)) ∧ (k ∉ ks → fnd (ks.map f) k = none)
  | [], _ => ⟨fun h => by simp at h, fun _ => rfl⟩
  | a :: ks, h => by
    have ih := fnd_map (f := f) (k := k) ks (fun b hb => h b (List.mem_cons_of_mem _ hb))
    have ha := h a (List.mem_cons_self ..)
    constructor
    · intro hk
      by_cases e : a = k
      · subst e; exact if_pos ha
      · have h1 : fnd ((a :: ks).map f) k = fnd (ks.map f) k := if_neg (by rw [ha]; exact e)
        rw [h1]; exact ih.1 ((List.mem_cons.1 hk).resolve_left (Ne.symm e))
    · intro hk
      have h1 : fnd ((a :: ks).map f) k = fnd (ks.map f) k := if_neg (by rw [ha]; rintro rfl; exact hk (List.mem_cons_self ..))
      rw [h1]; exact ih.2 fun hh => hk (List.mem_cons_of_mem _ hh)
theorem outM_newest (l : List Rec) : outM (mpOf l) = newest l := by
  obtain ⟨h1, h2, _⟩ := mpOf_spec l
  obtain ⟨h3, h4⟩ := newest_spec l
  have hk : ∀ a ∈ skeys (mpOf l), ((mGt a (mpOf l)).getD rec0).key = a := by
    intro a ha
    have := mGt_some.1 (skeys_mem.1 ha)
    obtain ⟨r, hr⟩ := Option.isSome_iff_exists.1 this
    rw [hr]
    rw [h2] at hr
    exact (fnd_mem' hr).2
  refine Inc.uniq ?_ h3 fun k => ?_
  · unfold Inc outM
    rw [List.pairwise_map]
    refine List.Pairwise.imp_of_mem ?_ (skeys_inc h1)
    intro a b ha hb hab
    unfold kl
    rw [hk a ha, hk b hb]; exact hab
  · rw [h4, ← h2]
    have hf := fnd_map (f := fun k => (mGt k (mpOf l)).getD rec0) (k := k) (skeys (mpOf l)) hk
    cases hg : mGt k (mpOf l) with
    | none =>
      refine hf.2 fun hm => ?_
      have := mGt_some.1 (skeys_mem.1 hm); rw [hg] at this; cases this
    | some r =>
      have hm : k ∈ skeys (mpOf l) := skeys_mem.2 (mGt_some.2 (by rw [hg]; rfl))
      have := hf.1 hm
      simp only [hg, Option.getD_some] at this
      exact this
theorem newest_len (l : List Rec) : (newest l).length ≤ l.length := by
  rw [← outM_newest]; unfold outM; rw [List.length_map, skeys_len]; exact (mpOf_spec l).2.2
theorem newest_mem {l : List Rec} {x : Rec} (h : x ∈ newest l) : x ∈ l := by
  have : ∀ (n : Nat) (l : List Rec), l.length = n → x ∈ newest l → x ∈ l := by
    intro n
    induction n with
    | zero => intro l hl h; rw [List.length_eq_zero_iff.1 hl] at h; simp [newest] at h
    | succ n ih =>
      intro l hl h
      obtain ⟨l', y, rfl⟩ : ∃ l' x, l = l' ++ [x] := ⟨l.dropLast, l.getLast (by intro h; rw [h] at hl; simp at hl), (List.dropLast_concat_getLast _).symm⟩
      rw [newest_snoc] at h
      rcases setR_mem h with h | h
      · simp [h]
      · exact List.mem_append_left _ (ih l' (by simpa using hl) h)
  exact this _ l rfl h
theorem mpOf_key {l : List Rec} {p : ByteArray × Rec} (h : p.1 ∈ (mpOf l).map (·.1)) : ∃ r ∈ l, r.key = p.1 := by
  obtain ⟨h1, h2, _⟩ := mpOf_spec l
  obtain ⟨r, hr⟩ := Option.isSome_iff_exists.1 (mGt_some.1 h)
  rw [h2] at hr
  exact ⟨r, List.mem_reverse.1 (fnd_mem' hr).1, (fnd_mem' hr).2⟩
theorem lp_rN0 {H : SH} {v : Value} {l : List Rec} (hv : RD H v TRec l) (hl : l.length ≤ 1000000) {m : Nat} : ∀ (n a : Nat), l.length - a = n → a ≤ l.length →
    WC F X (.loop L_record_Newest_0) [(12, .int .i64 a), (11, .int .i64 l.length), (10, v), (3, .map (some m))] (MP m TRec (mpOf (l.take a)) :: H)
      (KPost fun x l' H' => x = .exit 0 ∧ l' = [(3, .map (some m))] ∧ H' = MP m TRec (mpOf l) :: H) := by
  intro n
  induction n using Nat.strongRecOn with
  | _ n ih =>
    intro a hn ha
    refine WC_loop (WC_seq (WC_region ?_))
    refine WO_step rfl (S_pure rfl ?_)
    refine WO_nil (KSeq_n (WC_seq ?_))
    refine WC_cond rfl (fun hb1 => ?_) (fun hb1 => ?_)
    ·
     try simp only [bsT] at hb1
     obtain ⟨x, hx⟩ := get_of_lt hb1
     have htk : mpOf (l.take (a + 1)) = mSt x.key x (mpOf (l.take a)) := by rw [List.take_add_one, hx]; exact mpOf_snoc _ _
     refine WC_skip (KSeq_n (WC_seq (WC_block (WC_seq (WC_region ?_)))))
     refine WO_step rfl (S_idx rfl rfl rdA (by first | rfl | assumption | (symm; assumption)) (by rfl) (by first | assumption | omega | exact lt_of_get (by assumption) | (simp only [List.length_set]; first | assumption | omega | exact lt_of_get (by assumption))) fun hp14 => ?_)
     refine WO_step rfl (S_loadE rfl rdA (by first | rfl | assumption | (symm; assumption)) (by first | rfl | assumption | (symm; assumption)) (by first | rfl | assumption | (symm; assumption)) (by assumption) ?_)
     refine WO_step rfl (S_new fun i5 => ?_)
     first | refine WO_step rfl (S_storeT rfl rfl pkA (by rfl) (by rfl) ?_) | refine WO_step rfl (S_storeO rfl rfl pkA (by first | rfl | exact SV.cells1 _) (by rfl) (by first | rfl | exact SV.ones _) ?_)
     refine WO_nil (KSeq_n (WC_region ?_))
     iterate 2 refine WO_step rfl (S_pure rfl ?_)
     refine WO_step rfl (S_loadO rfl pkA (by rfl) (by rfl) ?_)
     first | refine WO_step rfl (S_loadT rfl pkA (by rfl) (by rfl) ?_) | refine WO_step rfl (S_loadO rfl pkA (by rfl) (by rfl) ?_)
     -- op (.upd .s (.tmp 16) (.tmp 18) (.tmp 19))
     refine WO_step rfl (S_upd (T := TRec) (y := x) (mp := mpOf (l.take a)) rfl rfl rfl pkA ?_)
     refine WO_nil (KBlock_n (KSeq_n (WC_region ?_)))
     first | refine WO_step rfl (S_addN (b := 1) rfl rfl (by omega) ?_) | refine WO_step rfl (S_pure rfl ?_)
     refine WO_step rfl (S_pure rfl ?_)
     refine WO_nil (KLoop_n ?_)
     have := ih (l.length - (a + 1)) (by omega) (a + 1) rfl (by omega)
     rw [htk] at this
     exact WC_weak this seA hsA
    ·
     try simp only [bsT] at hb1
     refine WC_exit (KSeq_x (KLoop_x ?_))
     have e : l.take a = l := List.take_of_length_le (by omega)
     rw [e]
     exact KPost_i seA hsA ⟨rfl, rfl, rfl⟩
theorem lp_rN1 {B B0 : SH} {w : SV} {m : Nat} {mp : List (ByteArray × Rec)} (hw : RD B w.toV TStr (skeys mp)) (hp : Pick (MP m TRec mp) B B0) (hl : mp.length ≤ 1000000) : ∀ (n a : Nat) (u : SV), (skeys mp).length - a = n → a ≤ (skeys mp).length →
    WC F X (.loop L_record_Newest_1) [(25, .int .i64 a), (24, .int .i64 (skeys mp).length), (23, w.toV), (3, .map (some m)), (6, u.toV)] (SL u.toV TRec ((outM mp).take a) :: B)
      (KPost fun x l' H' => ∃ u : SV, x = .exit 2 ∧ l' = [(6, u.toV)] ∧ H' = SL u.toV TRec (outM mp) :: B) := by
  intro n
  induction n using Nat.strongRecOn with
  | _ n ih =>
    intro a u hn ha
    have hol : (outM mp).length = (skeys mp).length := by unfold outM; rw [List.length_map]
    have hsl := skeys_len mp
    refine WC_loop (WC_seq (WC_region ?_))
    refine WO_step rfl (S_pure rfl ?_)
    refine WO_nil (KSeq_n (WC_seq ?_))
    refine WC_cond rfl (fun hb1 => ?_) (fun hb1 => ?_)
    ·
     try simp only [bsT] at hb1
     obtain ⟨k, hk⟩ := get_of_lt hb1
     obtain ⟨y, hy⟩ := Option.isSome_iff_exists.1 (mGt_some.1 (skeys_mem.1 (List.mem_of_getElem? hk)))
     have htk : (outM mp).take (a + 1) = (outM mp).take a ++ [y] := by
       rw [List.take_add_one]
       unfold outM
       rw [List.getElem?_map, hk]
       simp [hy]
     have htl : ((outM mp).take a).length = a := by rw [List.length_take]; omega
     refine WC_skip (KSeq_n (WC_seq (WC_block (WC_seq (WC_region ?_)))))
     refine WO_step rfl (S_idx rfl rfl rdA (by first | rfl | assumption | (symm; assumption)) (by rfl) (by first | assumption | omega | exact lt_of_get (by assumption) | (simp only [List.length_set]; first | assumption | omega | exact lt_of_get (by assumption))) fun hp27 => ?_)
     refine WO_step rfl (S_loadE rfl rdA (by first | rfl | assumption | (symm; assumption)) (by first | rfl | assumption | (symm; assumption)) (by first | rfl | assumption | (symm; assumption)) (by assumption) ?_)
     refine WO_step rfl (S_pure rfl ?_)
     refine WO_nil (KSeq_n (WC_region ?_))
     iterate 3 refine WO_step rfl (S_pure rfl ?_)
     refine WO_step rfl (S_look (T := TRec) (mp := mp) (y := y) rfl rfl (Pick.tail hp) hy ?_)
     refine WO_step rfl (S_lit1 (T := TRec) rfl rfl rfl rfl fun w33 => ?_)
     refine WO_step rfl (S_app rfl rfl pkA (by first | exact SRC.str rfl rfl | (apply RD.src; repeat (first | assumption | exact RD.head | exact RD.nil | apply RD.tail))) (by rfl) (by rfl) (by (try simp only [List.length_append, List.length_cons, List.length_nil]); omega) fun w34 => ?_)
     refine WO_step rfl (S_pure rfl ?_)
     refine WO_nil (KBlock_n (KSeq_n (WC_region ?_)))
     first | refine WO_step rfl (S_addN (b := 1) rfl rfl (by omega) ?_) | refine WO_step rfl (S_pure rfl ?_)
     refine WO_step rfl (S_pure rfl ?_)
     refine WO_nil (KLoop_n ?_)
     have := ih ((skeys mp).length - (a + 1)) (by omega) (a + 1) w34 rfl (by omega)
     rw [htk] at this
     exact WC_weak this seA hsA
    ·
     try simp only [bsT] at hb1
     refine WC_exit (KSeq_x (KLoop_x ?_))
     have e : (outM mp).take a = outM mp := List.take_of_length_le (by omega)
     rw [e]
     exact KPost_i seA hsA ⟨u, rfl, rfl, rfl⟩
theorem sp_rNewest {H : SH} {v : Value} {l : List Rec} (hv : RD H v TRec l) (hl : l.length ≤ 1000000) (hk : ∀ x ∈ l, x.key.size ≤ maxLen) : WF F X f_record_Newest [v] H (fun r H' => ∃ u : SV, H' = SL u.toV TRec (newest l) :: H ∧ r = u.toV) := by
  have hml : (mpOf l).length ≤ 1000000 := Nat.le_trans (mpOf_spec l).2.2 hl
  have hmk : ∀ p ∈ mpOf l, p.1.size ≤ maxLen := by
    intro p hp
    obtain ⟨r, hr, he⟩ := mpOf_key (List.mem_map.2 ⟨p, hp, rfl⟩)
    rw [← he]; exact hk r hr
  refine WF_fn F_record_Newest ?_
  refine WC_seq (WC_region ?_)
  refine WO_step rfl (S_pure rfl ?_)
  refine WO_nil (KSeq_n (WC_seq (WC_region ?_)))
  -- op .mkMap
  refine WO_step rfl (S_mkMap TRec fun m => ?_)
  refine WO_step rfl (S_pure rfl ?_)
  refine WO_nil (KSeq_n (WC_seq (WC_seq (WC_region ?_))))
  refine WO_step rfl (S_pure rfl ?_)
  first | refine WO_step rfl (S_pure rfl ?_) | refine WO_step rfl (S_lenS rfl rdA ?_)
  refine WO_step rfl (S_pure rfl ?_)
  refine WO_nil (KSeq_n (WC_block ?_))
  refine WC_post (WC_weak (lp_rN0 (m := m) hv hl l.length 0 (by omega) (by omega)) seA hsA) ?_
  rintro x l' H' ⟨rfl, rfl, rfl⟩
  refine KBlock_h (KSeq_n (WC_seq (WC_region ?_)))
  refine WO_step rfl (S_pure rfl ?_)
  refine WO_nil (KSeq_n (WC_seq (WC_seq (WC_region ?_))))
  refine WO_step rfl (S_pure rfl ?_)
  refine WO_call rfl rfl rfl ?_
  refine sp_Keys.mono ?_
  rintro _ _ ⟨j, rfl, rfl⟩
  refine WO_call rfl rfl rfl ?_
  refine (sp_Sorted (T := TRec) (mp := mpOf l) (i := m) (j := j) pkA pkA hmk hml).mono ?_
  rintro _ _ ⟨w23, rfl, rfl⟩
  first | refine WO_step rfl (S_pure rfl ?_) | refine WO_step rfl (S_lenS rfl rdA ?_)
  refine WO_step rfl (S_pure rfl ?_)
  refine WO_nil (KSeq_n (WC_block ?_))
  refine WC_view (H' := SL (SV.toV .nil) TRec [] :: _) (fun h hh => HAg.addNil hh) ?_
  refine WC_post (WC_weak (lp_rN1 (m := m) (mp := mpOf l) (w := w23) RD.head pkA hml (skeys (mpOf l)).length 0 .nil (by omega) (by omega)) seA HSub.refl) ?_
  rintro x l' H' ⟨u, rfl, rfl, rfl⟩
  rw [outM_newest]
  refine KBlock_h (KSeq_n (WC_seq (WC_region ?_)))
  iterate 2 refine WO_step rfl (S_pure rfl ?_)
  refine WO_nil (KSeq_n (WC_ret ?_))
  refine KFn_r (ResL.tmp rfl ResL.nil) ?_
  exact ⟨_, hsA, u, rfl, rfl⟩
theorem setR_c1 {x r : Rec} {l : List Rec} (hx : ¬ kl x < kl r) (he : ¬ x.key = r.key) : setR r (x :: l) false = r :: x :: setR r l true := by simp [setR, hx, he]
theorem setR_c2 {x r : Rec} {l : List Rec} (hx : ¬ kl x < kl r) (he : x.key = r.key) : setR r (x :: l) false = r :: setR r l true := by simp [setR, hx, he]
theorem setR_c3 {x r : Rec} {l : List Rec} (hx : kl x < kl r) (he : ¬ x.key = r.key) : setR r (x :: l) false = x :: setR r l false := by simp [setR, hx, he]
theorem setR_c4 {x r : Rec} {l : List Rec} (hx : kl x < kl r) (he : x.key = r.key) : setR r (x :: l) false = setR r l false := by simp [setR, hx, he]
theorem setR_c5 {x r : Rec} {l : List Rec} (he : ¬ x.key = r.key) : setR r (x :: l) true = x :: setR r l true := by simp [setR, he]
theorem setR_c6 {x r : Rec} {l : List Rec} (he : x.key = r.key) : setR r (x :: l) true = setR r l true := by simp [setR, he]
theorem S_geS {l : SE} {H : SH} {K : Value → SH → Prop} {x y : Opd} {a b : ByteArray} (hx : x.lv l = some (.string a)) (hy : y.lv l = some (.string b)) (k : K (.bool (!decide (a.data.toList < b.data.toList))) H) : Step (.bin .geq x y) l H K :=
  S_pureE (v := .bool (!Op.bytesLess a.toList b.toList)) (by simp only [pev, hx, hy, binV, strBin]) (by rw [bytesLess_eq, toList_data, toList_data]) k
theorem lp_Set {H : SH} {v : Value} {l : List Rec} {r : Rec} (hv : RD H v TRec l) (hl : l.length ≤ 1000) {i3 : Nat} : ∀ (n a : Nat) (w : SV) (d : Bool) (out : List Rec), l.length - a = n → a ≤ l.length → out.length ≤ 2 * a → out ++ setR r (l.drop a) d = setR r l false →
    WC F X (.loop L_loessref10_Set_0) [(7, .int .i64 a), (0, v), (6, .bool d), (5, w.toV), (3, .pointer (some ⟨i3, 0, none⟩))] (SL w.toV TRec out :: .obj i3 (.row false 33 (cells (TRec.val r))) :: H)
      (KPost fun x l' H' => ∃ (w : SV) (d : Bool) (out : List Rec), x = .exit 0 ∧ l' = [(6, .bool d), (5, w.toV), (3, .pointer (some ⟨i3, 0, none⟩))] ∧ H' = SL w.toV TRec out :: .obj i3 (.row false 33 (cells (TRec.val r))) :: H ∧ out.length ≤ 2000 ∧ out ++ (if d then [] else [r]) = setR r l false) := by
  intro n
  induction n using Nat.strongRecOn with
  | _ n ih =>
    intro a w d out hn ha ho he
    refine WC_loop (WC_seq (WC_seq (WC_region ?_)))
    iterate 2 refine WO_step rfl (S_pure rfl ?_)
    first | refine WO_step rfl (S_pure rfl ?_) | refine WO_step rfl (S_lenS rfl rdA ?_)
    refine WO_step rfl (S_pure rfl ?_)
    refine WO_nil (KSeq_n ?_)
    refine WC_cond rfl (fun hb1 => ?_) (fun hb1 => ?_)
    ·
     try simp only [bsT] at hb1
     obtain ⟨x, hx⟩ := get_of_lt hb1
     rw [drop_get hx] at he
     refine WC_skip (KSeq_n (WC_seq (WC_block (WC_seq (WC_seq (WC_region ?_))))))
     iterate 3 refine WO_step rfl (S_pure rfl ?_)
     refine WO_cases (t := 16) rfl (fun hg1 => ?_) (fun hg1 => ?_)
     ·
      try simp only [bsT] at hg1
      iterate 2 refine WO_step rfl (S_pure rfl ?_)
      refine WO_step rfl (S_idx rfl rfl rdA (by first | rfl | assumption | (symm; assumption)) (by rfl) (by first | assumption | omega | exact lt_of_get (by assumption) | (simp only [List.length_set]; first | assumption | omega | exact lt_of_get (by assumption))) fun hp19 => ?_)
      refine WO_step rfl (S_fldE rfl (by repeat (first | assumption | apply IsP.padd)) ?_)
      refine WO_step rfl (S_loadF rfl rdA (by rfl) (by assumption) (by rfl) (by rfl) ?_)
      refine WO_step rfl (S_pure rfl ?_)
      refine WO_step rfl (S_loadO rfl pkA (by rfl) (by rfl) ?_)
      refine WO_step rfl (S_geS rfl rfl ?_)
      refine WO_step rfl (S_pure rfl ?_)
      refine WO_nil (KSeq_n ?_)
      refine WC_cond rfl (fun hb2 => ?_) (fun hb2 => ?_)
      ·
       try simp only [bsT] at hb2
       refine WC_seq (WC_region ?_)
       refine WO_step rfl (S_pure rfl ?_)
       refine WO_step rfl (S_loadO rfl pkA (by rfl) (by rfl) ?_)
       refine WO_step rfl (S_lit1 (T := TRec) rfl rfl rfl rfl fun w28 => ?_)
       refine WO_step rfl (S_app rfl rfl pkA (by first | exact SRC.str rfl rfl | (apply RD.src; repeat (first | assumption | exact RD.head | exact RD.nil | apply RD.tail))) (by rfl) (by rfl) (by (try simp only [List.length_append, List.length_cons, List.length_nil]); omega) fun w29 => ?_)
       refine WO_step rfl (S_pure rfl ?_)
       refine WO_nil (KSeq_n (WC_region ?_))
       refine WO_step rfl (S_pure rfl ?_)
       refine WO_nil (KSeq_n (WC_seq (WC_region ?_)))
       iterate 2 refine WO_step rfl (S_pure rfl ?_)
       refine WO_step rfl (S_idx rfl rfl rdA (by first | rfl | assumption | (symm; assumption)) (by rfl) (by first | assumption | omega | exact lt_of_get (by assumption) | (simp only [List.length_set]; first | assumption | omega | exact lt_of_get (by assumption))) fun hp32 => ?_)
       refine WO_step rfl (S_fldE rfl (by repeat (first | assumption | apply IsP.padd)) ?_)
       refine WO_step rfl (S_loadF rfl rdA (by rfl) (by assumption) (by rfl) (by rfl) ?_)
       refine WO_step rfl (S_pure rfl ?_)
       refine WO_step rfl (S_loadO rfl pkA (by rfl) (by rfl) ?_)
       first | refine WO_step rfl (S_neS rfl rfl ?_) | refine WO_step rfl (S_pure rfl ?_)
       refine WO_nil (KSeq_n ?_)
       refine WC_cond rfl (fun hb3 => ?_) (fun hb3 => ?_)
       ·
        try simp only [bsT] at hb3
        refine WC_region ?_
        iterate 3 refine WO_step rfl (S_pure rfl ?_)
        refine WO_step rfl (S_idx rfl rfl rdA (by first | rfl | assumption | (symm; assumption)) (by rfl) (by first | assumption | omega | exact lt_of_get (by assumption) | (simp only [List.length_set]; first | assumption | omega | exact lt_of_get (by assumption))) fun hp41 => ?_)
        refine WO_step rfl (S_loadE rfl rdA (by first | rfl | assumption | (symm; assumption)) (by first | rfl | assumption | (symm; assumption)) (by first | rfl | assumption | (symm; assumption)) (by assumption) ?_)
        refine WO_step rfl (S_lit1 (T := TRec) rfl rfl rfl rfl fun w43 => ?_)
        refine WO_step rfl (S_app rfl rfl pkA (by first | exact SRC.str rfl rfl | (apply RD.src; repeat (first | assumption | exact RD.head | exact RD.nil | apply RD.tail))) (by rfl) (by rfl) (by (try simp only [List.length_append, List.length_cons, List.length_nil]); omega) fun w44 => ?_)
        refine WO_step rfl (S_pure rfl ?_)
        refine WO_nil (KBlock_n (KSeq_n (WC_region ?_)))
        refine WO_step rfl (S_pure rfl ?_)
        first | refine WO_step rfl (S_addN (b := 1) rfl rfl (by omega) ?_) | refine WO_step rfl (S_pure rfl ?_)
        refine WO_step rfl (S_pure rfl ?_)
        refine WO_nil (KLoop_n ?_)
        refine WC_weak (ih (l.length - (a + 1)) (by omega) (a + 1) w44 true (out ++ [r] ++ [x]) rfl (by omega) (by simp; omega) ?_) seA hsA
        rw [hg1, setR_c1 hb2 hb3] at he
        rw [← he]; simp [hg1]
       ·
        try simp only [bsT] at hb3
        refine WC_skip (KBlock_n (KSeq_n (WC_region ?_)))
        refine WO_step rfl (S_pure rfl ?_)
        first | refine WO_step rfl (S_addN (b := 1) rfl rfl (by omega) ?_) | refine WO_step rfl (S_pure rfl ?_)
        refine WO_step rfl (S_pure rfl ?_)
        refine WO_nil (KLoop_n ?_)
        refine WC_weak (ih (l.length - (a + 1)) (by omega) (a + 1) w29 true (out ++ [r]) rfl (by omega) (by simp; omega) ?_) seA hsA
        rw [hg1, setR_c2 hb2 hb3] at he
        rw [← he]; simp [hg1]
      ·
       try simp only [bsT] at hb2
       refine WC_skip (KSeq_n (WC_seq (WC_region ?_)))
       iterate 2 refine WO_step rfl (S_pure rfl ?_)
       refine WO_step rfl (S_idx rfl rfl rdA (by first | rfl | assumption | (symm; assumption)) (by rfl) (by first | assumption | omega | exact lt_of_get (by assumption) | (simp only [List.length_set]; first | assumption | omega | exact lt_of_get (by assumption))) fun hp32 => ?_)
       refine WO_step rfl (S_fldE rfl (by repeat (first | assumption | apply IsP.padd)) ?_)
       refine WO_step rfl (S_loadF rfl rdA (by rfl) (by assumption) (by rfl) (by rfl) ?_)
       refine WO_step rfl (S_pure rfl ?_)
       refine WO_step rfl (S_loadO rfl pkA (by rfl) (by rfl) ?_)
       first | refine WO_step rfl (S_neS rfl rfl ?_) | refine WO_step rfl (S_pure rfl ?_)
       refine WO_nil (KSeq_n ?_)
       refine WC_cond rfl (fun hb4 => ?_) (fun hb4 => ?_)
       ·
        try simp only [bsT] at hb4
        refine WC_region ?_
        iterate 3 refine WO_step rfl (S_pure rfl ?_)
        refine WO_step rfl (S_idx rfl rfl rdA (by first | rfl | assumption | (symm; assumption)) (by rfl) (by first | assumption | omega | exact lt_of_get (by assumption) | (simp only [List.length_set]; first | assumption | omega | exact lt_of_get (by assumption))) fun hp41 => ?_)
        refine WO_step rfl (S_loadE rfl rdA (by first | rfl | assumption | (symm; assumption)) (by first | rfl | assumption | (symm; assumption)) (by first | rfl | assumption | (symm; assumption)) (by assumption) ?_)
        refine WO_step rfl (S_lit1 (T := TRec) rfl rfl rfl rfl fun w43 => ?_)
        refine WO_step rfl (S_app rfl rfl pkA (by first | exact SRC.str rfl rfl | (apply RD.src; repeat (first | assumption | exact RD.head | exact RD.nil | apply RD.tail))) (by rfl) (by rfl) (by (try simp only [List.length_append, List.length_cons, List.length_nil]); omega) fun w44 => ?_)
        refine WO_step rfl (S_pure rfl ?_)
        refine WO_nil (KBlock_n (KSeq_n (WC_region ?_)))
        refine WO_step rfl (S_pure rfl ?_)
        first | refine WO_step rfl (S_addN (b := 1) rfl rfl (by omega) ?_) | refine WO_step rfl (S_pure rfl ?_)
        refine WO_step rfl (S_pure rfl ?_)
        refine WO_nil (KLoop_n ?_)
        refine WC_weak (ih (l.length - (a + 1)) (by omega) (a + 1) w44 d (out ++ [x]) rfl (by omega) (by simp; omega) ?_) seA hsA
        rw [hg1, setR_c3 hb2 hb4] at he
        rw [← he]; simp [hg1]
       ·
        try simp only [bsT] at hb4
        refine WC_skip (KBlock_n (KSeq_n (WC_region ?_)))
        refine WO_step rfl (S_pure rfl ?_)
        first | refine WO_step rfl (S_addN (b := 1) rfl rfl (by omega) ?_) | refine WO_step rfl (S_pure rfl ?_)
        refine WO_step rfl (S_pure rfl ?_)
        refine WO_nil (KLoop_n ?_)
        refine WC_weak (ih (l.length - (a + 1)) (by omega) (a + 1) w d out rfl (by omega) (by omega) ?_) seA hsA
        rw [hg1, setR_c4 hb2 hb4] at he
        rw [← he]; simp [hg1]
     ·
      try simp only [bsT] at hg1
      iterate 8 refine WO_off rfl ?_
      refine WO_step rfl (S_pure rfl ?_)
      refine WO_nil (KSeq_n ?_)
      refine WC_cond rfl (fun h => ?_) (fun _ => ?_)
      · exact absurd h (by decide)
      refine WC_skip (KSeq_n (WC_seq (WC_region ?_)))
      iterate 2 refine WO_step rfl (S_pure rfl ?_)
      refine WO_step rfl (S_idx rfl rfl rdA (by first | rfl | assumption | (symm; assumption)) (by rfl) (by first | assumption | omega | exact lt_of_get (by assumption) | (simp only [List.length_set]; first | assumption | omega | exact lt_of_get (by assumption))) fun hp32 => ?_)
      refine WO_step rfl (S_fldE rfl (by repeat (first | assumption | apply IsP.padd)) ?_)
      refine WO_step rfl (S_loadF rfl rdA (by rfl) (by assumption) (by rfl) (by rfl) ?_)
      refine WO_step rfl (S_pure rfl ?_)
      refine WO_step rfl (S_loadO rfl pkA (by rfl) (by rfl) ?_)
      first | refine WO_step rfl (S_neS rfl rfl ?_) | refine WO_step rfl (S_pure rfl ?_)
      refine WO_nil (KSeq_n ?_)
      refine WC_cond rfl (fun hb5 => ?_) (fun hb5 => ?_)
      ·
       try simp only [bsT] at hb5
       refine WC_region ?_
       iterate 3 refine WO_step rfl (S_pure rfl ?_)
       refine WO_step rfl (S_idx rfl rfl rdA (by first | rfl | assumption | (symm; assumption)) (by rfl) (by first | assumption | omega | exact lt_of_get (by assumption) | (simp only [List.length_set]; first | assumption | omega | exact lt_of_get (by assumption))) fun hp41 => ?_)
       refine WO_step rfl (S_loadE rfl rdA (by first | rfl | assumption | (symm; assumption)) (by first | rfl | assumption | (symm; assumption)) (by first | rfl | assumption | (symm; assumption)) (by assumption) ?_)
       refine WO_step rfl (S_lit1 (T := TRec) rfl rfl rfl rfl fun w43 => ?_)
       refine WO_step rfl (S_app rfl rfl pkA (by first | exact SRC.str rfl rfl | (apply RD.src; repeat (first | assumption | exact RD.head | exact RD.nil | apply RD.tail))) (by rfl) (by rfl) (by (try simp only [List.length_append, List.length_cons, List.length_nil]); omega) fun w44 => ?_)
       refine WO_step rfl (S_pure rfl ?_)
       refine WO_nil (KBlock_n (KSeq_n (WC_region ?_)))
       refine WO_step rfl (S_pure rfl ?_)
       first | refine WO_step rfl (S_addN (b := 1) rfl rfl (by omega) ?_) | refine WO_step rfl (S_pure rfl ?_)
       refine WO_step rfl (S_pure rfl ?_)
       refine WO_nil (KLoop_n ?_)
       refine WC_weak (ih (l.length - (a + 1)) (by omega) (a + 1) w44 d (out ++ [x]) rfl (by omega) (by simp; omega) ?_) seA hsA
       rw [hg1, setR_c5 hb5] at he
       rw [← he]; simp [hg1]
      ·
       try simp only [bsT] at hb5
       refine WC_skip (KBlock_n (KSeq_n (WC_region ?_)))
       refine WO_step rfl (S_pure rfl ?_)
       first | refine WO_step rfl (S_addN (b := 1) rfl rfl (by omega) ?_) | refine WO_step rfl (S_pure rfl ?_)
       refine WO_step rfl (S_pure rfl ?_)
       refine WO_nil (KLoop_n ?_)
       refine WC_weak (ih (l.length - (a + 1)) (by omega) (a + 1) w d out rfl (by omega) (by omega) ?_) seA hsA
       rw [hg1, setR_c6 hb5] at he
       rw [← he]; simp [hg1]
    ·
     try simp only [bsT] at hb1
     refine WC_exit (KSeq_x (KLoop_x ?_))
     rw [List.drop_of_length_le (by omega)] at he
     exact KPost_i seA hsA ⟨w, d, out, rfl, rfl, rfl, by omega, he⟩
theorem sp_Set {H : SH} {v : Value} {l : List Rec} {r : Rec} (hv : RD H v TRec l) (hl : l.length ≤ 1000) : WF F X f_loessref10_Set [v, TRec.val r] H (fun q H' => ∃ w : SV, H' = SL w.toV TRec (setR r l false) :: H ∧ q = w.toV) := by
  refine WF_fn F_loessref10_Set ?_
  refine WC_seq (WC_region ?_)
  refine WO_step rfl (S_box rfl rfl fun i3 => ?_)
  refine WO_step rfl (S_pure rfl ?_)
  refine WO_nil (KSeq_n (WC_seq (WC_region ?_)))
  refine WO_step rfl (S_pure rfl ?_)
  refine WO_nil (KSeq_n (WC_seq (WC_region ?_)))
  refine WO_step rfl (S_pure rfl ?_)
  refine WO_nil (KSeq_n (WC_seq (WC_seq (WC_region ?_))))
  refine WO_step rfl (S_pure rfl ?_)
  refine WO_nil (KSeq_n (WC_block ?_))
  refine WC_view (H' := SL (SV.toV .nil) TRec [] :: .obj i3 (.row false 33 (cells (TRec.val r))) :: H) (fun h hh => HAg.addNil hh) ?_
  refine WC_post (WC_weak (lp_Set (r := r) (i3 := i3) hv hl l.length 0 .nil false [] (by omega) (by omega) (by simp) (by simp)) seA HSub.refl) ?_
  rintro x l' H' ⟨w, d, out, rfl, rfl, rfl, ho, he⟩
  refine KBlock_h (KSeq_n (WC_seq (WC_seq (WC_region ?_))))
  iterate 2 refine WO_step rfl (S_pure rfl ?_)
  refine WO_nil (KSeq_n ?_)
  refine WC_cond rfl (fun hb1 => ?_) (fun hb1 => ?_)
  ·
   try simp only [bsT] at hb1
   refine WC_region ?_
   refine WO_step rfl (S_pure rfl ?_)
   first | refine WO_step rfl (S_loadT rfl pkA (by rfl) (by rfl) ?_) | refine WO_step rfl (S_loadO rfl pkA (by rfl) (by rfl) ?_)
   refine WO_step rfl (S_lit1 (T := TRec) rfl rfl rfl rfl fun w49 => ?_)
   refine WO_step rfl (S_app rfl rfl pkA (by first | exact SRC.str rfl rfl | (apply RD.src; repeat (first | assumption | exact RD.head | exact RD.nil | apply RD.tail))) (by rfl) (by rfl) (by (try simp only [List.length_append, List.length_cons, List.length_nil]); omega) fun w50 => ?_)
   refine WO_step rfl (S_pure rfl ?_)
   refine WO_nil (KSeq_n (WC_seq (WC_region ?_)))
   iterate 2 refine WO_step rfl (S_pure rfl ?_)
   refine WO_nil (KSeq_n (WC_ret ?_))
   refine KFn_r (ResL.tmp rfl ResL.nil) ?_
   refine ⟨SL w50.toV TRec (out ++ [r]) :: H, hsA, w50, ?_, rfl⟩
   rw [← he]; simp_all
  ·
   try simp only [bsT] at hb1
   refine WC_skip (KSeq_n (WC_seq (WC_region ?_)))
   iterate 2 refine WO_step rfl (S_pure rfl ?_)
   refine WO_nil (KSeq_n (WC_ret ?_))
   refine KFn_r (ResL.tmp rfl ResL.nil) ?_
   refine ⟨SL w.toV TRec out :: H, hsA, w, ?_, rfl⟩
   rw [← he]; simp_all

end Go.Proofs.YtpgidiompdabdaaGreat.AM
