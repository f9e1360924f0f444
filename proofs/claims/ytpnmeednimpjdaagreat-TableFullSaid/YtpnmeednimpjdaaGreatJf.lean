/- Walks: what the functions compute. -/
import Derived.Test.YtpnmeednimpjdaaGreatHy
namespace Go.Proofs.YtpnmeednimpjdaaGreat.AM
open Go
set_option linter.unusedSimpArgs false
set_option linter.unusedVariables false
set_option maxRecDepth 4000

/-! ### A store's records, by key -/
def near (a b : Nat) : Bool := decide (tagOf a = tagOf b) && (decide (frst a = frst b) || decide (frst a = oth (frst b) (tagOf b)))
def hsOf (l : List Rec) : List Nat := l.map fun r => kH r.key
def keysOf (l : List Rec) : List ByteArray := l.map (·.key)
theorem key_inj {l : List Rec} (hn : (keysOf l).Nodup) {i j : Nat} {a b : Rec} (h1 : l[i]? = some a) (h2 : l[j]? = some b) (h : a.key = b.key) : i = j := by
  have e1 : (keysOf l)[i]? = some a.key := by rw [keysOf, List.getElem?_map, h1]; rfl
  have e2 : (keysOf l)[j]? = some a.key := by rw [keysOf, List.getElem?_map, h2, h]; rfl
  obtain ⟨l1, e1⟩ := List.getElem?_eq_some_iff.1 e1
  obtain ⟨l2, e2⟩ := List.getElem?_eq_some_iff.1 e2
  exact (List.getElem_inj hn).1 (e1.trans e2.symm)
theorem snoc_of_pos {α : Type} {A : List α} (h : 0 < A.length) : ∃ B y, A = B ++ [y] := by
  have hne : A ≠ [] := by intro e; rw [e] at h; exact absurd h (by simp)
  exact ⟨A.dropLast, A.getLast hne, (List.dropLast_concat_getLast hne).symm⟩
theorem setR_perm {r : Rec} : ∀ {l : List Rec} {d : Bool}, (∀ y ∈ l, y.key ≠ r.key) → (setR r l d).Perm (if d then l else r :: l)
  | [], true, _ => by simp [setR]
  | [], false, _ => by simp [setR]
  | x :: l, true, h => by
    have hx := h x (List.mem_cons_self ..)
    have := setR_perm (r := r) (l := l) (d := true) (fun y hy => h y (List.mem_cons_of_mem _ hy))
    rw [setR_c5 hx]
    exact this.cons x
  | x :: l, false, h => by
    have hx := h x (List.mem_cons_self ..)
    have h1 := setR_perm (r := r) (l := l) (d := true) (fun y hy => h y (List.mem_cons_of_mem _ hy))
    have h2 := setR_perm (r := r) (l := l) (d := false) (fun y hy => h y (List.mem_cons_of_mem _ hy))
    by_cases hlt : kl x < kl r
    · rw [setR_c3 hlt hx]
      exact (h2.cons x).trans (List.Perm.swap r x l)
    · rw [setR_c1 hlt hx]
      exact (h1.cons x).cons r
theorem newest_perm {l : List Rec} (h : (keysOf l).Nodup) : (newest l).Perm l := by
  have key : ∀ (n : Nat) (l : List Rec), l.length = n → (keysOf l).Nodup → (newest l).Perm l := by
    intro n
    induction n with
    | zero => intro l hl _; rw [List.length_eq_zero_iff.1 hl]; exact List.Perm.refl _
    | succ n ih =>
      intro l hl hn
      obtain ⟨B, y, rfl⟩ := snoc_of_pos (A := l) (by omega)
      rw [newest_snoc]
      unfold keysOf at hn
      rw [List.map_append, List.nodup_append] at hn
      have hB := ih B (by simp at hl; exact hl) hn.1
      refine (setR_perm (d := false) (fun z hz => ?_)).trans ?_
      · exact fun e => hn.2.2 z.key (List.mem_map.2 ⟨z, hB.mem_iff.1 hz, rfl⟩) y.key (by simp) e
      · simp only [Bool.false_eq_true, if_false]
        exact (hB.cons y).trans (List.perm_append_singleton y B).symm
  exact key _ l rfl h
theorem fnd_none_iff (k : ByteArray) : ∀ l : List Rec, fnd l k = none ↔ ∀ r ∈ l, r.key ≠ k
  | [] => by simp [fnd]
  | x :: l => by
    rw [fnd]
    by_cases h : x.key = k
    · rw [if_pos h]; simp [h]
    · rw [if_neg h, fnd_none_iff k l]; simp [h]
theorem mem_inj {l : List Rec} (hn : (keysOf l).Nodup) {a b : Rec} (h1 : a ∈ l) (h2 : b ∈ l) (h : a.key = b.key) : a = b := by
  obtain ⟨i, hi⟩ := List.getElem?_of_mem h1
  obtain ⟨j, hj⟩ := List.getElem?_of_mem h2
  have := key_inj hn hi hj h
  subst this
  rw [hi] at hj; cases hj; rfl
theorem fnd_some_iff {l : List Rec} (hn : (keysOf l).Nodup) {k : ByteArray} {r : Rec} : fnd l k = some r ↔ r ∈ l ∧ r.key = k := by
  constructor
  · exact fnd_mem'
  · rintro ⟨h1, rfl⟩
    cases h : fnd l r.key with
    | none => exact absurd rfl ((fnd_none_iff _ l).1 h r h1)
    | some q =>
      obtain ⟨h2, h3⟩ := fnd_mem' h
      rw [mem_inj hn h2 h1 h3]
theorem fnd_mem_congr {a b : List Rec} (ha : (keysOf a).Nodup) (hb : (keysOf b).Nodup) (h : ∀ r, r ∈ a ↔ r ∈ b) (k : ByteArray) : fnd a k = fnd b k := by
  cases e : fnd b k with
  | none => rw [fnd_none_iff] at e ⊢; exact fun r hr => e r ((h r).1 hr)
  | some r => rw [fnd_some_iff hb] at e; rw [fnd_some_iff ha]; exact ⟨(h r).2 e.1, e.2⟩
theorem keys_rev {l : List Rec} (h : (keysOf l).Nodup) : (keysOf l.reverse).Nodup := by
  unfold keysOf
  rw [List.map_reverse]; exact (List.reverse_perm _).nodup_iff.2 h
theorem fnd_newest {l : List Rec} (h : (keysOf l).Nodup) (k : ByteArray) : fnd (newest l) k = fnd l k := by
  rw [(newest_spec l).2 k]
  exact fnd_mem_congr (keys_rev h) h (fun r => List.mem_reverse) k
theorem tKeys_nodup {ts : List SlT} (hl : ts.length = 32) (hm : mayTab ts = true) : ∀ j, j ≤ 32 → (tKeys ts j).Nodup
  | 0, _ => by simp [tKeys]
  | j + 1, h => by
    have ih := tKeys_nodup hl hm j (by omega)
    obtain ⟨x, hx⟩ := get_of_lt (show j < ts.length by omega)
    have ho := (mayTab_iff hl).1 hm j x (by omega) hx
    rw [tKeys_succ hx]
    cases hh : x.has with
    | false => simpa [hh] using ih
    | true =>
      unfold slOk at ho
      rw [if_pos hh] at ho
      simp only [Bool.and_eq_true, Bool.not_eq_true'] at ho
      have hn := inB_false.1 ho.2.2
      simp only [if_true]
      rw [List.nodup_append]
      exact ⟨ih, by simp, fun a ha b hb => by simp at hb; subst hb; exact fun e => hn (e ▸ ha)⟩
theorem GoodT.nd {ts : List SlT} (g : GoodT ts) : (keysOf (tRecs ts 32)).Nodup := by
  unfold keysOf
  rw [tRecs_keys]; exact tKeys_nodup g.1 g.2.2 32 (by omega)
theorem bkR_get {ts : List SlT} {b : Nat} {r : Rec} : r ∈ bkR ts b ↔ ∃ s x, s < 4 ∧ ts[4 * b + s]? = some x ∧ x.has = true ∧ x.r = r := by
  unfold bkR
  constructor
  · intro h
    obtain ⟨x, hx, rfl⟩ := List.mem_map.1 h
    obtain ⟨h1, h2⟩ := List.mem_filter.1 hx
    obtain ⟨s, hs⟩ := List.getElem?_of_mem h1
    have hs4 : s < 4 := by
      have := (List.getElem?_eq_some_iff.1 hs).1
      unfold bk at this
      rw [List.length_take] at this; omega
    rw [bk_get hs4] at hs
    exact ⟨s, x, hs4, hs, h2, rfl⟩
  · rintro ⟨s, x, hs, hx, hh, rfl⟩
    rw [← bk_get hs] at hx
    exact List.mem_map.2 ⟨x, List.mem_filter.2 ⟨List.mem_of_getElem? hx, hh⟩, rfl⟩
theorem bkR_bel {ts : List SlT} (g : GoodT ts) {b : Nat} (hb : b < 8) {r : Rec} (h : r ∈ bkR ts b) : bel r.key b = true := by
  obtain ⟨s, x, hs, hx, hh, rfl⟩ := bkR_get.1 h
  have ho := (mayTab_iff g.1).1 g.2.2 (4 * b + s) x (by omega) hx
  unfold slOk at ho
  rw [if_pos hh, show (4 * b + s) / 4 = b by omega] at ho
  simp only [Bool.and_eq_true] at ho
  exact ho.2.1
theorem tRecs_bkR {ts : List SlT} {r : Rec} (h : r ∈ tRecs ts 32) : ∃ b, b < 8 ∧ r ∈ bkR ts b := by
  unfold tRecs at h
  obtain ⟨x, hx, rfl⟩ := List.mem_map.1 h
  obtain ⟨h1, h2⟩ := List.mem_filter.1 hx
  obtain ⟨j, hj⟩ := List.getElem?_of_mem h1
  rw [List.getElem?_take] at hj
  split at hj
  · exact ⟨j / 4, by omega, bkR_get.2 ⟨j % 4, x, by omega, by rw [show 4 * (j / 4) + j % 4 = j by omega]; exact hj, h2, rfl⟩⟩
  · cases hj
theorem near_bel {a q b : Nat} (h : b = frst q ∨ b = oth (frst q) (tagOf q)) : near a q = true ↔ tagOf q = tagOf a ∧ (b = frst a ∨ b = oth (frst a) (tagOf a)) := by
  have h1 := oth_oth (b := frst q) (t := tagOf q) (frst_lt _)
  have h2 := oth_oth (b := frst a) (t := tagOf q) (frst_lt _)
  unfold near
  simp only [Bool.and_eq_true, Bool.or_eq_true, decide_eq_true_eq]
  constructor
  · rintro ⟨e, f⟩
    rw [e] at *
    refine ⟨rfl, ?_⟩
    rcases f with f | f
    · rw [f]; exact h
    · rcases h with h | h
      · right; rw [f, h1]; exact h
      · left; rw [f]; exact h
  · rintro ⟨e, f⟩
    rw [← e] at f
    refine ⟨e.symm, ?_⟩
    rcases f with f | f
    · rw [← f]; exact h
    · rcases h with h | h
      · right; rw [← h, f, h2]
      · left; rw [← h1, ← h, f, h2]
theorem like_step' {L : List Rec} {kq : Rec → Nat} {a b : Nat} (hq : ∀ r ∈ L, b = frst (kq r) ∨ b = oth (frst (kq r)) (tagOf (kq r))) : L.countP (fun r => near a (kq r)) = if b = frst a ∨ b = oth (frst a) (tagOf a) then (L.filter fun r => decide (tagOf (kq r) = tagOf a)).length else 0 := by
  split
  · rename_i h
    rw [← List.countP_eq_length_filter]
    refine List.countP_congr fun r hr => ?_
    have := near_bel (a := a) (hq r hr)
    simp only [decide_eq_true_eq]
    rw [this]
    exact ⟨fun h' => h'.1, fun h' => ⟨h', h⟩⟩
  · rename_i h
    rw [List.countP_eq_zero]
    intro r hr hc
    exact h ((near_bel (a := a) (hq r hr)).1 hc).2
theorem hs_countP (L : List Rec) (p : Nat → Bool) : (hsOf L).countP p = L.countP (fun r => p (kH r.key)) := by
  unfold hsOf; rw [List.countP_map]; rfl
theorem like_step {ts : List SlT} (g : GoodT ts) (k : ByteArray) {b : Nat} (hb : b < 8) : (hsOf (bkR ts b)).countP (near (kH k)) = if b = frst (kH k) ∨ b = oth (frst (kH k)) (tagOf (kH k)) then (likeB (bkR ts b) (tagOf (kH k))).length else 0 := by
  rw [hs_countP]
  unfold likeB
  generalize kH k = h
  refine like_step' (kq := fun r => kH r.key) fun r hr => ?_
  have := bkR_bel g hb hr
  unfold bel at this
  simp only [Bool.or_eq_true, decide_eq_true_eq] at this
  exact this
theorem like_ifs {f o b cf co cb : Nat} (hne : o ≠ f) (hf : b = f → cb = cf) (ho : b = o → cb = co) : (if f < b then cf else 0) + (if o < b then co else 0) + (if b = f ∨ b = o then cb else 0) = (if f < b + 1 then cf else 0) + (if o < b + 1 then co else 0) := by
  by_cases e1 : b = f
  · have := hf e1
    rw [if_pos (show b = f ∨ b = o from .inl e1)]
    repeat' split
    all_goals omega
  · by_cases e2 : b = o
    · have := ho e2
      rw [if_pos (show b = f ∨ b = o from .inr e2)]
      repeat' split
      all_goals omega
    · rw [if_neg (show ¬ (b = f ∨ b = o) by rintro (h | h); exact e1 h; exact e2 h)]
      repeat' split
      all_goals omega
theorem like_count {ts : List SlT} (g : GoodT ts) (k : ByteArray) : (likeL ts k).length = (hsOf (tRecs ts 32)).countP (near (kH k)) := by
  have h0 := frst_lt (kH k)
  have h1 := oth_lt (t := tagOf (kH k)) h0
  have hne := oth_ne (t := tagOf (kH k)) h0
  have key : ∀ b, b ≤ 8 → (hsOf (tRecs ts (4 * b))).countP (near (kH k)) = (if frst (kH k) < b then (likeB (bkR ts (frst (kH k))) (tagOf (kH k))).length else 0) + (if oth (frst (kH k)) (tagOf (kH k)) < b then (likeB (bkR ts (oth (frst (kH k)) (tagOf (kH k)))) (tagOf (kH k))).length else 0) := by
    intro b
    induction b with
    | zero => intro _; simp [tRecs, hsOf]
    | succ b ih =>
      intro hb
      have e : hsOf (tRecs ts (4 * (b + 1))) = hsOf (tRecs ts (4 * b)) ++ hsOf (bkR ts b) := by
        rw [show 4 * (b + 1) = 4 * b + 4 by omega, tRecs_bk]; unfold hsOf; rw [List.map_append]
      rw [e, List.countP_append, ih (by omega), like_step g k (by omega)]
      exact like_ifs hne (fun e => by rw [e]) (fun e => by rw [e])
  have := key 8 (by omega)
  rw [if_pos h0, if_pos h1] at this
  rw [show (32 : Nat) = 4 * 8 from rfl, this]
  unfold likeL
  rw [List.length_append]
theorem like_near {ts : List SlT} (g : GoodT ts) (k : ByteArray) : (likeL ts k).length = (hsOf (newest (tRecs ts 32))).countP (near (kH k)) := by
  rw [like_count g]
  unfold hsOf
  exact ((newest_perm g.nd).map _).symm.countP_eq _
theorem fnd_like {ts : List SlT} (g : GoodT ts) (k : ByteArray) : fnd (likeL ts k) k = fnd (newest (tRecs ts 32)) k := by
  rw [fnd_newest g.nd]
  cases h : fnd (tRecs ts 32) k with
  | none =>
    rw [fnd_none_iff] at h ⊢
    exact fun r hr => h r (likeL_mem hr)
  | some r =>
    obtain ⟨h1, rfl⟩ := fnd_mem' h
    obtain ⟨b, hb, h2⟩ := tRecs_bkR h1
    have hbel := bkR_bel g hb h2
    unfold bel at hbel
    simp only [Bool.or_eq_true, decide_eq_true_eq] at hbel
    have hin : r ∈ likeL ts r.key := by
      unfold likeL likeB
      rcases hbel with e | e
      · exact List.mem_append_left _ (List.mem_filter.2 ⟨e ▸ h2, by simp⟩)
      · exact List.mem_append_right _ (List.mem_filter.2 ⟨e ▸ h2, by simp⟩)
    cases h' : fnd (likeL ts r.key) r.key with
    | none => exact absurd rfl ((fnd_none_iff _ _).1 h' r hin)
    | some q =>
      obtain ⟨h3, h4⟩ := fnd_mem' h'
      rw [mem_inj g.nd (likeL_mem h3) h1 h4]
theorem fnd_self {ts : List SlT} (g : GoodT ts) {r : Rec} (h : r ∈ newest (tRecs ts 32)) : fnd (likeL ts r.key) r.key = some r := by
  rw [fnd_like g, fnd_newest g.nd]
  exact (fnd_some_iff g.nd).2 ⟨(newest_perm g.nd).mem_iff.1 h, rfl⟩
theorem newest_tlen {ts : List SlT} (g : GoodT ts) : (newest (tRecs ts 32)).length = (tRecs ts 32).length := (newest_perm g.nd).length_eq
theorem sp_Near {H : SH} {a b : Nat} (ha : a < 18446744073709551616) (hb : b < 18446744073709551616) : WF F X f_loessref6_Near [.int .u64 (a : Int), .int .u64 (b : Int)] H (fun r H' => H' = H ∧ r = .bool (near a b)) := by
  have h1 := frst_lt b
  have h2 := tagOf_lt b
  refine WF_fn F_loessref6_Near ?_
  refine WC_seq (WC_region ?_)
  refine WO_step rfl (S_pure rfl ?_)
  refine WO_nil (KSeq_n (WC_seq (WC_region ?_)))
  refine WO_step rfl (S_pure rfl ?_)
  refine WO_call rfl rfl rfl ?_
  refine (sp_rTag (by omega)).mono ?_
  rintro _ _ ⟨rfl, rfl⟩
  refine WO_step rfl (S_pure rfl ?_)
  refine WO_call rfl rfl rfl ?_
  refine (sp_rTag (by omega)).mono ?_
  rintro _ _ ⟨rfl, rfl⟩
  first | refine WO_step rfl (S_eqS rfl rfl ?_) | refine WO_step rfl (S_pure rfl ?_)
  refine WO_step rfl (S_pure rfl ?_)
  refine WO_cases (t := 10) rfl (fun hg1 => ?_) (fun hg1 => ?_)
  ·
   try simp only [bsT] at hg1
   refine WO_step rfl (S_pure rfl ?_)
   refine WO_call rfl rfl rfl ?_
   refine (sp_rFirst (by omega)).mono ?_
   rintro _ _ ⟨rfl, rfl⟩
   refine WO_step rfl (S_pure rfl ?_)
   refine WO_call rfl rfl rfl ?_
   refine (sp_rFirst (by omega)).mono ?_
   rintro _ _ ⟨rfl, rfl⟩
   first | refine WO_step rfl (S_eqS rfl rfl ?_) | refine WO_step rfl (S_pure rfl ?_)
   refine WO_step rfl (S_pure rfl ?_)
   refine WO_cases (t := 16) rfl (fun hg2 => ?_) (fun hg2 => ?_)
   ·
    try simp only [bsT] at hg2
    iterate 8 refine WO_off rfl ?_
    iterate 3 refine WO_step rfl (S_pure rfl ?_)
    refine WO_nil (KSeq_n (WC_ret ?_))
    refine KFn_r (ResL.tmp rfl ResL.nil) ?_
    refine ⟨_, HSub.refl, rfl, ?_⟩
    unfold near
    simp only [resV]
    congr 1
    rw [Bool.eq_iff_iff]
    simp at *
    try simp [hg1]
    try omega
   ·
    try simp only [bsT] at hg2
    refine WO_step rfl (S_pure rfl ?_)
    refine WO_call rfl rfl rfl ?_
    refine (sp_rFirst (by omega)).mono ?_
    rintro _ _ ⟨rfl, rfl⟩
    refine WO_step rfl (S_pure rfl ?_)
    refine WO_call rfl rfl rfl ?_
    refine (sp_rFirst (by omega)).mono ?_
    rintro _ _ ⟨rfl, rfl⟩
    refine WO_step rfl (S_pure rfl ?_)
    refine WO_call rfl rfl rfl ?_
    refine (sp_rTag (by omega)).mono ?_
    rintro _ _ ⟨rfl, rfl⟩
    refine WO_call rfl rfl rfl ?_
    refine (sp_rOther (by assumption) (by assumption)).mono ?_
    rintro _ _ ⟨rfl, rfl⟩
    first | refine WO_step rfl (S_eqS rfl rfl ?_) | refine WO_step rfl (S_pure rfl ?_)
    iterate 3 refine WO_step rfl (S_pure rfl ?_)
    refine WO_nil (KSeq_n (WC_ret ?_))
    refine KFn_r (ResL.tmp rfl ResL.nil) ?_
    refine ⟨_, HSub.refl, rfl, ?_⟩
    unfold near
    simp only [resV]
    congr 1
    rw [Bool.eq_iff_iff]
    simp at *
    try simp [hg1]
    try omega
  ·
   try simp only [bsT] at hg1
   iterate 15 refine WO_off rfl ?_
   iterate 2 refine WO_step rfl (S_pure rfl ?_)
   refine WO_nil (KSeq_n (WC_ret ?_))
   refine KFn_r (ResL.tmp rfl ResL.nil) ?_
   refine ⟨_, HSub.refl, rfl, ?_⟩
   unfold near
   simp only [resV]
   congr 1
   rw [Bool.eq_iff_iff]
   simp at *
   try simp [hg1]
   try omega
theorem lp_rRd {H : SH} {v : Value} {l : List Rec} {k : ByteArray} (hv : RD H v TRec l) (hL : l.length ≤ 1000) (hks : ∀ x ∈ l, x.key.size ≤ 1000000) (hk : k.size ≤ 1000000) : ∀ (n a : Nat), l.length - a = n → a ≤ l.length →
    WC F X (.loop L_loessref22_Reads_0) [(6, .int .i64 (a : Int)), (5, .int .i64 (((hsOf (l.take a)).countP (near (kH k)) : Nat) : Int)), (0, v), (1, .string k)] H (KPost fun x l' H' => x = .exit 0 ∧ l' = [(5, .int .i64 (((hsOf l).countP (near (kH k)) : Nat) : Int))] ∧ H' = H) := by
  intro n
  induction n using Nat.strongRecOn with
  | _ n ih =>
    intro a hn ha
    have hc : (hsOf (l.take a)).countP (near (kH k)) ≤ a := Nat.le_trans List.countP_le_length (by unfold hsOf; rw [List.length_map, List.length_take]; omega)
    refine WC_loop (WC_seq (WC_seq (WC_region ?_)))
    iterate 2 refine WO_step rfl (S_pure rfl ?_)
    first | refine WO_step rfl (S_pure rfl ?_) | refine WO_step rfl (S_lenS rfl rdA ?_)
    refine WO_step rfl (S_pure rfl ?_)
    refine WO_nil (KSeq_n ?_)
    refine WC_cond rfl (fun hb1 => ?_) (fun hb1 => ?_)
    ·
     try simp only [bsT] at hb1
     obtain ⟨q, hq⟩ := get_of_lt hb1
     have hqs := hks q (List.mem_of_getElem? hq)
     have htk : (hsOf (l.take (a + 1))).countP (near (kH k)) = (hsOf (l.take a)).countP (near (kH k)) + if near (kH k) (kH q.key) then 1 else 0 := by
       unfold hsOf
       rw [List.take_add_one, hq, List.map_append, List.countP_append]
       show _ + List.countP (near (kH k)) [kH q.key] = _
       rw [List.countP_singleton]
     have hk1 := kH_lt k
     have hk2 := kH_lt q.key
     refine WC_skip (KSeq_n (WC_seq (WC_block (WC_seq (WC_drawn ?_)))))
     refine WD_step rfl (S_pure rfl ?_)
     refine WD_call rfl rfl rfl ?_
     refine (sp_RHash hk).mono ?_
     rintro _ _ ⟨rfl, rfl⟩
     rw [kH_eq]
     refine WD_step rfl (S_pure rfl ?_)
     refine WD_step rfl (S_pure rfl ?_)
     refine WD_step rfl (S_idx rfl rfl rdA (by rfl) (by rfl) hb1 fun hp17 => ?_)
     refine WD_step rfl (S_fldE rfl (by repeat (first | assumption | apply IsP.padd)) ?_)
     refine WD_step rfl (S_loadF (x := q) rfl rdA (by rfl) hq (by rfl) (by rfl) ?_)
     refine WD_call rfl rfl rfl ?_
     refine (sp_RHash hqs).mono ?_
     rintro _ _ ⟨rfl, rfl⟩
     rw [kH_eq]
     refine WD_call rfl rfl rfl ?_
     refine (sp_Near (by omega) (by omega)).mono ?_
     rintro _ _ ⟨rfl, rfl⟩
     refine WD_nil ?_
     refine ⟨?_, ?_⟩
     ·
      repeat' (first | exact trivial | apply And.intro)
      exact ObR.of_step rfl (S_loadF (x := q) rfl rdA (by rfl) hq (by rfl) (by rfl) (by simp [eqV, eqV0]))
     ·
      refine KSeq_n ?_
      refine WC_cond rfl (fun hb2 => ?_) (fun hb2 => ?_)
      ·
       try simp only [bsT] at hb2
       refine WC_region ?_
       refine WO_step rfl (S_pure rfl ?_)
       first | refine WO_step rfl (S_addN (b := 1) rfl rfl (by omega) ?_) | refine WO_step rfl (S_pure rfl ?_)
       refine WO_step rfl (S_pure rfl ?_)
       refine WO_nil (KBlock_n (KSeq_n (WC_region ?_)))
       refine WO_step rfl (S_pure rfl ?_)
       first | refine WO_step rfl (S_addN (b := 1) rfl rfl (by omega) ?_) | refine WO_step rfl (S_pure rfl ?_)
       refine WO_step rfl (S_pure rfl ?_)
       refine WO_nil (KLoop_n ?_)
       rw [hb2, if_pos rfl] at htk
       refine WC_weak (ih (l.length - (a + 1)) (by omega) (a + 1) rfl (by omega)) ?_ hsA
       rw [htk]; exact seA
      ·
       try simp only [bsT] at hb2
       refine WC_skip (KBlock_n (KSeq_n (WC_region ?_)))
       refine WO_step rfl (S_pure rfl ?_)
       first | refine WO_step rfl (S_addN (b := 1) rfl rfl (by omega) ?_) | refine WO_step rfl (S_pure rfl ?_)
       refine WO_step rfl (S_pure rfl ?_)
       refine WO_nil (KLoop_n ?_)
       rw [hb2] at htk
       simp only [Bool.false_eq_true, if_false, Nat.add_zero] at htk
       refine WC_weak (ih (l.length - (a + 1)) (by omega) (a + 1) rfl (by omega)) ?_ hsA
       rw [htk]; exact seA
    ·
     try simp only [bsT] at hb1
     refine WC_exit (KSeq_x (KLoop_x ?_))
     refine KPost_i (l' := [(5, .int .i64 (((hsOf (l.take a)).countP (near (kH k)) : Nat) : Int))]) seA hsA ⟨rfl, ?_, rfl⟩
     rw [List.take_of_length_le (by omega)]
theorem sp_rRd {H : SH} {v : Value} {l : List Rec} {k : ByteArray} (hv : RD H v TRec l) (hL : l.length ≤ 1000) (hks : ∀ x ∈ l, x.key.size ≤ 1000000) (hk : k.size ≤ 1000000) : WF F X f_loessref22_Reads [v, .string k] H (fun r H' => H' = H ∧ r = .int .i64 (((hsOf l).countP (near (kH k)) : Nat) : Int)) := by
  refine WF_fn F_loessref22_Reads ?_
  refine WC_seq (WC_region ?_)
  refine WO_step rfl (S_pure rfl ?_)
  refine WO_nil (KSeq_n (WC_seq (WC_region ?_)))
  refine WO_step rfl (S_pure rfl ?_)
  refine WO_nil (KSeq_n (WC_seq (WC_seq (WC_region ?_))))
  refine WO_step rfl (S_pure rfl ?_)
  refine WO_nil (KSeq_n (WC_block ?_))
  --out x0
  refine WC_post (WC_weak (lp_rRd hv hL hks hk l.length 0 (by omega) (by omega)) seA hsA) ?_
  rintro x l' _ ⟨rfl, rfl, rfl⟩
  refine KBlock_h (KSeq_n (WC_seq (WC_region ?_)))
  iterate 2 refine WO_step rfl (S_pure rfl ?_)
  refine WO_nil (KSeq_n (WC_ret ?_))
  refine KFn_r (ResL.tmp rfl ResL.nil) ?_
  exact ⟨_, HSub.refl, rfl, rfl⟩
/-! ### A store that is right -/
theorem lp_right {H : SH} {L : List Rec} {ts : List SlT} {i i2 : Nat} {wk wr wt u : SV} {k : ByteArray} (g : GoodT ts) (hL : newest (tRecs ts 32) = L) : ∀ (m j : Nat), L.length - j = m → j ≤ L.length →
    WC F X (.loop L_loesslaw20_right_0) [(8, .int .i64 (j : Int)), (7, u.toV), (0, .pointer (some ⟨i, 0, none⟩)), (2, .string k)] (STO i ts i2 wk wr wt (SL u.toV TRec L :: H)) (KPost fun y l' H' => y = .exit 0 ∧ l' = [(7, u.toV), (0, .pointer (some ⟨i, 0, none⟩)), (2, .string k)] ∧ H' = STO i ts i2 wk wr wt (SL u.toV TRec L :: H)) := by
  have hl := g.1
  have hw := g.2.1
  have hnl := newest_tlen g
  have htl := rk_tRecs ts 32
  have hrl := rk_le ts 32
  rw [hL] at hnl
  have hks : ∀ x ∈ L, x.key.size ≤ 1000000 := fun x hx => by
    rw [← hL, (newest_perm g.nd).mem_iff] at hx
    obtain ⟨b, hb, h2⟩ := tRecs_bkR hx
    obtain ⟨s, y, hs, hy, _, rfl⟩ := bkR_get.1 h2
    have := (hw y (List.mem_of_getElem? hy)).2.2.2
    omega
  intro m
  induction m using Nat.strongRecOn with
  | _ m ih =>
    intro j hn hj
    unfold STO
    refine WC_loop (WC_seq (WC_seq (WC_region ?_)))
    iterate 2 refine WO_step rfl (S_pure rfl ?_)
    first | refine WO_step rfl (S_pure rfl ?_) | refine WO_step rfl (S_lenS rfl rdA ?_)
    refine WO_step rfl (S_pure rfl ?_)
    refine WO_nil (KSeq_n ?_)
    refine WC_cond rfl (fun hb1 => ?_) (fun hb1 => ?_)
    ·
     try simp only [bsT] at hb1
     obtain ⟨x, hx⟩ := get_of_lt (show j < L.length by omega)
     have hxm := List.mem_of_getElem? hx
     have hxs := hks x hxm
     have hfx := fnd_self g (r := x) (by rw [hL]; exact hxm)
     have hnx := like_near g x.key
     rw [hL] at hnx
     refine WC_skip (KSeq_n (WC_seq (WC_block (WC_seq (WC_region ?_)))))
     iterate 3 refine WO_step rfl (S_pure rfl ?_)
     refine WO_step rfl (S_idx rfl rfl rdA (by first | rfl | assumption | (symm; assumption)) (by rfl) (by first | assumption | omega | exact lt_of_get (by assumption) | (simp only [List.length_set]; first | assumption | omega | exact lt_of_get (by assumption))) fun hp48 => ?_)
     refine WO_step rfl (S_fldE rfl (by repeat (first | assumption | apply IsP.padd)) ?_)
     refine WO_step rfl (S_loadF rfl rdA (by rfl) (by assumption) (by rfl) (by rfl) ?_)
     refine WO_call rfl rfl rfl ?_
     refine (WF.weak (sp_hGet (H := SL u.toV TRec L :: H) (i := i) (i2 := i2) (wk := wk) (wr := wr) (wt := wt) (ts := ts) (k := x.key) hl (by omega)) (by unfold STO; exact hsA)).mono ?_
     rintro _ _ ⟨rfl, rfl⟩
     rw [hfx]
     unfold STO
     iterate 3 refine WO_step rfl (S_pure rfl ?_)
     refine WO_step rfl (S_newT TRec rec0 rfl rfl fun i9 => ?_)
     refine WO_step rfl (S_storeT (T := TRec) (y := x) rfl rfl pkA (by rfl) (by rfl) ?_)
     refine WO_step rfl (S_pure rfl ?_)
     refine WO_nil (KSeq_n (WC_seq (WC_drawn ?_)))
     refine WD_step rfl (S_pure rfl ?_)
     refine WD_step rfl (S_pure rfl ?_)
     refine WD_step rfl (S_pure rfl ?_)
     refine WD_cases (t := 56) rfl (fun hg1 => ?_) (fun hg1 => ?_)
     ·
      try simp only [bsT] at hg1
      refine WD_off rfl ?_
      refine WD_off rfl ?_
      refine WD_off rfl ?_
      refine WD_off rfl ?_
      refine WD_off rfl ?_
      refine WD_off rfl ?_
      refine WD_off rfl ?_
      refine WD_step rfl (S_pure rfl ?_)
      refine WD_step rfl (S_pure rfl ?_)
      refine WD_off rfl ?_
      refine WD_off rfl ?_
      refine WD_off rfl ?_
      refine WD_off rfl ?_
      refine WD_off rfl ?_
      refine WD_off rfl ?_
      refine WD_off rfl ?_
      refine WD_off rfl ?_
      refine WD_off rfl ?_
      refine WD_off rfl ?_
      refine WD_off rfl ?_
      refine WD_off rfl ?_
      refine WD_off rfl ?_
      refine WD_off rfl ?_
      refine WD_off rfl ?_
      refine WD_step rfl (S_pure rfl ?_)
      refine WD_nil ?_
      refine ⟨?_, ?_⟩
      ·
       repeat' (first | exact trivial | apply And.intro)
       all_goals first
         | exact ObR.off rfl
         | exact ObR.of_step rfl (S_loadF (x := x) rfl rdA (by rfl) hx (by rfl) (by rfl) (by simp [eqV, eqV0]))
      ·
       refine KSeq_n ?_
       refine WC_cond rfl (fun _ => ?_) (fun h => ?_)
       rotate_left
       · exact absurd h (by decide)
       refine WC_seq (WC_region ?_)
       refine WO_step rfl (S_pure rfl ?_)
       refine WO_nil (KSeq_n (WC_ret (KBlock_r (KSeq_r (KLoop_r ?_)))))
       exact absurd hg1 (by simp)
     ·
      try simp only [bsT] at hg1
      refine WD_step rfl (S_loadO rfl pkA (by rfl) (by rfl) ?_)
      refine WD_step rfl (S_pure rfl ?_)
      refine WD_step rfl (S_pure rfl ?_)
      refine WD_step rfl (S_idx rfl rfl rdA (by first | rfl | assumption | (symm; assumption)) (by rfl) (by first | assumption | omega | exact lt_of_get (by assumption) | (simp only [List.length_set]; first | assumption | omega | exact lt_of_get (by assumption))) fun hp60 => ?_)
      refine WD_step rfl (S_loadE rfl rdA (by first | rfl | assumption | (symm; assumption)) (by first | rfl | assumption | (symm; assumption)) (by first | rfl | assumption | (symm; assumption)) (by assumption) ?_)
      refine WD_call rfl rfl rfl ?_
      refine (sp_Eq (a := x) (b := x)).mono ?_
      rintro _ _ ⟨rfl, rfl⟩
      refine WD_step rfl (S_pure rfl ?_)
      refine WD_step rfl (S_pure rfl ?_)
      refine WD_step rfl (S_pure rfl ?_)
      refine WD_cases (t := 65) rfl (fun hg2 => ?_) (fun hg2 => ?_)
      ·
       try simp only [bsT] at hg2
       refine WD_off rfl ?_
       refine WD_off rfl ?_
       refine WD_off rfl ?_
       refine WD_off rfl ?_
       refine WD_off rfl ?_
       refine WD_off rfl ?_
       refine WD_off rfl ?_
       refine WD_off rfl ?_
       refine WD_off rfl ?_
       refine WD_off rfl ?_
       refine WD_off rfl ?_
       refine WD_off rfl ?_
       refine WD_off rfl ?_
       refine WD_off rfl ?_
       refine WD_off rfl ?_
       refine WD_step rfl (S_pure rfl ?_)
       refine WD_nil ?_
       refine ⟨?_, ?_⟩
       ·
        repeat' (first | exact trivial | apply And.intro)
        all_goals first
          | exact ObR.off rfl
          | exact ObR.of_step rfl (S_loadF (x := x) rfl rdA (by rfl) hx (by rfl) (by rfl) (by simp [eqV, eqV0]))
       ·
        refine KSeq_n ?_
        refine WC_cond rfl (fun _ => ?_) (fun h => ?_)
        rotate_left
        · exact absurd h (by decide)
        refine WC_seq (WC_region ?_)
        refine WO_step rfl (S_pure rfl ?_)
        refine WO_nil (KSeq_n (WC_ret (KBlock_r (KSeq_r (KLoop_r ?_)))))
        exact absurd trivial hg2
      ·
       try simp only [bsT] at hg2
       refine WD_step rfl (S_pure rfl ?_)
       refine WD_step rfl (S_pure rfl ?_)
       refine WD_step rfl (S_pure rfl ?_)
       refine WD_step rfl (S_idx rfl rfl rdA (by first | rfl | assumption | (symm; assumption)) (by rfl) (by first | assumption | omega | exact lt_of_get (by assumption) | (simp only [List.length_set]; first | assumption | omega | exact lt_of_get (by assumption))) fun hp69 => ?_)
       refine WD_step rfl (S_fldE rfl (by repeat (first | assumption | apply IsP.padd)) ?_)
       refine WD_step rfl (S_loadF rfl rdA (by rfl) (by assumption) (by rfl) (by rfl) ?_)
       refine WD_call rfl rfl rfl ?_
       refine (WF.weak (sp_hReads (H := OB i9 TRec x :: SL u.toV TRec L :: H) (i := i) (i2 := i2) (wk := wk) (wr := wr) (wt := wt) (ts := ts) (k := x.key) hl (by omega)) (by unfold STO; exact hsA)).mono ?_
       rintro _ _ ⟨rfl, rfl⟩
       rw [hnx]
       unfold STO
       refine WD_step rfl (S_pure rfl ?_)
       refine WD_step rfl (S_pure rfl ?_)
       refine WD_step rfl (S_pure rfl ?_)
       refine WD_step rfl (S_idx rfl rfl rdA (by first | rfl | assumption | (symm; assumption)) (by rfl) (by first | assumption | omega | exact lt_of_get (by assumption) | (simp only [List.length_set]; first | assumption | omega | exact lt_of_get (by assumption))) fun hp76 => ?_)
       refine WD_step rfl (S_fldE rfl (by repeat (first | assumption | apply IsP.padd)) ?_)
       refine WD_step rfl (S_loadF rfl rdA (by rfl) (by assumption) (by rfl) (by rfl) ?_)
       refine WD_call rfl rfl rfl ?_
       refine (sp_rRd (l := L) (k := x.key) rdA (by omega) hks (by omega)).mono ?_
       rintro _ _ ⟨rfl, rfl⟩
       first | refine WD_step rfl (S_neS rfl rfl ?_) | refine WD_step rfl (S_pure rfl ?_)
       refine WD_step rfl (S_pure rfl ?_)
       refine WD_nil ?_
       refine ⟨?_, ?_⟩
       ·
        repeat' (first | exact trivial | apply And.intro)
        all_goals first
          | exact ObR.off rfl
          | exact ObR.of_step rfl (S_loadF (x := x) rfl rdA (by rfl) hx (by rfl) (by rfl) (by simp [eqV, eqV0]))
       ·
        refine KSeq_n ?_
        refine WC_cond rfl (fun hb2 => ?_) (fun hb2 => ?_)
        ·
         try simp only [bsT] at hb2
         refine WC_seq (WC_region ?_)
         refine WO_step rfl (S_pure rfl ?_)
         refine WO_nil (KSeq_n (WC_ret (KBlock_r (KSeq_r (KLoop_r ?_)))))
         exact absurd hb2 (by simp)
        ·
         try simp only [bsT] at hb2
         refine WC_skip (KBlock_n (KSeq_n (WC_region ?_)))
         refine WO_step rfl (S_pure rfl ?_)
         first | refine WO_step rfl (S_addN (b := 1) rfl rfl (by omega) ?_) | refine WO_step rfl (S_pure rfl ?_)
         refine WO_step rfl (S_pure rfl ?_)
         refine WO_nil (KLoop_n ?_)
         exact WC_weak (ih (L.length - (j + 1)) (by omega) (j + 1) rfl (by omega)) seA (by unfold STO; exact hsA)
    ·
     try simp only [bsT] at hb1
     refine WC_exit (KSeq_x (KLoop_x ?_))
     exact KPost_i (H' := STO i ts i2 wk wr wt (SL u.toV TRec L :: H)) seA (by unfold STO; exact hsA) ⟨rfl, rfl, rfl⟩
theorem sp_right {H : SH} {W : List SlT} {i i2 : Nat} {wk wr wt : SV} {k : ByteArray} (g : GoodT W) (hk : k.size ≤ 1000) : WF F X f_loesslaw20_right [.pointer (some ⟨i, 0, none⟩), tabV W, .string k] (STO i W i2 wk wr wt H) (fun r H' => H' = STO i W i2 wk wr wt H ∧ r = .bool true) := by
  have hl := g.1
  have hw := g.2.1
  have hm := g.2.2
  have hel := encT_len hl hw hm
  have hnl := newest_tlen g
  have htl := rk_tRecs W 32
  have hrl := rk_le W 32
  obtain ⟨L, hL⟩ : ∃ L, newest (tRecs W 32) = L := ⟨_, rfl⟩
  rw [hL] at hnl
  unfold STO
  refine WF_fn F_loesslaw20_right ?_
  refine WC_seq (WC_region ?_)
  refine WO_step rfl (S_boxA (T := TSlT) (xs := W) rfl fun i4 => ?_)
  refine WO_step rfl (S_pure rfl ?_)
  refine WO_nil (KSeq_n (WC_seq (WC_region ?_)))
  refine WO_step rfl (S_loadAll (T := TSlT) (xs := W) rfl pkA (by rw [hl]; rfl) ?_)
  refine WO_call rfl rfl rfl ?_
  refine (sp_Records hl).mono ?_
  rintro _ _ ⟨u, rfl, rfl⟩
  rw [hL]
  refine WO_step rfl (S_pure rfl ?_)
  refine WO_nil (KSeq_n (WC_seq (WC_seq (WC_drawn ?_))))
  refine WD_step rfl (S_pure rfl ?_)
  refine WD_call rfl rfl rfl ?_
  refine (WF.weak (sp_hLen (H := SL u.toV TRec L :: AO i4 33 TSlT W :: H) (i := i) (i2 := i2) (wk := wk) (wr := wr) (wt := wt) (ts := W) hl) (by unfold STO; exact hsA)).mono ?_
  rintro _ _ ⟨rfl, rfl⟩
  rw [← hnl]
  unfold STO
  refine WD_step rfl (S_pure rfl ?_)
  first | refine WD_step rfl (S_pure rfl ?_) | refine WD_step rfl (S_lenS rfl rdA ?_)
  first | refine WD_step rfl (S_neS rfl rfl ?_) | refine WD_step rfl (S_pure rfl ?_)
  refine WD_step rfl (S_pure rfl ?_)
  refine WD_cases (t := 22) rfl (fun hg1 => ?_) (fun hg1 => ?_)
  ·
   try simp only [bsT] at hg1
   refine WD_off rfl ?_
   refine WD_off rfl ?_
   refine WD_off rfl ?_
   refine WD_off rfl ?_
   refine WD_off rfl ?_
   refine WD_step rfl (S_pure rfl ?_)
   refine WD_step rfl (S_pure rfl ?_)
   refine WD_off rfl ?_
   refine WD_off rfl ?_
   refine WD_off rfl ?_
   refine WD_off rfl ?_
   refine WD_off rfl ?_
   refine WD_off rfl ?_
   refine WD_off rfl ?_
   refine WD_step rfl (S_pure rfl ?_)
   refine WD_nil ?_
   refine ⟨?_, ?_⟩
   ·
    repeat' (first | exact trivial | apply And.intro)
    all_goals first
      | exact ObR.off rfl
      | exact ObR.of_step rfl (S_strOf rfl rdA (by rfl) (by rfl) (by simp [eqV, eqV0]))
      | exact ObR.of_step rfl (S_loadAll (T := TSlT) (xs := W) rfl pkA (by rw [hl]; rfl) (eqV_tab _))
   ·
    refine KSeq_n ?_
    refine WC_cond rfl (fun _ => ?_) (fun h => ?_)
    rotate_left
    · exact absurd h (by decide)
    refine WC_seq (WC_region ?_)
    refine WO_step rfl (S_pure rfl ?_)
    refine WO_nil (KSeq_n (WC_ret (KSeq_r ?_)))
    refine KFn_r (ResL.tmp rfl ResL.nil) ?_
    exact absurd trivial hg1
  ·
   try simp only [bsT] at hg1
   refine WD_step rfl (S_pure rfl ?_)
   refine WD_call rfl rfl rfl ?_
   refine (WF.weak (sp_hList (H := SL u.toV TRec L :: AO i4 33 TSlT W :: H) (i := i) (i2 := i2) (wk := wk) (wr := wr) (wt := wt) (ts := W) hl hw.small) (by unfold STO; exact hsA)).mono ?_
   rintro _ _ ⟨u24, rfl, rfl⟩
   rw [hL]
   unfold STO
   refine WD_step rfl (S_pure rfl ?_)
   refine WD_call rfl rfl rfl ?_
   refine (sp_EqRecs (l := L) (m := L) rdA rdA (by omega)).mono ?_
   rintro _ _ ⟨rfl, rfl⟩
   refine WD_step rfl (S_pure rfl ?_)
   refine WD_step rfl (S_pure rfl ?_)
   refine WD_step rfl (S_pure rfl ?_)
   refine WD_cases (t := 29) rfl (fun hg2 => ?_) (fun hg2 => ?_)
   ·
    try simp only [bsT] at hg2
    refine WD_off rfl ?_
    refine WD_off rfl ?_
    refine WD_off rfl ?_
    refine WD_off rfl ?_
    refine WD_off rfl ?_
    refine WD_off rfl ?_
    refine WD_off rfl ?_
    refine WD_step rfl (S_pure rfl ?_)
    refine WD_nil ?_
    refine ⟨?_, ?_⟩
    ·
     repeat' (first | exact trivial | apply And.intro)
     all_goals first
       | exact ObR.off rfl
       | exact ObR.of_step rfl (S_strOf rfl rdA (by rfl) (by rfl) (by simp [eqV, eqV0]))
       | exact ObR.of_step rfl (S_loadAll (T := TSlT) (xs := W) rfl pkA (by rw [hl]; rfl) (eqV_tab _))
    ·
     refine KSeq_n ?_
     refine WC_cond rfl (fun _ => ?_) (fun h => ?_)
     rotate_left
     · exact absurd h (by decide)
     refine WC_seq (WC_region ?_)
     refine WO_step rfl (S_pure rfl ?_)
     refine WO_nil (KSeq_n (WC_ret (KSeq_r ?_)))
     refine KFn_r (ResL.tmp rfl ResL.nil) ?_
     exact absurd trivial hg2
   ·
    try simp only [bsT] at hg2
    refine WD_step rfl (S_pure rfl ?_)
    refine WD_call rfl rfl rfl ?_
    refine (WF.weak (sp_hBytes (H := SL u.toV TRec L :: AO i4 33 TSlT W :: H) (i := i) (i2 := i2) (wk := wk) (wr := wr) (wt := wt) (ts := W) g) (by unfold STO; exact hsA)).mono ?_
    rintro _ _ ⟨u31, rfl, rfl⟩
    unfold STO
    refine WD_step rfl (S_strOf rfl rdA (by rfl) (by rfl) ?_)
    refine WD_step rfl (S_loadAll (T := TSlT) (xs := W) rfl pkA (by rw [hl]; rfl) ?_)
    refine WD_call rfl rfl rfl ?_
    refine (sp_TB hl hw).mono ?_
    rintro _ _ ⟨w34, rfl, _, rfl⟩
    rw [if_pos hm]
    refine WD_step rfl (S_strOf rfl rdA (by rfl) (by rfl) ?_)
    first | refine WD_step rfl (S_neS rfl rfl ?_) | refine WD_step rfl (S_pure rfl ?_)
    refine WD_step rfl (S_pure rfl ?_)
    refine WD_nil ?_
    refine ⟨?_, ?_⟩
    ·
     repeat' (first | exact trivial | apply And.intro)
     all_goals first
       | exact ObR.off rfl
       | exact ObR.of_step rfl (S_strOf rfl rdA (by rfl) (by rfl) (by simp [eqV, eqV0]))
       | exact ObR.of_step rfl (S_loadAll (T := TSlT) (xs := W) rfl pkA (by rw [hl]; rfl) (eqV_tab _))
    ·
     refine KSeq_n ?_
     refine WC_cond rfl (fun hb1 => ?_) (fun hb1 => ?_)
     ·
      try simp only [bsT] at hb1
      refine WC_seq (WC_region ?_)
      refine WO_step rfl (S_pure rfl ?_)
      refine WO_nil (KSeq_n (WC_ret (KSeq_r ?_)))
      refine KFn_r (ResL.tmp rfl ResL.nil) ?_
      exact absurd hb1 (by simp)
     ·
      try simp only [bsT] at hb1
      refine WC_skip (KSeq_n (WC_seq (WC_seq (WC_region ?_))))
      refine WO_step rfl (S_pure rfl ?_)
      refine WO_nil (KSeq_n (WC_block ?_))
      --out x0
      refine WC_post (WC_weak (lp_right (H := H) (ts := W) (L := L) (i := i) (i2 := i2) (wk := wk) (wr := wr) (wt := wt) (u := u) (k := k) g hL L.length 0 (by omega) (by omega)) seA (by unfold STO; exact hsA)) ?_
      rintro y l' _ ⟨rfl, rfl, rfl⟩
      unfold STO
      refine KBlock_h (KSeq_n (WC_seq (WC_region ?_)))
      iterate 2 refine WO_step rfl (S_pure rfl ?_)
      refine WO_call rfl rfl rfl ?_
      refine (WF.weak (sp_hGet (H := SL u.toV TRec L :: H) (i := i) (i2 := i2) (wk := wk) (wr := wr) (wt := wt) (ts := W) (k := k) hl (by omega)) (by unfold STO; exact hsA)).mono ?_
      rintro _ _ ⟨rfl, rfl⟩
      rw [fnd_like g, hL]
      unfold STO
      obtain ⟨fo, hfo⟩ : ∃ fo, fnd L k = fo := ⟨_, rfl⟩
      rw [hfo]
      iterate 3 refine WO_step rfl (S_pure rfl ?_)
      refine WO_step rfl (S_newT TRec rec0 rfl rfl fun i11 => ?_)
      refine WO_step rfl (S_storeT (T := TRec) (y := fo.getD rec0) rfl rfl pkA (by rfl) (by rfl) ?_)
      refine WO_step rfl (S_pure rfl ?_)
      refine WO_nil (KSeq_n (WC_seq (WC_region ?_)))
      iterate 2 refine WO_step rfl (S_pure rfl ?_)
      refine WO_call rfl rfl rfl ?_
      refine (sp_Find (l := L) (k := k) rdA (by omega)).mono ?_
      rintro _ _ ⟨rfl, rfl⟩
      rw [hfo]
      iterate 3 refine WO_step rfl (S_pure rfl ?_)
      refine WO_step rfl (S_newT TRec rec0 rfl rfl fun i13 => ?_)
      refine WO_step rfl (S_storeT (T := TRec) (y := fo.getD rec0) rfl rfl pkA (by rfl) (by rfl) ?_)
      refine WO_step rfl (S_pure rfl ?_)
      refine WO_nil (KSeq_n (WC_seq (WC_region ?_)))
      iterate 4 refine WO_step rfl (S_pure rfl ?_)
      refine WO_cases (t := 97) rfl (fun hg3 => ?_) (fun hg3 => ?_)
      ·
       try simp only [bsT] at hg3
       refine WO_step rfl (S_loadO rfl pkA (by rfl) (by rfl) ?_)
       refine WO_step rfl (S_loadO rfl pkA (by rfl) (by rfl) ?_)
       refine WO_call rfl rfl rfl ?_
       refine (sp_Eq (a := fo.getD rec0) (b := fo.getD rec0)).mono ?_
       rintro _ _ ⟨rfl, rfl⟩
       iterate 2 refine WO_step rfl (S_pure rfl ?_)
       refine WO_cases (t := 102) rfl (fun hg4 => ?_) (fun hg4 => ?_)
       ·
        try simp only [bsT] at hg4
        iterate 2 refine WO_step rfl (S_pure rfl ?_)
        refine WO_call rfl rfl rfl ?_
        refine (WF.weak (sp_hReads (H := SL u.toV TRec L :: H) (i := i) (i2 := i2) (wk := wk) (wr := wr) (wt := wt) (ts := W) (k := k) hl (by omega)) (by unfold STO; exact hsA)).mono ?_
        rintro _ _ ⟨rfl, rfl⟩
        rw [like_near g, hL]
        unfold STO
        iterate 2 refine WO_step rfl (S_pure rfl ?_)
        refine WO_call rfl rfl rfl ?_
        have hks : ∀ x ∈ L, x.key.size ≤ 1000000 := fun x hx => by
          rw [← hL, (newest_perm g.nd).mem_iff] at hx
          obtain ⟨b, hb, h2⟩ := tRecs_bkR hx
          obtain ⟨s, y, hs, hy, _, rfl⟩ := bkR_get.1 h2
          have := (hw y (List.mem_of_getElem? hy)).2.2.2
          omega
        refine (sp_rRd (l := L) (k := k) rdA (by omega) hks (by omega)).mono ?_
        rintro _ _ ⟨rfl, rfl⟩
        first | refine WO_step rfl (S_eqS rfl rfl ?_) | refine WO_step rfl (S_pure rfl ?_)
        iterate 2 refine WO_step rfl (S_pure rfl ?_)
        refine WO_nil (KSeq_n (WC_ret ?_))
        refine KFn_r (ResL.tmp rfl ResL.nil) ?_
        exact ⟨STO i W i2 wk wr wt H, (by unfold STO; exact hsA), rfl, by simp [resV]⟩
       ·
        try simp only [bsT] at hg4
        iterate 7 refine WO_off rfl ?_
        iterate 2 refine WO_step rfl (S_pure rfl ?_)
        refine WO_nil (KSeq_n (WC_ret ?_))
        refine KFn_r (ResL.tmp rfl ResL.nil) ?_
        exfalso
        first
          | exact hg4 trivial
          | exact hg4 rfl
          | exact hg3 trivial
          | exact hg3 rfl
          | exact absurd hg4 (by simp)
          | exact absurd hg3 (by simp)
      ·
       try simp only [bsT] at hg3
       iterate 3 refine WO_off rfl ?_
       iterate 2 refine WO_step rfl (S_pure rfl ?_)
       iterate 7 refine WO_off rfl ?_
       iterate 2 refine WO_step rfl (S_pure rfl ?_)
       refine WO_nil (KSeq_n (WC_ret ?_))
       refine KFn_r (ResL.tmp rfl ResL.nil) ?_
       exfalso
       first
         | exact hg4 trivial
         | exact hg4 rfl
         | exact hg3 trivial
         | exact hg3 rfl
         | exact absurd hg4 (by simp)
         | exact absurd hg3 (by simp)
/-! ### The law TableFull -/
def valF (j : Nat) : Raw := if j % 3 = 0 then raw0 else ⟨1, (j : Int), es0⟩
def keyF (j : Nat) : ByteArray := ⟨#[UInt8.ofNat (97 + j % 20), UInt8.ofNat (97 + j / 20)]⟩
def recF (j : Nat) : Rec := ⟨keyF j, decide (j % 3 = 0), valF j⟩
def recsF (n : Nat) : List Rec := (List.range n).map recF
theorem recsF_len (n : Nat) : (recsF n).length = n := by simp [recsF]
theorem recsF_get {n j : Nat} (h : j < n) : (recsF n)[j]? = some (recF j) := by unfold recsF; rw [List.getElem?_map, List.getElem?_range h]; rfl
theorem recsF_snoc (n : Nat) : recsF n ++ [recF n] = recsF (n + 1) := by unfold recsF; rw [List.range_succ, List.map_append]; rfl
theorem recsF_one {R : List Rec} {j : Nat} (h : R[j]? = some (recF j)) : (R.drop j).take (j + 1 - j) = [recF j] := by
  rw [show j + 1 - j = 1 by omega, drop_get h]; rfl
theorem keyF_inj {i j : Nat} (hi : i < 400) (hj : j < 400) (h : keyF i = keyF j) : i = j := by
  have h1 : UInt8.ofNat (97 + i % 20) = UInt8.ofNat (97 + j % 20) ∧ UInt8.ofNat (97 + i / 20) = UInt8.ofNat (97 + j / 20) := by
    unfold keyF at h
    rw [ByteArray.mk.injEq] at h
    have h2 := congrArg Array.toList h
    simp only [List.cons.injEq, and_true] at h2
    exact h2
  have a := congrArg UInt8.toNat h1.1
  have b := congrArg UInt8.toNat h1.2
  rw [UInt8.toNat_ofNat_of_lt' (by show 97 + i % 20 < 256; omega), UInt8.toNat_ofNat_of_lt' (by show 97 + j % 20 < 256; omega)] at a
  rw [UInt8.toNat_ofNat_of_lt' (by show 97 + i / 20 < 256; omega), UInt8.toNat_ofNat_of_lt' (by show 97 + j / 20 < 256; omega)] at b
  omega
theorem keyF_size (j : Nat) : (keyF j).size = 2 := rfl
theorem valF_s (j : Nat) : (valF j).s = es0 := by unfold valF; split <;> rfl
theorem recF_cut (j : Nat) : cutRec (recF j) = recF j := by
  have h1 : cut (keyF j) 20 = keyF j := by unfold cut; rw [if_neg (by rw [keyF_size]; omega)]
  have h2 : cut (valF j).s 30 = (valF j).s := by rw [valF_s]; rfl
  unfold cutRec cutRaw recF
  simp only [h1, h2]
theorem recF_wf {j : Nat} (hj : j < 400) : wfRec (recF j) := by
  refine ⟨?_, ?_, ?_, ?_⟩
  · show -9223372036854775808 ≤ (valF j).kind ∧ (valF j).kind < 9223372036854775808
    unfold valF; split
    · decide
    · show (-9223372036854775808 : Int) ≤ 1 ∧ (1 : Int) < 9223372036854775808; decide
  · show -9223372036854775808 ≤ (valF j).n ∧ (valF j).n < 9223372036854775808
    unfold valF; split
    · decide
    · show -9223372036854775808 ≤ (j : Int) ∧ (j : Int) < 9223372036854775808
      omega
  · show (valF j).s.size ≤ 100000
    rw [valF_s]; decide
  · show (keyF j).size ≤ 100000
    rw [keyF_size]; omega
theorem tKeys_set {ts : List SlT} {q : Nat} {r : Rec} {y : ByteArray} (h : y ∈ tKeys (ts.set q ⟨true, r⟩) 32) : y ∈ tKeys ts 32 ∨ y = r.key := by
  obtain ⟨i, x, hi, hx, hh, rfl⟩ := tKeys_mem.1 h
  by_cases e : q = i
  · subst e
    have hlt := (List.getElem?_eq_some_iff.1 hx).1
    rw [List.length_set] at hlt
    rw [List.getElem?_set_self hlt] at hx
    cases hx; right; rfl
  · rw [List.getElem?_set_ne e] at hx
    left; exact tKeys_mem.2 ⟨i, x, hi, hx, hh, rfl⟩
theorem layN_keys {l : List Rec} {turn : List Bool} : ∀ (i : Nat) (y : ByteArray), y ∈ tKeys (layN l turn i) 32 → ∃ r ∈ l, y = (cutRec r).key
  | 0, y, h => by
    obtain ⟨i, x, hi, hx, hh, rfl⟩ := tKeys_mem.1 h
    rw [layN] at hx
    rw [zeroT_has x (List.mem_of_getElem? hx)] at hh; cases hh
  | i + 1, y, h => by
    rw [layN] at h
    split at h
    · rename_i r hr
      unfold layStep at h
      split at h
      · exact layN_keys i y h
      · rcases placeN_spec i (bktOf (cutRec r).key (turn.getD i false)) (cutRec r) 4 (layN l turn i) (layN_len _ _ _) (bktOf_lt _ _) with e | ⟨q, x, h1, h2, h3, e⟩
        · rw [e] at h; exact layN_keys i y h
        · rw [e] at h
          rcases tKeys_set h with h | h
          · exact layN_keys i y h
          · exact ⟨r, List.mem_of_getElem? hr, h⟩
    · exact layN_keys i y h
theorem filter_set_perm {α : Type} {p : α → Bool} {x y : α} (hp : p y = true) (hx : p x = false) : ∀ {l : List α} {k : Nat}, l[k]? = some x → ((l.set k y).filter p).Perm (y :: l.filter p)
  | [], k, h => by simp at h
  | z :: l, 0, h => by
    simp at h; subst h
    rw [List.set_cons_zero, List.filter_cons_of_pos hp, List.filter_cons_of_neg (by rw [hx]; decide)]
  | z :: l, k + 1, h => by
    rw [List.getElem?_cons_succ] at h
    have ih := filter_set_perm hp hx h
    rw [List.set_cons_succ]
    cases hz : p z with
    | true =>
      rw [List.filter_cons_of_pos hz, List.filter_cons_of_pos hz]
      exact (ih.cons z).trans (List.Perm.swap y z _)
    | false =>
      rw [List.filter_cons_of_neg (by rw [hz]; decide), List.filter_cons_of_neg (by rw [hz]; decide)]
      exact ih
theorem tRecs_set_len {ts : List SlT} {q : Nat} {x y : SlT} (hl : ts.length = 32) (hx : ts[q]? = some x) (hxh : x.has = false) (hy : y.has = true) : (tRecs (ts.set q y) 32).length = (tRecs ts 32).length + 1 := by
  rw [tRecs_all (by rw [List.length_set]; exact hl), tRecs_all hl, List.length_map, List.length_map]
  exact (filter_set_perm (p := (·.has)) hy hxh hx).length_eq
theorem zeroT_cnt : (tRecs zeroT 32).length = 0 := by rw [tRecs_all zeroT_len, List.filter_eq_nil_iff.2 (fun y hy => by rw [zeroT_has y hy]; decide)]; rfl
theorem zeroT_nok (y : ByteArray) : y ∉ tKeys zeroT 32 := fun h => by
  obtain ⟨i, x, hi, hx, hh, rfl⟩ := tKeys_mem.1 h
  rw [zeroT_has x (List.mem_of_getElem? hx)] at hh; cases hh
theorem GoodT.slot {ts : List SlT} (g : GoodT ts) {k : Nat} {x : SlT} (hk : k < 32) (hx : ts[k]? = some x) (hh : x.has = true) : mayRec x.r = true ∧ bel x.r.key (k / 4) = true ∧ x.r.key ∉ tKeys ts k := by
  have ho := (mayTab_iff g.1).1 g.2.2 k x hk hx
  unfold slOk at ho
  rw [if_pos hh] at ho
  simp only [Bool.and_eq_true, Bool.not_eq_true'] at ho
  exact ⟨ho.1, ho.2.1, inB_false.1 ho.2.2⟩
theorem GoodT.put {ts : List SlT} (g : GoodT ts) {q : Nat} {x y : SlT} (hx : ts[q]? = some x) (hxh : x.has = false) (hy : y.has = true) (hw : wfRec y.r) (hm : mayRec y.r = true) (hb : bel y.r.key (q / 4) = true) (hn : y.r.key ∉ tKeys ts 32) : GoodT (ts.set q y) := by
  obtain ⟨h, r⟩ := y
  simp only at hy hm hb hn hw
  subst hy
  refine ⟨by rw [List.length_set]; exact g.1, fun z hz => ?_, mayTab_set g.1 g.2.2 hx hxh hm hb hn⟩
  rcases List.mem_or_eq_of_mem_set hz with hz | rfl
  · exact g.2.1 z hz
  · exact hw
theorem tKeys_set' {ts : List SlT} {q : Nat} {x : SlT} {y : ByteArray} (hx : x.has = true) (h : y ∈ tKeys (ts.set q x) 32) : y ∈ tKeys ts 32 ∨ y = x.r.key := by
  obtain ⟨b, r⟩ := x
  simp only at hx
  subst hx
  exact tKeys_set h
theorem sp_valF {H : SH} {j : Nat} (hj : j < 400) : WF F X f_loesslaw20_val [.int .i64 (j : Int)] H (fun r H' => H' = H ∧ r = TRaw.val (valF j)) := by
  refine WF_fn F_loesslaw20_val ?_
  refine WC_seq (WC_region ?_)
  refine WO_step rfl (S_new fun i2 => ?_)
  refine WO_nil (KSeq_n (WC_seq (WC_seq (WC_region ?_))))
  refine WO_step rfl (S_pure rfl ?_)
  refine WO_step rfl (S_remU (a := j) (m := 3) rfl rfl (by omega) ?_)
  first | refine WO_step rfl (S_eqS rfl rfl ?_) | refine WO_step rfl (S_pure rfl ?_)
  refine WO_nil (KSeq_n ?_)
  refine WC_cond rfl (fun hb1 => ?_) (fun hb1 => ?_)
  ·
   try simp only [bsT] at hb1
   refine WC_seq (WC_region ?_)
   refine WO_step rfl (S_pure rfl ?_)
   first | refine WO_step rfl (S_storeT rfl rfl pkA (by rfl) (by rfl) ?_) | refine WO_step rfl (S_storeO rfl rfl pkA (by first | rfl | exact SV.cells1 _) (by rfl) (by first | rfl | exact SV.ones _) ?_)
   refine WO_nil (KSeq_n (WC_ret (KSeq_r ?_)))
   refine KFn_r (ResL.cell rfl pkA (Nat.le_of_ble_eq_true rfl) rfl ResL.nil) ?_
   refine ⟨_, hsA, rfl, ?_⟩
   unfold valF
   rw [if_pos (by omega)]; rfl
  ·
   try simp only [bsT] at hb1
   refine WC_skip (KSeq_n (WC_seq (WC_region ?_)))
   iterate 2 refine WO_step rfl (S_pure rfl ?_)
   first | refine WO_step rfl (S_storeT rfl rfl pkA (by rfl) (by rfl) ?_) | refine WO_step rfl (S_storeO rfl rfl pkA (by first | rfl | exact SV.cells1 _) (by rfl) (by first | rfl | exact SV.ones _) ?_)
   refine WO_nil (KSeq_n (WC_ret ?_))
   refine KFn_r (ResL.cell rfl pkA (Nat.le_of_ble_eq_true rfl) rfl ResL.nil) ?_
   refine ⟨_, hsA, rfl, ?_⟩
   unfold valF
   rw [if_neg (by omega)]; rfl
theorem lp_TF0 {H : SH} {v0 v1 : Value} (N : Nat) (hN : N = 400) : ∀ (m j : Nat) (w : SV), 400 - j = m → j ≤ 400 →
    WQ F X (.loop L_loesslaw20_TableFull_0) [(7, .int .i64 (j : Int)), (6, w.toV), (0, v0), (1, v1)] (SL w.toV TRec (recsF j) :: H) (KPost fun y l' H' => ∃ w : SV, y = .exit 0 ∧ l' = [(6, w.toV), (0, v0), (1, v1)] ∧ H' = SL w.toV TRec (recsF N) :: H) := by
  intro m
  induction m using Nat.strongRecOn with
  | _ m ih =>
    intro j w hn hj
    have hrl := recsF_len j
    refine WQ_loop (WQ_seq (WQ_seq (WQ_region ?_)))
    iterate 2 refine WO_step rfl (S_pure rfl ?_)
    refine WO_nil (QSeq_n ?_)
    refine WQ_cond rfl (fun hb1 => ?_) (fun hb1 => ?_)
    ·
     try simp only [bsT] at hb1
     refine WQ_skip (QSeq_n (WQ_seq (WQ_block (WQ_many ?_))))
     refine WTq_step ⟨rfl, rfl⟩ (S_pure rfl ?_)
     refine WTq_step ⟨rfl, rfl⟩ (S_pure rfl ?_)
     refine WTq_step ⟨rfl, rfl⟩ (S_remU (a := j) (m := 20) rfl rfl (by omega) ?_)
     refine WTq_step ⟨rfl, rfl⟩ (S_addN (a := 97) (b := j % 20) rfl rfl (by omega) ?_)
     refine WTq_step ⟨rfl, rfl⟩ (S_toB (a := 97 + j % 20) rfl ?_)
     refine WTq_step ⟨rfl, rfl⟩ (S_pure rfl ?_)
     refine WTq_step ⟨rfl, rfl⟩ (S_quoN (a := j) (m := 20) rfl rfl (by omega) (by omega) ?_)
     refine WTq_step ⟨rfl, rfl⟩ (S_addN (a := 97) (b := j / 20) rfl rfl (by omega) ?_)
     refine WTq_step ⟨rfl, rfl⟩ (S_toB (a := 97 + j / 20) rfl ?_)
     refine WTq_step ⟨rfl, rfl⟩ (S_pure rfl ?_)
     refine WTq_step ⟨rfl, rfl⟩ (S_remU (a := j) (m := 3) rfl rfl (by omega) ?_)
     refine WTq_step ⟨rfl, rfl⟩ (S_pureE rfl (show Value.bool (decide (((j % 3 : Nat) : Int) = 0)) = .bool (decide (j % 3 = 0)) from congrArg Value.bool (decide_eq_decide.2 (by omega))) ?_)
     refine WTq_step ⟨rfl, rfl⟩ (S_pure rfl ?_)
     refine WT_alt ?_ ?_
     ·
      refine WTm_step ⟨rfl, rfl⟩ (S_lit2B (a := (97 + j % 20) % 256) (b := (97 + j / 20) % 256) rfl rfl (by omega) (by omega) fun w32 => ?_)
      rw [show (97 + j % 20) % 256 = 97 + j % 20 by omega, show (97 + j / 20) % 256 = 97 + j / 20 by omega]
      refine And.intro ?_ ?_
      ·
       repeat (first | exact obT_nil | refine obT_skip rfl ?_ | refine obT_ob (ObR.of_step rfl (S_strOf rfl rdA (by rfl) (by rfl) (by simp [eqV, eqV0]))) ?_ | refine obT_ob (ObR.off rfl) ?_)
      ·
       refine WTr_step ⟨rfl, rfl⟩ (S_strOf rfl rdA (by rfl) (by rfl) ?_)
       refine WTm_call rfl rfl rfl rfl ?_
       refine (sp_valF (j := j) (by omega)).mono ?_
       rintro _ _ ⟨rfl, rfl⟩
       refine And.intro ?_ ?_
       ·
        repeat (first | exact obT_nil | refine obT_skip rfl ?_ | refine obT_ob (ObR.of_step rfl (S_strOf rfl rdA (by rfl) (by rfl) (by simp [eqV, eqV0]))) ?_ | refine obT_ob (ObR.off rfl) ?_)
       ·
        refine WTq_step ⟨rfl, rfl⟩ (S_pure rfl ?_)
        refine WTm_step ⟨rfl, rfl⟩ (S_lit1 (T := TRec) (y := recF j) rfl rfl rfl rfl fun w40 => ?_)
        refine And.intro ?_ ?_
        ·
         repeat (first | exact obT_nil | refine obT_skip rfl ?_ | refine obT_ob (ObR.of_step rfl (S_strOf rfl rdA (by rfl) (by rfl) (by simp [eqV, eqV0]))) ?_ | refine obT_ob (ObR.off rfl) ?_)
        ·
         refine WTm_step ⟨rfl, rfl⟩ (S_app rfl rfl pkA (by first | exact SRC.str rfl rfl | (apply RD.src; repeat (first | assumption | exact RD.head | exact RD.nil | apply RD.tail))) (by rfl) (by rfl) (by (try simp only [List.length_append, List.length_cons, List.length_nil]); omega) fun w41 => ?_)
         refine And.intro ?_ ?_
         ·
          repeat (first | exact obT_nil | refine obT_skip rfl ?_ | refine obT_ob (ObR.of_step rfl (S_strOf rfl rdA (by rfl) (by rfl) (by simp [eqV, eqV0]))) ?_ | refine obT_ob (ObR.off rfl) ?_)
         ·
          refine WTq_step ⟨rfl, rfl⟩ (S_pure rfl ?_)
          refine WT_leaf ?_
          refine KBlock_n (QSeq_n (WQ_region ?_))
          refine WO_step rfl (S_pure rfl ?_)
          first | refine WO_step rfl (S_addN (b := 1) rfl rfl (by omega) ?_) | refine WO_step rfl (S_pure rfl ?_)
          refine WO_step rfl (S_pure rfl ?_)
          refine WO_nil (QLoop_n ?_)
          have := ih (400 - (j + 1)) (by omega) (j + 1) w41 rfl (by omega)
          rw [← recsF_snoc] at this
          exact WQ_weak this seA hsA
     ·
      refine WTm_call rfl rfl rfl rfl ?_
      refine (sp_valF (j := j) (by omega)).mono ?_
      rintro _ _ ⟨rfl, rfl⟩
      refine And.intro ?_ ?_
      ·
       repeat (first | exact obT_nil | refine obT_skip rfl ?_ | refine obT_ob (ObR.of_step rfl (S_strOf rfl rdA (by rfl) (by rfl) (by simp [eqV, eqV0]))) ?_ | refine obT_ob (ObR.off rfl) ?_)
      ·
       refine WTm_step ⟨rfl, rfl⟩ (S_lit2B (a := (97 + j % 20) % 256) (b := (97 + j / 20) % 256) rfl rfl (by omega) (by omega) fun w32 => ?_)
       rw [show (97 + j % 20) % 256 = 97 + j % 20 by omega, show (97 + j / 20) % 256 = 97 + j / 20 by omega]
       refine And.intro ?_ ?_
       ·
        repeat (first | exact obT_nil | refine obT_skip rfl ?_ | refine obT_ob (ObR.of_step rfl (S_strOf rfl rdA (by rfl) (by rfl) (by simp [eqV, eqV0]))) ?_ | refine obT_ob (ObR.off rfl) ?_)
       ·
        refine WTr_step ⟨rfl, rfl⟩ (S_strOf rfl rdA (by rfl) (by rfl) ?_)
        refine WTq_step ⟨rfl, rfl⟩ (S_pure rfl ?_)
        refine WTm_step ⟨rfl, rfl⟩ (S_lit1 (T := TRec) (y := recF j) rfl rfl rfl rfl fun w40 => ?_)
        refine And.intro ?_ ?_
        ·
         repeat (first | exact obT_nil | refine obT_skip rfl ?_ | refine obT_ob (ObR.of_step rfl (S_strOf rfl rdA (by rfl) (by rfl) (by simp [eqV, eqV0]))) ?_ | refine obT_ob (ObR.off rfl) ?_)
        ·
         refine WTm_step ⟨rfl, rfl⟩ (S_app rfl rfl pkA (by first | exact SRC.str rfl rfl | (apply RD.src; repeat (first | assumption | exact RD.head | exact RD.nil | apply RD.tail))) (by rfl) (by rfl) (by (try simp only [List.length_append, List.length_cons, List.length_nil]); omega) fun w41 => ?_)
         refine And.intro ?_ ?_
         ·
          repeat (first | exact obT_nil | refine obT_skip rfl ?_ | refine obT_ob (ObR.of_step rfl (S_strOf rfl rdA (by rfl) (by rfl) (by simp [eqV, eqV0]))) ?_ | refine obT_ob (ObR.off rfl) ?_)
         ·
          refine WTq_step ⟨rfl, rfl⟩ (S_pure rfl ?_)
          refine WT_leaf ?_
          refine KBlock_n (QSeq_n (WQ_region ?_))
          refine WO_step rfl (S_pure rfl ?_)
          first | refine WO_step rfl (S_addN (b := 1) rfl rfl (by omega) ?_) | refine WO_step rfl (S_pure rfl ?_)
          refine WO_step rfl (S_pure rfl ?_)
          refine WO_nil (QLoop_n ?_)
          have := ih (400 - (j + 1)) (by omega) (j + 1) w41 rfl (by omega)
          rw [← recsF_snoc] at this
          exact WQ_weak this seA hsA
    ·
     try simp only [bsT] at hb1
     refine WQ_exit (QSeq_x (QLoop_x ?_))
     have ej : j = N := by omega
     subst ej
     exact KPost_i seA hsA ⟨w, rfl, rfl, rfl⟩
theorem lp_TF3 {H : SH} {S T : List SlT} {i8 i11 k n : Nat} {x : SlT} {v0 v1 v6 v10 : Value} (hS : S.length = 32) (hT : T.length = 32) (hk : k < 32) (hn : n ≤ 32) (hx : S[k]? = some x) : ∀ (m s : Nat), 4 - s = m → s ≤ 4 →
    WC F X (.loop L_loesslaw20_TableFull_3) [(13, .int .i64 (s : Int)), (12, .int .i64 (k : Int)), (11, .pointer (some ⟨i11, 0, none⟩)), (8, .pointer (some ⟨i8, 0, none⟩)), (9, .int .i64 (n : Int)), (10, v10), (6, v6), (0, v0), (1, v1)] (AO i11 33 TSlT S :: AO i8 33 TSlT T :: H)
      (KPost fun y l' H' => ∃ (n' : Nat) (T' : List SlT), y = .exit 6 ∧ l' = [(12, .int .i64 (k : Int)), (11, .pointer (some ⟨i11, 0, none⟩)), (8, .pointer (some ⟨i8, 0, none⟩)), (9, .int .i64 (n' : Int)), (10, v10), (6, v6), (0, v0), (1, v1)] ∧ H' = AO i11 33 TSlT S :: AO i8 33 TSlT T' :: H ∧ ((n' = n ∧ T' = T) ∨ (n' = n + 1 ∧ ∃ q y0, q < 32 ∧ T[q]? = some y0 ∧ y0.has = false ∧ q / 4 = k / 4 ∧ T' = T.set q x))) := by
  intro m
  induction m using Nat.strongRecOn with
  | _ m ih =>
    intro s hm hs
    refine WC_loop (WC_seq (WC_seq (WC_region ?_)))
    iterate 2 refine WO_step rfl (S_pure rfl ?_)
    refine WO_nil (KSeq_n ?_)
    refine WC_cond rfl (fun hb1 => ?_) (fun hb1 => ?_)
    ·
     try simp only [bsT] at hb1
     obtain ⟨y0, hy0⟩ := get_of_lt (show 4 * (k / 4) + s < T.length by omega)
     refine WC_skip (KSeq_n (WC_seq (WC_block (WC_seq (WC_region ?_)))))
     refine WO_step rfl (S_pure rfl ?_)
     refine WO_step rfl (S_quoN (a := k) (m := 4) rfl rfl (by omega) (by omega) ?_)
     refine WO_step rfl (S_pure rfl ?_)
     refine WO_step rfl (S_idxA (j := k / 4) rfl rfl rfl (by omega) ?_)
     refine WO_step rfl (S_idxA (j := s) rfl rfl rfl (by omega) ?_)
     refine WO_step rfl (S_pure rfl ?_)
     refine WO_step rfl (S_loadAF (T := TSlT) (k := 4 * (k / 4) + s) (off := 0) (v := .bool y0.has) rfl pkA (by show _ = (4 * (k / 4) + s) * 6 + 0; omega) hy0 (by show 0 + 1 ≤ 6; omega) (by rfl) ?_)
     refine WO_step rfl (S_pure rfl ?_)
     refine WO_nil (KSeq_n ?_)
     refine WC_cond rfl (fun hb2 => ?_) (fun hb2 => ?_)
     ·
      try simp only [bsT] at hb2
      refine WC_seq (WC_region ?_)
      refine WO_step rfl (S_pure rfl ?_)
      refine WO_step rfl (S_quoN (a := k) (m := 4) rfl rfl (by omega) (by omega) ?_)
      iterate 2 refine WO_step rfl (S_pure rfl ?_)
      refine WO_step rfl (S_quoN (a := k) (m := 4) rfl rfl (by omega) (by omega) ?_)
      refine WO_step rfl (S_pure rfl ?_)
      refine WO_step rfl (S_remU (a := k) (m := 4) rfl rfl (by omega) ?_)
      refine WO_step rfl (S_idxA (j := k / 4) rfl rfl rfl (by omega) ?_)
      refine WO_step rfl (S_idxA (j := k % 4) rfl rfl rfl (by omega) ?_)
      refine WO_step rfl (S_loadA (T := TSlT) (k := k) rfl pkA (by show _ = k * 6; omega) hx rfl rfl ?_)
      refine WO_step rfl (S_idxA (j := k / 4) rfl rfl rfl (by omega) ?_)
      refine WO_step rfl (S_idxA (j := s) rfl rfl rfl (by omega) ?_)
      refine WO_step rfl (S_storeA (T := TSlT) (k := 4 * (k / 4) + s) (x := x) rfl rfl pkA (by show _ = (4 * (k / 4) + s) * 6; omega) (by omega) (by rfl) rfl ?_)
      refine WO_nil (KSeq_n (WC_seq (WC_region ?_)))
      refine WO_step rfl (S_pure rfl ?_)
      refine WO_step rfl (S_addN (a := n) (b := 1) rfl rfl (by omega) ?_)
      refine WO_step rfl (S_pure rfl ?_)
      refine WO_nil (KSeq_n (WC_exit ?_))
      refine KBlock_x (by decide) ?_
      refine KSeq_x (KLoop_x ?_)
      exact KPost_i (H' := AO i11 33 TSlT S :: AO i8 33 TSlT (T.set (4 * (k / 4) + s) x) :: H) seA hsA ⟨n + 1, T.set (4 * (k / 4) + s) x, rfl, rfl, rfl, .inr ⟨rfl, 4 * (k / 4) + s, y0, by omega, hy0, by simpa using hb2, by omega, rfl⟩⟩
     ·
      try simp only [bsT] at hb2
      refine WC_skip (KBlock_n (KSeq_n (WC_region ?_)))
      refine WO_step rfl (S_pure rfl ?_)
      first | refine WO_step rfl (S_addN (b := 1) rfl rfl (by omega) ?_) | refine WO_step rfl (S_pure rfl ?_)
      refine WO_step rfl (S_pure rfl ?_)
      refine WO_nil (KLoop_n ?_)
      exact WC_weak (ih (4 - (s + 1)) (by omega) (s + 1) rfl (by omega)) seA hsA
    ·
     try simp only [bsT] at hb1
     refine WC_exit (KSeq_x (KLoop_x ?_))
     exact KPost_i (H' := AO i11 33 TSlT S :: AO i8 33 TSlT T :: H) seA hsA ⟨n, T, rfl, rfl, rfl, .inl ⟨rfl, rfl⟩⟩
theorem lp_TF2 {H : SH} {S : List SlT} {P : ByteArray → Prop} {i8 i11 : Nat} {v0 v1 v6 v10 : Value} (gS : GoodT S) (hP : ∀ y, y ∈ tKeys S 32 → ¬ P y) : ∀ (m k n : Nat) (T : List SlT), 32 - k = m → k ≤ 32 → GoodT T → (tRecs T 32).length = n → (∀ y, y ∈ tKeys T 32 → P y ∨ y ∈ tKeys S k) →
    WC F X (.loop L_loesslaw20_TableFull_2) [(12, .int .i64 (k : Int)), (11, .pointer (some ⟨i11, 0, none⟩)), (8, .pointer (some ⟨i8, 0, none⟩)), (9, .int .i64 (n : Int)), (10, v10), (6, v6), (0, v0), (1, v1)] (AO i11 33 TSlT S :: AO i8 33 TSlT T :: H)
      (KPost fun y l' H' => ∃ (n' : Nat) (T' : List SlT), y = .exit 4 ∧ l' = [(8, .pointer (some ⟨i8, 0, none⟩)), (9, .int .i64 (n' : Int)), (10, v10), (6, v6), (0, v0), (1, v1)] ∧ H' = AO i8 33 TSlT T' :: H ∧ GoodT T' ∧ (tRecs T' 32).length = n' ∧ ∀ y, y ∈ tKeys T' 32 → P y ∨ y ∈ tKeys S 32) := by
  intro m
  induction m using Nat.strongRecOn with
  | _ m ih =>
    intro k n T hm hk gT hcn hKy
    have hlS := gS.1
    have hlT := gT.1
    have hn32 : n ≤ 32 := by rw [← hcn, rk_tRecs]; exact rk_le _ _
    refine WC_loop (WC_seq (WC_seq (WC_region ?_)))
    iterate 2 refine WO_step rfl (S_pure rfl ?_)
    refine WO_nil (KSeq_n ?_)
    refine WC_cond rfl (fun hb1 => ?_) (fun hb1 => ?_)
    ·
     try simp only [bsT] at hb1
     obtain ⟨x, hx⟩ := get_of_lt (show k < S.length by omega)
     have hks := tKeys_succ hx
     refine WC_skip (KSeq_n (WC_seq (WC_block (WC_seq (WC_seq (WC_region ?_))))))
     refine WO_step rfl (S_pure rfl ?_)
     refine WO_step rfl (S_quoN (a := k) (m := 4) rfl rfl (by omega) (by omega) ?_)
     refine WO_step rfl (S_pure rfl ?_)
     refine WO_step rfl (S_remU (a := k) (m := 4) rfl rfl (by omega) ?_)
     refine WO_step rfl (S_idxA (j := k / 4) rfl rfl rfl (by omega) ?_)
     refine WO_step rfl (S_idxA (j := k % 4) rfl rfl rfl (by omega) ?_)
     refine WO_step rfl (S_pure rfl ?_)
     refine WO_step rfl (S_loadAF (T := TSlT) (k := k) (off := 0) (v := .bool x.has) rfl pkA (by show _ = k * 6 + 0; omega) hx (by show 0 + 1 ≤ 6; omega) (by rfl) ?_)
     refine WO_step rfl (S_pure rfl ?_)
     refine WO_nil (KSeq_n ?_)
     refine WC_cond rfl (fun hb2 => ?_) (fun hb2 => ?_)
     ·
      try simp only [bsT] at hb2
      refine WC_exit (KSeq_x (KBlock_h (KSeq_n (WC_region ?_))))
      refine WO_step rfl (S_pure rfl ?_)
      first | refine WO_step rfl (S_addN (b := 1) rfl rfl (by omega) ?_) | refine WO_step rfl (S_pure rfl ?_)
      refine WO_step rfl (S_pure rfl ?_)
      refine WO_nil (KLoop_n ?_)
      have hxf : x.has = false := by simpa using hb2
      rw [hxf] at hks
      simp at hks
      exact WC_weak (ih (32 - (k + 1)) (by omega) (k + 1) n T rfl (by omega) gT hcn (fun y hy => by rw [hks]; exact hKy y hy)) seA hsA
     ·
      try simp only [bsT] at hb2
      refine WC_skip (KSeq_n (WC_seq (WC_region ?_)))
      refine WO_step rfl (S_pure rfl ?_)
      refine WO_nil (KSeq_n (WC_block ?_))
      --out x6
      refine WC_post (WC_weak (lp_TF3 (H := H) (S := S) (T := T) (i8 := i8) (i11 := i11) (k := k) (n := n) (x := x) (v0 := v0) (v1 := v1) (v6 := v6) (v10 := v10) hlS hlT (by omega) hn32 hx 4 0 (by omega) (by omega)) seA hsA) ?_
      rintro y l' _ ⟨n', T', rfl, rfl, rfl, hD⟩
      refine KBlock_h (KBlock_n (KSeq_n (WC_region ?_)))
      refine WO_step rfl (S_pure rfl ?_)
      first | refine WO_step rfl (S_addN (b := 1) rfl rfl (by omega) ?_) | refine WO_step rfl (S_pure rfl ?_)
      refine WO_step rfl (S_pure rfl ?_)
      refine WO_nil (KLoop_n ?_)
      have hxt : x.has = true := by simpa using hb2
      rw [if_pos hxt] at hks
      rcases hD with ⟨rfl, rfl⟩ | ⟨rfl, q, y0, hq, hqx, hqh, hqk, rfl⟩
      · exact WC_weak (ih (32 - (k + 1)) (by omega) (k + 1) _ _ rfl (by omega) gT hcn (fun y hy => (hKy y hy).imp id (fun h => by rw [hks]; exact List.mem_append_left _ h))) seA hsA
      · obtain ⟨hmr, hbl, hnk⟩ := gS.slot (by omega) hx hxt
        have hxS : x.r.key ∈ tKeys S 32 := tKeys_mem.2 ⟨k, x, by omega, hx, hxt, rfl⟩
        have hnT : x.r.key ∉ tKeys T 32 := fun h => (hKy _ h).elim (hP _ hxS) hnk
        have gT' := gT.put hqx hqh hxt (gS.2.1 x (List.mem_of_getElem? hx)) hmr (by rw [hqk]; exact hbl) hnT
        have hc' := tRecs_set_len gT.1 hqx hqh hxt
        exact WC_weak (ih (32 - (k + 1)) (by omega) (k + 1) (n + 1) (T.set q x) rfl (by omega) gT' (by rw [hc', hcn]) (fun y hy => (tKeys_set' hxt hy).elim (fun h => (hKy y h).imp id (fun h => by rw [hks]; exact List.mem_append_left _ h)) (fun h => .inr (by rw [hks, h]; simp)))) seA hsA
    ·
     try simp only [bsT] at hb1
     refine WC_exit (KSeq_x (KLoop_x ?_))
     have ek : k = 32 := by omega
     subst ek
     exact KPost_i (H' := AO i8 33 TSlT T :: H) seA hsA ⟨n, T, rfl, rfl, rfl, gT, hcn, hKy⟩
theorem lp_TF1 {H : SH} {R : List Rec} {w : SV} {turn : List Bool} {i8 : Nat} {v0 v1 : Value} (hRl : R.length = 400) (hRg : ∀ j, j < 400 → R[j]? = some (recF j)) (ht : RD H v0 TBool turn) : ∀ (m j n : Nat) (T : List SlT), 400 - j = m → j ≤ 400 → GoodT T → (tRecs T 32).length = n → (∀ y, y ∈ tKeys T 32 → ∃ i, i < j ∧ y = keyF i) →
    WC F X (.loop L_loesslaw20_TableFull_1) [(10, .int .i64 (j : Int)), (9, .int .i64 (n : Int)), (6, w.toV), (8, .pointer (some ⟨i8, 0, none⟩)), (0, v0), (1, v1)] (AO i8 33 TSlT T :: SL w.toV TRec R :: H)
      (KPost fun y l' H' => ∃ (n : Nat) (T : List SlT), y = .exit 2 ∧ l' = [(9, .int .i64 (n : Int)), (6, w.toV), (8, .pointer (some ⟨i8, 0, none⟩)), (1, v1)] ∧ H' = AO i8 33 TSlT T :: SL w.toV TRec R :: H ∧ GoodT T ∧ (tRecs T 32).length = n) := by
  intro m
  induction m using Nat.strongRecOn with
  | _ m ih =>
    intro j n T hm hj gT hcn hKy
    have hlT := gT.1
    refine WC_loop (WC_seq (WC_seq (WC_region ?_)))
    iterate 2 refine WO_step rfl (S_pure rfl ?_)
    first | refine WO_step rfl (S_pure rfl ?_) | refine WO_step rfl (S_lenS rfl rdA ?_)
    iterate 2 refine WO_step rfl (S_pure rfl ?_)
    refine WO_cases (t := 46) rfl (fun hg1 => ?_) (fun hg1 => ?_)
    ·
     try simp only [bsT] at hg1
     iterate 3 refine WO_step rfl (S_pure rfl ?_)
     refine WO_nil (KSeq_n ?_)
     refine WC_cond rfl (fun hb1 => ?_) (fun hb1 => ?_)
     ·
      try simp only [bsT] at hb1
      refine WC_skip (KSeq_n (WC_seq (WC_block (WC_seq (WC_region ?_)))))
      iterate 3 refine WO_step rfl (S_pure rfl ?_)
      first | refine WO_step rfl (S_addN (b := 1) rfl rfl (by omega) ?_) | refine WO_step rfl (S_pure rfl ?_)
      refine WO_step rfl (S_cut (a := j) (b := j + 1) rfl rdA (by rfl) (LB.mk rfl rfl) (LB.mk rfl rfl) LB.dflt (by omega) (by omega) (by omega) ?_)
      refine WO_step rfl (S_pure rfl ?_)
      refine WO_call rfl rfl rfl ?_
      refine (sp_Lay (l := (R.drop j).take (j + 1 - j)) (turn := turn) (RD.sub' (T := TRec) (xs := R) rdA rfl (by omega)) rdA).mono ?_
      rintro _ _ ⟨rfl, rfl⟩
      rw [recsF_one (hRg j (by omega))]
      have gS : GoodT (lay [recF j] turn) := lay_good (fun z hz => by rw [List.mem_singleton.1 hz, recF_cut]; exact recF_wf (by omega)) turn
      have hSk : ∀ y, y ∈ tKeys (lay [recF j] turn) 32 → y = keyF j := fun y hy => by
        obtain ⟨r, hr, e⟩ := layN_keys 40 y hy
        rw [e, List.mem_singleton.1 hr, recF_cut]; rfl
      generalize lay [recF j] turn = S at gS hSk
      have hlS := gS.1
      refine WO_step rfl (S_new fun i11 => ?_)
      refine WO_step rfl (S_storeAll (T := TSlT) (xs := S) rfl rfl pkA (by rfl) (by rw [hlS]; rfl) ?_)
      refine WO_nil (KSeq_n (WC_seq (WC_region ?_)))
      refine WO_step rfl (S_pure rfl ?_)
      refine WO_nil (KSeq_n (WC_block ?_))
      --out x4
      refine WC_post (WC_weak (lp_TF2 (H := SL w.toV TRec R :: H) (S := S) (P := fun y => ∃ i, i < j ∧ y = keyF i) (i8 := i8) (i11 := i11) (v0 := v0) (v1 := v1) (v6 := w.toV) (v10 := .int .i64 (j : Int)) gS (fun y hy h => by obtain ⟨i, hi, e⟩ := h; have := hSk y hy; rw [e] at this; have := keyF_inj (by omega) (by omega) this; omega) 32 0 n T (by omega) (by omega) gT hcn (fun y hy => .inl (hKy y hy))) seA hsA) ?_
      rintro y l' _ ⟨n', T', rfl, rfl, rfl, gT', hcn', hKy'⟩
      refine KBlock_h (KBlock_n (KSeq_n (WC_region ?_)))
      refine WO_step rfl (S_pure rfl ?_)
      first | refine WO_step rfl (S_addN (b := 1) rfl rfl (by omega) ?_) | refine WO_step rfl (S_pure rfl ?_)
      refine WO_step rfl (S_pure rfl ?_)
      refine WO_nil (KLoop_n ?_)
      exact WC_weak (ih (400 - (j + 1)) (by omega) (j + 1) n' T' rfl (by omega) gT' hcn' (fun y hy => (hKy' y hy).elim (fun h => by obtain ⟨i, hi, e⟩ := h; exact ⟨i, by omega, e⟩) (fun h => ⟨j, by omega, hSk y h⟩))) seA hsA
     ·
      try simp only [bsT] at hb1
      refine WC_exit (KSeq_x (KLoop_x ?_))
      exact KPost_i (H' := AO i8 33 TSlT T :: SL w.toV TRec R :: H) seA hsA ⟨n, T, rfl, rfl, rfl, gT, hcn⟩
    ·
     try simp only [bsT] at hg1
     iterate 2 refine WO_off rfl ?_
     refine WO_step rfl (S_pure rfl ?_)
     refine WO_nil (KSeq_n ?_)
     refine WC_cond rfl (fun h => ?_) (fun _ => ?_)
     · exact absurd h (by decide)
     refine WC_exit (KSeq_x (KLoop_x ?_))
     exact KPost_i (H' := AO i8 33 TSlT T :: SL w.toV TRec R :: H) seA hsA ⟨n, T, rfl, rfl, rfl, gT, hcn⟩
theorem law_TableFull {H : SH} {v0 : Value} {turn : List Bool} {q : Int} (ht : RD H v0 TBool turn) (_ : ∀ x ∈ turn, True) (hq : (Lit.int .i64 q).wf = true) : WFQ F X f_loesslaw20_TableFull [v0, .int .i64 q] H (fun v _ => v = .bool true) := by
  simp [Lit.wf, IntKind.min, IntKind.max, IntKind.bits, IntKind.signed] at hq
  refine WFQ_view (fun _ hH => HAg.addNil (T := TRec) hH) ?_
  have hq1 := Int.tmod_lt_of_pos q (b := 400) (by omega)
  have hq2 := Int.lt_tmod_of_pos q (b := 400) (by omega)
  obtain ⟨qq, hqq, hq8⟩ : ∃ qq : Nat, q.tmod 400 + 400 = (qq : Int) ∧ qq < 800 := ⟨(q.tmod 400 + 400).toNat, by omega, by omega⟩
  refine WFQ_fn F_loesslaw20_TableFull ?_
  refine WQ_seq (WQ_region ?_)
  refine WO_step rfl (S_pure rfl ?_)
  refine WO_nil (QSeq_n (WQ_seq (WQ_region ?_)))
  refine WO_call rfl rfl rfl ?_
  refine sp_begunH.mono ?_
  rintro _ _ ⟨rfl, rfl⟩
  refine WO_step rfl (S_pure rfl ?_)
  refine WO_nil (QSeq_n (WQ_seq (WQ_seq (WQ_region ?_))))
  iterate 2 refine WO_step rfl (S_pure rfl ?_)
  refine WO_nil (QSeq_n ?_)
  refine WQ_cond rfl (fun hb1 => ?_) (fun hb1 => ?_)
  ·
   try simp only [bsT] at hb1
   exact absurd hb1 (by simp)
   --stop
  ·
   try simp only [bsT] at hb1
   refine WQ_skip (QSeq_n (WQ_seq (WQ_region ?_)))
   refine WO_step rfl (S_pure rfl ?_)
   refine WO_nil (QSeq_n (WQ_seq (WQ_seq (WQ_region ?_))))
   refine WO_step rfl (S_pure rfl ?_)
   refine WO_nil (QSeq_n (WQ_block ?_))
   --out x0
   obtain ⟨N, hN⟩ : ∃ N, N = 400 := ⟨_, rfl⟩
   refine WQ_post (WQ_weak (lp_TF0 (H := H) (v0 := v0) (v1 := .int .i64 q) N hN 400 0 .nil (by omega) (by omega)) seA hsA) ?_
   rintro y l' _ ⟨w, rfl, rfl, rfl⟩
   have hRl := recsF_len N
   have hRg : ∀ j, j < 400 → (recsF N)[j]? = some (recF j) := fun j h => recsF_get (by omega)
   generalize recsF N = R at hRl hRg
   rw [hN] at hRl
   refine KBlock_h (QSeq_n (WQ_seq (WQ_region ?_)))
   refine WO_step rfl (S_new fun i8 => ?_)
   refine WO_nil (QSeq_n (WQ_seq (WQ_region ?_)))
   refine WO_step rfl (S_pure rfl ?_)
   refine WO_nil (QSeq_n (WQ_seq (WQ_seq (WQ_region ?_))))
   refine WO_step rfl (S_pure rfl ?_)
   refine WO_nil (QSeq_n (WQ_block ?_))
   --out x2
   refine WQ_post (WQ_weak (WQ_of (lp_TF1 (H := H) (R := R) (w := w) (turn := turn) (i8 := i8) (v0 := v0) (v1 := .int .i64 q) hRl hRg ht 400 0 0 zeroT (by omega) (by omega) ⟨zeroT_len, zeroT_wf, zeroT_may⟩ zeroT_cnt (fun y hy => absurd hy (zeroT_nok y)))) seA hsA) ?_
   rintro y l' _ ⟨n, T, rfl, rfl, rfl, gT, hcn⟩
   have hlT := gT.1
   refine KBlock_h (QSeq_n (WQ_seq (WQ_region ?_)))
   refine WO_step rfl (S_loadAll (T := TSlT) (xs := T) rfl pkA (by rw [hlT]; rfl) ?_)
   refine WO_call rfl rfl rfl ?_
   refine (sp_OfT hlT).mono ?_
   rintro _ _ ⟨rfl, rfl⟩
   refine WO_call rfl rfl rfl ?_
   refine (sp_hNewOk (ts := T) hlT gT.2.1 gT.2.2).mono ?_
   rintro _ _ ⟨i, i2, wk, wr, wt, rfl, rfl⟩
   unfold STO
   iterate 5 refine WO_step rfl (S_pure rfl ?_)
   refine WO_nil (QSeq_n (WQ_seq (WQ_region ?_)))
   refine WO_step rfl (S_pure rfl ?_)
   first | refine WO_step rfl (S_eqS rfl rfl ?_) | refine WO_step rfl (S_pure rfl ?_)
   refine WO_step rfl (S_pure rfl ?_)
   refine WO_cases (t := 106) rfl (fun hg1 => ?_) (fun hg1 => ?_)
   ·
    try simp only [bsT] at hg1
    have hk4 : qq % 400 < R.length := by omega
    have hgk := hRg (qq % 400) (by omega)
    refine WO_step rfl (S_pure rfl ?_)
    refine WO_step rfl (S_loadAll (T := TSlT) (xs := T) rfl pkA (by rw [hlT]; rfl) ?_)
    iterate 3 refine WO_step rfl (S_pure rfl ?_)
    refine WO_step rfl (S_pureE (v := .int .i64 (IntKind.wrap .i64 (q.tmod 400 + 400))) (v' := .int .i64 (qq : Int)) rfl (by rw [wrap_i64 (by omega) (by omega), hqq]) ?_)
    refine WO_step rfl (S_remU (a := qq) (m := 400) rfl rfl (by omega) ?_)
    refine WO_step rfl (S_idx rfl rfl rdA (by first | rfl | assumption | (symm; assumption)) (by rfl) (by first | assumption | omega | exact lt_of_get (by assumption) | (simp only [List.length_set]; first | assumption | omega | exact lt_of_get (by assumption))) fun hp114 => ?_)
    refine WO_step rfl (S_fldE rfl (by repeat (first | assumption | apply IsP.padd)) ?_)
    refine WO_step rfl (S_loadF rfl rdA (by rfl) (by assumption) (by rfl) (by rfl) ?_)
    refine WO_call rfl rfl rfl ?_
    refine (WF.weak (sp_right (H := AO i8 33 TSlT T :: SL w.toV TRec R :: H) (i := i) (i2 := i2) (wk := wk) (wr := wr) (wt := wt) (k := keyF (qq % 400)) gT (by rw [keyF_size]; omega)) (by unfold STO; exact hsA)).mono ?_
    rintro _ _ ⟨rfl, rfl⟩
    iterate 2 refine WO_step rfl (S_pure rfl ?_)
    refine WO_cases (t := 119) rfl (fun hg2 => ?_) (fun hg2 => ?_)
    ·
     try simp only [bsT] at hg2
     refine WO_step rfl (S_pure rfl ?_)
     refine WO_call rfl rfl rfl ?_
     refine (sp_hLen (i := i) (i2 := i2) (wk := wk) (wr := wr) (wt := wt) (ts := T) hlT).mono ?_
     rintro _ _ ⟨rfl, rfl⟩
     rw [hcn]
     refine WO_step rfl (S_pure rfl ?_)
     first | refine WO_step rfl (S_eqS rfl rfl ?_) | refine WO_step rfl (S_pure rfl ?_)
     iterate 2 refine WO_step rfl (S_pure rfl ?_)
     refine WO_nil (QSeq_n (WQ_ret ?_))
     refine KFn_r (ResL.tmp rfl ResL.nil) ?_
     exact ⟨_, HSub.refl, by simp [resV]⟩
    ·
     try simp only [bsT] at hg2
     iterate 4 refine WO_off rfl ?_
     iterate 2 refine WO_step rfl (S_pure rfl ?_)
     refine WO_nil (QSeq_n (WQ_ret ?_))
     refine KFn_r (ResL.tmp rfl ResL.nil) ?_
     exfalso
     first
       | exact hg2 trivial
       | exact hg2 rfl
       | exact hg1 trivial
       | exact hg1 rfl
       | exact absurd hg2 (by simp)
       | exact absurd hg1 (by simp)
   ·
    try simp only [bsT] at hg1
    iterate 11 refine WO_off rfl ?_
    iterate 2 refine WO_step rfl (S_pure rfl ?_)
    iterate 4 refine WO_off rfl ?_
    iterate 2 refine WO_step rfl (S_pure rfl ?_)
    refine WO_nil (QSeq_n (WQ_ret ?_))
    refine KFn_r (ResL.tmp rfl ResL.nil) ?_
    exfalso
    first
      | exact hg2 trivial
      | exact hg2 rfl
      | exact hg1 trivial
      | exact hg1 rfl
      | exact absurd hg2 (by simp)
      | exact absurd hg1 (by simp)

end Go.Proofs.YtpnmeednimpjdaaGreat.AM
