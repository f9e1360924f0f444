/- Walks: what the functions compute. -/
import Derived.Test.YtpnmeednimpjdaaGreatHy
namespace Go.Proofs.YtpnmeednimpjdaaGreat.AM
open Go
set_option linter.unusedSimpArgs false
set_option linter.unusedVariables false
set_option maxRecDepth 4000

/-! ### A store's records, by key -/
def near (a b : Nat) : Bool := decide (tagOf a = tagOf b) && (decide (frst a = frst b) || decide (frst a = oth (frst b) (tagOf b)))
def hsOf (l : List Rec) : List Nat := l.map fun r => kH r.key
def keysOf (l : List Rec) : List ByteArray := l.map (·.key)
theorem key_inj {l : List Rec} (hn : (keysOf l).Nodup) {i j : Nat} {a b : Rec} (h1 : l[i]? = some a) (h2 : l[j]? = some b) (h : a.key = b.key) : i = j := by
  have e1 : (keysOf l)[i]? = some a.key := by rw [keysOf, List.getElem?_map, h1]; rfl
  have e2 : (keysOf l)[j]? = some a.key := by rw [keysOf, List.getElem?_map, h2, h]; rfl
  obtain ⟨l1, e1⟩ := List.getElem?_eq_some_iff.1 e1
  obtain ⟨l2, e2⟩ := List.getElem?_eq_some_iff.1 e2
  exact (List.getElem_inj hn).1 (e1.trans e2.symm)
theorem snoc_of_pos {α : Type} {A : List α} (h : 0 < A.length) : ∃ B y, A = B ++ [y] := by
  have hne : A ≠ [] := by intro e; rw [e] at h; exact absurd h (by simp)
  exact ⟨A.dropLast, A.getLast hne, (List.dropLast_concat_getLast hne).symm⟩
theorem setR_perm {r : Rec} : ∀ {l : List Rec} {d : Bool}, (∀ y ∈ l, y.key ≠ r.key) → (setR r l d).Perm (if d then l else r :: l)
  | [], true, _ => by simp [setR]
  | [], false, _ => by simp [setR]
  | x :: l, true, h => by
    have hx := h x (List.mem_cons_self ..)
    have := setR_perm (r := r) (l := l) (d := true) (fun y hy => h y (List.mem_cons_of_mem _ hy))
    rw [setR_c5 hx]
    exact this.cons x
  | x :: l, false, h => by
    have hx := h x (List.mem_cons_self ..)
    have h1 := setR_perm (r := r) (l := l) (d := true) (fun y hy => h y (List.mem_cons_of_mem _ hy))
    have h2 := setR_perm (r := r) (l := l) (d := false) (fun y hy => h y (List.mem_cons_of_mem _ hy))
    by_cases hlt : kl x < kl r
    · rw [setR_c3 hlt hx]
      exact (h2.cons x).trans (List.Perm.swap r x l)
    · rw [setR_c1 hlt hx]
      exact (h1.cons x).cons r
theorem newest_perm {l : List Rec} (h : (keysOf l).Nodup) : (newest l).Perm l := by
  have key : ∀ (n : Nat) (l : List Rec), l.length = n → (keysOf l).Nodup → (newest l).Perm l := by
    intro n
    induction n with
    | zero => intro l hl _; rw [List.length_eq_zero_iff.1 hl]; exact List.Perm.refl _
    | succ n ih =>
      intro l hl hn
      obtain ⟨B, y, rfl⟩ := snoc_of_pos (A := l) (by omega)
      rw [newest_snoc]
      unfold keysOf at hn
      rw [List.map_append, List.nodup_append] at hn
      have hB := ih B (by simp at hl; exact hl) hn.1
      refine (setR_perm (d := false) (fun z hz => ?_)).trans ?_
      · exact fun e => hn.2.2 z.key (List.mem_map.2 ⟨z, hB.mem_iff.1 hz, rfl⟩) y.key (by simp) e
      · simp only [Bool.false_eq_true, if_false]
        exact (hB.cons y).trans (List.perm_append_singleton y B).symm
  exact key _ l rfl h
theorem fnd_none_iff (k : ByteArray) : ∀ l : List Rec, fnd l k = none ↔ ∀ r ∈ l, r.key ≠ k
  | [] => by simp [fnd]
  | x :: l => by
    rw [fnd]
    by_cases h : x.key = k
    · rw [if_pos h]; simp [h]
    · rw [if_neg h, fnd_none_iff k l]; simp [h]
theorem mem_inj {l : List Rec} (hn : (keysOf l).Nodup) {a b : Rec} (h1 : a ∈ l) (h2 : b ∈ l) (h : a.key = b.key) : a = b := by
  obtain ⟨i, hi⟩ := List.getElem?_of_mem h1
  obtain ⟨j, hj⟩ := List.getElem?_of_mem h2
  have := key_inj hn hi hj h
  subst this
  rw [hi] at hj; cases hj; rfl
theorem fnd_some_iff {l : List Rec} (hn : (keysOf l).Nodup) {k : ByteArray} {r : Rec} : fnd l k = some r ↔ r ∈ l ∧ r.key = k := by
  constructor
  · exact fnd_mem'
  · rintro ⟨h1, rfl⟩
    cases h : fnd l r.key with
    | none => exact absurd rfl ((fnd_none_iff _ l).1 h r h1)
    | some q =>
      obtain ⟨h2, h3⟩ := fnd_mem' h
      rw [mem_inj hn h2 h1 h3]
theorem fnd_mem_congr {a b : List Rec} (ha : (keysOf a).Nodup) (hb : (keysOf b).Nodup) (h : ∀ r, r ∈ a ↔ r ∈ b) (k : ByteArray) : fnd a k = fnd b k := by
  cases e : fnd b k with
  | none => rw [fnd_none_iff] at e ⊢; exact fun r hr => e r ((h r).1 hr)
  | some r => rw [fnd_some_iff hb] at e; rw [fnd_some_iff ha]; exact ⟨(h r).2 e.1, e.2⟩
theorem keys_rev {l : List Rec} (h : (keysOf l).Nodup) : (keysOf l.reverse).Nodup := by
  unfold keysOf
  rw [List.map_reverse]; exact (List.reverse_perm _).nodup_iff.2 h
theorem fnd_newest {l : List Rec} (h : (keysOf l).Nodup) (k : ByteArray) : fnd (newest l) k = fnd l k := by
  rw [(newest_spec l).2 k]
  exact fnd_mem_congr (keys_rev h) h (fun r => List.mem_reverse) k
theorem tKeys_nodup {ts : List SlT} (hl : ts.length = 32) (hm : mayTab ts = true) : ∀ j, j ≤ 32 → (tKeys ts j).Nodup
  | 0, _ => by simp [tKeys]
  | j + 1, h => by
    have ih := tKeys_nodup hl hm j (by omega)
    obtain ⟨x, hx⟩ := get_of_lt (show j < ts.length by omega)
    have ho := (mayTab_iff hl).1 hm j x (by omega) hx
    rw [tKeys_succ hx]
    cases hh : x.has with
    | false => simpa [hh] using ih
    | true =>
      unfold slOk at ho
      rw [if_pos hh] at ho
      simp only [Bool.and_eq_true, Bool.not_eq_true'] at ho
      have hn := inB_false.1 ho.2.2
      simp only [if_true]
      rw [List.nodup_append]
      exact ⟨ih, by simp, fun a ha b hb => by simp at hb; subst hb; exact fun e => hn (e ▸ ha)⟩
theorem GoodT.nd {ts : List SlT} (g : GoodT ts) : (keysOf (tRecs ts 32)).Nodup := by
  unfold keysOf
  rw [tRecs_keys]; exact tKeys_nodup g.1 g.2.2 32 (by omega)
theorem bkR_get {ts : List SlT} {b : Nat} {r : Rec} : r ∈ bkR ts b ↔ ∃ s x, s < 4 ∧ ts[4 * b + s]? = some x ∧ x.has = true ∧ x.r = r := by
  unfold bkR
  constructor
  · intro h
    obtain ⟨x, hx, rfl⟩ := List.mem_map.1 h
    obtain ⟨h1, h2⟩ := List.mem_filter.1 hx
    obtain ⟨s, hs⟩ := List.getElem?_of_mem h1
    have hs4 : s < 4 := by
      have := (List.getElem?_eq_some_iff.1 hs).1
      unfold bk at this
      rw [List.length_take] at this; omega
    rw [bk_get hs4] at hs
    exact ⟨s, x, hs4, hs, h2, rfl⟩
  · rintro ⟨s, x, hs, hx, hh, rfl⟩
    rw [← bk_get hs] at hx
    exact List.mem_map.2 ⟨x, List.mem_filter.2 ⟨List.mem_of_getElem? hx, hh⟩, rfl⟩
theorem bkR_bel {ts : List SlT} (g : GoodT ts) {b : Nat} (hb : b < 8) {r : Rec} (h : r ∈ bkR ts b) : bel r.key b = true := by
  obtain ⟨s, x, hs, hx, hh, rfl⟩ := bkR_get.1 h
  have ho := (mayTab_iff g.1).1 g.2.2 (4 * b + s) x (by omega) hx
  unfold slOk at ho
  rw [if_pos hh, show (4 * b + s) / 4 = b by omega] at ho
  simp only [Bool.and_eq_true] at ho
  exact ho.2.1
theorem tRecs_bkR {ts : List SlT} {r : Rec} (h : r ∈ tRecs ts 32) : ∃ b, b < 8 ∧ r ∈ bkR ts b := by
  unfold tRecs at h
  obtain ⟨x, hx, rfl⟩ := List.mem_map.1 h
  obtain ⟨h1, h2⟩ := List.mem_filter.1 hx
  obtain ⟨j, hj⟩ := List.getElem?_of_mem h1
  rw [List.getElem?_take] at hj
  split at hj
  · exact ⟨j / 4, by omega, bkR_get.2 ⟨j % 4, x, by omega, by rw [show 4 * (j / 4) + j % 4 = j by omega]; exact hj, h2, rfl⟩⟩
  · cases hj
theorem near_bel {a q b : Nat} (h : b = frst q ∨ b = oth (frst q) (tagOf q)) : near a q = true ↔ tagOf q = tagOf a ∧ (b = frst a ∨ b = oth (frst a) (tagOf a)) := by
  have h1 := oth_oth (b := frst q) (t := tagOf q) (frst_lt _)
  have h2 := oth_oth (b := frst a) (t := tagOf q) (frst_lt _)
  unfold near
  simp only [Bool.and_eq_true, Bool.or_eq_true, decide_eq_true_eq]
  constructor
  · rintro ⟨e, f⟩
    rw [e] at *
    refine ⟨rfl, ?_⟩
    rcases f with f | f
    · rw [f]; exact h
    · rcases h with h | h
      · right; rw [f, h1]; exact h
      · left; rw [f]; exact h
  · rintro ⟨e, f⟩
    rw [← e] at f
    refine ⟨e.symm, ?_⟩
    rcases f with f | f
    · rw [← f]; exact h
    · rcases h with h | h
      · right; rw [← h, f, h2]
      · left; rw [← h1, ← h, f, h2]
theorem like_step' {L : List Rec} {kq : Rec → Nat} {a b : Nat} (hq : ∀ r ∈ L, b = frst (kq r) ∨ b = oth (frst (kq r)) (tagOf (kq r))) : L.countP (fun r => near a (kq r)) = if b = frst a ∨ b = oth (frst a) (tagOf a) then (L.filter fun r => decide (tagOf (kq r) = tagOf a)).length else 0 := by
  split
  · rename_i h
    rw [← List.countP_eq_length_filter]
    refine List.countP_congr fun r hr => ?_
    have := near_bel (a := a) (hq r hr)
    simp only [decide_eq_true_eq]
    rw [this]
    exact ⟨fun h' => h'.1, fun h' => ⟨h', h⟩⟩
  · rename_i h
    rw [List.countP_eq_zero]
    intro r hr hc
    exact h ((near_bel (a := a) (hq r hr)).1 hc).2
theorem hs_countP (L : List Rec) (p : Nat → Bool) : (hsOf L).countP p = L.countP (fun r => p (kH r.key)) := by
  unfold hsOf; rw [List.countP_map]; rfl
theorem like_step {ts : List SlT} (g : GoodT ts) (k : ByteArray) {b : Nat} (hb : b < 8) : (hsOf (bkR ts b)).countP (near (kH k)) = if b = frst (kH k) ∨ b = oth (frst (kH k)) (tagOf (kH k)) then (likeB (bkR ts b) (tagOf (kH k))).length else 0 := by
  rw [hs_countP]
  unfold likeB
  generalize kH k = h
  refine like_step' (kq := fun r => kH r.key) fun r hr => ?_
  have := bkR_bel g hb hr
  unfold bel at this
  simp only [Bool.or_eq_true, decide_eq_true_eq] at this
  exact this
theorem like_ifs {f o b cf co cb : Nat} (hne : o ≠ f) (hf : b = f → cb = cf) (ho : b = o → cb = co) : (if f < b then cf else 0) + (if o < b then co else 0) + (if b = f ∨ b = o then cb else 0) = (if f < b + 1 then cf else 0) + (if o < b + 1 then co else 0) := by
  by_cases e1 : b = f
  · have := hf e1
    rw [if_pos (show b = f ∨ b = o from .inl e1)]
    repeat' split
    all_goals omega
  · by_cases e2 : b = o
    · have := ho e2
      rw [if_pos (show b = f ∨ b = o from .inr e2)]
      repeat' split
      all_goals omega
    · rw [if_neg (show ¬ (b = f ∨ b = o) by rintro (h | h); exact e1 h; exact e2 h)]
      repeat' split
      all_goals omega
theorem like_count {ts : List SlT} (g : GoodT ts) (k : ByteArray) : (likeL ts k).length = (hsOf (tRecs ts 32)).countP (near (kH k)) := by
  have h0 := frst_lt (kH k)
  have h1 := oth_lt (t := tagOf (kH k)) h0
  have hne := oth_ne (t := tagOf (kH k)) h0
  have key : ∀ b, b ≤ 8 → (hsOf (tRecs ts (4 * b))).countP (near (kH k)) = (if frst (kH k) < b then (likeB (bkR ts (frst (kH k))) (tagOf (kH k))).length else 0) + (if oth (frst (kH k)) (tagOf (kH k)) < b then (likeB (bkR ts (oth (frst (kH k)) (tagOf (kH k)))) (tagOf (kH k))).length else 0) := by
    intro b
    induction b with
    | zero => intro _; simp [tRecs, hsOf]
    | succ b ih =>
      intro hb
      have e : hsOf (tRecs ts (4 * (b + 1))) = hsOf (tRecs ts (4 * b)) ++ hsOf (bkR ts b) := by
        rw [show 4 * (b + 1) = 4 * b + 4 by omega, tRecs_bk]; unfold hsOf; rw [List.map_append]
      rw [e, List.countP_append, ih (by omega), like_step g k (by omega)]
      exact like_ifs hne (fun e => by rw [e]) (fun e => by rw [e])
  have := key 8 (by omega)
  rw [if_pos h0, if_pos h1] at this
  rw [show (32 : Nat) = 4 * 8 from rfl, this]
  unfold likeL
  rw [List.length_append]
theorem like_near {ts : List SlT} (g : GoodT ts) (k : ByteArray) : (likeL ts k).length = (hsOf (newest (tRecs ts 32))).countP (near (kH k)) := by
  rw [like_count g]
  unfold hsOf
  exact ((newest_perm g.nd).map _).symm.countP_eq _
theorem fnd_like {ts : List SlT} (g : GoodT ts) (k : ByteArray) : fnd (likeL ts k) k = fnd (newest (tRecs ts 32)) k := by
  rw [fnd_newest g.nd]
  cases h : fnd (tRecs ts 32) k with
  | none =>
    rw [fnd_none_iff] at h ⊢
    exact fun r hr => h r (likeL_mem hr)
  | some r =>
    obtain ⟨h1, rfl⟩ := fnd_mem' h
    obtain ⟨b, hb, h2⟩ := tRecs_bkR h1
    have hbel := bkR_bel g hb h2
    unfold bel at hbel
    simp only [Bool.or_eq_true, decide_eq_true_eq] at hbel
    have hin : r ∈ likeL ts r.key := by
      unfold likeL likeB
      rcases hbel with e | e
      · exact List.mem_append_left _ (List.mem_filter.2 ⟨e ▸ h2, by simp⟩)
      · exact List.mem_append_right _ (List.mem_filter.2 ⟨e ▸ h2, by simp⟩)
    cases h' : fnd (likeL ts r.key) r.key with
    | none => exact absurd rfl ((fnd_none_iff _ _).1 h' r hin)
    | some q =>
      obtain ⟨h3, h4⟩ := fnd_mem' h'
      rw [mem_inj g.nd (likeL_mem h3) h1 h4]
theorem fnd_self {ts : List SlT} (g : GoodT ts) {r : Rec} (h : r ∈ newest (tRecs ts 32)) : fnd (likeL ts r.key) r.key = some r := by
  rw [fnd_like g, fnd_newest g.nd]
  exact (fnd_some_iff g.nd).2 ⟨(newest_perm g.nd).mem_iff.1 h, rfl⟩
theorem newest_tlen {ts : List SlT} (g : GoodT ts) : (newest (tRecs ts 32)).length = (tRecs ts 32).length := (newest_perm g.nd).length_eq
theorem sp_Near {H : SH} {a b : Nat} (ha : a < 18446744073709551616) (hb : b < 18446744073709551616) : WF F X f_loessref6_Near [.int .u64 (a : Int), .int .u64 (b : Int)] H (fun r H' => H' = H ∧ r = .bool (near a b)) := by
  have h1 := frst_lt b
  have h2 := tagOf_lt b
  refine WF_fn F_loessref6_Near ?_
  refine WC_seq ?_
  refine WC_region ?_
  refine WO_step rfl (S_pure rfl ?_)
  refine WO_nil ?_
  refine KSeq_n ?_
  refine WC_seq ?_
  refine WC_region ?_
  refine WO_step rfl (S_pure rfl ?_)
  refine WO_call rfl rfl rfl ?_
  refine (sp_rTag (by omega)).mono ?_
  rintro _ _ ⟨rfl, rfl⟩
  refine WO_step rfl (S_pure rfl ?_)
  refine WO_call rfl rfl rfl ?_
  refine (sp_rTag (by omega)).mono ?_
  rintro _ _ ⟨rfl, rfl⟩
  first | refine WO_step rfl (S_eqS rfl rfl ?_) | refine WO_step rfl (S_pure rfl ?_)
  refine WO_step rfl (S_pure rfl ?_)
  refine WO_cases (t := 10) rfl (fun hg1 => ?_) (fun hg1 => ?_)
  ·
   try simp only [bsT] at hg1
   refine WO_step rfl (S_pure rfl ?_)
   refine WO_call rfl rfl rfl ?_
   refine (sp_rFirst (by omega)).mono ?_
   rintro _ _ ⟨rfl, rfl⟩
   refine WO_step rfl (S_pure rfl ?_)
   refine WO_call rfl rfl rfl ?_
   refine (sp_rFirst (by omega)).mono ?_
   rintro _ _ ⟨rfl, rfl⟩
   first | refine WO_step rfl (S_eqS rfl rfl ?_) | refine WO_step rfl (S_pure rfl ?_)
   refine WO_step rfl (S_pure rfl ?_)
   refine WO_cases (t := 16) rfl (fun hg2 => ?_) (fun hg2 => ?_)
   ·
    try simp only [bsT] at hg2
    iterate 8 refine WO_off rfl ?_
    iterate 3 refine WO_step rfl (S_pure rfl ?_)
    refine WO_nil ?_
    refine KSeq_n ?_
    refine WC_ret ?_
    refine KFn_r (ResL.tmp rfl ResL.nil) ?_
    refine ⟨_, HSub.refl, rfl, ?_⟩
    unfold near
    simp only [resV]
    congr 1
    rw [Bool.eq_iff_iff]
    simp at *
    try simp [hg1]
    try omega
   ·
    try simp only [bsT] at hg2
    refine WO_step rfl (S_pure rfl ?_)
    refine WO_call rfl rfl rfl ?_
    refine (sp_rFirst (by omega)).mono ?_
    rintro _ _ ⟨rfl, rfl⟩
    refine WO_step rfl (S_pure rfl ?_)
    refine WO_call rfl rfl rfl ?_
    refine (sp_rFirst (by omega)).mono ?_
    rintro _ _ ⟨rfl, rfl⟩
    refine WO_step rfl (S_pure rfl ?_)
    refine WO_call rfl rfl rfl ?_
    refine (sp_rTag (by omega)).mono ?_
    rintro _ _ ⟨rfl, rfl⟩
    refine WO_call rfl rfl rfl ?_
    refine (sp_rOther (by assumption) (by assumption)).mono ?_
    rintro _ _ ⟨rfl, rfl⟩
    first | refine WO_step rfl (S_eqS rfl rfl ?_) | refine WO_step rfl (S_pure rfl ?_)
    iterate 3 refine WO_step rfl (S_pure rfl ?_)
    refine WO_nil ?_
    refine KSeq_n ?_
    refine WC_ret ?_
    refine KFn_r (ResL.tmp rfl ResL.nil) ?_
    refine ⟨_, HSub.refl, rfl, ?_⟩
    unfold near
    simp only [resV]
    congr 1
    rw [Bool.eq_iff_iff]
    simp at *
    try simp [hg1]
    try omega
  ·
   try simp only [bsT] at hg1
   iterate 15 refine WO_off rfl ?_
   iterate 2 refine WO_step rfl (S_pure rfl ?_)
   refine WO_nil ?_
   refine KSeq_n ?_
   refine WC_ret ?_
   refine KFn_r (ResL.tmp rfl ResL.nil) ?_
   refine ⟨_, HSub.refl, rfl, ?_⟩
   unfold near
   simp only [resV]
   congr 1
   rw [Bool.eq_iff_iff]
   simp at *
   try simp [hg1]
   try omega
theorem lp_rRd {H : SH} {v : Value} {l : List Rec} {k : ByteArray} (hv : RD H v TRec l) (hL : l.length ≤ 1000) (hks : ∀ x ∈ l, x.key.size ≤ 1000000) (hk : k.size ≤ 1000000) : ∀ (n a : Nat), l.length - a = n → a ≤ l.length →
    WC F X (.loop L_loessref22_Reads_0) [(6, .int .i64 (a : Int)), (5, .int .i64 (((hsOf (l.take a)).countP (near (kH k)) : Nat) : Int)), (0, v), (1, .string k)] H (KPost fun x l' H' => x = .exit 0 ∧ l' = [(5, .int .i64 (((hsOf l).countP (near (kH k)) : Nat) : Int))] ∧ H' = H) := by
  intro n
  induction n using Nat.strongRecOn with
  | _ n ih =>
    intro a hn ha
    have hc : (hsOf (l.take a)).countP (near (kH k)) ≤ a := Nat.le_trans List.countP_le_length (by unfold hsOf; rw [List.length_map, List.length_take]; omega)
    refine WC_loop ?_
    refine WC_seq ?_
    refine WC_seq ?_
    refine WC_region ?_
    iterate 2 refine WO_step rfl (S_pure rfl ?_)
    first | refine WO_step rfl (S_pure rfl ?_) | refine WO_step rfl (S_lenS rfl rdA ?_)
    refine WO_step rfl (S_pure rfl ?_)
    refine WO_nil ?_
    refine KSeq_n ?_
    refine WC_cond rfl (fun hb1 => ?_) (fun hb1 => ?_)
    ·
     try simp only [bsT] at hb1
     obtain ⟨q, hq⟩ := get_of_lt hb1
     have hqs := hks q (List.mem_of_getElem? hq)
     have htk : (hsOf (l.take (a + 1))).countP (near (kH k)) = (hsOf (l.take a)).countP (near (kH k)) + if near (kH k) (kH q.key) then 1 else 0 := by
       unfold hsOf
       rw [List.take_add_one, hq, List.map_append, List.countP_append]
       show _ + List.countP (near (kH k)) [kH q.key] = _
       rw [List.countP_singleton]
     have hk1 := kH_lt k
     have hk2 := kH_lt q.key
     refine WC_skip ?_
     refine KSeq_n ?_
     refine WC_seq ?_
     refine WC_block ?_
     refine WC_seq ?_
     refine WC_drawn ?_
     refine WD_step rfl (S_pure rfl ?_)
     refine WD_call rfl rfl rfl ?_
     refine (sp_RHash hk).mono ?_
     rintro _ _ ⟨rfl, rfl⟩
     rw [kH_eq]
     refine WD_step rfl (S_pure rfl ?_)
     refine WD_step rfl (S_pure rfl ?_)
     refine WD_step rfl (S_idx rfl rfl rdA (by rfl) (by rfl) hb1 fun hp17 => ?_)
     refine WD_step rfl (S_fldE rfl (by repeat (first | assumption | apply IsP.padd)) ?_)
     refine WD_step rfl (S_loadF (x := q) rfl rdA (by rfl) hq (by rfl) (by rfl) ?_)
     refine WD_call rfl rfl rfl ?_
     refine (sp_RHash hqs).mono ?_
     rintro _ _ ⟨rfl, rfl⟩
     rw [kH_eq]
     refine WD_call rfl rfl rfl ?_
     refine (sp_Near (by omega) (by omega)).mono ?_
     rintro _ _ ⟨rfl, rfl⟩
     refine WD_nil ?_
     refine ⟨?_, ?_⟩
     ·
      repeat' (first | exact trivial | apply And.intro)
      exact ObR.of_step rfl (S_loadF (x := q) rfl rdA (by rfl) hq (by rfl) (by rfl) (by simp [eqV, eqV0]))
     ·
      refine KSeq_n ?_
      refine WC_cond rfl (fun hb2 => ?_) (fun hb2 => ?_)
      ·
       try simp only [bsT] at hb2
       refine WC_region ?_
       refine WO_step rfl (S_pure rfl ?_)
       first | refine WO_step rfl (S_addN (b := 1) rfl rfl (by omega) ?_) | refine WO_step rfl (S_pure rfl ?_)
       refine WO_step rfl (S_pure rfl ?_)
       refine WO_nil ?_
       refine KBlock_n ?_
       refine KSeq_n ?_
       refine WC_region ?_
       refine WO_step rfl (S_pure rfl ?_)
       first | refine WO_step rfl (S_addN (b := 1) rfl rfl (by omega) ?_) | refine WO_step rfl (S_pure rfl ?_)
       refine WO_step rfl (S_pure rfl ?_)
       refine WO_nil ?_
       refine KLoop_n ?_
       rw [hb2, if_pos rfl] at htk
       refine WC_weak (ih (l.length - (a + 1)) (by omega) (a + 1) rfl (by omega)) ?_ hsA
       rw [htk]; exact seA
      ·
       try simp only [bsT] at hb2
       refine WC_skip ?_
       refine KBlock_n ?_
       refine KSeq_n ?_
       refine WC_region ?_
       refine WO_step rfl (S_pure rfl ?_)
       first | refine WO_step rfl (S_addN (b := 1) rfl rfl (by omega) ?_) | refine WO_step rfl (S_pure rfl ?_)
       refine WO_step rfl (S_pure rfl ?_)
       refine WO_nil ?_
       refine KLoop_n ?_
       rw [hb2] at htk
       simp only [Bool.false_eq_true, if_false, Nat.add_zero] at htk
       refine WC_weak (ih (l.length - (a + 1)) (by omega) (a + 1) rfl (by omega)) ?_ hsA
       rw [htk]; exact seA
    ·
     try simp only [bsT] at hb1
     refine WC_exit ?_
     refine KSeq_x ?_
     refine KLoop_x ?_
     refine KPost_i (l' := [(5, .int .i64 (((hsOf (l.take a)).countP (near (kH k)) : Nat) : Int))]) seA hsA ⟨rfl, ?_, rfl⟩
     rw [List.take_of_length_le (by omega)]
theorem sp_rRd {H : SH} {v : Value} {l : List Rec} {k : ByteArray} (hv : RD H v TRec l) (hL : l.length ≤ 1000) (hks : ∀ x ∈ l, x.key.size ≤ 1000000) (hk : k.size ≤ 1000000) : WF F X f_loessref22_Reads [v, .string k] H (fun r H' => H' = H ∧ r = .int .i64 (((hsOf l).countP (near (kH k)) : Nat) : Int)) := by
  refine WF_fn F_loessref22_Reads ?_
  refine WC_seq ?_
  refine WC_region ?_
  refine WO_step rfl (S_pure rfl ?_)
  refine WO_nil ?_
  refine KSeq_n ?_
  refine WC_seq ?_
  refine WC_region ?_
  refine WO_step rfl (S_pure rfl ?_)
  refine WO_nil ?_
  refine KSeq_n ?_
  refine WC_seq ?_
  refine WC_seq ?_
  refine WC_region ?_
  refine WO_step rfl (S_pure rfl ?_)
  refine WO_nil ?_
  refine KSeq_n ?_
  refine WC_block ?_
  --out x0
  refine WC_post (WC_weak (lp_rRd hv hL hks hk l.length 0 (by omega) (by omega)) seA hsA) ?_
  rintro x l' _ ⟨rfl, rfl, rfl⟩
  refine KBlock_h ?_
  refine KSeq_n ?_
  refine WC_seq ?_
  refine WC_region ?_
  iterate 2 refine WO_step rfl (S_pure rfl ?_)
  refine WO_nil ?_
  refine KSeq_n ?_
  refine WC_ret ?_
  refine KFn_r (ResL.tmp rfl ResL.nil) ?_
  exact ⟨_, HSub.refl, rfl, rfl⟩
/-! ### A store that is right -/
theorem lp_right {H : SH} {L : List Rec} {ts : List SlT} {i i2 : Nat} {wk wr wt u : SV} {k : ByteArray} (g : GoodT ts) (hL : newest (tRecs ts 32) = L) : ∀ (m j : Nat), L.length - j = m → j ≤ L.length →
    WC F X (.loop L_loesslaw20_right_0) [(8, .int .i64 (j : Int)), (7, u.toV), (0, .pointer (some ⟨i, 0, none⟩)), (2, .string k)] (STO i ts i2 wk wr wt (SL u.toV TRec L :: H)) (KPost fun y l' H' => y = .exit 0 ∧ l' = [(7, u.toV), (0, .pointer (some ⟨i, 0, none⟩)), (2, .string k)] ∧ H' = STO i ts i2 wk wr wt (SL u.toV TRec L :: H)) := by
  have hl := g.1
  have hw := g.2.1
  have hnl := newest_tlen g
  have htl := rk_tRecs ts 32
  have hrl := rk_le ts 32
  rw [hL] at hnl
  have hks : ∀ x ∈ L, x.key.size ≤ 1000000 := fun x hx => by
    rw [← hL, (newest_perm g.nd).mem_iff] at hx
    obtain ⟨b, hb, h2⟩ := tRecs_bkR hx
    obtain ⟨s, y, hs, hy, _, rfl⟩ := bkR_get.1 h2
    have := (hw y (List.mem_of_getElem? hy)).2.2.2
    omega
  intro m
  induction m using Nat.strongRecOn with
  | _ m ih =>
    intro j hn hj
    unfold STO
    refine WC_loop ?_
    refine WC_seq ?_
    refine WC_seq ?_
    refine WC_region ?_
    iterate 2 refine WO_step rfl (S_pure rfl ?_)
    first | refine WO_step rfl (S_pure rfl ?_) | refine WO_step rfl (S_lenS rfl rdA ?_)
    refine WO_step rfl (S_pure rfl ?_)
    refine WO_nil ?_
    refine KSeq_n ?_
    refine WC_cond rfl (fun hb1 => ?_) (fun hb1 => ?_)
    ·
     try simp only [bsT] at hb1
     obtain ⟨x, hx⟩ := get_of_lt (show j < L.length by omega)
     have hxm := List.mem_of_getElem? hx
     have hxs := hks x hxm
     have hfx := fnd_self g (r := x) (by rw [hL]; exact hxm)
     have hnx := like_near g x.key
     rw [hL] at hnx
     refine WC_skip ?_
     refine KSeq_n ?_
     refine WC_seq ?_
     refine WC_block ?_
     refine WC_seq ?_
     refine WC_region ?_
     iterate 3 refine WO_step rfl (S_pure rfl ?_)
     refine WO_step rfl (S_idx rfl rfl rdA (by first | rfl | assumption | (symm; assumption)) (by rfl) (by first | assumption | omega | exact lt_of_get (by assumption) | (simp only [List.length_set]; first | assumption | omega | exact lt_of_get (by assumption))) fun hp48 => ?_)
     refine WO_step rfl (S_fldE rfl (by repeat (first | assumption | apply IsP.padd)) ?_)
     refine WO_step rfl (S_loadF rfl rdA (by rfl) (by assumption) (by rfl) (by rfl) ?_)
     refine WO_call rfl rfl rfl ?_
     refine (WF.weak (sp_hGet (H := SL u.toV TRec L :: H) (i := i) (i2 := i2) (wk := wk) (wr := wr) (wt := wt) (ts := ts) (k := x.key) hl (by omega)) (by unfold STO; exact hsA)).mono ?_
     rintro _ _ ⟨rfl, rfl⟩
     rw [hfx]
     unfold STO
     iterate 3 refine WO_step rfl (S_pure rfl ?_)
     refine WO_step rfl (S_newT TRec rec0 rfl rfl fun i9 => ?_)
     refine WO_step rfl (S_storeT (T := TRec) (y := x) rfl rfl pkA (by rfl) (by rfl) ?_)
     refine WO_step rfl (S_pure rfl ?_)
     refine WO_nil ?_
     refine KSeq_n ?_
     refine WC_seq ?_
     refine WC_drawn ?_
     refine WD_step rfl (S_pure rfl ?_)
     refine WD_step rfl (S_pure rfl ?_)
     refine WD_step rfl (S_pure rfl ?_)
     refine WD_cases (t := 56) rfl (fun hg1 => ?_) (fun hg1 => ?_)
     ·
      try simp only [bsT] at hg1
      refine WD_off rfl ?_
      refine WD_off rfl ?_
      refine WD_off rfl ?_
      refine WD_off rfl ?_
      refine WD_off rfl ?_
      refine WD_off rfl ?_
      refine WD_off rfl ?_
      refine WD_step rfl (S_pure rfl ?_)
      refine WD_step rfl (S_pure rfl ?_)
      refine WD_off rfl ?_
      refine WD_off rfl ?_
      refine WD_off rfl ?_
      refine WD_off rfl ?_
      refine WD_off rfl ?_
      refine WD_off rfl ?_
      refine WD_off rfl ?_
      refine WD_off rfl ?_
      refine WD_off rfl ?_
      refine WD_off rfl ?_
      refine WD_off rfl ?_
      refine WD_off rfl ?_
      refine WD_off rfl ?_
      refine WD_off rfl ?_
      refine WD_off rfl ?_
      refine WD_step rfl (S_pure rfl ?_)
      refine WD_nil ?_
      refine ⟨?_, ?_⟩
      ·
       repeat' (first | exact trivial | apply And.intro)
       all_goals first
         | exact ObR.off rfl
         | exact ObR.of_step rfl (S_loadF (x := x) rfl rdA (by rfl) hx (by rfl) (by rfl) (by simp [eqV, eqV0]))
      ·
       refine KSeq_n ?_
       refine WC_cond rfl (fun _ => ?_) (fun h => ?_)
       rotate_left
       · exact absurd h (by decide)
       refine WC_seq ?_
       refine WC_region ?_
       refine WO_step rfl (S_pure rfl ?_)
       refine WO_nil ?_
       refine KSeq_n ?_
       refine WC_ret ?_
       refine KBlock_r ?_
       refine KSeq_r ?_
       refine KLoop_r ?_
       exact absurd hg1 (by simp)
     ·
      try simp only [bsT] at hg1
      refine WD_step rfl (S_loadO rfl pkA (by rfl) (by rfl) ?_)
      refine WD_step rfl (S_pure rfl ?_)
      refine WD_step rfl (S_pure rfl ?_)
      refine WD_step rfl (S_idx rfl rfl rdA (by first | rfl | assumption | (symm; assumption)) (by rfl) (by first | assumption | omega | exact lt_of_get (by assumption) | (simp only [List.length_set]; first | assumption | omega | exact lt_of_get (by assumption))) fun hp60 => ?_)
      refine WD_step rfl (S_loadE rfl rdA (by first | rfl | assumption | (symm; assumption)) (by first | rfl | assumption | (symm; assumption)) (by first | rfl | assumption | (symm; assumption)) (by assumption) ?_)
      refine WD_call rfl rfl rfl ?_
      refine (sp_Eq (a := x) (b := x)).mono ?_
      rintro _ _ ⟨rfl, rfl⟩
      refine WD_step rfl (S_pure rfl ?_)
      refine WD_step rfl (S_pure rfl ?_)
      refine WD_step rfl (S_pure rfl ?_)
      refine WD_cases (t := 65) rfl (fun hg2 => ?_) (fun hg2 => ?_)
      ·
       try simp only [bsT] at hg2
       refine WD_off rfl ?_
       refine WD_off rfl ?_
       refine WD_off rfl ?_
       refine WD_off rfl ?_
       refine WD_off rfl ?_
       refine WD_off rfl ?_
       refine WD_off rfl ?_
       refine WD_off rfl ?_
       refine WD_off rfl ?_
       refine WD_off rfl ?_
       refine WD_off rfl ?_
       refine WD_off rfl ?_
       refine WD_off rfl ?_
       refine WD_off rfl ?_
       refine WD_off rfl ?_
       refine WD_step rfl (S_pure rfl ?_)
       refine WD_nil ?_
       refine ⟨?_, ?_⟩
       ·
        repeat' (first | exact trivial | apply And.intro)
        all_goals first
          | exact ObR.off rfl
          | exact ObR.of_step rfl (S_loadF (x := x) rfl rdA (by rfl) hx (by rfl) (by rfl) (by simp [eqV, eqV0]))
       ·
        refine KSeq_n ?_
        refine WC_cond rfl (fun _ => ?_) (fun h => ?_)
        rotate_left
        · exact absurd h (by decide)
        refine WC_seq ?_
        refine WC_region ?_
        refine WO_step rfl (S_pure rfl ?_)
        refine WO_nil ?_
        refine KSeq_n ?_
        refine WC_ret ?_
        refine KBlock_r ?_
        refine KSeq_r ?_
        refine KLoop_r ?_
        exact absurd trivial hg2
      ·
       try simp only [bsT] at hg2
       refine WD_step rfl (S_pure rfl ?_)
       refine WD_step rfl (S_pure rfl ?_)
       refine WD_step rfl (S_pure rfl ?_)
       refine WD_step rfl (S_idx rfl rfl rdA (by first | rfl | assumption | (symm; assumption)) (by rfl) (by first | assumption | omega | exact lt_of_get (by assumption) | (simp only [List.length_set]; first | assumption | omega | exact lt_of_get (by assumption))) fun hp69 => ?_)
       refine WD_step rfl (S_fldE rfl (by repeat (first | assumption | apply IsP.padd)) ?_)
       refine WD_step rfl (S_loadF rfl rdA (by rfl) (by assumption) (by rfl) (by rfl) ?_)
       refine WD_call rfl rfl rfl ?_
       refine (WF.weak (sp_hReads (H := OB i9 TRec x :: SL u.toV TRec L :: H) (i := i) (i2 := i2) (wk := wk) (wr := wr) (wt := wt) (ts := ts) (k := x.key) hl (by omega)) (by unfold STO; exact hsA)).mono ?_
       rintro _ _ ⟨rfl, rfl⟩
       rw [hnx]
       unfold STO
       refine WD_step rfl (S_pure rfl ?_)
       refine WD_step rfl (S_pure rfl ?_)
       refine WD_step rfl (S_pure rfl ?_)
       refine WD_step rfl (S_idx rfl rfl rdA (by first | rfl | assumption | (symm; assumption)) (by rfl) (by first | assumption | omega | exact lt_of_get (by assumption) | (simp only [List.length_set]; first | assumption | omega | exact lt_of_get (by assumption))) fun hp76 => ?_)
       refine WD_step rfl (S_fldE rfl (by repeat (first | assumption | apply IsP.padd)) ?_)
       refine WD_step rfl (S_loadF rfl rdA (by rfl) (by assumption) (by rfl) (by rfl) ?_)
       refine WD_call rfl rfl rfl ?_
       refine (sp_rRd (l := L) (k := x.key) rdA (by omega) hks (by omega)).mono ?_
       rintro _ _ ⟨rfl, rfl⟩
       first | refine WD_step rfl (S_neS rfl rfl ?_) | refine WD_step rfl (S_pure rfl ?_)
       refine WD_step rfl (S_pure rfl ?_)
       refine WD_nil ?_
       refine ⟨?_, ?_⟩
       ·
        repeat' (first | exact trivial | apply And.intro)
        all_goals first
          | exact ObR.off rfl
          | exact ObR.of_step rfl (S_loadF (x := x) rfl rdA (by rfl) hx (by rfl) (by rfl) (by simp [eqV, eqV0]))
       ·
        refine KSeq_n ?_
        refine WC_cond rfl (fun hb2 => ?_) (fun hb2 => ?_)
        ·
         try simp only [bsT] at hb2
         refine WC_seq ?_
         refine WC_region ?_
         refine WO_step rfl (S_pure rfl ?_)
         refine WO_nil ?_
         refine KSeq_n ?_
         refine WC_ret ?_
         refine KBlock_r ?_
         refine KSeq_r ?_
         refine KLoop_r ?_
         exact absurd hb2 (by simp)
        ·
         try simp only [bsT] at hb2
         refine WC_skip ?_
         refine KBlock_n ?_
         refine KSeq_n ?_
         refine WC_region ?_
         refine WO_step rfl (S_pure rfl ?_)
         first | refine WO_step rfl (S_addN (b := 1) rfl rfl (by omega) ?_) | refine WO_step rfl (S_pure rfl ?_)
         refine WO_step rfl (S_pure rfl ?_)
         refine WO_nil ?_
         refine KLoop_n ?_
         exact WC_weak (ih (L.length - (j + 1)) (by omega) (j + 1) rfl (by omega)) seA (by unfold STO; exact hsA)
    ·
     try simp only [bsT] at hb1
     refine WC_exit ?_
     refine KSeq_x ?_
     refine KLoop_x ?_
     exact KPost_i (H' := STO i ts i2 wk wr wt (SL u.toV TRec L :: H)) seA (by unfold STO; exact hsA) ⟨rfl, rfl, rfl⟩
theorem sp_right {H : SH} {W : List SlT} {i i2 : Nat} {wk wr wt : SV} {k : ByteArray} (g : GoodT W) (hk : k.size ≤ 1000) : WF F X f_loesslaw20_right [.pointer (some ⟨i, 0, none⟩), tabV W, .string k] (STO i W i2 wk wr wt H) (fun r H' => H' = STO i W i2 wk wr wt H ∧ r = .bool true) := by
  have hl := g.1
  have hw := g.2.1
  have hm := g.2.2
  have hel := encT_len hl hw hm
  have hnl := newest_tlen g
  have htl := rk_tRecs W 32
  have hrl := rk_le W 32
  obtain ⟨L, hL⟩ : ∃ L, newest (tRecs W 32) = L := ⟨_, rfl⟩
  rw [hL] at hnl
  unfold STO
  refine WF_fn F_loesslaw20_right ?_
  refine WC_seq ?_
  refine WC_region ?_
  refine WO_step rfl (S_boxA (T := TSlT) (xs := W) rfl fun i4 => ?_)
  refine WO_step rfl (S_pure rfl ?_)
  refine WO_nil ?_
  refine KSeq_n ?_
  refine WC_seq ?_
  refine WC_region ?_
  refine WO_step rfl (S_loadAll (T := TSlT) (xs := W) rfl pkA (by rw [hl]; rfl) ?_)
  refine WO_call rfl rfl rfl ?_
  refine (sp_Records hl).mono ?_
  rintro _ _ ⟨u, rfl, rfl⟩
  rw [hL]
  refine WO_step rfl (S_pure rfl ?_)
  refine WO_nil ?_
  refine KSeq_n ?_
  refine WC_seq ?_
  refine WC_seq ?_
  refine WC_drawn ?_
  refine WD_step rfl (S_pure rfl ?_)
  refine WD_call rfl rfl rfl ?_
  refine (WF.weak (sp_hLen (H := SL u.toV TRec L :: AO i4 33 TSlT W :: H) (i := i) (i2 := i2) (wk := wk) (wr := wr) (wt := wt) (ts := W) hl) (by unfold STO; exact hsA)).mono ?_
  rintro _ _ ⟨rfl, rfl⟩
  rw [← hnl]
  unfold STO
  refine WD_step rfl (S_pure rfl ?_)
  first | refine WD_step rfl (S_pure rfl ?_) | refine WD_step rfl (S_lenS rfl rdA ?_)
  first | refine WD_step rfl (S_neS rfl rfl ?_) | refine WD_step rfl (S_pure rfl ?_)
  refine WD_step rfl (S_pure rfl ?_)
  refine WD_cases (t := 22) rfl (fun hg1 => ?_) (fun hg1 => ?_)
  ·
   try simp only [bsT] at hg1
   refine WD_off rfl ?_
   refine WD_off rfl ?_
   refine WD_off rfl ?_
   refine WD_off rfl ?_
   refine WD_off rfl ?_
   refine WD_step rfl (S_pure rfl ?_)
   refine WD_step rfl (S_pure rfl ?_)
   refine WD_off rfl ?_
   refine WD_off rfl ?_
   refine WD_off rfl ?_
   refine WD_off rfl ?_
   refine WD_off rfl ?_
   refine WD_off rfl ?_
   refine WD_off rfl ?_
   refine WD_step rfl (S_pure rfl ?_)
   refine WD_nil ?_
   refine ⟨?_, ?_⟩
   ·
    repeat' (first | exact trivial | apply And.intro)
    all_goals first
      | exact ObR.off rfl
      | exact ObR.of_step rfl (S_strOf rfl rdA (by rfl) (by rfl) (by simp [eqV, eqV0]))
      | exact ObR.of_step rfl (S_loadAll (T := TSlT) (xs := W) rfl pkA (by rw [hl]; rfl) (eqV_tab _))
   ·
    refine KSeq_n ?_
    refine WC_cond rfl (fun _ => ?_) (fun h => ?_)
    rotate_left
    · exact absurd h (by decide)
    refine WC_seq ?_
    refine WC_region ?_
    refine WO_step rfl (S_pure rfl ?_)
    refine WO_nil ?_
    refine KSeq_n ?_
    refine WC_ret ?_
    refine KSeq_r ?_
    refine KFn_r (ResL.tmp rfl ResL.nil) ?_
    exact absurd trivial hg1
  ·
   try simp only [bsT] at hg1
   refine WD_step rfl (S_pure rfl ?_)
   refine WD_call rfl rfl rfl ?_
   refine (WF.weak (sp_hList (H := SL u.toV TRec L :: AO i4 33 TSlT W :: H) (i := i) (i2 := i2) (wk := wk) (wr := wr) (wt := wt) (ts := W) hl hw.small) (by unfold STO; exact hsA)).mono ?_
   rintro _ _ ⟨u24, rfl, rfl⟩
   rw [hL]
   unfold STO
   refine WD_step rfl (S_pure rfl ?_)
   refine WD_call rfl rfl rfl ?_
   refine (sp_EqRecs (l := L) (m := L) rdA rdA (by omega)).mono ?_
   rintro _ _ ⟨rfl, rfl⟩
   refine WD_step rfl (S_pure rfl ?_)
   refine WD_step rfl (S_pure rfl ?_)
   refine WD_step rfl (S_pure rfl ?_)
   refine WD_cases (t := 29) rfl (fun hg2 => ?_) (fun hg2 => ?_)
   ·
    try simp only [bsT] at hg2
    refine WD_off rfl ?_
    refine WD_off rfl ?_
    refine WD_off rfl ?_
    refine WD_off rfl ?_
    refine WD_off rfl ?_
    refine WD_off rfl ?_
    refine WD_off rfl ?_
    refine WD_step rfl (S_pure rfl ?_)
    refine WD_nil ?_
    refine ⟨?_, ?_⟩
    ·
     repeat' (first | exact trivial | apply And.intro)
     all_goals first
       | exact ObR.off rfl
       | exact ObR.of_step rfl (S_strOf rfl rdA (by rfl) (by rfl) (by simp [eqV, eqV0]))
       | exact ObR.of_step rfl (S_loadAll (T := TSlT) (xs := W) rfl pkA (by rw [hl]; rfl) (eqV_tab _))
    ·
     refine KSeq_n ?_
     refine WC_cond rfl (fun _ => ?_) (fun h => ?_)
     rotate_left
     · exact absurd h (by decide)
     refine WC_seq ?_
     refine WC_region ?_
     refine WO_step rfl (S_pure rfl ?_)
     refine WO_nil ?_
     refine KSeq_n ?_
     refine WC_ret ?_
     refine KSeq_r ?_
     refine KFn_r (ResL.tmp rfl ResL.nil) ?_
     exact absurd trivial hg2
   ·
    try simp only [bsT] at hg2
    refine WD_step rfl (S_pure rfl ?_)
    refine WD_call rfl rfl rfl ?_
    refine (WF.weak (sp_hBytes (H := SL u.toV TRec L :: AO i4 33 TSlT W :: H) (i := i) (i2 := i2) (wk := wk) (wr := wr) (wt := wt) (ts := W) g) (by unfold STO; exact hsA)).mono ?_
    rintro _ _ ⟨u31, rfl, rfl⟩
    unfold STO
    refine WD_step rfl (S_strOf rfl rdA (by rfl) (by rfl) ?_)
    refine WD_step rfl (S_loadAll (T := TSlT) (xs := W) rfl pkA (by rw [hl]; rfl) ?_)
    refine WD_call rfl rfl rfl ?_
    refine (sp_TB hl hw).mono ?_
    rintro _ _ ⟨w34, rfl, _, rfl⟩
    rw [if_pos hm]
    refine WD_step rfl (S_strOf rfl rdA (by rfl) (by rfl) ?_)
    first | refine WD_step rfl (S_neS rfl rfl ?_) | refine WD_step rfl (S_pure rfl ?_)
    refine WD_step rfl (S_pure rfl ?_)
    refine WD_nil ?_
    refine ⟨?_, ?_⟩
    ·
     repeat' (first | exact trivial | apply And.intro)
     all_goals first
       | exact ObR.off rfl
       | exact ObR.of_step rfl (S_strOf rfl rdA (by rfl) (by rfl) (by simp [eqV, eqV0]))
       | exact ObR.of_step rfl (S_loadAll (T := TSlT) (xs := W) rfl pkA (by rw [hl]; rfl) (eqV_tab _))
    ·
     refine KSeq_n ?_
     refine WC_cond rfl (fun hb1 => ?_) (fun hb1 => ?_)
     ·
      try simp only [bsT] at hb1
      refine WC_seq ?_
      refine WC_region ?_
      refine WO_step rfl (S_pure rfl ?_)
      refine WO_nil ?_
      refine KSeq_n ?_
      refine WC_ret ?_
      refine KSeq_r ?_
      refine KFn_r (ResL.tmp rfl ResL.nil) ?_
      exact absurd hb1 (by simp)
     ·
      try simp only [bsT] at hb1
      refine WC_skip ?_
      refine KSeq_n ?_
      refine WC_seq ?_
      refine WC_seq ?_
      refine WC_region ?_
      refine WO_step rfl (S_pure rfl ?_)
      refine WO_nil ?_
      refine KSeq_n ?_
      refine WC_block ?_
      --out x0
      refine WC_post (WC_weak (lp_right (H := H) (ts := W) (L := L) (i := i) (i2 := i2) (wk := wk) (wr := wr) (wt := wt) (u := u) (k := k) g hL L.length 0 (by omega) (by omega)) seA (by unfold STO; exact hsA)) ?_
      rintro y l' _ ⟨rfl, rfl, rfl⟩
      unfold STO
      refine KBlock_h ?_
      refine KSeq_n ?_
      refine WC_seq ?_
      refine WC_region ?_
      iterate 2 refine WO_step rfl (S_pure rfl ?_)
      refine WO_call rfl rfl rfl ?_
      refine (WF.weak (sp_hGet (H := SL u.toV TRec L :: H) (i := i) (i2 := i2) (wk := wk) (wr := wr) (wt := wt) (ts := W) (k := k) hl (by omega)) (by unfold STO; exact hsA)).mono ?_
      rintro _ _ ⟨rfl, rfl⟩
      rw [fnd_like g, hL]
      unfold STO
      obtain ⟨fo, hfo⟩ : ∃ fo, fnd L k = fo := ⟨_, rfl⟩
      rw [hfo]
      iterate 3 refine WO_step rfl (S_pure rfl ?_)
      refine WO_step rfl (S_newT TRec rec0 rfl rfl fun i11 => ?_)
      refine WO_step rfl (S_storeT (T := TRec) (y := fo.getD rec0) rfl rfl pkA (by rfl) (by rfl) ?_)
      refine WO_step rfl (S_pure rfl ?_)
      refine WO_nil ?_
      refine KSeq_n ?_
      refine WC_seq ?_
      refine WC_region ?_
      iterate 2 refine WO_step rfl (S_pure rfl ?_)
      refine WO_call rfl rfl rfl ?_
      refine (sp_Find (l := L) (k := k) rdA (by omega)).mono ?_
      rintro _ _ ⟨rfl, rfl⟩
      rw [hfo]
      iterate 3 refine WO_step rfl (S_pure rfl ?_)
      refine WO_step rfl (S_newT TRec rec0 rfl rfl fun i13 => ?_)
      refine WO_step rfl (S_storeT (T := TRec) (y := fo.getD rec0) rfl rfl pkA (by rfl) (by rfl) ?_)
      refine WO_step rfl (S_pure rfl ?_)
      refine WO_nil ?_
      refine KSeq_n ?_
      refine WC_seq ?_
      refine WC_region ?_
      iterate 4 refine WO_step rfl (S_pure rfl ?_)
      refine WO_cases (t := 97) rfl (fun hg3 => ?_) (fun hg3 => ?_)
      ·
       try simp only [bsT] at hg3
       refine WO_step rfl (S_loadO rfl pkA (by rfl) (by rfl) ?_)
       refine WO_step rfl (S_loadO rfl pkA (by rfl) (by rfl) ?_)
       refine WO_call rfl rfl rfl ?_
       refine (sp_Eq (a := fo.getD rec0) (b := fo.getD rec0)).mono ?_
       rintro _ _ ⟨rfl, rfl⟩
       iterate 2 refine WO_step rfl (S_pure rfl ?_)
       refine WO_cases (t := 102) rfl (fun hg4 => ?_) (fun hg4 => ?_)
       ·
        try simp only [bsT] at hg4
        iterate 2 refine WO_step rfl (S_pure rfl ?_)
        refine WO_call rfl rfl rfl ?_
        refine (WF.weak (sp_hReads (H := SL u.toV TRec L :: H) (i := i) (i2 := i2) (wk := wk) (wr := wr) (wt := wt) (ts := W) (k := k) hl (by omega)) (by unfold STO; exact hsA)).mono ?_
        rintro _ _ ⟨rfl, rfl⟩
        rw [like_near g, hL]
        unfold STO
        iterate 2 refine WO_step rfl (S_pure rfl ?_)
        refine WO_call rfl rfl rfl ?_
        have hks : ∀ x ∈ L, x.key.size ≤ 1000000 := fun x hx => by
          rw [← hL, (newest_perm g.nd).mem_iff] at hx
          obtain ⟨b, hb, h2⟩ := tRecs_bkR hx
          obtain ⟨s, y, hs, hy, _, rfl⟩ := bkR_get.1 h2
          have := (hw y (List.mem_of_getElem? hy)).2.2.2
          omega
        refine (sp_rRd (l := L) (k := k) rdA (by omega) hks (by omega)).mono ?_
        rintro _ _ ⟨rfl, rfl⟩
        first | refine WO_step rfl (S_eqS rfl rfl ?_) | refine WO_step rfl (S_pure rfl ?_)
        iterate 2 refine WO_step rfl (S_pure rfl ?_)
        refine WO_nil ?_
        refine KSeq_n ?_
        refine WC_ret ?_
        refine KFn_r (ResL.tmp rfl ResL.nil) ?_
        exact ⟨STO i W i2 wk wr wt H, (by unfold STO; exact hsA), rfl, by simp [resV]⟩
       ·
        try simp only [bsT] at hg4
        iterate 7 refine WO_off rfl ?_
        iterate 2 refine WO_step rfl (S_pure rfl ?_)
        refine WO_nil ?_
        refine KSeq_n ?_
        refine WC_ret ?_
        refine KFn_r (ResL.tmp rfl ResL.nil) ?_
        exfalso
        first
          | exact hg4 trivial
          | exact hg4 rfl
          | exact hg3 trivial
          | exact hg3 rfl
          | exact absurd hg4 (by simp)
          | exact absurd hg3 (by simp)
      ·
       try simp only [bsT] at hg3
       iterate 3 refine WO_off rfl ?_
       iterate 2 refine WO_step rfl (S_pure rfl ?_)
       iterate 7 refine WO_off rfl ?_
       iterate 2 refine WO_step rfl (S_pure rfl ?_)
       refine WO_nil ?_
       refine KSeq_n ?_
       refine WC_ret ?_
       refine KFn_r (ResL.tmp rfl ResL.nil) ?_
       exfalso
       first
         | exact hg4 trivial
         | exact hg4 rfl
         | exact hg3 trivial
         | exact hg3 rfl
         | exact absurd hg4 (by simp)
         | exact absurd hg3 (by simp)
/-! ### The law TableAll -/
theorem sp_Cut3' {H : SH} {s : ByteArray} {n : Nat} : WF F X f_loesslaw3_Cut [.string s, .int .i64 n] H (fun r H' => H' = H ∧ r = .string (cut s n)) := by
  refine WF_fn F_loesslaw3_Cut ?_
  refine WC_seq ?_
  refine WC_region ?_
  refine WO_step rfl (S_pure rfl ?_)
  refine WO_nil ?_
  refine KSeq_n ?_
  refine WC_seq ?_
  refine WC_seq ?_
  refine WC_region ?_
  iterate 4 refine WO_step rfl (S_pure rfl ?_)
  refine WO_nil ?_
  refine KSeq_n ?_
  refine WC_cond rfl (fun hb1 => ?_) (fun hb1 => ?_)
  ·
   try simp only [bsT] at hb1
   refine WC_seq ?_
   refine WC_region ?_
   iterate 2 refine WO_step rfl (S_pure rfl ?_)
   refine WO_step rfl (S_cutS rfl LB.dflt (LB.mk rfl rfl) ?_ ?_ ?_)
   · omega
   · omega
   refine WO_step rfl (S_pure rfl ?_)
   refine WO_nil ?_
   refine KSeq_n ?_
   refine WC_ret ?_
   refine KSeq_r ?_
   refine KFn_r (ResL.tmp rfl ResL.nil) ?_
   refine ⟨_, hsA, rfl, ?_⟩
   simp [resV, cut, hb1]
  ·
   try simp only [bsT] at hb1
   refine WC_skip ?_
   refine KSeq_n ?_
   refine WC_seq ?_
   refine WC_region ?_
   iterate 2 refine WO_step rfl (S_pure rfl ?_)
   refine WO_nil ?_
   refine KSeq_n ?_
   refine WC_ret ?_
   refine KFn_r (ResL.tmp rfl ResL.nil) ?_
   refine ⟨_, hsA, rfl, ?_⟩
   simp [resV, cut, hb1]
theorem law_TableAll {H : SH} {v0 v1 : Value} {l : List Rec} {turn : List Bool} {a : ByteArray} (hv : RD H v0 TRec l) (hok : ∀ x ∈ l, okRec x) (ht : RD H v1 TBool turn) (_ : ∀ x ∈ turn, True) (_ : a.size ≤ maxLen) : WF F X f_loesslaw20_TableAll [v0, v1, .string a] H (fun v _ => v = .bool true) := by
  have g0 : GoodT (lay l turn) := lay_good (fun x hx => wf_cut (hok x hx)) turn
  generalize hW : lay l turn = W at g0
  have hl := g0.1
  have hw := g0.2.1
  have hm := g0.2.2
  have hcs := cut_size a 20
  have hel := encT_len hl hw hm
  refine WF_fn F_loesslaw20_TableAll ?_
  refine WC_seq ?_
  refine WC_region ?_
  refine WO_step rfl (S_pure rfl ?_)
  refine WO_nil ?_
  refine KSeq_n ?_
  refine WC_seq ?_
  refine WC_region ?_
  refine WO_call rfl rfl rfl ?_
  refine sp_begunH.mono ?_
  rintro _ _ ⟨rfl, rfl⟩
  refine WO_step rfl (S_pure rfl ?_)
  refine WO_nil ?_
  refine KSeq_n ?_
  refine WC_seq ?_
  refine WC_seq ?_
  refine WC_region ?_
  iterate 2 refine WO_step rfl (S_pure rfl ?_)
  refine WO_nil ?_
  refine KSeq_n ?_
  refine WC_cond rfl (fun hb1 => ?_) (fun hb1 => ?_)
  ·
   try simp only [bsT] at hb1
   exact absurd hb1 (by simp)
   --stop
  ·
   try simp only [bsT] at hb1
   refine WC_skip ?_
   refine KSeq_n ?_
   refine WC_seq ?_
   refine WC_region ?_
   iterate 2 refine WO_step rfl (S_pure rfl ?_)
   refine WO_call rfl rfl rfl ?_
   refine (sp_Lay hv ht).mono ?_
   rintro _ _ ⟨rfl, rfl⟩
   rw [hW]
   refine WO_step rfl (S_pure rfl ?_)
   refine WO_call rfl rfl rfl ?_
   refine sp_Cut3'.mono ?_
   rintro _ H3 ⟨rfl, rfl⟩
   generalize cut a 20 = k at hcs ⊢
   refine WO_step rfl (S_new fun i8 => ?_)
   refine WO_step rfl (S_storeAll (T := TSlT) (xs := W) rfl rfl pkA (by rfl) (by rw [hl]; rfl) ?_)
   refine WO_step rfl (S_pure rfl ?_)
   refine WO_nil ?_
   refine KSeq_n ?_
   refine WC_seq ?_
   refine WC_region ?_
   refine WO_step rfl (S_loadAll (T := TSlT) (xs := W) rfl pkA (by rw [hl]; rfl) ?_)
   refine WO_call rfl rfl rfl ?_
   refine (sp_OfT hl).mono ?_
   rintro _ _ ⟨rfl, rfl⟩
   refine WO_call rfl rfl rfl ?_
   refine (sp_hNewOk (ts := W) hl hw hm).mono ?_
   rintro _ _ ⟨i, i2, wk, wr, wt, rfl, rfl⟩
   unfold STO
   iterate 5 refine WO_step rfl (S_pure rfl ?_)
   refine WO_nil ?_
   refine KSeq_n ?_
   refine WC_seq ?_
   refine WC_seq ?_
   refine WC_region ?_
   refine WO_step rfl (S_pure rfl ?_)
   first | refine WO_step rfl (S_neS rfl rfl ?_) | refine WO_step rfl (S_pure rfl ?_)
   refine WO_step rfl (S_pure rfl ?_)
   refine WO_cases (t := 28) rfl (fun hg1 => ?_) (fun hg1 => ?_)
   ·
    try simp only [bsT] at hg1
    iterate 5 refine WO_off rfl ?_
    refine WO_step rfl (S_pure rfl ?_)
    refine WO_nil ?_
    refine KSeq_n ?_
    refine WC_cond rfl (fun _ => ?_) (fun h => ?_)
    rotate_left
    · exact absurd h (by decide)
    refine WC_seq ?_
    refine WC_region ?_
    refine WO_step rfl (S_pure rfl ?_)
    refine WO_nil ?_
    refine KSeq_n ?_
    refine WC_ret ?_
    refine KSeq_r ?_
    refine KFn_r (ResL.tmp rfl ResL.nil) ?_
    exact absurd trivial hg1
   ·
    try simp only [bsT] at hg1
    refine WO_step rfl (S_pure rfl ?_)
    refine WO_step rfl (S_loadAll (T := TSlT) (xs := W) rfl pkA (by rw [hl]; rfl) ?_)
    refine WO_step rfl (S_pure rfl ?_)
    refine WO_call rfl rfl rfl ?_
    refine (WF.weak (sp_right (H := AO i8 33 TSlT W :: H3) (i := i) (i2 := i2) (wk := wk) (wr := wr) (wt := wt) (k := k) g0 (by omega)) (by unfold STO; exact hsA)).mono ?_
    rintro _ _ ⟨rfl, rfl⟩
    unfold STO
    iterate 2 refine WO_step rfl (S_pure rfl ?_)
    refine WO_nil ?_
    refine KSeq_n ?_
    refine WC_cond rfl (fun hb2 => ?_) (fun hb2 => ?_)
    ·
     try simp only [bsT] at hb2
     refine WC_seq ?_
     refine WC_region ?_
     refine WO_step rfl (S_pure rfl ?_)
     refine WO_nil ?_
     refine KSeq_n ?_
     refine WC_ret ?_
     refine KSeq_r ?_
     refine KFn_r (ResL.tmp rfl ResL.nil) ?_
     exact absurd hb2 (by simp)
    ·
     try simp only [bsT] at hb2
     refine WC_skip ?_
     refine KSeq_n ?_
     refine WC_seq ?_
     refine WC_region ?_
     refine WO_step rfl (S_pure rfl ?_)
     refine WO_call rfl rfl rfl ?_
     refine (WF.weak (sp_hBytes (H := AO i8 33 TSlT W :: H3) (i := i) (i2 := i2) (wk := wk) (wr := wr) (wt := wt) (ts := W) g0) (by unfold STO; exact hsA)).mono ?_
     rintro _ _ ⟨u, rfl, rfl⟩
     unfold STO
     refine WO_call rfl rfl rfl ?_
     refine (sp_hOpenOk g0 rdA).mono ?_
     rintro _ _ ⟨i', i2', wk', wr', wt', rfl, rfl⟩
     unfold STO
     iterate 5 refine WO_step rfl (S_pure rfl ?_)
     refine WO_nil ?_
     refine KSeq_n ?_
     refine WC_seq ?_
     refine WC_region ?_
     refine WO_step rfl (S_pure rfl ?_)
     first | refine WO_step rfl (S_eqS rfl rfl ?_) | refine WO_step rfl (S_pure rfl ?_)
     refine WO_step rfl (S_pure rfl ?_)
     refine WO_cases (t := 43) rfl (fun hg2 => ?_) (fun hg2 => ?_)
     ·
      try simp only [bsT] at hg2
      refine WO_step rfl (S_pure rfl ?_)
      refine WO_step rfl (S_loadAll (T := TSlT) (xs := W) rfl pkA (by rw [hl]; rfl) ?_)
      refine WO_step rfl (S_pure rfl ?_)
      refine WO_call rfl rfl rfl ?_
      refine (WF.weak (sp_right (H := AO i8 33 TSlT W :: H3) (i := i') (i2 := i2') (wk := wk') (wr := wr') (wt := wt') (k := k) g0 (by omega)) (by unfold STO; exact hsA)).mono ?_
      rintro _ _ ⟨rfl, rfl⟩
      iterate 2 refine WO_step rfl (S_pure rfl ?_)
      refine WO_nil ?_
      refine KSeq_n ?_
      refine WC_ret ?_
      refine KFn_r (ResL.tmp rfl ResL.nil) ?_
      exact ⟨_, HSub.refl, by simp [resV]⟩
     ·
      try simp only [bsT] at hg2
      iterate 4 refine WO_off rfl ?_
      iterate 2 refine WO_step rfl (S_pure rfl ?_)
      refine WO_nil ?_
      refine KSeq_n ?_
      refine WC_ret ?_
      refine KFn_r (ResL.tmp rfl ResL.nil) ?_
      exact absurd trivial hg2

end Go.Proofs.YtpnmeednimpjdaaGreat.AM
