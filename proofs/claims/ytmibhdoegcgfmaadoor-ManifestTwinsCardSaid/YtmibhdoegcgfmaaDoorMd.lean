/- Walks: what the functions compute. -/
import Derived.Test.YtmibhdoegcgfmaaDoorMu
import Derived.KernelRfl
namespace Go.Proofs.YtmibhdoegcgfmaaDoor.AM
open Go
set_option linter.unusedSimpArgs false
set_option linter.unusedVariables false
set_option maxRecDepth 4000

/-! ### Manifests from bytes -/
theorem getR_pos : ∀ (L : List UInt8) (i u : Nat) (n : Int) (k : Nat), getR L i u = (n, k, 0) → i + 1 ≤ k
  | [], i, u, n, k, h => by simp [getR] at h
  | c :: L, i, u, n, k, h => by
    unfold getR at h
    split at h
    · simp at h
    · split at h
      · simp at h; omega
      · have := getR_pos L (i + 1) _ n k h; omega
theorem get_pos {bs : List UInt8} {n : Int} {k : Nat} (h : get bs = (n, k, 0)) : 1 ≤ k := by
  have := getR_pos bs 0 0 n k h; omega
/-- What was read so far of numbers one behind the other. -/
def InvN (bs : List UInt8) (a : Nat) (l : List Int) : Prop := ∀ L : List Int, (∀ x ∈ L, i64r x) → bs = L.flatMap put → l = L.take l.length ∧ bs.drop a = (L.drop l.length).flatMap put
theorem InvN.nil (bs : List UInt8) : InvN bs 0 [] := fun L _ h => ⟨by simp, by simpa using h⟩
theorem InvN.bad {bs : List UInt8} {a : Nat} {l : List Int} (h : InvN bs a l) (ha : a < bs.length) {n : Int} {k e : Nat} (hg : get (bs.drop a) = (n, k, e)) (he : e ≠ 0) : ∀ L : List Int, (∀ x ∈ L, i64r x) → bs ≠ L.flatMap put := fun L hL hb => by
  obtain ⟨h1, h2⟩ := h L hL hb
  cases hd : L.drop l.length with
  | nil =>
    rw [hd] at h2
    have := congrArg List.length h2
    rw [List.length_drop] at this
    simp at this; omega
  | cons x R =>
    have hx : x ∈ L := List.mem_of_mem_drop (i := l.length) (by rw [hd]; simp)
    rw [hd, List.flatMap_cons] at h2
    rw [h2, get_put (hL x hx).1 (hL x hx).2] at hg
    have := congrArg (·.2.2) hg
    exact he this.symm
theorem InvN.step {bs : List UInt8} {a : Nat} {l : List Int} (h : InvN bs a l) (ha : a < bs.length) {n : Int} {k : Nat} (hg : get (bs.drop a) = (n, k, 0)) : InvN bs (a + k) (l ++ [n]) := fun L hL hb => by
  obtain ⟨h1, h2⟩ := h L hL hb
  cases hd : L.drop l.length with
  | nil =>
    rw [hd] at h2
    have := congrArg List.length h2
    rw [List.length_drop] at this
    simp at this; omega
  | cons x R =>
    have hx : x ∈ L := List.mem_of_mem_drop (i := l.length) (by rw [hd]; simp)
    have hgx : L[l.length]? = some x := by
      have := congrArg (fun q : List Int => q[0]?) hd
      simpa using this
    rw [hd, List.flatMap_cons] at h2
    rw [h2, get_put (hL x hx).1 (hL x hx).2] at hg
    simp only [Prod.mk.injEq, and_true] at hg
    obtain ⟨rfl, rfl⟩ := hg
    refine ⟨?_, ?_⟩
    · rw [List.length_append, List.length_singleton, List.take_add_one, hgx, ← h1]; rfl
    · rw [← List.drop_drop, h2, List.drop_left, List.length_append, List.length_singleton, ← List.drop_drop, hd]; rfl
theorem InvN.done {bs : List UInt8} {a : Nat} {l : List Int} (h : InvN bs a l) (ha : bs.length ≤ a) : ∀ L : List Int, (∀ x ∈ L, i64r x) → bs = L.flatMap put → l = L := fun L hL hb => by
  obtain ⟨h1, h2⟩ := h L hL hb
  cases hd : L.drop l.length with
  | nil => rw [h1]; rw [List.drop_eq_nil_iff] at hd; rw [← h1]; rw [List.take_of_length_le hd] at h1; exact h1
  | cons x R =>
    rw [hd, List.drop_of_length_le ha, List.flatMap_cons] at h2
    have := congrArg List.length h2
    have h3 := put_pos x
    rw [List.length_append] at this
    simp at this; omega
theorem nums_cons {n f s c n2 f2 s2 : Int} {xs ys : List Int} (h : n :: f :: s :: c :: xs = numsM n2 f2 s2 ys) : n = n2 ∧ f = f2 ∧ s = s2 ∧ xs = ys := by
  simp only [numsM, List.cons_append, List.nil_append, List.cons.injEq] at h
  exact ⟨h.1, h.2.1, h.2.2.1, h.2.2.2.2⟩
theorem WO_no {os : List RO} {l : SE} {H : SH} {Q : SE → SH → Prop} (h : ∀ a, HAg H a → False) : WO F X os l H Q := fun e a hA hH => absurd hH (h a)
theorem WD_no {os : List RO} {l : SE} {H : SH} {Q : List STr → SE → SH → Prop} (h : ∀ a, HAg H a → False) : WD F X os l H Q := fun e a hA hH => absurd hH (h a)
theorem HAg.nilSL {α : Type} {T : Ty α} {H : SH} {xs : List α} {a : AH} (h : HAg (SL (SV.toV .nil) T xs :: H) a) : xs = [] := by
  have hw : Window a false T.t (SV.toV .nil) T.es xs.length (T.cells xs) := h.1 _ (List.mem_cons_self ..)
  rcases hw.2 with ⟨_, h0⟩ | ⟨i, o, c, e, _⟩
  · exact List.length_eq_zero_iff.1 h0
  · cases e
theorem S_storeM {l : SE} {H H0 : SH} {K : Value → SH → Prop} {i : Nat} {a x : Opd} {t : TypeId} {c : List Value} {n f s : Int} {h : SV} (ha : a.lv l = some (.pointer (some ⟨i, 0, none⟩))) (hx : x.lv l = some (mfV n f s h)) (hp : Pick (.obj i (.row false t c)) H H0) (hc : c.length = 4)
    (k : K undef (MO i t n f s h :: H0)) : Step (.store 4 a x) l H K := by
  refine S_storeO ha hx hp rfl (by rw [hc]; rfl) (by cases h <;> rfl) ?_
  rw [splice_all (by rw [hc]; rfl)]
  exact k
theorem S_loadM {l : SE} {H H0 : SH} {K : Value → SH → Prop} {i : Nat} {a : Opd} {t : TypeId} {n f s : Int} {h : SV} (ha : a.lv l = some (.pointer (some ⟨i, 0, none⟩))) (hp : Pick (MO i t n f s h) H H0) (k : K (mfV n f s h) H) : Step (.load true 4 a) l H K :=
  S_loadO ha hp (by rfl) (by cases h <;> rfl) k
theorem eqV_mf {n f s : Int} {h : SV} : eqV (mfV n f s h) (mfV n f s h) = true := by cases h <;> simp [eqV, eqVs, eqV0, SV.toV]
theorem sp_BEq {H : SH} {v w : Value} {xs ys : List UInt8} (hv : RD H v TByte xs) (hw : RD H w TByte ys) : WF F X f_bytes_Equal [v, w] H (fun r H' => H' = H ∧ r = .bool (decide (xs = ys))) := by
  refine WF_fn F_bytes_Equal ?_
  refine WC_seq ?_
  refine WC_region ?_
  refine WO_step rfl (S_pure rfl ?_)
  refine WO_nil ?_
  refine KSeq_n ?_
  refine WC_seq ?_
  refine WC_region ?_
  refine WO_step rfl (S_pure rfl ?_)
  refine WO_step rfl (S_strOf rfl (by repeat (first | assumption | exact RD.head | exact RD.nil | apply RD.tail)) (by rfl) (by rfl) ?_)
  refine WO_step rfl (S_pure rfl ?_)
  refine WO_step rfl (S_strOf rfl (by repeat (first | assumption | exact RD.head | exact RD.nil | apply RD.tail)) (by rfl) (by rfl) ?_)
  first | refine WO_step rfl (S_eqS rfl rfl ?_) | refine WO_step rfl (S_pure rfl ?_)
  refine WO_step rfl (S_pure rfl ?_)
  refine WO_nil ?_
  refine KSeq_n ?_
  refine WC_ret ?_
  refine KFn_r (ResL.tmp rfl ResL.nil) ?_
  refine ⟨_, HSub.refl, rfl, ?_⟩
  simp only [resV]
  congr 1
  rw [Bool.eq_iff_iff, decide_eq_true_eq, decide_eq_true_eq]
  exact ⟨fun h => bA_inj h, fun h => by rw [h]⟩
theorem lp_Dec {H : SH} {v : Value} {bs : List UInt8} {i2 : Nat} (hv : RD H v TByte bs) (hl : bs.length ≤ 100000) : ∀ (m a : Nat) (w : SV) (l : List Int), bs.length - a = m → a ≤ bs.length → l.length ≤ a → InvN bs a l →
    WC F X (.loop L_manifest_Decode_0) [(5, .int .i64 (a : Int)), (0, v), (4, w.toV), (2, .pointer (some ⟨i2, 0, none⟩))] (SL w.toV TI64 l :: MO i2 29 0 0 0 .nil :: H)
      (KPost fun y l' H' => (∃ (w : SV) (l : List Int), y = .exit 0 ∧ l' = [(0, v), (4, w.toV), (2, .pointer (some ⟨i2, 0, none⟩))] ∧ H' = SL w.toV TI64 l :: MO i2 29 0 0 0 .nil :: H ∧ l.length ≤ bs.length ∧ ∀ L : List Int, (∀ x ∈ L, i64r x) → bs = L.flatMap put → l = L) ∨
        (y = .ret ∧ ∃ (w : SV) (l : List Int), l' = [(2, .pointer (some ⟨i2, 0, none⟩)), (3, .int .i64 8)] ∧ H' = SL w.toV TI64 l :: MO i2 29 0 0 0 .nil :: H ∧ ∀ L : List Int, (∀ x ∈ L, i64r x) → bs ≠ L.flatMap put)) := by
  intro m
  induction m using Nat.strongRecOn with
  | _ m ih =>
    intro a w l hm ha hll hinv
    refine WC_loop ?_
    refine WC_seq ?_
    refine WC_seq ?_
    refine WC_region ?_
    refine WO_step rfl (S_pure rfl ?_)
    refine WO_step rfl (S_pure rfl ?_)
    first | refine WO_step rfl (S_pure rfl ?_) | refine WO_step rfl (S_lenS rfl (by repeat (first | assumption | exact RD.head | exact RD.nil | apply RD.tail)) ?_)
    refine WO_step rfl (S_pure rfl ?_)
    refine WO_nil ?_
    refine KSeq_n ?_
    refine WC_cond rfl (fun hb1 => ?_) (fun hb1 => ?_)
    ·
      try simp only [decide_eq_true_eq, decide_eq_false_iff_not, Bool.not_eq_true', Bool.not_eq_false', beq_iff_eq, bne_iff_ne, beq_eq_false_iff_ne, Int.ofNat_lt, Int.ofNat_le, Int.ofNat_inj, ne_eq, gt_iff_lt, ge_iff_le] at hb1
      refine WC_skip ?_
      refine KSeq_n ?_
      refine WC_block ?_
      refine WC_seq ?_
      refine WC_region ?_
      refine WO_step rfl (S_pure rfl ?_)
      refine WO_step rfl (S_pure rfl ?_)
      have hsub := hv.subSl (es := 1) (lo := a) (n := bs.length - a) rfl (by omega)
      rw [show (bs.drop a).take (bs.length - a) = bs.drop a by rw [List.take_of_length_le]; rw [List.length_drop]; omega] at hsub
      refine WO_step rfl (S_cutV (a := a) (b := bs.length) rfl (by repeat (first | assumption | exact RD.head | exact RD.nil | apply RD.tail)) (by rfl) (LB.mk rfl rfl) LB.dflt LB.dflt (by omega) (by omega) (by omega) ?_)
      refine WO_call rfl rfl rfl ?_
      refine (sp_nGet (bs := bs.drop a) (by repeat (first | assumption | exact RD.head | exact RD.nil | apply RD.tail)) (by rw [List.length_drop]; omega)).mono ?_
      rintro _ _ ⟨rfl, rfl⟩
      have hgl := get_le (bs.drop a)
      rw [List.length_drop] at hgl
      obtain ⟨n, k, e, hg⟩ : ∃ n k e, get (bs.drop a) = (n, k, e) := ⟨_, _, _, rfl⟩
      rw [hg] at hgl ⊢
      simp only [] at hgl
      rw [getV_mk]
      refine WO_step rfl (S_pure rfl ?_)
      refine WO_step rfl (S_pure rfl ?_)
      refine WO_step rfl (S_pure rfl ?_)
      refine WO_step rfl (S_pure rfl ?_)
      refine WO_step rfl (S_pure rfl ?_)
      refine WO_step rfl (S_pure rfl ?_)
      refine WO_step rfl (S_pure rfl ?_)
      refine WO_nil ?_
      refine KSeq_n ?_
      refine WC_seq ?_
      refine WC_seq ?_
      refine WC_region ?_
      refine WO_step rfl (S_pure rfl ?_)
      first | refine WO_step rfl (S_neS rfl rfl ?_) | refine WO_step rfl (S_pure rfl ?_)
      refine WO_nil ?_
      refine KSeq_n ?_
      refine WC_cond rfl (fun hb2 => ?_) (fun hb2 => ?_)
      ·
        try simp only [decide_eq_true_eq, decide_eq_false_iff_not, Bool.not_eq_true', Bool.not_eq_false', beq_iff_eq, bne_iff_ne, beq_eq_false_iff_ne, Int.ofNat_lt, Int.ofNat_le, Int.ofNat_inj, ne_eq, gt_iff_lt, ge_iff_le] at hb2
        refine WC_seq ?_
        refine WC_region ?_
        refine WO_step rfl (S_pure rfl ?_)
        refine WO_step rfl (S_storeO rfl rfl (by repeat (first | exact Pick.head | apply Pick.tail)) (by first | rfl | exact SV.cells1 _) (by rfl) (by first | rfl | exact SV.ones _) ?_)
        refine WO_step rfl (S_pure rfl ?_)
        refine WO_nil ?_
        refine KSeq_n ?_
        refine WC_ret ?_
        refine KSeq_r ?_
        refine KBlock_r ?_
        refine KLoop_r ?_
        exact KPost_i (l' := [(2, .pointer (some ⟨i2, 0, none⟩)), (3, .int .i64 8)]) (H' := SL w.toV TI64 l :: MO i2 29 0 0 0 .nil :: H) (by repeat (first | exact SubE.nil | apply SubE.cons rfl)) (by repeat (first | exact HSub.refl | refine HSub.pick (by repeat (first | exact Pick.head | apply Pick.tail)) ?_ | apply HSub.drop)) (.inr ⟨rfl, w, l, rfl, rfl, hinv.bad hb1 hg (by simpa using hb2)⟩)
      ·
        try simp only [decide_eq_true_eq, decide_eq_false_iff_not, Bool.not_eq_true', Bool.not_eq_false', beq_iff_eq, bne_iff_ne, beq_eq_false_iff_ne, Int.ofNat_lt, Int.ofNat_le, Int.ofNat_inj, ne_eq, gt_iff_lt, ge_iff_le] at hb2
        have e0 : e = 0 := by simpa using hb2
        subst e0
        have hkp := get_pos hg
        refine WC_skip ?_
        refine KSeq_n ?_
        refine WC_seq ?_
        refine WC_region ?_
        refine WO_step rfl (S_pure rfl ?_)
        refine WO_step rfl (S_pure rfl ?_)
        refine WO_step rfl (S_lit1 (T := TI64) (y := n) rfl rfl rfl rfl fun w28 => ?_)
        refine WO_step rfl (S_app rfl rfl (by repeat (first | exact Pick.head | apply Pick.tail)) (by first | exact SRC.str rfl rfl | (apply RD.src; repeat (first | assumption | exact RD.head | exact RD.nil | apply RD.tail))) (by rfl) (by rfl) (by (try simp only [List.length_append, List.length_cons, List.length_nil]); omega) fun w29 => ?_)
        refine WO_step rfl (S_pure rfl ?_)
        refine WO_nil ?_
        refine KSeq_n ?_
        refine WC_region ?_
        refine WO_step rfl (S_pure rfl ?_)
        refine WO_step rfl (S_pure rfl ?_)
        first | refine WO_step rfl (S_addN rfl rfl (by omega) ?_) | refine WO_step rfl (S_pure rfl ?_)
        refine WO_step rfl (S_pure rfl ?_)
        refine WO_nil ?_
        refine KBlock_n ?_
        refine KLoop_n ?_
        exact WC_weak (ih (bs.length - (a + k)) (by omega) (a + k) w29 (l ++ [n]) rfl (by omega) (by rw [List.length_append, List.length_singleton]; omega) (hinv.step hb1 hg)) (by repeat (first | exact SubE.nil | apply SubE.cons rfl)) (by repeat (first | exact HSub.refl | refine HSub.pick (by repeat (first | exact Pick.head | apply Pick.tail)) ?_ | apply HSub.drop))
    ·
      try simp only [decide_eq_true_eq, decide_eq_false_iff_not, Bool.not_eq_true', Bool.not_eq_false', beq_iff_eq, bne_iff_ne, beq_eq_false_iff_ne, Int.ofNat_lt, Int.ofNat_le, Int.ofNat_inj, ne_eq, gt_iff_lt, ge_iff_le] at hb1
      refine WC_exit ?_
      refine KSeq_x ?_
      refine KLoop_x ?_
      exact KPost_i (by repeat (first | exact SubE.nil | apply SubE.cons rfl)) (by repeat (first | exact HSub.refl | refine HSub.pick (by repeat (first | exact Pick.head | apply Pick.tail)) ?_ | apply HSub.drop)) (.inl ⟨w, l, rfl, rfl, rfl, by omega, hinv.done (by omega)⟩)
theorem sp_Dec {H : SH} {v : Value} {bs : List UInt8} (hv : RD H v TByte bs) (hl : bs.length ≤ 100000) : WF F X f_manifest_Decode [v] H (fun r H' => ∃ (n f s : Int) (h : SV) (xs : List Int) (w : SV) (l : List Int) (e : Int), r = .tuple #[mfV n f s h, .int .i64 e] ∧ H' = SL w.toV TI64 l :: H ∧ RD (SL w.toV TI64 l :: H) h.toV TI64 xs ∧ ((e = 0 ∧ MayP n f s xs ∧ bs = encM n f s xs) ∨
    (e = 8 ∧ n = 0 ∧ f = 0 ∧ s = 0 ∧ xs = [] ∧ ∀ n f s xs, MayP n f s xs → bs ≠ encM n f s xs))) := by
  refine WF_addNil (T := TI64) ?_
  refine WF_fn F_manifest_Decode ?_
  refine WC_seq ?_
  refine WC_region ?_
  refine WO_step rfl (S_new fun i2 => ?_)
  refine WO_step rfl (S_pure rfl ?_)
  refine WO_nil ?_
  refine KSeq_n ?_
  refine WC_seq ?_
  refine WC_region ?_
  refine WO_step rfl (S_pure rfl ?_)
  refine WO_nil ?_
  refine KSeq_n ?_
  refine WC_seq ?_
  refine WC_seq ?_
  refine WC_region ?_
  refine WO_step rfl (S_pure rfl ?_)
  refine WO_nil ?_
  refine KSeq_n ?_
  refine WC_block ?_
  --out r x0
  refine WC_post (WC_weak (lp_Dec (H := H) (i2 := i2) hv hl bs.length 0 .nil [] (by omega) (by omega) (by simp) (InvN.nil bs)) (by repeat (first | exact SubE.nil | apply SubE.cons rfl)) (by repeat (first | exact HSub.refl | refine HSub.pick (by repeat (first | exact Pick.head | apply Pick.tail)) ?_ | apply HSub.drop))) ?_
  rintro y l' _ (⟨w, l, rfl, rfl, rfl, hll, hL⟩ | ⟨rfl, w, l, rfl, rfl, hL⟩)
  rotate_left
  ·
    refine KBlock_r ?_
    refine KSeq_r ?_
    refine KFn_r (ResL.cell rfl (by repeat (first | exact Pick.head | apply Pick.tail)) (Nat.le_of_ble_eq_true rfl) rfl (ResL.tmp rfl ResL.nil)) ?_
    exact ⟨SL w.toV TI64 l :: H, (by repeat (first | exact HSub.refl | refine HSub.pick (by repeat (first | exact Pick.head | apply Pick.tail)) ?_ | apply HSub.drop)), 0, 0, 0, .nil, [], w, l, 8, rfl, rfl, RD.nil, .inr ⟨rfl, rfl, rfl, rfl, rfl, fun n f s xs hM => hL _ (nums_range hM)⟩⟩
  ·
    refine KBlock_h ?_
    refine KSeq_n ?_
    refine WC_seq ?_
    refine WC_seq ?_
    refine WC_region ?_
    refine WO_step rfl (S_pure rfl ?_)
    first | refine WO_step rfl (S_pure rfl ?_) | refine WO_step rfl (S_lenS rfl (by repeat (first | assumption | exact RD.head | exact RD.nil | apply RD.tail)) ?_)
    refine WO_step rfl (S_pure rfl ?_)
    refine WO_nil ?_
    refine KSeq_n ?_
    refine WC_cond rfl (fun hb1 => ?_) (fun hb1 => ?_)
    ·
      try simp only [decide_eq_true_eq, decide_eq_false_iff_not, Bool.not_eq_true', Bool.not_eq_false', beq_iff_eq, bne_iff_ne, beq_eq_false_iff_ne, Int.ofNat_lt, Int.ofNat_le, Int.ofNat_inj, ne_eq, gt_iff_lt, ge_iff_le] at hb1
      refine WC_seq ?_
      refine WC_region ?_
      refine WO_step rfl (S_pure rfl ?_)
      first | refine WO_step rfl (S_storeM (n := 0) (f := 0) (s := 0) (h := .nil) rfl rfl (by repeat (first | exact Pick.head | apply Pick.tail)) (by rfl) ?_) | refine WO_step rfl (S_storeM (n := n) (f := f) (s := s) (h := h4) rfl rfl (by repeat (first | exact Pick.head | apply Pick.tail)) (by rfl) ?_)
      refine WO_step rfl (S_pure rfl ?_)
      refine WO_nil ?_
      refine KSeq_n ?_
      refine WC_ret ?_
      refine KSeq_r ?_
      refine KFn_r (ResL.cell rfl (by repeat (first | exact Pick.head | apply Pick.tail)) (Nat.le_of_ble_eq_true rfl) rfl (ResL.tmp rfl ResL.nil)) ?_
      refine ⟨SL w.toV TI64 l :: H, (by repeat (first | exact HSub.refl | refine HSub.pick (by repeat (first | exact Pick.head | apply Pick.tail)) ?_ | apply HSub.drop)), 0, 0, 0, .nil, [], w, l, 8, rfl, rfl, RD.nil, .inr ⟨rfl, rfl, rfl, rfl, rfl, fun n f s xs hM hb => ?_⟩⟩
      have := hL _ (nums_range hM) hb
      subst this
      unfold numsM at hb1
      simp at hb1
      omega
    ·
      try simp only [decide_eq_true_eq, decide_eq_false_iff_not, Bool.not_eq_true', Bool.not_eq_false', beq_iff_eq, bne_iff_ne, beq_eq_false_iff_ne, Int.ofNat_lt, Int.ofNat_le, Int.ofNat_inj, ne_eq, gt_iff_lt, ge_iff_le] at hb1
      obtain ⟨n, f, s, c, xs, rfl⟩ : ∃ n f s c xs, l = n :: f :: s :: c :: xs := by
        match l, hb1 with
        | n :: f :: s :: c :: xs, _ => exact ⟨n, f, s, c, xs, rfl⟩
        | [], h => exact absurd h (by simp)
        | [_], h => exact absurd h (by simp)
        | [_, _], h => exact absurd h (by simp)
        | [_, _, _], h => exact absurd h (by simp)
      have l0 : 0 < (n :: f :: s :: c :: xs).length := by simp
      have l1 : 1 < (n :: f :: s :: c :: xs).length := by simp
      have l2 : 2 < (n :: f :: s :: c :: xs).length := by simp
      have g0' : (n :: f :: s :: c :: xs)[0]? = some n := rfl
      have g1' : (n :: f :: s :: c :: xs)[1]? = some f := rfl
      have g2' : (n :: f :: s :: c :: xs)[2]? = some s := rfl
      have hcut : RD (SL w.toV TI64 (n :: f :: s :: c :: xs) :: MO i2 29 0 0 0 .nil :: H) (w.sub 1 4 ((n :: f :: s :: c :: xs).length - 4)).toV TI64 xs := by
        have := RD.sub' (s := w) (T := TI64) (xs := n :: f :: s :: c :: xs) (H := SL w.toV TI64 (n :: f :: s :: c :: xs) :: MO i2 29 0 0 0 .nil :: H) .head (es := 1) (lo := 4) (n := (n :: f :: s :: c :: xs).length - 4) rfl (by simp only [List.length_cons]; omega)
        simpa using this
      refine WC_skip ?_
      refine KSeq_n ?_
      refine WC_seq ?_
      refine WC_region ?_
      refine WO_step rfl (S_pure rfl ?_)
      refine WO_step rfl (S_idx (j := 0) rfl rfl (by repeat (first | assumption | exact RD.head | exact RD.nil | apply RD.tail)) (by first | rfl | assumption | (symm; assumption)) (by rfl) (by first | assumption | omega | exact lt_of_get (by assumption) | (simp only [List.length_set]; first | assumption | omega | exact lt_of_get (by assumption))) fun hp38 => ?_)
      refine WO_step rfl (S_loadE rfl (by repeat (first | assumption | exact RD.head | exact RD.nil | apply RD.tail)) (by first | rfl | assumption | (symm; assumption)) (by first | rfl | assumption | (symm; assumption)) (by first | rfl | assumption | (symm; assumption)) (by assumption) ?_)
      refine WO_step rfl (S_pure rfl ?_)
      refine WO_step rfl (S_idx (j := 1) rfl rfl (by repeat (first | assumption | exact RD.head | exact RD.nil | apply RD.tail)) (by first | rfl | assumption | (symm; assumption)) (by rfl) (by first | assumption | omega | exact lt_of_get (by assumption) | (simp only [List.length_set]; first | assumption | omega | exact lt_of_get (by assumption))) fun hp41 => ?_)
      refine WO_step rfl (S_loadE rfl (by repeat (first | assumption | exact RD.head | exact RD.nil | apply RD.tail)) (by first | rfl | assumption | (symm; assumption)) (by first | rfl | assumption | (symm; assumption)) (by first | rfl | assumption | (symm; assumption)) (by assumption) ?_)
      refine WO_step rfl (S_pure rfl ?_)
      refine WO_step rfl (S_idx (j := 2) rfl rfl (by repeat (first | assumption | exact RD.head | exact RD.nil | apply RD.tail)) (by first | rfl | assumption | (symm; assumption)) (by rfl) (by first | assumption | omega | exact lt_of_get (by assumption) | (simp only [List.length_set]; first | assumption | omega | exact lt_of_get (by assumption))) fun hp44 => ?_)
      refine WO_step rfl (S_loadE rfl (by repeat (first | assumption | exact RD.head | exact RD.nil | apply RD.tail)) (by first | rfl | assumption | (symm; assumption)) (by first | rfl | assumption | (symm; assumption)) (by first | rfl | assumption | (symm; assumption)) (by assumption) ?_)
      refine WO_step rfl (S_pure rfl ?_)
      refine WO_step rfl (S_cut (a := 4) (b := (n :: f :: s :: c :: xs).length) rfl (by repeat (first | assumption | exact RD.head | exact RD.nil | apply RD.tail)) (by rfl) (LB.mk rfl rfl) LB.dflt LB.dflt (by simp only [List.length_cons]; omega) (by omega) (by omega) ?_)
      have hcut2 : RD (SL w.toV TI64 (n :: f :: s :: c :: xs) :: H) (w.sub 1 4 ((n :: f :: s :: c :: xs).length - 4)).toV TI64 xs := by
        have := RD.sub' (s := w) (T := TI64) (xs := n :: f :: s :: c :: xs) (H := SL w.toV TI64 (n :: f :: s :: c :: xs) :: H) .head (es := 1) (lo := 4) (n := (n :: f :: s :: c :: xs).length - 4) rfl (by simp only [List.length_cons]; omega)
        simpa using this
      generalize w.sub 1 4 ((n :: f :: s :: c :: xs).length - 4) = h4 at *
      refine WO_step rfl (S_pureE (v := mfV n f s h4) (by cases h4 <;> rfl) rfl ?_)
      refine WO_step rfl (S_new fun i9 => ?_)
      refine WO_step rfl (S_storeM rfl rfl (by repeat (first | exact Pick.head | apply Pick.tail)) (by rfl) ?_)
      refine WO_nil ?_
      refine KSeq_n ?_
      refine WC_seq ?_
      refine WC_seq ?_
      refine WC_region ?_
      refine WO_step rfl (S_loadM rfl (by repeat (first | exact Pick.head | apply Pick.tail)) ?_)
      refine WO_call rfl rfl rfl ?_
      refine (sp_Enc (xs := xs) (by repeat (first | assumption | exact RD.head | exact RD.nil | apply RD.tail)) (by simp only [List.length_cons] at hll; omega)).mono ?_
      rintro _ _ ⟨b, w50, hb, hw, rfl, rfl⟩
      by_cases hbad : b = true ∧ w50 = .nil
      · obtain ⟨rfl, rfl⟩ := hbad
        refine WO_no fun a ha => ?_
        have h0 := ha.nilSL
        rw [if_pos rfl] at h0
        have := congrArg List.length h0
        unfold encM numsM at this
        simp only [List.cons_append, List.flatMap_cons, List.length_append, List.length_nil] at this
        have := put_pos n
        omega
      have hbn : eqNil 1 w50.toV (.slice none 0 0) = some (!b) := by
        cases w50 with
        | nil => cases b with
          | true => exact absurd ⟨rfl, rfl⟩ hbad
          | false => rfl
        | mk i o m e => cases b with
          | true => rfl
          | false => exact absurd (hw rfl) (by intro h; cases h)
      refine WO_step rfl (S_pure rfl ?_)
      refine WO_nil ?_
      refine KSeq_n ?_
      refine WC_seq ?_
      refine WC_region ?_
      refine WO_step rfl (S_pure rfl ?_)
      refine WO_step rfl (S_pureE (v := .bool (!b)) (by show (match eqNil 1 w50.toV (.slice none 0 0) with | some r => some (Value.bool (if false then !r else r)) | none => none) = some (.bool (!b)); rw [hbn]; rfl) rfl ?_)
      refine WO_step rfl (S_pure rfl ?_)
      refine WO_cases (t := 53) rfl (fun hg1 => ?_) (fun hg1 => ?_)
      ·
        try simp only [decide_eq_true_eq, decide_eq_false_iff_not, Bool.not_eq_true', Bool.not_eq_false', beq_iff_eq, bne_iff_ne, beq_eq_false_iff_ne, Int.ofNat_lt, Int.ofNat_le, Int.ofNat_inj, ne_eq, gt_iff_lt, ge_iff_le] at hg1
        refine WO_off rfl ?_
        refine WO_off rfl ?_
        refine WO_off rfl ?_
        refine WO_off rfl ?_
        refine WO_step rfl (S_pure rfl ?_)
        refine WO_nil ?_
        refine KSeq_n ?_
        refine WC_cond rfl (fun _ => ?_) (fun h => ?_)
        rotate_left
        · exact absurd h (by decide)
        refine WC_seq ?_
        refine WC_region ?_
        refine WO_step rfl (S_pure rfl ?_)
        first | refine WO_step rfl (S_storeM (n := 0) (f := 0) (s := 0) (h := .nil) rfl rfl (by repeat (first | exact Pick.head | apply Pick.tail)) (by rfl) ?_) | refine WO_step rfl (S_storeM (n := n) (f := f) (s := s) (h := h4) rfl rfl (by repeat (first | exact Pick.head | apply Pick.tail)) (by rfl) ?_)
        refine WO_step rfl (S_pure rfl ?_)
        refine WO_nil ?_
        refine KSeq_n ?_
        refine WC_ret ?_
        refine KSeq_r ?_
        refine KFn_r (ResL.cell rfl (by repeat (first | exact Pick.head | apply Pick.tail)) (Nat.le_of_ble_eq_true rfl) rfl (ResL.tmp rfl ResL.nil)) ?_
        refine ⟨SL w.toV TI64 (n :: f :: s :: c :: xs) :: H, (by repeat (first | exact HSub.refl | refine HSub.pick (by repeat (first | exact Pick.head | apply Pick.tail)) ?_ | apply HSub.drop)), 0, 0, 0, .nil, [], w, _, 8, rfl, rfl, RD.nil, .inr ⟨rfl, rfl, rfl, rfl, rfl, fun n' f' s' xs' hM hb' => ?_⟩⟩
        obtain ⟨rfl, rfl, rfl, rfl⟩ := nums_cons (hL _ (nums_range hM) hb')
        rw [hb.2 hM] at hg1
        cases hg1
      ·
        try simp only [decide_eq_true_eq, decide_eq_false_iff_not, Bool.not_eq_true', Bool.not_eq_false', beq_iff_eq, bne_iff_ne, beq_eq_false_iff_ne, Int.ofNat_lt, Int.ofNat_le, Int.ofNat_inj, ne_eq, gt_iff_lt, ge_iff_le] at hg1
        refine WO_step rfl (S_pure rfl ?_)
        refine WO_step rfl (S_pure rfl ?_)
        refine WO_call rfl rfl rfl ?_
        refine (sp_BEq (by repeat (first | assumption | exact RD.head | exact RD.nil | apply RD.tail)) (by repeat (first | assumption | exact RD.head | exact RD.nil | apply RD.tail))).mono ?_
        rintro _ _ ⟨rfl, rfl⟩
        refine WO_step rfl (S_pure rfl ?_)
        refine WO_step rfl (S_pure rfl ?_)
        refine WO_nil ?_
        refine KSeq_n ?_
        refine WC_cond rfl (fun hb2 => ?_) (fun hb2 => ?_)
        ·
          try simp only [decide_eq_true_eq, decide_eq_false_iff_not, Bool.not_eq_true', Bool.not_eq_false', beq_iff_eq, bne_iff_ne, beq_eq_false_iff_ne, Int.ofNat_lt, Int.ofNat_le, Int.ofNat_inj, ne_eq, gt_iff_lt, ge_iff_le] at hb2
          refine WC_seq ?_
          refine WC_region ?_
          refine WO_step rfl (S_pure rfl ?_)
          first | refine WO_step rfl (S_storeM (n := 0) (f := 0) (s := 0) (h := .nil) rfl rfl (by repeat (first | exact Pick.head | apply Pick.tail)) (by rfl) ?_) | refine WO_step rfl (S_storeM (n := n) (f := f) (s := s) (h := h4) rfl rfl (by repeat (first | exact Pick.head | apply Pick.tail)) (by rfl) ?_)
          refine WO_step rfl (S_pure rfl ?_)
          refine WO_nil ?_
          refine KSeq_n ?_
          refine WC_ret ?_
          refine KSeq_r ?_
          refine KFn_r (ResL.cell rfl (by repeat (first | exact Pick.head | apply Pick.tail)) (Nat.le_of_ble_eq_true rfl) rfl (ResL.tmp rfl ResL.nil)) ?_
          refine ⟨SL w.toV TI64 (n :: f :: s :: c :: xs) :: H, (by repeat (first | exact HSub.refl | refine HSub.pick (by repeat (first | exact Pick.head | apply Pick.tail)) ?_ | apply HSub.drop)), 0, 0, 0, .nil, [], w, _, 8, rfl, rfl, RD.nil, .inr ⟨rfl, rfl, rfl, rfl, rfl, fun n' f' s' xs' hM hb' => ?_⟩⟩
          obtain ⟨rfl, rfl, rfl, rfl⟩ := nums_cons (hL _ (nums_range hM) hb')
          rw [if_pos hg1] at hb2
          exact hb2 hb'.symm
        ·
          try simp only [decide_eq_true_eq, decide_eq_false_iff_not, Bool.not_eq_true', Bool.not_eq_false', beq_iff_eq, bne_iff_ne, beq_eq_false_iff_ne, Int.ofNat_lt, Int.ofNat_le, Int.ofNat_inj, ne_eq, gt_iff_lt, ge_iff_le] at hb2
          refine WC_skip ?_
          refine KSeq_n ?_
          refine WC_seq ?_
          refine WC_region ?_
          refine WO_step rfl (S_loadM rfl (by repeat (first | exact Pick.head | apply Pick.tail)) ?_)
          first | refine WO_step rfl (S_storeM (n := 0) (f := 0) (s := 0) (h := .nil) rfl rfl (by repeat (first | exact Pick.head | apply Pick.tail)) (by rfl) ?_) | refine WO_step rfl (S_storeM (n := n) (f := f) (s := s) (h := h4) rfl rfl (by repeat (first | exact Pick.head | apply Pick.tail)) (by rfl) ?_)
          refine WO_step rfl (S_pure rfl ?_)
          refine WO_nil ?_
          refine KSeq_n ?_
          refine WC_ret ?_
          refine KFn_r (ResL.cell rfl (by repeat (first | exact Pick.head | apply Pick.tail)) (Nat.le_of_ble_eq_true rfl) rfl (ResL.tmp rfl ResL.nil)) ?_
          rw [if_pos hg1] at hb2
          exact ⟨SL w.toV TI64 (n :: f :: s :: c :: xs) :: H, (by repeat (first | exact HSub.refl | refine HSub.pick (by repeat (first | exact Pick.head | apply Pick.tail)) ?_ | apply HSub.drop)), n, f, s, h4, xs, w, _, 0, rfl, rfl, hcut2, .inl ⟨rfl, hb.1 hg1, hb2.symm⟩⟩
theorem lp_MBytes {H : SH} {i1 : Nat} {n f s : Int} {h : SV} {xs : List Int} {A : List UInt8} (hv : RD H h.toV TI64 xs) (hr : ∀ x ∈ xs, i64r x) (hL : xs.length ≤ 1000) (hA : A.length ≤ 100) : ∀ (m i : Nat) (w : SV), xs.length - i = m → i ≤ xs.length →
    WC F X (.loop L_loessref10_ManifestBytes_0) [(4, .int .i64 (i : Int)), (3, w.toV), (1, .pointer (some ⟨i1, 0, none⟩))] (SL w.toV TByte (A ++ (xs.take i).flatMap put) :: MO i1 24 n f s h :: H)
      (KPost fun y l' H' => ∃ w : SV, y = .exit 0 ∧ l' = [(3, w.toV)] ∧ H' = SL w.toV TByte (A ++ xs.flatMap put) :: H) := by
  intro m
  induction m using Nat.strongRecOn with
  | _ m ih =>
    intro i w hm hi
    have hpl := puts_len (l := xs.take i) (fun x hx => hr x (List.mem_of_mem_take hx))
    have htl : (xs.take i).length = i := by rw [List.length_take]; omega
    refine WC_loop ?_
    refine WC_seq ?_
    refine WC_seq ?_
    refine WC_region ?_
    refine WO_step rfl (S_pure rfl ?_)
    refine WO_step rfl (S_pure rfl ?_)
    refine WO_step rfl (S_loadO rfl (by repeat (first | exact Pick.head | apply Pick.tail)) (by rfl) (by rfl) ?_)
    first | refine WO_step rfl (S_pure rfl ?_) | refine WO_step rfl (S_lenS rfl (by repeat (first | assumption | exact RD.head | exact RD.nil | apply RD.tail)) ?_)
    refine WO_step rfl (S_pure rfl ?_)
    refine WO_nil ?_
    refine KSeq_n ?_
    refine WC_cond rfl (fun hb1 => ?_) (fun hb1 => ?_)
    ·
      try simp only [decide_eq_true_eq, decide_eq_false_iff_not, Bool.not_eq_true', Bool.not_eq_false', beq_iff_eq, bne_iff_ne, beq_eq_false_iff_ne, Int.ofNat_lt, Int.ofNat_le, Int.ofNat_inj, ne_eq, gt_iff_lt, ge_iff_le] at hb1
      obtain ⟨x, hx⟩ := get_of_lt hb1
      have hxr := hr x (List.mem_of_getElem? hx)
      have hxl := put_len hxr.1 hxr.2
      refine WC_skip ?_
      refine KSeq_n ?_
      refine WC_seq ?_
      refine WC_block ?_
      refine WC_region ?_
      refine WO_step rfl (S_pure rfl ?_)
      refine WO_step rfl (S_pure rfl ?_)
      refine WO_step rfl (S_loadO rfl (by repeat (first | exact Pick.head | apply Pick.tail)) (by rfl) (by rfl) ?_)
      refine WO_step rfl (S_pure rfl ?_)
      refine WO_step rfl (S_idx rfl rfl (by repeat (first | assumption | exact RD.head | exact RD.nil | apply RD.tail)) (by first | rfl | assumption | (symm; assumption)) (by rfl) (by first | assumption | omega | exact lt_of_get (by assumption) | (simp only [List.length_set]; first | assumption | omega | exact lt_of_get (by assumption))) fun hp36 => ?_)
      refine WO_step rfl (S_loadE rfl (by repeat (first | assumption | exact RD.head | exact RD.nil | apply RD.tail)) (by first | rfl | assumption | (symm; assumption)) (by first | rfl | assumption | (symm; assumption)) (by first | rfl | assumption | (symm; assumption)) (by assumption) ?_)
      refine WO_call rfl rfl rfl ?_
      refine (sp_refPut (n := x) hxr.1 hxr.2).mono ?_
      rintro _ _ ⟨w38, rfl, rfl⟩
      refine WO_step rfl (S_app rfl rfl (by repeat (first | exact Pick.head | apply Pick.tail)) (by first | exact SRC.str rfl rfl | (apply RD.src; repeat (first | assumption | exact RD.head | exact RD.nil | apply RD.tail))) (by rfl) (by rfl) (by simp only [List.length_append]; omega) fun w39 => ?_)
      refine WO_step rfl (S_pure rfl ?_)
      refine WO_nil ?_
      refine KBlock_n ?_
      refine KSeq_n ?_
      refine WC_region ?_
      refine WO_step rfl (S_pure rfl ?_)
      first | refine WO_step rfl (S_addN (b := 1) rfl rfl (by omega) ?_) | refine WO_step rfl (S_pure rfl ?_)
      refine WO_step rfl (S_pure rfl ?_)
      refine WO_nil ?_
      refine KLoop_n ?_
      rw [show A ++ (xs.take i).flatMap put ++ put x = A ++ (xs.take (i + 1)).flatMap put by rw [List.take_add_one, hx]; simp]
      exact WC_weak (ih (xs.length - (i + 1)) (by omega) (i + 1) w39 rfl (by omega)) (by repeat (first | exact SubE.nil | apply SubE.cons rfl)) (by repeat (first | exact HSub.refl | refine HSub.pick (by repeat (first | exact Pick.head | apply Pick.tail)) ?_ | apply HSub.drop))
    ·
      try simp only [decide_eq_true_eq, decide_eq_false_iff_not, Bool.not_eq_true', Bool.not_eq_false', beq_iff_eq, bne_iff_ne, beq_eq_false_iff_ne, Int.ofNat_lt, Int.ofNat_le, Int.ofNat_inj, ne_eq, gt_iff_lt, ge_iff_le] at hb1
      refine WC_exit ?_
      refine KSeq_x ?_
      refine KLoop_x ?_
      have ei : i = xs.length := by omega
      subst ei
      rw [List.take_length]
      exact KPost_i (by repeat (first | exact SubE.nil | apply SubE.cons rfl)) (by repeat (first | exact HSub.refl | refine HSub.pick (by repeat (first | exact Pick.head | apply Pick.tail)) ?_ | apply HSub.drop)) ⟨w, rfl, rfl, rfl⟩
theorem sp_MBytes {H : SH} {n f s : Int} {h : SV} {xs : List Int} (hv : RD H h.toV TI64 xs) (hL : xs.length ≤ 100000) : WF F X f_loessref10_ManifestBytes [mfV n f s h] H (fun r H' => ∃ (b : Bool) (w : SV), (b = true ↔ MayP n f s xs) ∧ r = w.toV ∧ H' = SL w.toV TByte (if b = true then encM n f s xs else []) :: H) := by
  refine WF_addNil (T := TByte) ?_
  refine WF_fn F_loessref10_ManifestBytes ?_
  refine WC_seq ?_
  refine WC_region ?_
  refine WO_step rfl (S_box rfl (by cases h <;> rfl) fun i1 => ?_)
  refine WO_step rfl (S_pure rfl ?_)
  refine WO_nil ?_
  refine KSeq_n ?_
  refine WC_seq ?_
  refine WC_seq ?_
  refine WC_region ?_
  refine WO_step rfl (S_loadO rfl (by repeat (first | exact Pick.head | apply Pick.tail)) (by rfl) (by rfl) ?_)
  refine WO_call rfl rfl rfl ?_
  refine (sp_MayM (xs := xs) (by repeat (first | assumption | exact RD.head | exact RD.nil | apply RD.tail)) hL).mono ?_
  rintro _ _ ⟨rfl, b, rfl, hb⟩
  refine WO_step rfl (S_pure rfl ?_)
  refine WO_nil ?_
  refine KSeq_n ?_
  refine WC_cond rfl (fun hb1 => ?_) (fun hb1 => ?_)
  ·
    try simp only [decide_eq_true_eq, decide_eq_false_iff_not, Bool.not_eq_true', Bool.not_eq_false', beq_iff_eq, bne_iff_ne, beq_eq_false_iff_ne, Int.ofNat_lt, Int.ofNat_le, Int.ofNat_inj, ne_eq, gt_iff_lt, ge_iff_le] at hb1
    refine WC_seq ?_
    refine WC_region ?_
    refine WO_step rfl (S_pure rfl ?_)
    refine WO_nil ?_
    refine KSeq_n ?_
    refine WC_ret ?_
    refine KSeq_r ?_
    refine KFn_r (ResL.tmp rfl ResL.nil) ?_
    have hbf : b = false := by simpa using hb1
    refine ⟨SL (SV.toV .nil) TByte [] :: H, (by repeat (first | exact HSub.refl | refine HSub.pick (by repeat (first | exact Pick.head | apply Pick.tail)) ?_ | apply HSub.drop)), b, .nil, hb, rfl, ?_⟩
    rw [if_neg (by rw [hbf]; decide)]
  ·
    try simp only [decide_eq_true_eq, decide_eq_false_iff_not, Bool.not_eq_true', Bool.not_eq_false', beq_iff_eq, bne_iff_ne, beq_eq_false_iff_ne, Int.ofNat_lt, Int.ofNat_le, Int.ofNat_inj, ne_eq, gt_iff_lt, ge_iff_le] at hb1
    have hbt : b = true := by simpa using hb1
    have hM := hb.1 hbt
    have hxr := nums_range hM
    have xn := hxr n (by simp [numsM])
    have xf := hxr f (by simp [numsM])
    have xs' := hxr s (by simp [numsM])
    have xl := hxr (xs.length : Int) (by simp [numsM])
    have ln := put_len xn.1 xn.2
    have lf := put_len xf.1 xf.2
    have ls := put_len xs'.1 xs'.2
    have ll := put_len xl.1 xl.2
    have hl3 : xs.length ≤ 3 := hM.2.2.1
    refine WC_skip ?_
    refine KSeq_n ?_
    refine WC_seq ?_
    refine WC_drawn ?_
    refine WD_step rfl (S_pure rfl ?_)
    refine WD_step rfl (S_loadO rfl (by repeat (first | exact Pick.head | apply Pick.tail)) (by rfl) (by rfl) ?_)
    refine WD_call rfl rfl rfl ?_
    refine (sp_refPut (n := n) xn.1 xn.2).mono ?_
    rintro _ _ ⟨w10, rfl, rfl⟩
    refine WD_step rfl (S_pure rfl ?_)
    refine WD_step rfl (S_loadO rfl (by repeat (first | exact Pick.head | apply Pick.tail)) (by rfl) (by rfl) ?_)
    refine WD_call rfl rfl rfl ?_
    refine (sp_refPut (n := f) xf.1 xf.2).mono ?_
    rintro _ _ ⟨w13, rfl, rfl⟩
    refine WD_step rfl (S_app rfl rfl (by repeat (first | exact Pick.head | apply Pick.tail)) (by first | exact SRC.str rfl rfl | (apply RD.src; repeat (first | assumption | exact RD.head | exact RD.nil | apply RD.tail))) (by rfl) (by rfl) (by omega) fun w14 => ?_)
    refine WD_step rfl (S_pure rfl ?_)
    refine WD_step rfl (S_loadO rfl (by repeat (first | exact Pick.head | apply Pick.tail)) (by rfl) (by rfl) ?_)
    refine WD_call rfl rfl rfl ?_
    refine (sp_refPut (n := s) xs'.1 xs'.2).mono ?_
    rintro _ _ ⟨w17, rfl, rfl⟩
    refine WD_step rfl (S_app rfl rfl (by repeat (first | exact Pick.head | apply Pick.tail)) (by first | exact SRC.str rfl rfl | (apply RD.src; repeat (first | assumption | exact RD.head | exact RD.nil | apply RD.tail))) (by rfl) (by rfl) (by simp only [List.length_append]; omega) fun w18 => ?_)
    refine WD_step rfl (S_pure rfl ?_)
    refine WD_nil ?_
    refine ⟨?_, ?_⟩
    ·
      exact ⟨by first | exact ObR.of_step rfl (S_loadO rfl (by repeat (first | exact Pick.head | apply Pick.tail)) rfl rfl rfl) | exact ObR.off rfl | exact ObR.of_step rfl (S_loadO rfl (by repeat (first | exact Pick.head | apply Pick.tail)) rfl rfl (by simp [eqV, eqV0])), by first | exact ObR.of_step rfl (S_loadO rfl (by repeat (first | exact Pick.head | apply Pick.tail)) rfl rfl rfl) | exact ObR.off rfl | exact ObR.of_step rfl (S_loadO rfl (by repeat (first | exact Pick.head | apply Pick.tail)) rfl rfl (by simp [eqV, eqV0])), by first | exact ObR.of_step rfl (S_loadO rfl (by repeat (first | exact Pick.head | apply Pick.tail)) rfl rfl rfl) | exact ObR.off rfl | exact ObR.of_step rfl (S_loadO rfl (by repeat (first | exact Pick.head | apply Pick.tail)) rfl rfl (by simp [eqV, eqV0])), by first | exact ObR.of_step rfl (S_loadO rfl (by repeat (first | exact Pick.head | apply Pick.tail)) rfl rfl rfl) | exact ObR.off rfl | exact ObR.of_step rfl (S_loadO rfl (by repeat (first | exact Pick.head | apply Pick.tail)) rfl rfl (by simp [eqV, eqV0])), trivial⟩
    ·
      refine KSeq_n ?_
      refine WC_seq ?_
      refine WC_region ?_
      refine WO_step rfl (S_pure rfl ?_)
      refine WO_step rfl (S_pure rfl ?_)
      refine WO_step rfl (S_loadO rfl (by repeat (first | exact Pick.head | apply Pick.tail)) (by rfl) (by rfl) ?_)
      first | refine WO_step rfl (S_pure rfl ?_) | refine WO_step rfl (S_lenS rfl (by repeat (first | assumption | exact RD.head | exact RD.nil | apply RD.tail)) ?_)
      refine WO_call rfl rfl rfl ?_
      refine (sp_refPut (n := (xs.length : Int)) xl.1 xl.2).mono ?_
      rintro _ _ ⟨w23, rfl, rfl⟩
      refine WO_step rfl (S_app rfl rfl (by repeat (first | exact Pick.head | apply Pick.tail)) (by first | exact SRC.str rfl rfl | (apply RD.src; repeat (first | assumption | exact RD.head | exact RD.nil | apply RD.tail))) (by rfl) (by rfl) (by simp only [List.length_append]; omega) fun w24 => ?_)
      refine WO_step rfl (S_pure rfl ?_)
      refine WO_nil ?_
      refine KSeq_n ?_
      refine WC_seq ?_
      refine WC_seq ?_
      refine WC_region ?_
      refine WO_step rfl (S_pure rfl ?_)
      refine WO_nil ?_
      refine KSeq_n ?_
      refine WC_block ?_
      --out x0
      have e0 : put n ++ put f ++ put s ++ put (xs.length : Int) = put n ++ put f ++ put s ++ put (xs.length : Int) ++ (xs.take 0).flatMap put := by simp
      rw [e0]
      refine WC_post (WC_weak (lp_MBytes (H := H) (i1 := i1) (n := n) (f := f) (s := s) (h := h) (A := put n ++ put f ++ put s ++ put (xs.length : Int)) hv (fun x hx => hxr x (by simp [numsM, hx])) (by omega) (by simp only [List.length_append]; omega) xs.length 0 w24 (by omega) (by omega)) (by repeat (first | exact SubE.nil | apply SubE.cons rfl)) (by repeat (first | exact HSub.refl | refine HSub.pick (by repeat (first | exact Pick.head | apply Pick.tail)) ?_ | apply HSub.drop))) ?_
      rintro x l' _ ⟨w', rfl, rfl, rfl⟩
      refine KBlock_h ?_
      refine KSeq_n ?_
      refine WC_seq ?_
      refine WC_region ?_
      refine WO_step rfl (S_pure rfl ?_)
      refine WO_step rfl (S_pure rfl ?_)
      refine WO_nil ?_
      refine KSeq_n ?_
      refine WC_ret ?_
      refine KFn_r (ResL.tmp rfl ResL.nil) ?_
      have e1 : put n ++ put f ++ put s ++ put (xs.length : Int) ++ xs.flatMap put = encM n f s xs := by unfold encM numsM; simp
      rw [e1]
      refine ⟨SL w'.toV TByte (encM n f s xs) :: H, (by repeat (first | exact HSub.refl | refine HSub.pick (by repeat (first | exact Pick.head | apply Pick.tail)) ?_ | apply HSub.drop)), b, w', hb, rfl, ?_⟩
      rw [if_pos hbt]
theorem sp_BackM {H : SH} {n f s : Int} {h : SV} : WF F X f_loesslaw24_Back [mfV n f s h] H (fun r H' => H' = H ∧ r = mfV n f s h) := by
  refine WF_fn F_loesslaw24_Back ?_
  refine WC_seq ?_
  refine WC_region ?_
  refine WO_step rfl (S_box rfl (by cases h <;> rfl) fun i1 => ?_)
  refine WO_step rfl (S_new fun i2 => ?_)
  refine WO_nil ?_
  refine KSeq_n ?_
  refine WC_seq ?_
  refine WC_region ?_
  refine WO_step rfl (S_pure rfl ?_)
  refine WO_step rfl (S_loadO rfl (by repeat (first | exact Pick.head | apply Pick.tail)) (by rfl) (by rfl) ?_)
  refine WO_step rfl (S_pure rfl ?_)
  refine WO_step rfl (S_loadO rfl (by repeat (first | exact Pick.head | apply Pick.tail)) (by rfl) (by rfl) ?_)
  refine WO_step rfl (S_pure rfl ?_)
  refine WO_step rfl (S_loadO rfl (by repeat (first | exact Pick.head | apply Pick.tail)) (by rfl) (by rfl) ?_)
  refine WO_step rfl (S_pure rfl ?_)
  refine WO_step rfl (S_loadO rfl (by repeat (first | exact Pick.head | apply Pick.tail)) (by rfl) (by rfl) ?_)
  refine WO_step rfl (S_pureE (v := mfV n f s h) (by cases h <;> rfl) rfl ?_)
  refine WO_step rfl (S_storeO rfl rfl (by repeat (first | exact Pick.head | apply Pick.tail)) (by rfl) (by rfl) (by cases h <;> rfl) ?_)
  refine WO_nil ?_
  refine KSeq_n ?_
  refine WC_ret ?_
  refine KFn_r (ResL.cell rfl (by repeat (first | exact Pick.head | apply Pick.tail)) (Nat.le_of_ble_eq_true rfl) rfl ResL.nil) ?_
  exact ⟨_, (by repeat (first | exact HSub.refl | refine HSub.pick (by repeat (first | exact Pick.head | apply Pick.tail)) ?_ | apply HSub.drop)), rfl, rfl⟩
theorem sp_tellsM {H : SH} {v : Value} {bs : List UInt8} (hv : RD H v TByte bs) (hl : bs.length ≤ 100000) : WF F X f_loesslaw24_tells [v] H (fun r H' => H' = H ∧ r = .bool true) := by
  refine WF_fn F_loesslaw24_tells ?_
  refine WC_seq ?_
  refine WC_region ?_
  refine WO_step rfl (S_pure rfl ?_)
  refine WO_nil ?_
  refine KSeq_n ?_
  refine WC_seq ?_
  refine WC_region ?_
  refine WO_step rfl (S_pure rfl ?_)
  refine WO_call rfl rfl rfl ?_
  refine (sp_Dec hv hl).mono ?_
  rintro _ _ ⟨n, f, s, h, xs, wL, lL, e, rfl, rfl, hrd, hD⟩
  have hxl : xs.length ≤ 3 := by
    rcases hD with ⟨_, h1, _⟩ | ⟨_, _, _, _, h1, _⟩
    · exact h1.2.2.1
    · rw [h1]; simp
  refine WO_step rfl (S_pure rfl ?_)
  refine WO_step rfl (S_pure rfl ?_)
  refine WO_step rfl (S_pure rfl ?_)
  refine WO_step rfl (S_new fun i3 => ?_)
  refine WO_step rfl (S_storeM rfl rfl (by repeat (first | exact Pick.head | apply Pick.tail)) (by rfl) ?_)
  refine WO_step rfl (S_pure rfl ?_)
  refine WO_nil ?_
  refine KSeq_n ?_
  refine WC_seq ?_
  refine WC_seq ?_
  refine WC_region ?_
  refine WO_step rfl (S_pure rfl ?_)
  first | refine WO_step rfl (S_neS rfl rfl ?_) | refine WO_step rfl (S_pure rfl ?_)
  refine WO_nil ?_
  refine KSeq_n ?_
  refine WC_cond rfl (fun hb1 => ?_) (fun hb1 => ?_)
  ·
    try simp only [decide_eq_true_eq, decide_eq_false_iff_not, Bool.not_eq_true', Bool.not_eq_false', beq_iff_eq, bne_iff_ne, beq_eq_false_iff_ne, Int.ofNat_lt, Int.ofNat_le, Int.ofNat_inj, ne_eq, gt_iff_lt, ge_iff_le] at hb1
    refine WC_seq ?_
    refine WC_region ?_
    refine WO_step rfl (S_pure rfl ?_)
    first | refine WO_step rfl (S_eqS rfl rfl ?_) | refine WO_step rfl (S_pure rfl ?_)
    refine WO_step rfl (S_pure rfl ?_)
    refine WO_cases (t := 14) rfl (fun hg1 => ?_) (fun hg1 => ?_)
    ·
      try simp only [decide_eq_true_eq, decide_eq_false_iff_not, Bool.not_eq_true', Bool.not_eq_false', beq_iff_eq, bne_iff_ne, beq_eq_false_iff_ne, Int.ofNat_lt, Int.ofNat_le, Int.ofNat_inj, ne_eq, gt_iff_lt, ge_iff_le] at hg1
      refine WO_step rfl (S_pure rfl ?_)
      refine WO_step rfl (S_loadO rfl (by repeat (first | exact Pick.head | apply Pick.tail)) (by rfl) (by rfl) ?_)
      first | refine WO_step rfl (S_eqS rfl rfl ?_) | refine WO_step rfl (S_pure rfl ?_)
      refine WO_step rfl (S_pure rfl ?_)
      refine WO_step rfl (S_pure rfl ?_)
      refine WO_cases (t := 19) rfl (fun hg2 => ?_) (fun hg2 => ?_)
      ·
        try simp only [decide_eq_true_eq, decide_eq_false_iff_not, Bool.not_eq_true', Bool.not_eq_false', beq_iff_eq, bne_iff_ne, beq_eq_false_iff_ne, Int.ofNat_lt, Int.ofNat_le, Int.ofNat_inj, ne_eq, gt_iff_lt, ge_iff_le] at hg2
        refine WO_step rfl (S_pure rfl ?_)
        refine WO_step rfl (S_loadO rfl (by repeat (first | exact Pick.head | apply Pick.tail)) (by rfl) (by rfl) ?_)
        first | refine WO_step rfl (S_pure rfl ?_) | refine WO_step rfl (S_lenS rfl (by repeat (first | assumption | exact RD.head | exact RD.nil | apply RD.tail)) ?_)
        first | refine WO_step rfl (S_eqS rfl rfl ?_) | refine WO_step rfl (S_pure rfl ?_)
        refine WO_step rfl (S_pure rfl ?_)
        refine WO_step rfl (S_pure rfl ?_)
        refine WO_nil ?_
        refine KSeq_n ?_
        refine WC_ret ?_
        refine KSeq_r ?_
        refine KFn_r (ResL.tmp rfl ResL.nil) ?_
        refine ⟨H, (by repeat (first | exact HSub.refl | refine HSub.pick (by repeat (first | exact Pick.head | apply Pick.tail)) ?_ | apply HSub.drop)), rfl, ?_⟩
        rcases hD with ⟨h1, h2, h3⟩ | ⟨h1, h2, h3, h4, h5, h6⟩
        · first
          | exact absurd h1 hb1
          | (have hbt := hb27.2 h2
             simp [resV, hbt, h3])
        · first
          | exact absurd h1 hg1
          | exact absurd h2 hg2
          | (simp [resV, h5]; done)
          | (rw [h1] at hb1; cases hb1)
      ·
        try simp only [decide_eq_true_eq, decide_eq_false_iff_not, Bool.not_eq_true', Bool.not_eq_false', beq_iff_eq, bne_iff_ne, beq_eq_false_iff_ne, Int.ofNat_lt, Int.ofNat_le, Int.ofNat_inj, ne_eq, gt_iff_lt, ge_iff_le] at hg2
        refine WO_off rfl ?_
        refine WO_off rfl ?_
        refine WO_off rfl ?_
        refine WO_off rfl ?_
        refine WO_step rfl (S_pure rfl ?_)
        refine WO_step rfl (S_pure rfl ?_)
        refine WO_nil ?_
        refine KSeq_n ?_
        refine WC_ret ?_
        refine KSeq_r ?_
        refine KFn_r (ResL.tmp rfl ResL.nil) ?_
        refine ⟨H, (by repeat (first | exact HSub.refl | refine HSub.pick (by repeat (first | exact Pick.head | apply Pick.tail)) ?_ | apply HSub.drop)), rfl, ?_⟩
        rcases hD with ⟨h1, h2, h3⟩ | ⟨h1, h2, h3, h4, h5, h6⟩
        · first
          | exact absurd h1 hb1
          | (have hbt := hb27.2 h2
             simp [resV, hbt, h3])
        · first
          | exact absurd h1 hg1
          | exact absurd h2 hg2
          | (simp [resV, h5]; done)
          | (rw [h1] at hb1; cases hb1)
    ·
      try simp only [decide_eq_true_eq, decide_eq_false_iff_not, Bool.not_eq_true', Bool.not_eq_false', beq_iff_eq, bne_iff_ne, beq_eq_false_iff_ne, Int.ofNat_lt, Int.ofNat_le, Int.ofNat_inj, ne_eq, gt_iff_lt, ge_iff_le] at hg1
      refine WO_off rfl ?_
      refine WO_off rfl ?_
      refine WO_off rfl ?_
      refine WO_step rfl (S_pure rfl ?_)
      refine WO_step rfl (S_pure rfl ?_)
      refine WO_off rfl ?_
      refine WO_off rfl ?_
      refine WO_off rfl ?_
      refine WO_off rfl ?_
      refine WO_step rfl (S_pure rfl ?_)
      refine WO_step rfl (S_pure rfl ?_)
      refine WO_nil ?_
      refine KSeq_n ?_
      refine WC_ret ?_
      refine KSeq_r ?_
      refine KFn_r (ResL.tmp rfl ResL.nil) ?_
      refine ⟨H, (by repeat (first | exact HSub.refl | refine HSub.pick (by repeat (first | exact Pick.head | apply Pick.tail)) ?_ | apply HSub.drop)), rfl, ?_⟩
      rcases hD with ⟨h1, h2, h3⟩ | ⟨h1, h2, h3, h4, h5, h6⟩
      · first
        | exact absurd h1 hb1
        | (have hbt := hb27.2 h2
           simp [resV, hbt, h3])
      · first
        | exact absurd h1 hg1
        | exact absurd h2 hg2
        | (simp [resV, h5]; done)
        | (rw [h1] at hb1; cases hb1)
  ·
    try simp only [decide_eq_true_eq, decide_eq_false_iff_not, Bool.not_eq_true', Bool.not_eq_false', beq_iff_eq, bne_iff_ne, beq_eq_false_iff_ne, Int.ofNat_lt, Int.ofNat_le, Int.ofNat_inj, ne_eq, gt_iff_lt, ge_iff_le] at hb1
    refine WC_skip ?_
    refine KSeq_n ?_
    refine WC_seq ?_
    refine WC_drawn ?_
    first | refine WD_step rfl (S_loadT rfl (by repeat (first | exact Pick.head | apply Pick.tail)) (by rfl) (by rfl) ?_) | refine WD_step rfl (S_loadO rfl (by repeat (first | exact Pick.head | apply Pick.tail)) (by rfl) (by rfl) ?_)
    refine WD_call rfl rfl rfl ?_
    refine sp_BackM.mono ?_
    rintro _ _ ⟨rfl, rfl⟩
    refine WD_call rfl rfl rfl ?_
    refine (sp_MBytes (by repeat (first | assumption | exact RD.head | exact RD.nil | apply RD.tail)) (by omega)).mono ?_
    rintro _ _ ⟨b27, w27, hb27, rfl, rfl⟩
    refine WD_step rfl (S_strOf rfl (by repeat (first | assumption | exact RD.head | exact RD.nil | apply RD.tail)) (by rfl) (by rfl) ?_)
    refine WD_step rfl (S_pure rfl ?_)
    refine WD_step rfl (S_strOf rfl (by repeat (first | assumption | exact RD.head | exact RD.nil | apply RD.tail)) (by rfl) (by rfl) ?_)
    first | refine WD_step rfl (S_eqS rfl rfl ?_) | refine WD_step rfl (S_pure rfl ?_)
    refine WD_step rfl (S_pure rfl ?_)
    refine WD_nil ?_
    refine ⟨?_, ?_⟩
    ·
      exact ⟨ObR.of_step rfl (S_strOf rfl (by repeat (first | assumption | exact RD.head | exact RD.nil | apply RD.tail)) (by rfl) (by rfl) (by simp [eqV, eqV0])), ObR.of_step rfl (S_strOf rfl (by repeat (first | assumption | exact RD.head | exact RD.nil | apply RD.tail)) (by rfl) (by rfl) (by simp [eqV, eqV0])), trivial⟩
    ·
      refine KSeq_n ?_
      refine WC_ret ?_
      refine KFn_r (ResL.tmp rfl ResL.nil) ?_
      refine ⟨H, (by repeat (first | exact HSub.refl | refine HSub.pick (by repeat (first | exact Pick.head | apply Pick.tail)) ?_ | apply HSub.drop)), rfl, ?_⟩
      rcases hD with ⟨h1, h2, h3⟩ | ⟨h1, h2, h3, h4, h5, h6⟩
      · first
        | exact absurd h1 hb1
        | (have hbt := hb27.2 h2
           simp [resV, hbt, h3])
      · first
        | exact absurd h1 hg1
        | exact absurd h2 hg2
        | (simp [resV, h5]; done)
        | (rw [h1] at hb1; cases hb1)
theorem sp_Short {H : SH} {v : Value} {bs : List UInt8} {n : Nat} (hv : RD H v TByte bs) : WF F X f_loesslaw1_Short [v, .int .i64 n] H (fun r H' => H' = H ∧ ∀ H0 : SH, RD H0 v TByte bs → RD H0 r TByte (bs.take n)) := by
  refine WF_fn F_loesslaw1_Short ?_
  refine WC_seq ?_
  refine WC_region ?_
  refine WO_step rfl (S_pure rfl ?_)
  refine WO_nil ?_
  refine KSeq_n ?_
  refine WC_seq ?_
  refine WC_seq ?_
  refine WC_region ?_
  refine WO_step rfl (S_pure rfl ?_)
  first | refine WO_step rfl (S_pure rfl ?_) | refine WO_step rfl (S_lenS rfl (by repeat (first | assumption | exact RD.head | exact RD.nil | apply RD.tail)) ?_)
  refine WO_step rfl (S_pure rfl ?_)
  refine WO_step rfl (S_pure rfl ?_)
  refine WO_nil ?_
  refine KSeq_n ?_
  refine WC_cond rfl (fun hb1 => ?_) (fun hb1 => ?_)
  ·
    try simp only [decide_eq_true_eq, decide_eq_false_iff_not, Bool.not_eq_true', Bool.not_eq_false', beq_iff_eq, bne_iff_ne, beq_eq_false_iff_ne, Int.ofNat_lt, Int.ofNat_le, Int.ofNat_inj, ne_eq, gt_iff_lt, ge_iff_le] at hb1
    refine WC_seq ?_
    refine WC_region ?_
    refine WO_step rfl (S_pure rfl ?_)
    refine WO_step rfl (S_pure rfl ?_)
    refine WO_step rfl (S_cutV (a := 0) (b := n) rfl (by repeat (first | assumption | exact RD.head | exact RD.nil | apply RD.tail)) (by rfl) LB.dflt (LB.mk rfl rfl) LB.dflt (by omega) (by omega) (by omega) ?_)
    refine WO_step rfl (S_pure rfl ?_)
    refine WO_nil ?_
    refine KSeq_n ?_
    refine WC_ret ?_
    refine KSeq_r ?_
    refine KFn_r (ResL.tmp rfl ResL.nil) ?_
    exact ⟨_, (by repeat (first | exact HSub.refl | refine HSub.pick (by repeat (first | exact Pick.head | apply Pick.tail)) ?_ | apply HSub.drop)), rfl, fun H0 hv => by have := hv.subSl (es := 1) (lo := 0) (n := n - 0) rfl (by omega); exact this⟩
  ·
    try simp only [decide_eq_true_eq, decide_eq_false_iff_not, Bool.not_eq_true', Bool.not_eq_false', beq_iff_eq, bne_iff_ne, beq_eq_false_iff_ne, Int.ofNat_lt, Int.ofNat_le, Int.ofNat_inj, ne_eq, gt_iff_lt, ge_iff_le] at hb1
    refine WC_skip ?_
    refine KSeq_n ?_
    refine WC_seq ?_
    refine WC_region ?_
    refine WO_step rfl (S_pure rfl ?_)
    refine WO_step rfl (S_pure rfl ?_)
    refine WO_nil ?_
    refine KSeq_n ?_
    refine WC_ret ?_
    refine KFn_r (ResL.tmp rfl ResL.nil) ?_
    exact ⟨_, (by repeat (first | exact HSub.refl | refine HSub.pick (by repeat (first | exact Pick.head | apply Pick.tail)) ?_ | apply HSub.drop)), rfl, fun H0 hv => by rw [List.take_of_length_le (by omega)]; exact hv⟩
end Go.Proofs.YtmibhdoegcgfmaaDoor.AM
