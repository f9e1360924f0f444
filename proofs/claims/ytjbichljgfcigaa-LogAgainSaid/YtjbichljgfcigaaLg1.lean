/- Walks: what the functions compute. -/
import Derived.Test.YtjbichljgfcigaaLg
import Derived.Test.YtjbichljgfcigaaAmZ
import Derived.Carry
import Derived.KernelRfl
namespace Go.Proofs.Ytjbichljgfcigaa.AM
open Go
set_option linter.unusedSimpArgs false
set_option linter.unusedVariables false
set_option maxRecDepth 4000

/-! ### The law LogLast -/
theorem bothX_l {X1 X2 : Exts} {g : FuncId} {vs : List Value} {h : AH} {r : Value × AH} (h1 : X1 g vs h = some r) : bothX X1 X2 g vs h = some r := by unfold bothX; rw [h1]
set_option maxRecDepth 100000 in
theorem run_begun : (runF F0 (keysX 52 67 51 9) 2000 f_loesslaw18_begun [] AH.empty).map (·.1) = some (.bool true) := by kernel_rfl
theorem sp_begun {H : SH} : WF F X f_loesslaw18_begun [] H (fun r H' => H' = H ∧ r = .bool true) :=
  WF_ext fun a hH => ⟨_, a, H, bothX_l (groundK_intro (by decide) rfl run_begun rfl), hH, rfl, rfl⟩
theorem FIntT : Flat Try.prog 3 TInt (fun a => (Lit.int .i64 a).wf = true) := by
  refine ⟨by kernel_rfl, by decide, ?_, fun _ => rfl⟩
  intro H enc W base spare held fuel cs x h
  obtain ⟨n, hn, hw⟩ := trod_int' Try.underlying3 h
  exact ⟨n, hn, hw⟩
def TBool : Ty Bool := Ty.ofOne 4 1 (fun n => .bool n) (fun _ => rfl)
theorem FBoolT : Flat Try.prog 4 TBool (fun _ => True) := by
  refine ⟨by kernel_rfl, by decide, ?_, fun _ => rfl⟩
  intro H enc W base spare held fuel cs x h
  obtain ⟨n, hn⟩ := trod_bool' Try.underlying4 h
  exact ⟨n, hn, trivial⟩
theorem fnd_app (l : List Rec) (r : Rec) (k : ByteArray) (hno : ∀ q ∈ l, q.key ≠ r.key) : fnd (l ++ [r]) k = if k = r.key then some r else fnd l k := by
  induction l with
  | nil =>
    by_cases h : r.key = k
    · simp [fnd, h]
    · simp [fnd, h, Ne.symm h]
  | cons x l ih =>
    rw [List.cons_append, fnd, fnd, ih (fun q hq => hno q (List.mem_cons_of_mem _ hq))]
    by_cases h : x.key = k
    · have hx := hno x (List.mem_cons_self ..)
      rw [if_pos h, if_neg (by rintro rfl; exact hx h), if_pos h]
    · rw [if_neg h, if_neg h]
theorem fnd_set {r : Rec} {k : ByteArray} : ∀ {l : List Rec} {i : Nat} {x : Rec}, (keysOf l).Nodup → l[i]? = some x → r.key = x.key → fnd (l.set i r) k = if k = r.key then some r else fnd l k
  | [], i, x, _, h, _ => by simp at h
  | y :: l, 0, x, hn, h, hk => by
    simp at h; subst h
    rw [List.set_cons_zero, fnd, fnd, hk]
    by_cases e : y.key = k
    · rw [if_pos e, if_pos e.symm]
    · rw [if_neg e, if_neg (fun c => e c.symm), if_neg e]
  | y :: l, i + 1, x, hn, h, hk => by
    rw [List.getElem?_cons_succ] at h
    have hn' : (keysOf l).Nodup := (List.nodup_cons.1 hn).2
    have hy : y.key ∉ keysOf l := (List.nodup_cons.1 hn).1
    have hxk : x.key ∈ keysOf l := List.mem_map.2 ⟨x, List.mem_of_getElem? h, rfl⟩
    rw [List.set_cons_succ, fnd, fnd, fnd_set hn' h hk]
    by_cases e : y.key = k
    · rw [if_pos e, if_pos e, if_neg]
      rintro rfl
      rw [e, hk] at hy; exact hy hxk
    · rw [if_neg e, if_neg e]
theorem fnd_put {l : List Rec} {r : Rec} (hn : (keysOf l).Nodup) (h0 : (putF l r).1 = 0) (k : ByteArray) : fnd (putF l r).2 k = if k = r.key then some r else fnd l k := by
  unfold putF at *
  split at h0
  · exact absurd h0 (by simp)
  · rename_i hm
    rw [if_neg hm]
    split at h0
    · rename_i hi
      rw [if_pos hi]
      rcases idxK_spec l r.key with ⟨i, q, h1, h2, h3⟩ | ⟨h1, _⟩
      · rw [h1, Int.toNat_natCast]
        exact fnd_set hn h2 h3.symm
      · rw [h1] at hi; exact absurd hi (by decide)
    · rename_i hi
      rw [if_neg hi]
      split at h0
      · rename_i hr
        rw [if_pos hr]
        refine fnd_app l r k ?_
        rcases idxK_spec l r.key with ⟨i, q, h1, h2, h3⟩ | ⟨_, h2⟩
        · rw [h1] at hi; exact absurd (Int.natCast_nonneg i) hi
        · exact h2
      · exact absurd h0 (by simp)
theorem put_len_eq {l : List Rec} {r : Rec} (h0 : (putF l r).1 = 0) : (putF l r).2.length = if (fnd l r.key).isSome then l.length else l.length + 1 := by
  unfold putF at *
  split at h0
  · exact absurd h0 (by simp)
  · rename_i hm
    rw [if_neg hm]
    split at h0
    · rename_i hi
      rw [if_pos hi]
      rcases fnd_idx r.key l with ⟨h1, h2⟩ | ⟨i, q, h1, h2, h3⟩
      · rw [h2] at hi; exact absurd hi (by decide)
      · rw [h1]; simp
    · rename_i hi
      rw [if_neg hi]
      split at h0
      · rename_i hr
        rw [if_pos hr]
        rcases fnd_idx r.key l with ⟨h1, h2⟩ | ⟨i, q, h1, h2, h3⟩
        · rw [h1]; simp
        · rw [h2] at hi; exact absurd (Int.natCast_nonneg i) hi
      · exact absurd h0 (by simp)
theorem put_mem {l : List Rec} {r q : Rec} (h : q ∈ (putF l r).2) : q ∈ l ∨ q = r := by
  unfold putF at h
  split at h
  · exact .inl h
  · split at h
    · exact (List.mem_or_eq_of_mem_set h)
    · split at h
      · rcases List.mem_append.1 h with h | h
        · exact .inl h
        · simp at h; exact .inr h
      · exact .inl h
theorem put_ok {l : List Rec} {r : Rec} (hm : mayRec r = true) (hl : l.length ≤ 7 ∨ (fnd l r.key).isSome = true) : (putF l r).1 = 0 := by
  unfold putF
  rw [if_neg (by rw [hm]; simp)]
  split
  · rfl
  · rename_i hi
    rw [if_pos]
    refine few_room ?_
    rcases hl with hl | hl
    · simp [hsOf]; omega
    · exfalso
      rcases fnd_idx r.key l with ⟨h1, h2⟩ | ⟨i, q, h1, h2, h3⟩
      · rw [h1] at hl; cases hl
      · rw [h2] at hi; exact hi (Int.natCast_nonneg i)
/-- A key of one letter. -/
def ltr (k : Nat) : ByteArray := ⟨[UInt8.ofNat (97 + k)].toArray⟩
theorem ltr_inj {a b : Nat} (ha : a < 8) (hb : b < 8) (h : ltr a = ltr b) : a = b := by
  have := congrArg (fun b : ByteArray => (b.data.toList.headD 0).toNat) h
  simp only [ltr, List.headD_cons] at this
  rw [UInt8.toNat_ofNat_of_lt' (by show _ < 256; omega), UInt8.toNat_ofNat_of_lt' (by show _ < 256; omega)] at this
  omega
def Ltrs (l : List Rec) : Prop := ∀ r ∈ l, ∃ k, k < 8 ∧ r.key = ltr k
def codeOf (k : ByteArray) : Nat := (k.data.toList.headD 0).toNat - 97
theorem code_ltr {k : Nat} (hk : k < 8) : codeOf (ltr k) = k := by
  unfold codeOf ltr
  simp only [List.headD_cons]
  rw [UInt8.toNat_ofNat_of_lt' (by show _ < 256; omega)]; omega
theorem ltrs_len {l : List Rec} (hn : (keysOf l).Nodup) (hl : Ltrs l) : l.length ≤ 8 := by
  have h1 : ((keysOf l).map codeOf).Nodup := by
    unfold List.Nodup at *
    rw [List.pairwise_map]
    refine List.Pairwise.imp_of_mem (fun {a b} ha hb hab => ?_) hn
    obtain ⟨r, hr, rfl⟩ := List.mem_map.1 ha
    obtain ⟨q, hq, rfl⟩ := List.mem_map.1 hb
    obtain ⟨x, hx, ex⟩ := hl r hr
    obtain ⟨y, hy, ey⟩ := hl q hq
    rw [ex, ey, code_ltr hx, code_ltr hy]
    rw [ex, ey] at hab
    rintro rfl; exact hab rfl
  have h2 := nd_len 8 _ h1 (fun x hx => by
    obtain ⟨k, hk, rfl⟩ := List.mem_map.1 hx
    obtain ⟨r, hr, rfl⟩ := List.mem_map.1 hk
    obtain ⟨y, hy, ey⟩ := hl r hr
    rw [ey, code_ltr hy]; exact hy)
  simpa [keysOf] using h2
theorem ltrs_room {l : List Rec} (hn : (keysOf l).Nodup) (hl : Ltrs l) {k : Nat} (hk : k < 8) : l.length ≤ 7 ∨ (fnd l (ltr k)).isSome = true := by
  rcases fnd_idx (ltr k) l with ⟨h1, h2⟩ | ⟨i, q, h1, _⟩
  · left
    have hno : ∀ q ∈ l, q.key ≠ ltr k := by
      rcases idxK_spec l (ltr k) with ⟨i, q, h3, _⟩ | ⟨_, h4⟩
      · rw [h3] at h2; exact absurd (Int.natCast_nonneg i) (by rw [h2]; decide)
      · exact h4
    have := ltrs_len (l := l ++ [⟨ltr k, false, raw0⟩]) (by
      unfold keysOf
      rw [List.map_append, List.nodup_append]
      refine ⟨hn, by simp, fun a ha b hb => ?_⟩
      simp at hb; subst hb
      obtain ⟨q, hq, rfl⟩ := List.mem_map.1 ha
      exact hno q hq) (fun r hr => by
      rcases List.mem_append.1 hr with hr | hr
      · exact hl r hr
      · simp at hr; subst hr; exact ⟨k, hk, rfl⟩)
    simp at this; omega
  · right; rw [h1]; rfl
/-- What the law's array says. -/
def LastI (xs : List Int) (l : List Rec) : Prop := xs.length = 8 ∧ ∀ (k : Nat) (x : Int), xs[k]? = some x → (fnd l (ltr k)).isSome = decide (x ≠ 0) ∧ ((fnd l (ltr k)).getD rec0).gone = decide (x < 0) ∧ (0 < x → ((fnd l (ltr k)).getD rec0).val.n = x - 1) ∧ -100 < x ∧ x < 100
theorem LastI.new : LastI [0, 0, 0, 0, 0, 0, 0, 0] [] := by
  refine ⟨rfl, fun k x h => ?_⟩
  have hx : x = 0 := by
    have := List.mem_of_getElem? h
    simpa using this
  subst hx
  simp [fnd, rec0]
theorem LastI.put {xs : List Int} {l : List Rec} {r : Rec} {k : Nat} {x : Int} (h : LastI xs l) (hk : k < 8) (hn : (keysOf l).Nodup) (h0 : (putF l r).1 = 0) (hr : r.key = ltr k) (h1 : x ≠ 0) (h2 : r.gone = decide (x < 0)) (h3 : 0 < x → r.val.n = x - 1) (h4 : -100 < x ∧ x < 100) : LastI (xs.set k x) (putF l r).2 := by
  refine ⟨by rw [List.length_set]; exact h.1, fun k' x' hx => ?_⟩
  rw [fnd_put hn h0, hr]
  rw [List.getElem?_set] at hx
  have hl := h.1
  by_cases e : k = k'
  · subst e
    rw [if_pos rfl, if_pos (by omega)] at hx
    cases hx
    rw [if_pos rfl]
    exact ⟨by simp [h1], h2, h3, h4.1, h4.2⟩
  · rw [if_neg e] at hx
    have hk' : k' < 8 := by have := (List.getElem?_eq_some_iff.1 hx).1; omega
    rw [if_neg (fun c => e (ltr_inj hk' hk c).symm)]
    exact h.2 k' x' hx
theorem S_loadArr {l : SE} {H H0 : SH} {K : Value → SH → Prop} {i o k : Nat} {t : TypeId} {a : Opd} {xs : List Int} {x : Int} (ha : a.lv l = some (.pointer (some ⟨i, o, none⟩))) (hp : Pick (.obj i (.row false t (TInt.cells xs))) H H0) (ho : o = k) (hx : xs[k]? = some x) (kk : K (.int .i64 x) H) : Step (.load false 1 a) l H K := by
  subst ho
  have hlt := (List.getElem?_eq_some_iff.1 hx).1
  have hc : (TInt.cells xs).length = xs.length * 1 := TInt.cells_len xs
  have h := TInt.cells_at hx (off := 0) (n := 1) (by show 0 + 1 ≤ 1; omega)
  refine S_loadO ha hp (by rw [Nat.ble_eq, hc]; omega) ?_ kk
  have e : o * TInt.es + 0 = o := by show o * 1 + 0 = o; omega
  rw [e] at h
  rw [h]; rfl
theorem S_storeArr {l : SE} {H H0 : SH} {K : Value → SH → Prop} {i o k : Nat} {t : TypeId} {a y : Opd} {xs : List Int} {x : Int} (ha : a.lv l = some (.pointer (some ⟨i, o, none⟩))) (hy : y.lv l = some (.int .i64 x)) (hp : Pick (.obj i (.row false t (TInt.cells xs))) H H0) (ho : o = k) (hk : k < xs.length) (kk : K undef (.obj i (.row false t (TInt.cells (xs.set k x))) :: H0)) : Step (.store 1 a y) l H K := by
  subst ho
  have hc : (TInt.cells xs).length = xs.length * 1 := TInt.cells_len xs
  have e1 := TInt.cells_set (xs := xs) (j := o) (x := xs[o]) (y := x) (List.getElem?_eq_getElem hk) (off := 0) (vs := TInt.enc x) (by rw [splice_all (by rw [TInt.len, TInt.len])]) (by rw [TInt.len]; omega)
  refine S_storeO ha hy hp rfl (by rw [Nat.ble_eq, hc]; omega) rfl ?_
  have e : o * TInt.es + 0 = o := by show o * 1 + 0 = o; omega
  rw [e] at e1
  have e3 : splice (TInt.cells xs) o (AM.cells (.int .i64 x)) = TInt.cells (xs.set o x) := e1
  rw [e3]; exact kk
theorem lp_Last_0 {H : SH} {v0 v1 : Value} {ks : List Int} {gs : List Bool} {j iD i7 : Nat} (hv0 : RD H v0 TInt ks) (hv1 : RD H v1 TBool gs) (hall : ∀ x ∈ ks, (Lit.int .i64 x).wf = true) : ∀ (m i : Nat) (w : SV) (l : List Rec) (es : List Ent) (xs : List Int), 40 - i = m → i ≤ 40 → i ≤ ks.length → LogI es l → Ltrs l → LastI xs l →
    WC F X (.loop L_loesslaw18_LogLast_0) [(9, .int .i64 (i : Int)), (0, v0), (1, v1), (6, .pointer (some ⟨j, 0, none⟩)), (7, .pointer (some ⟨i7, 0, none⟩)), (8, .int .i64 (l.length : Int))] (LO j iD w :: SL w.toV TRec l :: DO iD es l.length :: .obj i7 (.row false 40 (TInt.cells xs)) :: H)
      (KPost fun x l' H' => ∃ (w : SV) (l : List Rec) (es : List Ent) (xs : List Int), x = .exit 0 ∧ l' = [(6, .pointer (some ⟨j, 0, none⟩)), (7, .pointer (some ⟨i7, 0, none⟩)), (8, .int .i64 (l.length : Int))] ∧ H' = LO j iD w :: SL w.toV TRec l :: DO iD es l.length :: .obj i7 (.row false 40 (TInt.cells xs)) :: H ∧ LogI es l ∧ LastI xs l) := by
  intro m
  induction m using Nat.strongRecOn with
  | _ m ih =>
    intro i w l es xs hm hi hik hg hlt hla
    have hlen := hg.len
    refine WC_loop ?_
    refine WC_seq ?_
    refine WC_seq ?_
    refine WC_region ?_
    refine WO_step rfl (S_pure rfl ?_)
    refine WO_step rfl (S_pure rfl ?_)
    first | refine WO_step rfl (S_pure rfl ?_) | refine WO_step rfl (S_lenS rfl (by repeat (first | assumption | exact RD.head | exact RD.nil | apply RD.tail)) ?_)
    refine WO_step rfl (S_pure rfl ?_)
    refine WO_step rfl (S_pure rfl ?_)
    refine WO_cases (t := 23) rfl (fun hg1 => ?_) (fun hg1 => ?_)
    ·
      try simp only [decide_eq_true_eq, decide_eq_false_iff_not, Bool.not_eq_true', Bool.not_eq_false', beq_iff_eq, bne_iff_ne, beq_eq_false_iff_ne, Int.ofNat_lt, Int.ofNat_le, Int.ofNat_inj, ne_eq, gt_iff_lt, ge_iff_le] at hg1
      refine WO_step rfl (S_pure rfl ?_)
      refine WO_step rfl (S_pure rfl ?_)
      refine WO_step rfl (S_pure rfl ?_)
      refine WO_nil ?_
      refine KSeq_n ?_
      refine WC_cond rfl (fun hb1 => ?_) (fun hb1 => ?_)
      ·
        try simp only [decide_eq_true_eq, decide_eq_false_iff_not, Bool.not_eq_true', Bool.not_eq_false', beq_iff_eq, bne_iff_ne, beq_eq_false_iff_ne, Int.ofNat_lt, Int.ofNat_le, Int.ofNat_inj, ne_eq, gt_iff_lt, ge_iff_le] at hb1
        obtain ⟨kx, hkx⟩ := get_of_lt hg1
        have hwf := hall kx (List.mem_of_getElem? hkx)
        simp [Lit.wf, IntKind.min, IntKind.max, IntKind.bits, IntKind.signed] at hwf
        have htm1 := Int.tmod_lt_of_pos kx (b := 8) (by omega)
        have htm2 : -8 < kx.tmod 8 := by
          have := Int.lt_tmod_of_pos kx (b := 8) (by omega)
          omega
        obtain ⟨q, hq, hq16⟩ : ∃ q : Nat, kx.tmod 8 + 8 = (q : Int) ∧ q < 16 := ⟨(kx.tmod 8 + 8).toNat, by omega, by omega⟩
        obtain ⟨k, hk, hk8⟩ : ∃ k, q % 8 = k ∧ k < 8 := ⟨_, rfl, Nat.mod_lt _ (by omega)⟩
        obtain ⟨x, hx⟩ := get_of_lt (show k < xs.length by rw [hla.1]; exact hk8)
        obtain ⟨hA, hB, hC, hD1, hD2⟩ := hla.2 k x hx
        have hxl := hla.1
        refine WC_skip ?_
        refine KSeq_n ?_
        refine WC_seq ?_
        refine WC_block ?_
        refine WC_seq ?_
        refine WC_region ?_
        refine WO_step rfl (S_pure rfl ?_)
        refine WO_step rfl (S_pure rfl ?_)
        refine WO_step rfl (S_idx rfl rfl (by repeat (first | assumption | exact RD.head | exact RD.nil | apply RD.tail)) (by first | rfl | assumption | (symm; assumption)) (by rfl) (by first | assumption | omega | exact lt_of_get (by assumption) | (simp only [List.length_set]; first | assumption | omega | exact lt_of_get (by assumption))) fun hp31 => ?_)
        refine WO_step rfl (S_loadE rfl (by repeat (first | assumption | exact RD.head | exact RD.nil | apply RD.tail)) (by first | rfl | assumption | (symm; assumption)) (by first | rfl | assumption | (symm; assumption)) (by first | rfl | assumption | (symm; assumption)) (by assumption) ?_)
        refine WO_step rfl (S_pure rfl ?_)
        refine WO_step rfl (S_pureE (v := .int .i64 (IntKind.wrap .i64 (kx.tmod 8 + 8))) (v' := .int .i64 (q : Int)) rfl (by rw [wrap_i64 (by omega) (by omega), hq]) ?_)
        refine WO_step rfl (S_remU (a := q) (m := 8) rfl rfl (by omega) ?_)
        rw [hk]
        refine WO_step rfl (S_pure rfl ?_)
        refine WO_nil ?_
        refine KSeq_n ?_
        refine WC_seq ?_
        refine WC_region ?_
        refine WO_step rfl (S_pure rfl ?_)
        refine WO_step rfl (S_addN (a := 97) (b := k) rfl rfl (by omega) ?_)
        refine WO_step rfl (S_toBn rfl ?_)
        rw [Nat.mod_eq_of_lt (show 97 + k < 256 by omega)]
        refine WO_step rfl (S_lit1B rfl (by omega) fun w39 => ?_)
        refine WO_step rfl (S_strOf rfl (by repeat (first | assumption | exact RD.head | exact RD.nil | apply RD.tail)) (by rfl) (by rfl) ?_)
        refine WO_step rfl (S_pure rfl ?_)
        refine WO_step rfl (S_pure rfl ?_)
        refine WO_step rfl (S_pure rfl ?_)
        refine WO_step rfl (S_newT TRec rec0 rfl rfl fun i11 => ?_)
        refine WO_step rfl (S_storeT (T := TRec) rfl rfl (by repeat (first | exact Pick.head | apply Pick.tail)) (by first | exact (rfl : _ = TRec.val ⟨ltr k, false, ⟨1, i, es0⟩⟩) | exact (rfl : _ = TRec.val ⟨ltr k, true, raw0⟩)) (by rfl) ?_)
        refine WO_nil ?_
        refine KSeq_n ?_
        refine WC_seq ?_
        refine WC_post (P := fun x l' H' => ∃ r : Rec, x = .normal ∧ l' = [(9, .int .i64 (i : Int)), (0, v0), (1, v1), (6, .pointer (some ⟨j, 0, none⟩)), (7, .pointer (some ⟨i7, 0, none⟩)), (8, .int .i64 (l.length : Int)), (10, .int .i64 (k : Int)), (11, .pointer (some ⟨i11, 0, none⟩))] ∧ H' = OB i11 TRec r :: LO j iD w :: SL w.toV TRec l :: DO iD es l.length :: .obj i7 (.row false 40 (TInt.cells xs)) :: H ∧ r.key = ltr k ∧ mayRec r = true ∧ (r.gone = false → r.val.n = (i : Int))) ?_ ?_
        ·
          refine WC_seq ?_
          refine WC_region ?_
          refine WO_step rfl (S_pure rfl ?_)
          refine WO_step rfl (S_pure rfl ?_)
          first | refine WO_step rfl (S_pure rfl ?_) | refine WO_step rfl (S_lenS rfl (by repeat (first | assumption | exact RD.head | exact RD.nil | apply RD.tail)) ?_)
          refine WO_step rfl (S_pure rfl ?_)
          refine WO_step rfl (S_pure rfl ?_)
          refine WO_cases (t := 48) rfl (fun hg2 => ?_) (fun hg2 => ?_)
          ·
            try simp only [decide_eq_true_eq, decide_eq_false_iff_not, Bool.not_eq_true', Bool.not_eq_false', beq_iff_eq, bne_iff_ne, beq_eq_false_iff_ne, Int.ofNat_lt, Int.ofNat_le, Int.ofNat_inj, ne_eq, gt_iff_lt, ge_iff_le] at hg2
            obtain ⟨gv, hgv⟩ := get_of_lt hg2
            refine WO_step rfl (S_pure rfl ?_)
            refine WO_step rfl (S_pure rfl ?_)
            refine WO_step rfl (S_idx rfl rfl (by repeat (first | assumption | exact RD.head | exact RD.nil | apply RD.tail)) (by first | rfl | assumption | (symm; assumption)) (by rfl) (by first | assumption | omega | exact lt_of_get (by assumption) | (simp only [List.length_set]; first | assumption | omega | exact lt_of_get (by assumption))) fun hp51 => ?_)
            refine WO_step rfl (S_loadE rfl (by repeat (first | assumption | exact RD.head | exact RD.nil | apply RD.tail)) (by first | rfl | assumption | (symm; assumption)) (by first | rfl | assumption | (symm; assumption)) (by first | rfl | assumption | (symm; assumption)) (by assumption) ?_)
            refine WO_step rfl (S_pure rfl ?_)
            refine WO_nil ?_
            refine KSeq_n ?_
            refine WC_cond rfl (fun hb2 => ?_) (fun hb2 => ?_)
            ·
              try simp only [decide_eq_true_eq, decide_eq_false_iff_not, Bool.not_eq_true', Bool.not_eq_false', beq_iff_eq, bne_iff_ne, beq_eq_false_iff_ne, Int.ofNat_lt, Int.ofNat_le, Int.ofNat_inj, ne_eq, gt_iff_lt, ge_iff_le] at hb2
              refine WC_region ?_
              refine WO_step rfl (S_pure rfl ?_)
              refine WO_step rfl (S_loadO rfl (by repeat (first | exact Pick.head | apply Pick.tail)) (by rfl) (by rfl) ?_)
              refine WO_step rfl (S_pure rfl ?_)
              refine WO_step rfl (S_storeT (T := TRec) rfl rfl (by repeat (first | exact Pick.head | apply Pick.tail)) (by first | exact (rfl : _ = TRec.val ⟨ltr k, false, ⟨1, i, es0⟩⟩) | exact (rfl : _ = TRec.val ⟨ltr k, true, raw0⟩)) (by rfl) ?_)
              refine WO_nil ?_
              exact KPost_i (by repeat (first | exact SubE.nil | apply SubE.cons rfl)) (by repeat (first | exact HSub.refl | refine HSub.pick (by repeat (first | exact Pick.head | apply Pick.tail)) ?_ | apply HSub.drop)) ⟨⟨ltr k, true, raw0⟩, rfl, rfl, rfl, rfl, by simp [mayRec, mayKey, ltr, ByteArray.size], fun h => by cases h⟩
            ·
              try simp only [decide_eq_true_eq, decide_eq_false_iff_not, Bool.not_eq_true', Bool.not_eq_false', beq_iff_eq, bne_iff_ne, beq_eq_false_iff_ne, Int.ofNat_lt, Int.ofNat_le, Int.ofNat_inj, ne_eq, gt_iff_lt, ge_iff_le] at hb2
              refine WC_skip ?_
              exact KPost_i (by repeat (first | exact SubE.nil | apply SubE.cons rfl)) (by repeat (first | exact HSub.refl | refine HSub.pick (by repeat (first | exact Pick.head | apply Pick.tail)) ?_ | apply HSub.drop)) ⟨⟨ltr k, false, ⟨1, i, es0⟩⟩, rfl, rfl, rfl, rfl, by simp [mayRec, mayKey, mayRaw, ltr, ByteArray.size], fun _ => rfl⟩
          ·
            try simp only [decide_eq_true_eq, decide_eq_false_iff_not, Bool.not_eq_true', Bool.not_eq_false', beq_iff_eq, bne_iff_ne, beq_eq_false_iff_ne, Int.ofNat_lt, Int.ofNat_le, Int.ofNat_inj, ne_eq, gt_iff_lt, ge_iff_le] at hg2
            refine WO_off rfl ?_
            refine WO_off rfl ?_
            refine WO_off rfl ?_
            refine WO_off rfl ?_
            refine WO_step rfl (S_pure rfl ?_)
            refine WO_nil ?_
            refine KSeq_n ?_
            refine WC_cond rfl (fun h => ?_) (fun _ => ?_)
            · exact absurd h (by decide)
            refine WC_skip ?_
            exact KPost_i (by repeat (first | exact SubE.nil | apply SubE.cons rfl)) (by repeat (first | exact HSub.refl | refine HSub.pick (by repeat (first | exact Pick.head | apply Pick.tail)) ?_ | apply HSub.drop)) ⟨⟨ltr k, false, ⟨1, i, es0⟩⟩, rfl, rfl, rfl, rfl, by simp [mayRec, mayKey, mayRaw, ltr, ByteArray.size], fun _ => rfl⟩
        ·
          rintro x' l' H' ⟨r, rfl, rfl, rfl, hrk, hrm, hrn⟩
          have hroom := ltrs_room hg.nd hlt hk8
          have hput := put_ok hrm (by rw [hrk]; exact hroom)
          refine KSeq_n ?_
          refine WC_seq ?_
          refine WC_seq ?_
          refine WC_region ?_
          refine WO_step rfl (S_pure rfl ?_)
          refine WO_step rfl (S_loadT (T := TRec) (z := r) rfl (by repeat (first | exact Pick.head | apply Pick.tail)) (by rfl) (by rfl) ?_)
          refine WO_call rfl rfl rfl ?_
          refine (WF.weak (sp_lPut (H := OB i11 TRec r :: .obj i7 (.row false 40 (TInt.cells xs)) :: H) (w := w) (i := iD) (j := j) (r := r) hg) (by repeat (first | exact HSub.refl | refine HSub.pick (by repeat (first | exact Pick.head | apply Pick.tail)) ?_ | apply HSub.drop))).mono ?_
          rintro _ _ ⟨es', w', rfl, rfl, hg'⟩
          rw [hput]
          have hlen2 := put_len_eq hput
          rw [hrk, hA] at hlen2
          have hlt' : Ltrs (putF l r).2 := fun q hq => by
            rcases put_mem hq with hq | rfl
            · exact hlt q hq
            · exact ⟨k, hk8, hrk⟩
          first | refine WO_step rfl (S_neS rfl rfl ?_) | refine WO_step rfl (S_pure rfl ?_)
          refine WO_nil ?_
          refine KSeq_n ?_
          refine WC_cond rfl (fun hb3 => ?_) (fun hb3 => ?_)
          ·
            try simp only [decide_eq_true_eq, decide_eq_false_iff_not, Bool.not_eq_true', Bool.not_eq_false', beq_iff_eq, bne_iff_ne, beq_eq_false_iff_ne, Int.ofNat_lt, Int.ofNat_le, Int.ofNat_inj, ne_eq, gt_iff_lt, ge_iff_le] at hb3
            refine WC_seq ?_
            refine WC_region ?_
            refine WO_step rfl (S_pure rfl ?_)
            refine WO_nil ?_
            refine KSeq_n ?_
            refine WC_ret ?_
            refine KSeq_r ?_
            refine KBlock_r ?_
            refine KSeq_r ?_
            refine KLoop_r ?_
            exact absurd hb3 (by simp)
          ·
            try simp only [decide_eq_true_eq, decide_eq_false_iff_not, Bool.not_eq_true', Bool.not_eq_false', beq_iff_eq, bne_iff_ne, beq_eq_false_iff_ne, Int.ofNat_lt, Int.ofNat_le, Int.ofNat_inj, ne_eq, gt_iff_lt, ge_iff_le] at hb3
            refine WC_skip ?_
            refine KSeq_n ?_
            refine WC_seq ?_
            refine WC_seq ?_
            refine WC_region ?_
            refine WO_step rfl (S_pure rfl ?_)
            refine WO_step rfl (S_idxA (j := k) rfl rfl rfl hk8 ?_)
            refine WO_step rfl (S_loadArr (k := k) rfl (by repeat (first | exact Pick.head | apply Pick.tail)) (by omega) hx ?_)
            first | refine WO_step rfl (S_eqS rfl rfl ?_) | refine WO_step rfl (S_pure rfl ?_)
            refine WO_nil ?_
            refine KSeq_n ?_
            refine WC_cond rfl (fun hb4 => ?_) (fun hb4 => ?_)
            ·
              try simp only [decide_eq_true_eq, decide_eq_false_iff_not, Bool.not_eq_true', Bool.not_eq_false', beq_iff_eq, bne_iff_ne, beq_eq_false_iff_ne, Int.ofNat_lt, Int.ofNat_le, Int.ofNat_inj, ne_eq, gt_iff_lt, ge_iff_le] at hb4
              refine WC_region ?_
              refine WO_step rfl (S_pure rfl ?_)
              first | refine WO_step rfl (S_addN (b := 1) rfl rfl (by omega) ?_) | refine WO_step rfl (S_pure rfl ?_)
              refine WO_step rfl (S_pure rfl ?_)
              refine WO_nil ?_
              refine KSeq_n ?_
              refine WC_seq ?_
              refine WC_region ?_
              refine WO_step rfl (S_pure rfl ?_)
              refine WO_step rfl (S_pure rfl ?_)
              first | refine WO_step rfl (S_addN (b := 1) rfl rfl (by omega) ?_) | refine WO_step rfl (S_pure rfl ?_)
              refine WO_step rfl (S_idxA (j := k) rfl rfl rfl hk8 ?_)
              refine WO_step rfl (S_storeArr (k := k) (x := ((i + 1 : Nat) : Int)) rfl rfl (by repeat (first | exact Pick.head | apply Pick.tail)) (by omega) (by omega) ?_)
              refine WO_nil ?_
              refine KSeq_n ?_
              refine WC_seq ?_
              refine WC_region ?_
              refine WO_step rfl (S_pure rfl ?_)
              refine WO_step rfl (S_loadO rfl (by repeat (first | exact Pick.head | apply Pick.tail)) (by rfl) (by rfl) ?_)
              refine WO_nil ?_
              refine KSeq_n ?_
              refine WC_cond rfl (fun hb5 => ?_) (fun hb5 => ?_)
              ·
                try simp only [decide_eq_true_eq, decide_eq_false_iff_not, Bool.not_eq_true', Bool.not_eq_false', beq_iff_eq, bne_iff_ne, beq_eq_false_iff_ne, Int.ofNat_lt, Int.ofNat_le, Int.ofNat_inj, ne_eq, gt_iff_lt, ge_iff_le] at hb5
                refine WC_region ?_
                refine WO_step rfl (S_pure rfl ?_)
                refine WO_step rfl (S_pure rfl ?_)
                refine WO_step rfl (S_pureE (v := .int .i64 (IntKind.wrap .i64 (0 - (i : Int)))) (v' := .int .i64 (-(i : Int))) rfl (by rw [wrap_i64 (by omega) (by omega)]; congr 1; omega) ?_)
                refine WO_step rfl (S_pureE (v := .int .i64 (IntKind.wrap .i64 (-(i : Int) - 1))) (v' := .int .i64 (-(i : Int) - 1)) rfl (by rw [wrap_i64 (by omega) (by omega)]) ?_)
                refine WO_step rfl (S_idxA (j := k) rfl rfl rfl hk8 ?_)
                refine WO_step rfl (S_storeArr (k := k) (x := -(i : Int) - 1) rfl rfl (by repeat (first | exact Pick.head | apply Pick.tail)) (by omega) (by rw [List.length_set]; omega) ?_)
                rw [List.set_set]
                refine WO_nil ?_
                refine KBlock_n ?_
                refine KSeq_n ?_
                refine WC_region ?_
                refine WO_step rfl (S_pure rfl ?_)
                first | refine WO_step rfl (S_addN (b := 1) rfl rfl (by omega) ?_) | refine WO_step rfl (S_pure rfl ?_)
                refine WO_step rfl (S_pure rfl ?_)
                refine WO_nil ?_
                refine KLoop_n ?_
                rw [if_neg (by simp [hb4])] at hlen2
                refine WC_weak (ih (40 - (i + 1)) (by omega) (i + 1) w' (putF l r).2 es' (xs.set k (-(i : Int) - 1)) rfl (by omega) (by omega) hg' hlt' (hla.put hk8 hg.nd hput hrk (by omega) (by rw [hb5]; simp; omega) (fun h => by omega) ⟨by omega, by omega⟩)) ?_ (by repeat (first | exact HSub.refl | refine HSub.pick (by repeat (first | exact Pick.head | apply Pick.tail)) ?_ | apply HSub.drop))
                rw [hlen2]; exact (by repeat (first | exact SubE.nil | apply SubE.cons rfl))
              ·
                try simp only [decide_eq_true_eq, decide_eq_false_iff_not, Bool.not_eq_true', Bool.not_eq_false', beq_iff_eq, bne_iff_ne, beq_eq_false_iff_ne, Int.ofNat_lt, Int.ofNat_le, Int.ofNat_inj, ne_eq, gt_iff_lt, ge_iff_le] at hb5
                refine WC_skip ?_
                refine KBlock_n ?_
                refine KSeq_n ?_
                refine WC_region ?_
                refine WO_step rfl (S_pure rfl ?_)
                first | refine WO_step rfl (S_addN (b := 1) rfl rfl (by omega) ?_) | refine WO_step rfl (S_pure rfl ?_)
                refine WO_step rfl (S_pure rfl ?_)
                refine WO_nil ?_
                refine KLoop_n ?_
                rw [if_neg (by simp [hb4])] at hlen2
                refine WC_weak (ih (40 - (i + 1)) (by omega) (i + 1) w' (putF l r).2 es' (xs.set k ((i + 1 : Nat) : Int)) rfl (by omega) (by omega) hg' hlt' (hla.put hk8 hg.nd hput hrk (by omega) (by rw [hb5]; simp; omega) (fun h => by rw [hrn hb5]; omega) ⟨by omega, by omega⟩)) ?_ (by repeat (first | exact HSub.refl | refine HSub.pick (by repeat (first | exact Pick.head | apply Pick.tail)) ?_ | apply HSub.drop))
                rw [hlen2]; exact (by repeat (first | exact SubE.nil | apply SubE.cons rfl))
            ·
              try simp only [decide_eq_true_eq, decide_eq_false_iff_not, Bool.not_eq_true', Bool.not_eq_false', beq_iff_eq, bne_iff_ne, beq_eq_false_iff_ne, Int.ofNat_lt, Int.ofNat_le, Int.ofNat_inj, ne_eq, gt_iff_lt, ge_iff_le] at hb4
              refine WC_skip ?_
              refine KSeq_n ?_
              refine WC_seq ?_
              refine WC_region ?_
              refine WO_step rfl (S_pure rfl ?_)
              refine WO_step rfl (S_pure rfl ?_)
              first | refine WO_step rfl (S_addN (b := 1) rfl rfl (by omega) ?_) | refine WO_step rfl (S_pure rfl ?_)
              refine WO_step rfl (S_idxA (j := k) rfl rfl rfl hk8 ?_)
              refine WO_step rfl (S_storeArr (k := k) (x := ((i + 1 : Nat) : Int)) rfl rfl (by repeat (first | exact Pick.head | apply Pick.tail)) (by omega) (by omega) ?_)
              refine WO_nil ?_
              refine KSeq_n ?_
              refine WC_seq ?_
              refine WC_region ?_
              refine WO_step rfl (S_pure rfl ?_)
              refine WO_step rfl (S_loadO rfl (by repeat (first | exact Pick.head | apply Pick.tail)) (by rfl) (by rfl) ?_)
              refine WO_nil ?_
              refine KSeq_n ?_
              refine WC_cond rfl (fun hb6 => ?_) (fun hb6 => ?_)
              ·
                try simp only [decide_eq_true_eq, decide_eq_false_iff_not, Bool.not_eq_true', Bool.not_eq_false', beq_iff_eq, bne_iff_ne, beq_eq_false_iff_ne, Int.ofNat_lt, Int.ofNat_le, Int.ofNat_inj, ne_eq, gt_iff_lt, ge_iff_le] at hb6
                refine WC_region ?_
                refine WO_step rfl (S_pure rfl ?_)
                refine WO_step rfl (S_pure rfl ?_)
                refine WO_step rfl (S_pureE (v := .int .i64 (IntKind.wrap .i64 (0 - (i : Int)))) (v' := .int .i64 (-(i : Int))) rfl (by rw [wrap_i64 (by omega) (by omega)]; congr 1; omega) ?_)
                refine WO_step rfl (S_pureE (v := .int .i64 (IntKind.wrap .i64 (-(i : Int) - 1))) (v' := .int .i64 (-(i : Int) - 1)) rfl (by rw [wrap_i64 (by omega) (by omega)]) ?_)
                refine WO_step rfl (S_idxA (j := k) rfl rfl rfl hk8 ?_)
                refine WO_step rfl (S_storeArr (k := k) (x := -(i : Int) - 1) rfl rfl (by repeat (first | exact Pick.head | apply Pick.tail)) (by omega) (by rw [List.length_set]; omega) ?_)
                rw [List.set_set]
                refine WO_nil ?_
                refine KBlock_n ?_
                refine KSeq_n ?_
                refine WC_region ?_
                refine WO_step rfl (S_pure rfl ?_)
                first | refine WO_step rfl (S_addN (b := 1) rfl rfl (by omega) ?_) | refine WO_step rfl (S_pure rfl ?_)
                refine WO_step rfl (S_pure rfl ?_)
                refine WO_nil ?_
                refine KLoop_n ?_
                rw [if_pos (by simp [hb4])] at hlen2
                refine WC_weak (ih (40 - (i + 1)) (by omega) (i + 1) w' (putF l r).2 es' (xs.set k (-(i : Int) - 1)) rfl (by omega) (by omega) hg' hlt' (hla.put hk8 hg.nd hput hrk (by omega) (by rw [hb6]; simp; omega) (fun h => by omega) ⟨by omega, by omega⟩)) ?_ (by repeat (first | exact HSub.refl | refine HSub.pick (by repeat (first | exact Pick.head | apply Pick.tail)) ?_ | apply HSub.drop))
                rw [hlen2]; exact (by repeat (first | exact SubE.nil | apply SubE.cons rfl))
              ·
                try simp only [decide_eq_true_eq, decide_eq_false_iff_not, Bool.not_eq_true', Bool.not_eq_false', beq_iff_eq, bne_iff_ne, beq_eq_false_iff_ne, Int.ofNat_lt, Int.ofNat_le, Int.ofNat_inj, ne_eq, gt_iff_lt, ge_iff_le] at hb6
                refine WC_skip ?_
                refine KBlock_n ?_
                refine KSeq_n ?_
                refine WC_region ?_
                refine WO_step rfl (S_pure rfl ?_)
                first | refine WO_step rfl (S_addN (b := 1) rfl rfl (by omega) ?_) | refine WO_step rfl (S_pure rfl ?_)
                refine WO_step rfl (S_pure rfl ?_)
                refine WO_nil ?_
                refine KLoop_n ?_
                rw [if_pos (by simp [hb4])] at hlen2
                refine WC_weak (ih (40 - (i + 1)) (by omega) (i + 1) w' (putF l r).2 es' (xs.set k ((i + 1 : Nat) : Int)) rfl (by omega) (by omega) hg' hlt' (hla.put hk8 hg.nd hput hrk (by omega) (by rw [hb6]; simp; omega) (fun h => by rw [hrn hb6]; omega) ⟨by omega, by omega⟩)) ?_ (by repeat (first | exact HSub.refl | refine HSub.pick (by repeat (first | exact Pick.head | apply Pick.tail)) ?_ | apply HSub.drop))
                rw [hlen2]; exact (by repeat (first | exact SubE.nil | apply SubE.cons rfl))
      ·
        try simp only [decide_eq_true_eq, decide_eq_false_iff_not, Bool.not_eq_true', Bool.not_eq_false', beq_iff_eq, bne_iff_ne, beq_eq_false_iff_ne, Int.ofNat_lt, Int.ofNat_le, Int.ofNat_inj, ne_eq, gt_iff_lt, ge_iff_le] at hb1
        refine WC_exit ?_
        refine KSeq_x ?_
        refine KLoop_x ?_
        exact KPost_i (by repeat (first | exact SubE.nil | apply SubE.cons rfl)) (by repeat (first | exact HSub.refl | refine HSub.pick (by repeat (first | exact Pick.head | apply Pick.tail)) ?_ | apply HSub.drop)) ⟨w, l, es, xs, rfl, rfl, rfl, hg, hla⟩
    ·
      try simp only [decide_eq_true_eq, decide_eq_false_iff_not, Bool.not_eq_true', Bool.not_eq_false', beq_iff_eq, bne_iff_ne, beq_eq_false_iff_ne, Int.ofNat_lt, Int.ofNat_le, Int.ofNat_inj, ne_eq, gt_iff_lt, ge_iff_le] at hg1
      refine WO_off rfl ?_
      refine WO_off rfl ?_
      refine WO_step rfl (S_pure rfl ?_)
      refine WO_nil ?_
      refine KSeq_n ?_
      refine WC_cond rfl (fun h => ?_) (fun _ => ?_)
      · exact absurd h (by decide)
      refine WC_exit ?_
      refine KSeq_x ?_
      refine KLoop_x ?_
      exact KPost_i (by repeat (first | exact SubE.nil | apply SubE.cons rfl)) (by repeat (first | exact HSub.refl | refine HSub.pick (by repeat (first | exact Pick.head | apply Pick.tail)) ?_ | apply HSub.drop)) ⟨w, l, es, xs, rfl, rfl, rfl, hg, hla⟩
theorem lp_Last_1 {H : SH} {j iD i7 : Nat} {w : SV} {l : List Rec} {es : List Ent} {xs : List Int} (hg : LogI es l) (hla : LastI xs l) : ∀ (m k : Nat), 8 - k = m → k ≤ 8 →
    WC F X (.loop L_loesslaw18_LogLast_1) [(12, .int .i64 (k : Int)), (6, .pointer (some ⟨j, 0, none⟩)), (7, .pointer (some ⟨i7, 0, none⟩)), (8, .int .i64 (l.length : Int))] (LO j iD w :: SL w.toV TRec l :: DO iD es l.length :: .obj i7 (.row false 40 (TInt.cells xs)) :: H)
      (KPost fun x l' H' => x = .exit 2 ∧ l' = [(6, .pointer (some ⟨j, 0, none⟩)), (8, .int .i64 (l.length : Int))] ∧ H' = LO j iD w :: SL w.toV TRec l :: DO iD es l.length :: .obj i7 (.row false 40 (TInt.cells xs)) :: H) := by
  intro m
  induction m using Nat.strongRecOn with
  | _ m ih =>
    intro k hm hk
    have hxl := hla.1
    refine WC_loop ?_
    refine WC_seq ?_
    refine WC_seq ?_
    refine WC_region ?_
    refine WO_step rfl (S_pure rfl ?_)
    refine WO_step rfl (S_pure rfl ?_)
    refine WO_nil ?_
    refine KSeq_n ?_
    refine WC_cond rfl (fun hb1 => ?_) (fun hb1 => ?_)
    ·
      try simp only [decide_eq_true_eq, decide_eq_false_iff_not, Bool.not_eq_true', Bool.not_eq_false', beq_iff_eq, bne_iff_ne, beq_eq_false_iff_ne, Int.ofNat_lt, Int.ofNat_le, Int.ofNat_inj, ne_eq, gt_iff_lt, ge_iff_le] at hb1
      obtain ⟨x, hx⟩ := get_of_lt (show k < xs.length by omega)
      obtain ⟨hA, hB, hC, hD1, hD2⟩ := hla.2 k x hx
      refine WC_skip ?_
      refine KSeq_n ?_
      refine WC_seq ?_
      refine WC_block ?_
      refine WC_seq ?_
      refine WC_region ?_
      refine WO_step rfl (S_pure rfl ?_)
      refine WO_step rfl (S_pure rfl ?_)
      refine WO_step rfl (S_addN (a := 97) (b := k) rfl rfl (by omega) ?_)
      refine WO_step rfl (S_toBn rfl ?_)
      rw [Nat.mod_eq_of_lt (show 97 + k < 256 by omega)]
      refine WO_step rfl (S_lit1B rfl (by omega) fun w87 => ?_)
      refine WO_step rfl (S_strOf rfl (by repeat (first | assumption | exact RD.head | exact RD.nil | apply RD.tail)) (by rfl) (by rfl) ?_)
      refine WO_call rfl rfl rfl ?_
      refine (WF.weak (sp_lGet (H := SL w87.toV TByte [UInt8.ofNat (97 + k)] :: .obj i7 (.row false 40 (TInt.cells xs)) :: H) (n := l.length) (w := w) (i := iD) (j := j) (k := ltr k) hg (by show 1 ≤ 1000000; omega)) (by repeat (first | exact HSub.refl | refine HSub.pick (by repeat (first | exact Pick.head | apply Pick.tail)) ?_ | apply HSub.drop))).mono ?_
      rintro _ _ ⟨rfl, rfl⟩
      refine WO_step rfl (S_pure rfl ?_)
      refine WO_step rfl (S_pure rfl ?_)
      refine WO_step rfl (S_pure rfl ?_)
      refine WO_step rfl (S_newT TRec rec0 rfl rfl fun i13 => ?_)
      refine WO_step rfl (S_storeT (T := TRec) (y := (fnd l (ltr k)).getD rec0) rfl rfl (by repeat (first | exact Pick.head | apply Pick.tail)) (by rfl) (by rfl) ?_)
      rw [hA]
      refine WO_step rfl (S_pure rfl ?_)
      refine WO_nil ?_
      refine KSeq_n ?_
      refine WC_seq ?_
      refine WC_region ?_
      refine WO_step rfl (S_pure rfl ?_)
      refine WO_step rfl (S_pure rfl ?_)
      refine WO_step rfl (S_idxA (j := k) rfl rfl rfl (by omega) ?_)
      refine WO_step rfl (S_loadArr (k := k) rfl (by repeat (first | exact Pick.head | apply Pick.tail)) (by omega) hx ?_)
      first | refine WO_step rfl (S_neS rfl rfl ?_) | refine WO_step rfl (S_pure rfl ?_)
      refine WO_step rfl (S_pure rfl ?_)
      refine WO_step rfl (S_pure rfl ?_)
      refine WO_cases (t := 98) rfl (fun hg1 => ?_) (fun hg1 => ?_)
      ·
        try simp only [decide_eq_true_eq, decide_eq_false_iff_not, Bool.not_eq_true', Bool.not_eq_false', beq_iff_eq, bne_iff_ne, beq_eq_false_iff_ne, Int.ofNat_lt, Int.ofNat_le, Int.ofNat_inj, ne_eq, gt_iff_lt, ge_iff_le] at hg1
        refine WO_off rfl ?_
        refine WO_off rfl ?_
        refine WO_off rfl ?_
        refine WO_off rfl ?_
        refine WO_off rfl ?_
        refine WO_off rfl ?_
        refine WO_off rfl ?_
        refine WO_step rfl (S_pure rfl ?_)
        refine WO_step rfl (S_pure rfl ?_)
        refine WO_off rfl ?_
        refine WO_off rfl ?_
        refine WO_off rfl ?_
        refine WO_off rfl ?_
        refine WO_off rfl ?_
        refine WO_off rfl ?_
        refine WO_off rfl ?_
        refine WO_off rfl ?_
        refine WO_off rfl ?_
        refine WO_off rfl ?_
        refine WO_off rfl ?_
        refine WO_off rfl ?_
        refine WO_off rfl ?_
        refine WO_off rfl ?_
        refine WO_step rfl (S_pure rfl ?_)
        refine WO_nil ?_
        refine KSeq_n ?_
        refine WC_cond rfl (fun _ => ?_) (fun h => ?_)
        rotate_left
        · exact absurd h (by decide)
        refine WC_seq ?_
        refine WC_region ?_
        refine WO_step rfl (S_pure rfl ?_)
        refine WO_nil ?_
        refine KSeq_n ?_
        refine WC_ret ?_
        refine KBlock_r ?_
        refine KSeq_r ?_
        refine KLoop_r ?_
        exfalso; revert hg1
        by_cases h : x = 0 <;> simp [h]
      ·
        try simp only [decide_eq_true_eq, decide_eq_false_iff_not, Bool.not_eq_true', Bool.not_eq_false', beq_iff_eq, bne_iff_ne, beq_eq_false_iff_ne, Int.ofNat_lt, Int.ofNat_le, Int.ofNat_inj, ne_eq, gt_iff_lt, ge_iff_le] at hg1
        refine WO_step rfl (S_pure rfl ?_)
        refine WO_step rfl (S_loadO rfl (by repeat (first | exact Pick.head | apply Pick.tail)) (by rfl) (by rfl) ?_)
        refine WO_step rfl (S_pure rfl ?_)
        refine WO_step rfl (S_idxA (j := k) rfl rfl rfl (by omega) ?_)
        refine WO_step rfl (S_loadArr (k := k) rfl (by repeat (first | exact Pick.head | apply Pick.tail)) (by omega) hx ?_)
        refine WO_step rfl (S_pure rfl ?_)
        refine WO_step rfl (S_pure rfl ?_)
        refine WO_step rfl (S_pure rfl ?_)
        refine WO_step rfl (S_pure rfl ?_)
        refine WO_cases (t := 107) rfl (fun hg2 => ?_) (fun hg2 => ?_)
        ·
          try simp only [decide_eq_true_eq, decide_eq_false_iff_not, Bool.not_eq_true', Bool.not_eq_false', beq_iff_eq, bne_iff_ne, beq_eq_false_iff_ne, Int.ofNat_lt, Int.ofNat_le, Int.ofNat_inj, ne_eq, gt_iff_lt, ge_iff_le] at hg2
          refine WO_off rfl ?_
          refine WO_off rfl ?_
          refine WO_off rfl ?_
          refine WO_off rfl ?_
          refine WO_off rfl ?_
          refine WO_off rfl ?_
          refine WO_off rfl ?_
          refine WO_off rfl ?_
          refine WO_off rfl ?_
          refine WO_off rfl ?_
          refine WO_off rfl ?_
          refine WO_off rfl ?_
          refine WO_off rfl ?_
          refine WO_off rfl ?_
          refine WO_step rfl (S_pure rfl ?_)
          refine WO_nil ?_
          refine KSeq_n ?_
          refine WC_cond rfl (fun _ => ?_) (fun h => ?_)
          rotate_left
          · exact absurd h (by decide)
          refine WC_seq ?_
          refine WC_region ?_
          refine WO_step rfl (S_pure rfl ?_)
          refine WO_nil ?_
          refine KSeq_n ?_
          refine WC_ret ?_
          refine KBlock_r ?_
          refine KSeq_r ?_
          refine KLoop_r ?_
          exfalso; revert hg2
          have e : (OB i13 TRec ((fnd l (ltr k)).getD rec0) : Res) = OB i13 TRec ((fnd l (ltr k)).getD rec0) := rfl
          first | (rw [hB]; by_cases h : x < 0 <;> simp [h]; done) | (simp only [hB]; by_cases h : x < 0 <;> simp [h]; done) | (intro hh; trace_state; sorry)
        ·
          try simp only [decide_eq_true_eq, decide_eq_false_iff_not, Bool.not_eq_true', Bool.not_eq_false', beq_iff_eq, bne_iff_ne, beq_eq_false_iff_ne, Int.ofNat_lt, Int.ofNat_le, Int.ofNat_inj, ne_eq, gt_iff_lt, ge_iff_le] at hg2
          refine WO_step rfl (S_pure rfl ?_)
          refine WO_step rfl (S_idxA (j := k) rfl rfl rfl (by omega) ?_)
          refine WO_step rfl (S_loadArr (k := k) rfl (by repeat (first | exact Pick.head | apply Pick.tail)) (by omega) hx ?_)
          refine WO_step rfl (S_pure rfl ?_)
          refine WO_step rfl (S_pure rfl ?_)
          refine WO_cases (t := 112) rfl (fun hg3 => ?_) (fun hg3 => ?_)
          ·
            try simp only [decide_eq_true_eq, decide_eq_false_iff_not, Bool.not_eq_true', Bool.not_eq_false', beq_iff_eq, bne_iff_ne, beq_eq_false_iff_ne, Int.ofNat_lt, Int.ofNat_le, Int.ofNat_inj, ne_eq, gt_iff_lt, ge_iff_le] at hg3
            refine WO_step rfl (S_pure rfl ?_)
            refine WO_step rfl (S_pure rfl ?_)
            refine WO_step rfl (S_loadO rfl (by repeat (first | exact Pick.head | apply Pick.tail)) (by rfl) (by rfl) ?_)
            refine WO_step rfl (S_pure rfl ?_)
            refine WO_step rfl (S_idxA (j := k) rfl rfl rfl (by omega) ?_)
            refine WO_step rfl (S_loadArr (k := k) rfl (by repeat (first | exact Pick.head | apply Pick.tail)) (by omega) hx ?_)
            refine WO_step rfl (S_pureE (v := .int .i64 (IntKind.wrap .i64 (x - 1))) (v' := .int .i64 (x - 1)) rfl (by rw [wrap_i64 (by omega) (by omega)]) ?_)
            first | refine WO_step rfl (S_neS rfl rfl ?_) | refine WO_step rfl (S_pure rfl ?_)
            refine WO_step rfl (S_pure rfl ?_)
            refine WO_step rfl (S_pure rfl ?_)
            refine WO_nil ?_
            refine KSeq_n ?_
            refine WC_cond rfl (fun hb2 => ?_) (fun hb2 => ?_)
            ·
              try simp only [decide_eq_true_eq, decide_eq_false_iff_not, Bool.not_eq_true', Bool.not_eq_false', beq_iff_eq, bne_iff_ne, beq_eq_false_iff_ne, Int.ofNat_lt, Int.ofNat_le, Int.ofNat_inj, ne_eq, gt_iff_lt, ge_iff_le] at hb2
              refine WC_seq ?_
              refine WC_region ?_
              refine WO_step rfl (S_pure rfl ?_)
              refine WO_nil ?_
              refine KSeq_n ?_
              refine WC_ret ?_
              refine KBlock_r ?_
              refine KSeq_r ?_
              refine KLoop_r ?_
              exfalso
              have hc := hC (by omega)
              first | exact hb2 hc | (apply hb2; exact hc) | (trace_state; sorry)
            ·
              try simp only [decide_eq_true_eq, decide_eq_false_iff_not, Bool.not_eq_true', Bool.not_eq_false', beq_iff_eq, bne_iff_ne, beq_eq_false_iff_ne, Int.ofNat_lt, Int.ofNat_le, Int.ofNat_inj, ne_eq, gt_iff_lt, ge_iff_le] at hb2
              refine WC_skip ?_
              refine KBlock_n ?_
              refine KSeq_n ?_
              refine WC_region ?_
              refine WO_step rfl (S_pure rfl ?_)
              first | refine WO_step rfl (S_addN (b := 1) rfl rfl (by omega) ?_) | refine WO_step rfl (S_pure rfl ?_)
              refine WO_step rfl (S_pure rfl ?_)
              refine WO_nil ?_
              refine KLoop_n ?_
              exact WC_weak (ih (8 - (k + 1)) (by omega) (k + 1) rfl (by omega)) (by repeat (first | exact SubE.nil | apply SubE.cons rfl)) (by repeat (first | exact HSub.refl | refine HSub.pick (by repeat (first | exact Pick.head | apply Pick.tail)) ?_ | apply HSub.drop))
          ·
            try simp only [decide_eq_true_eq, decide_eq_false_iff_not, Bool.not_eq_true', Bool.not_eq_false', beq_iff_eq, bne_iff_ne, beq_eq_false_iff_ne, Int.ofNat_lt, Int.ofNat_le, Int.ofNat_inj, ne_eq, gt_iff_lt, ge_iff_le] at hg3
            refine WO_off rfl ?_
            refine WO_off rfl ?_
            refine WO_off rfl ?_
            refine WO_off rfl ?_
            refine WO_off rfl ?_
            refine WO_off rfl ?_
            refine WO_off rfl ?_
            refine WO_off rfl ?_
            refine WO_step rfl (S_pure rfl ?_)
            refine WO_step rfl (S_pure rfl ?_)
            refine WO_nil ?_
            refine KSeq_n ?_
            refine WC_cond rfl (fun h => ?_) (fun _ => ?_)
            · exact absurd h (by decide)
            refine WC_skip ?_
            refine KBlock_n ?_
            refine KSeq_n ?_
            refine WC_region ?_
            refine WO_step rfl (S_pure rfl ?_)
            first | refine WO_step rfl (S_addN (b := 1) rfl rfl (by omega) ?_) | refine WO_step rfl (S_pure rfl ?_)
            refine WO_step rfl (S_pure rfl ?_)
            refine WO_nil ?_
            refine KLoop_n ?_
            exact WC_weak (ih (8 - (k + 1)) (by omega) (k + 1) rfl (by omega)) (by repeat (first | exact SubE.nil | apply SubE.cons rfl)) (by repeat (first | exact HSub.refl | refine HSub.pick (by repeat (first | exact Pick.head | apply Pick.tail)) ?_ | apply HSub.drop))
    ·
      try simp only [decide_eq_true_eq, decide_eq_false_iff_not, Bool.not_eq_true', Bool.not_eq_false', beq_iff_eq, bne_iff_ne, beq_eq_false_iff_ne, Int.ofNat_lt, Int.ofNat_le, Int.ofNat_inj, ne_eq, gt_iff_lt, ge_iff_le] at hb1
      refine WC_exit ?_
      refine KSeq_x ?_
      refine KLoop_x ?_
      exact KPost_i (by repeat (first | exact SubE.nil | apply SubE.cons rfl)) (by repeat (first | exact HSub.refl | refine HSub.pick (by repeat (first | exact Pick.head | apply Pick.tail)) ?_ | apply HSub.drop)) ⟨rfl, rfl, rfl⟩
theorem law_LogLast {H : SH} {v0 v1 : Value} {ks : List Int} {gs : List Bool} (hv0 : RD H v0 TInt ks) (hall : ∀ x ∈ ks, (Lit.int .i64 x).wf = true) (hv1 : RD H v1 TBool gs) (_ : ∀ x ∈ gs, True) : WF F X f_loesslaw18_LogLast [v0, v1] H (fun v _ => v = .bool true) := by
  refine WF_fn F_loesslaw18_LogLast ?_
  refine WC_seq ?_
  refine WC_region ?_
  refine WO_step rfl (S_pure rfl ?_)
  refine WO_nil ?_
  refine KSeq_n ?_
  refine WC_seq ?_
  refine WC_region ?_
  refine WO_call rfl rfl rfl ?_
  refine sp_begun.mono ?_
  rintro _ H1 ⟨rfl, rfl⟩
  refine WO_step rfl (S_pure rfl ?_)
  refine WO_nil ?_
  refine KSeq_n ?_
  refine WC_seq ?_
  refine WC_seq ?_
  refine WC_region ?_
  refine WO_step rfl (S_pure rfl ?_)
  refine WO_step rfl (S_pure rfl ?_)
  refine WO_nil ?_
  refine KSeq_n ?_
  refine WC_cond rfl (fun hb1 => ?_) (fun hb1 => ?_)
  ·
    try simp only [decide_eq_true_eq, decide_eq_false_iff_not, Bool.not_eq_true', Bool.not_eq_false', beq_iff_eq, bne_iff_ne, beq_eq_false_iff_ne, Int.ofNat_lt, Int.ofNat_le, Int.ofNat_inj, ne_eq, gt_iff_lt, ge_iff_le] at hb1
    exact absurd hb1 (by simp)
    --stop
  ·
    try simp only [decide_eq_true_eq, decide_eq_false_iff_not, Bool.not_eq_true', Bool.not_eq_false', beq_iff_eq, bne_iff_ne, beq_eq_false_iff_ne, Int.ofNat_lt, Int.ofNat_le, Int.ofNat_inj, ne_eq, gt_iff_lt, ge_iff_le] at hb1
    refine WC_skip ?_
    refine KSeq_n ?_
    refine WC_seq ?_
    refine WC_region ?_
    refine WO_call rfl rfl rfl ?_
    refine sp_lNew.mono ?_
    rintro _ _ ⟨jL, iL, rfl, rfl⟩
    refine WO_step rfl (S_pure rfl ?_)
    refine WO_nil ?_
    refine KSeq_n ?_
    refine WC_seq ?_
    refine WC_region ?_
    refine WO_step rfl (S_new fun i7 => ?_)
    refine WO_nil ?_
    refine KSeq_n ?_
    refine WC_seq ?_
    refine WC_region ?_
    refine WO_step rfl (S_pure rfl ?_)
    refine WO_nil ?_
    refine KSeq_n ?_
    refine WC_seq ?_
    refine WC_seq ?_
    refine WC_region ?_
    refine WO_step rfl (S_pure rfl ?_)
    refine WO_nil ?_
    refine KSeq_n ?_
    refine WC_block ?_
    --out x0
    refine WC_post (WC_weak (lp_Last_0 (H := H1) (j := jL) (iD := iL) (i7 := i7) hv0 hv1 hall 40 0 .nil [] _ [0, 0, 0, 0, 0, 0, 0, 0] (by omega) (by omega) (by omega) LogI.new (by intro r hr; simp at hr) LastI.new) (by repeat (first | exact SubE.nil | apply SubE.cons rfl)) (by repeat (first | exact HSub.refl | refine HSub.pick (by repeat (first | exact Pick.head | apply Pick.tail)) ?_ | apply HSub.drop))) ?_
    rintro x l' _ ⟨w, l, es, xs, rfl, rfl, rfl, hg, hla⟩
    refine KBlock_h ?_
    refine KSeq_n ?_
    refine WC_seq ?_
    refine WC_seq ?_
    refine WC_region ?_
    refine WO_step rfl (S_pure rfl ?_)
    refine WO_nil ?_
    refine KSeq_n ?_
    refine WC_block ?_
    --out x2
    refine WC_post (WC_weak (lp_Last_1 (H := H1) (j := jL) (iD := iL) (i7 := i7) (w := w) hg hla 8 0 (by omega) (by omega)) (by repeat (first | exact SubE.nil | apply SubE.cons rfl)) (by repeat (first | exact HSub.refl | refine HSub.pick (by repeat (first | exact Pick.head | apply Pick.tail)) ?_ | apply HSub.drop))) ?_
    rintro x l' _ ⟨rfl, rfl, rfl⟩
    refine KBlock_h ?_
    refine KSeq_n ?_
    refine WC_seq ?_
    refine WC_region ?_
    refine WO_step rfl (S_pure rfl ?_)
    refine WO_call rfl rfl rfl ?_
    refine sp_lLen.mono ?_
    rintro _ _ ⟨rfl, rfl⟩
    refine WO_step rfl (S_pure rfl ?_)
    first | refine WO_step rfl (S_eqS rfl rfl ?_) | refine WO_step rfl (S_pure rfl ?_)
    refine WO_step rfl (S_pure rfl ?_)
    refine WO_nil ?_
    refine KSeq_n ?_
    refine WC_ret ?_
    refine KFn_r (ResL.tmp rfl ResL.nil) ?_
    exact ⟨_, HSub.refl, by simp [resV]⟩

end Go.Proofs.Ytjbichljgfcigaa.AM
