/- Walks: what the functions compute. -/
import Derived.Test.YtpgidiompdabdaaGreatLg
import Derived.Test.YtpgidiompdabdaaGreatAmZ
import Derived.Carry
import Derived.KernelRfl
namespace Go.Proofs.YtpgidiompdabdaaGreat.AM
open Go
set_option linter.unusedSimpArgs false
set_option linter.unusedVariables false
set_option maxRecDepth 4000

/-! ### The law LogLast -/
theorem FIntT : Flat Tryz.prog 3 TInt (fun a => (Lit.int .i64 a).wf = true) := by
  refine ⟨by kernel_rfl, by decide, ?_, fun _ => rfl⟩
  intro H enc W base spare held fuel cs x h
  obtain ⟨n, hn, hw⟩ := trod_int' Tryz.underlying3 h
  exact ⟨n, hn, hw⟩
def TBool : Ty Bool := Ty.ofOne 4 1 (fun n => .bool n) (fun _ => rfl)
theorem FBoolT : Flat Tryz.prog 4 TBool (fun _ => True) := by
  refine ⟨by kernel_rfl, by decide, ?_, fun _ => rfl⟩
  intro H enc W base spare held fuel cs x h
  obtain ⟨n, hn⟩ := trod_bool' Tryz.underlying4 h
  exact ⟨n, hn, trivial⟩
theorem fnd_app (l : List Rec) (r : Rec) (k : ByteArray) (hno : ∀ q ∈ l, q.key ≠ r.key) : fnd (l ++ [r]) k = if k = r.key then some r else fnd l k := by
  induction l with
  | nil =>
    by_cases h : r.key = k
    · simp [fnd, h]
    · simp [fnd, h, Ne.symm h]
  | cons x l ih =>
    rw [List.cons_append, fnd, fnd, ih (fun q hq => hno q (List.mem_cons_of_mem _ hq))]
    by_cases h : x.key = k
    · have hx := hno x (List.mem_cons_self ..)
      rw [if_pos h, if_neg (by rintro rfl; exact hx h), if_pos h]
    · rw [if_neg h, if_neg h]
theorem fnd_set {r : Rec} {k : ByteArray} : ∀ {l : List Rec} {i : Nat} {x : Rec}, (keysOf l).Nodup → l[i]? = some x → r.key = x.key → fnd (l.set i r) k = if k = r.key then some r else fnd l k
  | [], i, x, _, h, _ => by simp at h
  | y :: l, 0, x, hn, h, hk => by
    simp at h; subst h
    rw [List.set_cons_zero, fnd, fnd, hk]
    by_cases e : y.key = k
    · rw [if_pos e, if_pos e.symm]
    · rw [if_neg e, if_neg (fun c => e c.symm), if_neg e]
  | y :: l, i + 1, x, hn, h, hk => by
    rw [List.getElem?_cons_succ] at h
    have hn' : (keysOf l).Nodup := (List.nodup_cons.1 hn).2
    have hy : y.key ∉ keysOf l := (List.nodup_cons.1 hn).1
    have hxk : x.key ∈ keysOf l := List.mem_map.2 ⟨x, List.mem_of_getElem? h, rfl⟩
    rw [List.set_cons_succ, fnd, fnd, fnd_set hn' h hk]
    by_cases e : y.key = k
    · rw [if_pos e, if_pos e, if_neg]
      rintro rfl
      rw [e, hk] at hy; exact hy hxk
    · rw [if_neg e, if_neg e]
theorem fnd_put {l : List Rec} {r : Rec} (hn : (keysOf l).Nodup) (h0 : (putF l r).1 = 0) (k : ByteArray) : fnd (putF l r).2 k = if k = r.key then some r else fnd l k := by
  unfold putF at *
  split at h0
  · exact absurd h0 (by simp)
  · rename_i hm
    rw [if_neg hm]
    split at h0
    · rename_i hi
      rw [if_pos hi]
      rcases idxK_spec l r.key with ⟨i, q, h1, h2, h3⟩ | ⟨h1, _⟩
      · rw [h1, Int.toNat_natCast]
        exact fnd_set hn h2 h3.symm
      · rw [h1] at hi; exact absurd hi (by decide)
    · rename_i hi
      rw [if_neg hi]
      split at h0
      · rename_i hr
        rw [if_pos hr]
        refine fnd_app l r k ?_
        rcases idxK_spec l r.key with ⟨i, q, h1, h2, h3⟩ | ⟨_, h2⟩
        · rw [h1] at hi; exact absurd (Int.natCast_nonneg i) hi
        · exact h2
      · exact absurd h0 (by simp)
theorem put_len_eq {l : List Rec} {r : Rec} (h0 : (putF l r).1 = 0) : (putF l r).2.length = if (fnd l r.key).isSome then l.length else l.length + 1 := by
  unfold putF at *
  split at h0
  · exact absurd h0 (by simp)
  · rename_i hm
    rw [if_neg hm]
    split at h0
    · rename_i hi
      rw [if_pos hi]
      rcases fnd_idx r.key l with ⟨h1, h2⟩ | ⟨i, q, h1, h2, h3⟩
      · rw [h2] at hi; exact absurd hi (by decide)
      · rw [h1]; simp
    · rename_i hi
      rw [if_neg hi]
      split at h0
      · rename_i hr
        rw [if_pos hr]
        rcases fnd_idx r.key l with ⟨h1, h2⟩ | ⟨i, q, h1, h2, h3⟩
        · rw [h1]; simp
        · rw [h2] at hi; exact absurd (Int.natCast_nonneg i) hi
      · exact absurd h0 (by simp)
theorem put_mem {l : List Rec} {r q : Rec} (h : q ∈ (putF l r).2) : q ∈ l ∨ q = r := by
  unfold putF at h
  split at h
  · exact .inl h
  · split at h
    · exact (List.mem_or_eq_of_mem_set h)
    · split at h
      · rcases List.mem_append.1 h with h | h
        · exact .inl h
        · simp at h; exact .inr h
      · exact .inl h
theorem put_ok {l : List Rec} {r : Rec} (hm : mayRec r = true) (hl : l.length ≤ 7 ∨ (fnd l r.key).isSome = true) : (putF l r).1 = 0 := by
  unfold putF
  rw [if_neg (by rw [hm]; simp)]
  split
  · rfl
  · rename_i hi
    rw [if_pos]
    refine few_room ?_
    rcases hl with hl | hl
    · simp [hsOf]; omega
    · exfalso
      rcases fnd_idx r.key l with ⟨h1, h2⟩ | ⟨i, q, h1, h2, h3⟩
      · rw [h1] at hl; cases hl
      · rw [h2] at hi; exact hi (Int.natCast_nonneg i)
/-- A key of one letter. -/
def ltr (k : Nat) : ByteArray := ⟨[UInt8.ofNat (97 + k)].toArray⟩
theorem ltr_inj {a b : Nat} (ha : a < 8) (hb : b < 8) (h : ltr a = ltr b) : a = b := by
  have := congrArg (fun b : ByteArray => (b.data.toList.headD 0).toNat) h
  simp only [ltr, List.headD_cons] at this
  rw [UInt8.toNat_ofNat_of_lt' (by show _ < 256; omega), UInt8.toNat_ofNat_of_lt' (by show _ < 256; omega)] at this
  omega
def Ltrs (l : List Rec) : Prop := ∀ r ∈ l, ∃ k, k < 8 ∧ r.key = ltr k
def codeOf (k : ByteArray) : Nat := (k.data.toList.headD 0).toNat - 97
theorem code_ltr {k : Nat} (hk : k < 8) : codeOf (ltr k) = k := by
  unfold codeOf ltr
  simp only [List.headD_cons]
  rw [UInt8.toNat_ofNat_of_lt' (by show _ < 256; omega)]; omega
theorem ltrs_len {l : List Rec} (hn : (keysOf l).Nodup) (hl : Ltrs l) : l.length ≤ 8 := by
  have h1 : ((keysOf l).map codeOf).Nodup := by
    unfold List.Nodup at *
    rw [List.pairwise_map]
    refine List.Pairwise.imp_of_mem (fun {a b} ha hb hab => ?_) hn
    obtain ⟨r, hr, rfl⟩ := List.mem_map.1 ha
    obtain ⟨q, hq, rfl⟩ := List.mem_map.1 hb
    obtain ⟨x, hx, ex⟩ := hl r hr
    obtain ⟨y, hy, ey⟩ := hl q hq
    rw [ex, ey, code_ltr hx, code_ltr hy]
    rw [ex, ey] at hab
    rintro rfl; exact hab rfl
  have h2 := nd_len 8 _ h1 (fun x hx => by
    obtain ⟨k, hk, rfl⟩ := List.mem_map.1 hx
    obtain ⟨r, hr, rfl⟩ := List.mem_map.1 hk
    obtain ⟨y, hy, ey⟩ := hl r hr
    rw [ey, code_ltr hy]; exact hy)
  simpa [keysOf] using h2
theorem ltrs_room {l : List Rec} (hn : (keysOf l).Nodup) (hl : Ltrs l) {k : Nat} (hk : k < 8) : l.length ≤ 7 ∨ (fnd l (ltr k)).isSome = true := by
  rcases fnd_idx (ltr k) l with ⟨h1, h2⟩ | ⟨i, q, h1, _⟩
  · left
    have hno : ∀ q ∈ l, q.key ≠ ltr k := by
      rcases idxK_spec l (ltr k) with ⟨i, q, h3, _⟩ | ⟨_, h4⟩
      · rw [h3] at h2; exact absurd (Int.natCast_nonneg i) (by rw [h2]; decide)
      · exact h4
    have := ltrs_len (l := l ++ [⟨ltr k, false, raw0⟩]) (by
      unfold keysOf
      rw [List.map_append, List.nodup_append]
      refine ⟨hn, by simp, fun a ha b hb => ?_⟩
      simp at hb; subst hb
      obtain ⟨q, hq, rfl⟩ := List.mem_map.1 ha
      exact hno q hq) (fun r hr => by
      rcases List.mem_append.1 hr with hr | hr
      · exact hl r hr
      · simp at hr; subst hr; exact ⟨k, hk, rfl⟩)
    simp at this; omega
  · right; rw [h1]; rfl
/-- What the law's array says. -/
def LastI (xs : List Int) (l : List Rec) : Prop := xs.length = 8 ∧ ∀ (k : Nat) (x : Int), xs[k]? = some x → (fnd l (ltr k)).isSome = decide (x ≠ 0) ∧ ((fnd l (ltr k)).getD rec0).gone = decide (x < 0) ∧ (0 < x → ((fnd l (ltr k)).getD rec0).val.n = x - 1) ∧ -100 < x ∧ x < 100
theorem LastI.new : LastI [0, 0, 0, 0, 0, 0, 0, 0] [] := by
  refine ⟨rfl, fun k x h => ?_⟩
  have hx : x = 0 := by
    have := List.mem_of_getElem? h
    simpa using this
  subst hx
  simp [fnd, rec0]
theorem LastI.put {xs : List Int} {l : List Rec} {r : Rec} {k : Nat} {x : Int} (h : LastI xs l) (hk : k < 8) (hn : (keysOf l).Nodup) (h0 : (putF l r).1 = 0) (hr : r.key = ltr k) (h1 : x ≠ 0) (h2 : r.gone = decide (x < 0)) (h3 : 0 < x → r.val.n = x - 1) (h4 : -100 < x ∧ x < 100) : LastI (xs.set k x) (putF l r).2 := by
  refine ⟨by rw [List.length_set]; exact h.1, fun k' x' hx => ?_⟩
  rw [fnd_put hn h0, hr]
  rw [List.getElem?_set] at hx
  have hl := h.1
  by_cases e : k = k'
  · subst e
    rw [if_pos rfl, if_pos (by omega)] at hx
    cases hx
    rw [if_pos rfl]
    exact ⟨by simp [h1], h2, h3, h4.1, h4.2⟩
  · rw [if_neg e] at hx
    have hk' : k' < 8 := by have := (List.getElem?_eq_some_iff.1 hx).1; omega
    rw [if_neg (fun c => e (ltr_inj hk' hk c).symm)]
    exact h.2 k' x' hx
theorem S_loadArr {l : SE} {H H0 : SH} {K : Value → SH → Prop} {i o k : Nat} {t : TypeId} {a : Opd} {xs : List Int} {x : Int} (ha : a.lv l = some (.pointer (some ⟨i, o, none⟩))) (hp : Pick (.obj i (.row false t (TInt.cells xs))) H H0) (ho : o = k) (hx : xs[k]? = some x) (kk : K (.int .i64 x) H) : Step (.load false 1 a) l H K := by
  subst ho
  have hlt := (List.getElem?_eq_some_iff.1 hx).1
  have hc : (TInt.cells xs).length = xs.length * 1 := TInt.cells_len xs
  have h := TInt.cells_at hx (off := 0) (n := 1) (by show 0 + 1 ≤ 1; omega)
  refine S_loadO ha hp (by rw [Nat.ble_eq, hc]; omega) ?_ kk
  have e : o * TInt.es + 0 = o := by show o * 1 + 0 = o; omega
  rw [e] at h
  rw [h]; rfl
theorem S_storeArr {l : SE} {H H0 : SH} {K : Value → SH → Prop} {i o k : Nat} {t : TypeId} {a y : Opd} {xs : List Int} {x : Int} (ha : a.lv l = some (.pointer (some ⟨i, o, none⟩))) (hy : y.lv l = some (.int .i64 x)) (hp : Pick (.obj i (.row false t (TInt.cells xs))) H H0) (ho : o = k) (hk : k < xs.length) (kk : K undef (.obj i (.row false t (TInt.cells (xs.set k x))) :: H0)) : Step (.store 1 a y) l H K := by
  subst ho
  have hc : (TInt.cells xs).length = xs.length * 1 := TInt.cells_len xs
  have e1 := TInt.cells_set (xs := xs) (j := o) (x := xs[o]) (y := x) (List.getElem?_eq_getElem hk) (off := 0) (vs := TInt.enc x) (by rw [splice_all (by rw [TInt.len, TInt.len])]) (by rw [TInt.len]; omega)
  refine S_storeO ha hy hp rfl (by rw [Nat.ble_eq, hc]; omega) rfl ?_
  have e : o * TInt.es + 0 = o := by show o * 1 + 0 = o; omega
  rw [e] at e1
  have e3 : splice (TInt.cells xs) o (AM.cells (.int .i64 x)) = TInt.cells (xs.set o x) := e1
  rw [e3]; exact kk

end Go.Proofs.YtpgidiompdabdaaGreat.AM
