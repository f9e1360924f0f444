/- Walks: what the functions compute. -/
import Derived.Test.YtpgidiompdabdaaGreatLg5
namespace Go.Proofs.YtpgidiompdabdaaGreat.AM
open Go
set_option linter.unusedSimpArgs false
set_option linter.unusedVariables false
set_option maxRecDepth 4000

/-! ### Quotients -/
theorem S_quoN {l : SE} {H : SH} {K : Value → SH → Prop} {x : Opd} {a m : Nat} {M : Int} (hx : x.lv l = some (.int .i64 (a : Int))) (hM : M = (m : Int)) (ha : a < 9223372036854775808) (hm : 0 < m) (k : K (.int .i64 ((a / m : Nat) : Int)) H) : Step (.bin .quo x (.const (.int .i64 M))) l H K :=
  S_pureE (v := .int .i64 (IntKind.wrap .i64 ((a : Int).tdiv M))) (by
    have h2 : (Opd.const (.int .i64 M)).lv l = some (.int .i64 M) := rfl
    simp only [pev, hx, h2, binV, intBin, if_true]; rw [if_neg (by omega)]) (by
    have h := Nat.div_le_self a m
    rw [hM, ← Int.ofNat_tdiv]
    generalize a / m = q at *
    rw [wrap_i64 (by omega) (by omega)]) k
/-! ### The document's table -/
def okRecB (r : Rec) (b : Nat) : Prop := mayRec r = true ∧ (b = frst (kH r.key) ∨ b = oth (frst (kH r.key)) (tagOf (kH r.key)))
def tKeys (ts : List SlT) (k : Nat) : List ByteArray := ((ts.take k).filter (·.has)).map (·.r.key)
def tRecs (ts : List SlT) (k : Nat) : List Rec := ((ts.take k).filter (·.has)).map (·.r)
theorem tKeys_succ {ts : List SlT} {k : Nat} {x : SlT} (hx : ts[k]? = some x) : tKeys ts (k + 1) = tKeys ts k ++ if x.has then [x.r.key] else [] := by
  unfold tKeys
  rw [List.take_add_one, hx, List.filter_append, List.map_append]
  congr 1
  cases h : x.has <;> simp [h]
theorem tRecs_succ {ts : List SlT} {k : Nat} {x : SlT} (hx : ts[k]? = some x) : tRecs ts (k + 1) = tRecs ts k ++ if x.has then [x.r] else [] := by
  unfold tRecs
  rw [List.take_add_one, hx, List.filter_append, List.map_append]
  congr 1
  cases h : x.has <;> simp [h]
theorem tKeys_len (ts : List SlT) (k : Nat) : (tKeys ts k).length ≤ k := by
  unfold tKeys
  rw [List.length_map]
  exact Nat.le_trans (List.length_filter_le _ _) (by rw [List.length_take]; omega)
structure TabOk (ts : List SlT) : Prop where
  len : ts.length = 32
  off : ∀ (k : Nat) (x : SlT), ts[k]? = some x → x.has = false → x.r = rec0
  on : ∀ (k : Nat) (x : SlT), ts[k]? = some x → x.has = true → okRecB x.r (k / 4)
  nd : (tKeys ts 32).Nodup
theorem TabOk.fresh {ts : List SlT} (h : TabOk ts) {k : Nat} {x : SlT} (hx : ts[k]? = some x) (hh : x.has = true) : x.r.key ∉ tKeys ts k := by
  have hk := (List.getElem?_eq_some_iff.1 hx).1
  have hl := h.len
  have h1 := tKeys_succ hx
  rw [hh] at h1
  have h2 : (tKeys ts (k + 1)).Nodup := by
    have e : tKeys ts 32 = tKeys ts (k + 1) ++ (((ts.drop (k + 1)).take (32 - (k + 1))).filter (·.has)).map (·.r.key) := by
      unfold tKeys
      rw [← List.map_append, ← List.filter_append]
      congr 2
      rw [show 32 = (k + 1) + (32 - (k + 1)) by omega, List.take_add]
      simp
    have := h.nd
    rw [e, List.nodup_append] at this
    exact this.1
  rw [h1, List.nodup_append] at h2
  intro hm
  exact h2.2.2 _ hm _ (by simp) rfl
def TStrT : Ty ByteArray := Ty.ofOne 9 16 (fun s => .string s) (fun _ => rfl)
theorem lp_Rcs {H : SH} {ts : List SlT} {i1 : Nat} (hl : ts.length = 32) : ∀ (n k : Nat) (u : SV), 32 - k = n → k ≤ 32 →
    WC F X (.loop L_loessref10_Records_0) [(4, .int .i64 (k : Int)), (1, .pointer (some ⟨i1, 0, none⟩)), (3, u.toV)] (SL u.toV TRec (newest (tRecs ts k)) :: AO i1 38 TSlT ts :: H) (KPost fun y l' H' => ∃ u : SV, y = .exit 0 ∧ l' = [(3, u.toV)] ∧ H' = SL u.toV TRec (newest (tRecs ts 32)) :: H) := by
  intro n
  induction n using Nat.strongRecOn with
  | _ n ih =>
    intro k u hn hk
    have hnl : (newest (tRecs ts k)).length ≤ 32 := by
      refine Nat.le_trans (newest_len _) ?_
      unfold tRecs
      rw [List.length_map]
      exact Nat.le_trans (List.length_filter_le _ _) (by rw [List.length_take]; omega)
    refine WC_loop (WC_seq (WC_seq (WC_region ?_)))
    iterate 2 refine WO_step rfl (S_pure rfl ?_)
    refine WO_nil (KSeq_n ?_)
    refine WC_cond rfl (fun hb1 => ?_) (fun hb1 => ?_)
    ·
     try simp only [bsT] at hb1
     obtain ⟨x, hx⟩ := get_of_lt (show k < ts.length by omega)
     have hsucc := tRecs_succ hx
     refine WC_skip (KSeq_n (WC_seq (WC_block (WC_seq (WC_region ?_)))))
     refine WO_step rfl (S_pure rfl ?_)
     refine WO_step rfl (S_quoN (a := k) (m := 4) rfl rfl (by omega) (by omega) ?_)
     refine WO_step rfl (S_pure rfl ?_)
     refine WO_step rfl (S_remU (a := k) (m := 4) rfl rfl (by omega) ?_)
     refine WO_step rfl (S_idxA (j := k / 4) rfl rfl rfl (by omega) ?_)
     refine WO_step rfl (S_idxA (j := k % 4) rfl rfl rfl (by omega) ?_)
     refine WO_step rfl (S_pure rfl ?_)
     refine WO_step rfl (S_loadAF (T := TSlT) (k := k) (off := 0) (v := .bool x.has) rfl pkA (by show _ = k * 6 + 0; omega) hx (by show 0 + 1 ≤ 6; omega) (by rfl) ?_)
     refine WO_nil (KSeq_n ?_)
     refine WC_cond rfl (fun hb2 => ?_) (fun hb2 => ?_)
     ·
      try simp only [bsT] at hb2
      refine WC_region ?_
      iterate 2 refine WO_step rfl (S_pure rfl ?_)
      refine WO_step rfl (S_quoN (a := k) (m := 4) rfl rfl (by omega) (by omega) ?_)
      refine WO_step rfl (S_pure rfl ?_)
      refine WO_step rfl (S_remU (a := k) (m := 4) rfl rfl (by omega) ?_)
      refine WO_step rfl (S_idxA (j := k / 4) rfl rfl rfl (by omega) ?_)
      refine WO_step rfl (S_idxA (j := k % 4) rfl rfl rfl (by omega) ?_)
      refine WO_step rfl (S_pure rfl ?_)
      refine WO_step rfl (S_loadAF (T := TSlT) (k := k) (off := 1) (v := TRec.val x.r) rfl pkA (by show _ = k * 6 + 1; omega) hx (by show 1 + 5 ≤ 6; omega) (by rfl) ?_)
      refine WO_call rfl rfl rfl ?_
      refine (sp_Set (l := newest (tRecs ts k)) (r := x.r) rdA (by omega)).mono ?_
      rintro _ _ ⟨u2, rfl, rfl⟩
      refine WO_step rfl (S_pure rfl ?_)
      refine WO_nil (KBlock_n (KSeq_n (WC_region ?_)))
      refine WO_step rfl (S_pure rfl ?_)
      first | refine WO_step rfl (S_addN (b := 1) rfl rfl (by omega) ?_) | refine WO_step rfl (S_pure rfl ?_)
      refine WO_step rfl (S_pure rfl ?_)
      refine WO_nil (KLoop_n ?_)
      rw [hb2] at hsucc
      simp only [if_true] at hsucc
      have := ih (32 - (k + 1)) (by omega) (k + 1) u2 rfl (by omega)
      rw [hsucc, newest_snoc] at this
      exact WC_weak this seA hsA
     ·
      try simp only [bsT] at hb2
      refine WC_skip (KBlock_n (KSeq_n (WC_region ?_)))
      refine WO_step rfl (S_pure rfl ?_)
      first | refine WO_step rfl (S_addN (b := 1) rfl rfl (by omega) ?_) | refine WO_step rfl (S_pure rfl ?_)
      refine WO_step rfl (S_pure rfl ?_)
      refine WO_nil (KLoop_n ?_)
      rw [hb2] at hsucc
      simp only [Bool.false_eq_true, if_false, List.append_nil] at hsucc
      have := ih (32 - (k + 1)) (by omega) (k + 1) u rfl (by omega)
      rw [hsucc] at this
      exact WC_weak this seA hsA
    ·
     try simp only [bsT] at hb1
     refine WC_exit (KSeq_x (KLoop_x ?_))
     have e : k = 32 := by omega
     subst e
     exact KPost_i (l' := [(3, u.toV)]) seA hsA ⟨u, rfl, rfl, rfl⟩
theorem sp_Records {H : SH} {ts : List SlT} (hl : ts.length = 32) : WF F X f_loessref10_Records [.agg (TSlT.cells ts).toArray] H (fun r H' => ∃ u : SV, r = u.toV ∧ H' = SL u.toV TRec (newest (tRecs ts 32)) :: H) := by
  refine WF_fn F_loessref10_Records ?_
  refine WC_seq (WC_region ?_)
  refine WO_step rfl (S_boxA (T := TSlT) (xs := ts) rfl fun i1 => ?_)
  refine WO_step rfl (S_pure rfl ?_)
  refine WO_nil (KSeq_n (WC_seq (WC_region ?_)))
  refine WO_step rfl (S_pure rfl ?_)
  refine WO_nil (KSeq_n (WC_seq (WC_seq (WC_region ?_))))
  refine WO_step rfl (S_pure rfl ?_)
  refine WO_nil (KSeq_n (WC_block ?_))
  --out x0
  refine WC_view (H' := SL (SV.toV .nil) TRec [] :: AO i1 38 TSlT ts :: H) (fun h hh => HAg.addNil hh) ?_
  refine WC_post (WC_weak (lp_Rcs (H := H) (i1 := i1) hl 32 0 .nil (by omega) (by omega)) seA hsA) ?_
  rintro y l' _ ⟨u, rfl, rfl, rfl⟩
  refine KBlock_h (KSeq_n (WC_seq (WC_region ?_)))
  iterate 2 refine WO_step rfl (S_pure rfl ?_)
  refine WO_nil (KSeq_n (WC_ret ?_))
  refine KFn_r (ResL.tmp rfl ResL.nil) ?_
  exact ⟨_, HSub.refl, u, rfl, rfl⟩
/-! ### same -/
def tabT (es : List Ent) (l : List Rec) : List SlT := (List.range 32).map (sltOf es l)
theorem tabT_at {es : List Ent} {l : List Rec} {k : Nat} (h : k < 32) : (tabT es l)[k]? = some (sltOf es l k) := by simp [tabT, h]
theorem tabT_len (es : List Ent) (l : List Rec) : (tabT es l).length = 32 := by simp [tabT]
theorem tRecs_tab {es : List Ent} {l : List Rec} : ∀ k, k ≤ 32 → tRecs (tabT es l) k = recsFrom es l 0 k
  | 0, _ => rfl
  | k + 1, h => by
    have hx := tabT_at (es := es) (l := l) (show k < 32 by omega)
    rw [tRecs_succ hx, tRecs_tab k (by omega)]
    have key : ∀ (n a : Nat), recsFrom es l a (n + 1) = recsFrom es l a n ++ (occ es (a + n)).map (recAt l) := by
      intro n
      induction n with
      | zero => intro a; simp [recsFrom, occFrom]
      | succ n ih =>
        intro a
        have := ih (a + 1)
        unfold recsFrom at this ⊢
        rw [occFrom, List.map_append, this, occFrom, List.map_append, List.append_assoc, show a + 1 + n = a + (n + 1) by omega]
    rw [key k 0, Nat.zero_add]
    congr 1
    unfold sltOf occ
    cases (at' es k).has <;> simp [slt0]
theorem tKeys_recs (ts : List SlT) (k : Nat) : tKeys ts k = keysOf (tRecs ts k) := by
  unfold tKeys tRecs keysOf
  rw [List.map_map]; rfl
theorem tab_perm {es : List Ent} {l : List Rec} (g : LogI es l) : (tRecs (tabT es l) 32).Perm l := by
  rw [tRecs_tab 32 (by omega)]; exact recs_perm g
theorem tab_ok {es : List Ent} {l : List Rec} (g : LogI es l) (hm : ∀ r ∈ l, mayRec r = true) : TabOk (tabT es l) := by
  refine ⟨tabT_len es l, fun k x hx hf => ?_, fun k x hx hh => ?_, ?_⟩
  · have hk : k < 32 := by have := (List.getElem?_eq_some_iff.1 hx).1; rwa [tabT_len] at this
    rw [tabT_at hk] at hx
    cases hx
    unfold sltOf at hf ⊢
    split at hf
    · cases hf
    · rename_i h; rw [if_neg h]; rfl
  · have hk : k < 32 := by have := (List.getElem?_eq_some_iff.1 hx).1; rwa [tabT_len] at this
    rw [tabT_at hk] at hx
    cases hx
    unfold sltOf at hh ⊢
    split at hh
    · rename_i h
      rw [if_pos h]
      obtain ⟨i, r, e1, e2, e3, e4⟩ := g.slot hk h
      have e5 : recAt l (at' es k).id = r := by unfold recAt; rw [e1, Int.toNat_natCast, e2]; rfl
      show okRecB (recAt l (at' es k).id) (k / 4)
      rw [e5]
      exact ⟨hm r (List.mem_of_getElem? e2), e4⟩
    · cases hh
  · rw [tKeys_recs]
    exact ((tab_perm g).map _).nodup_iff.2 g.nd
theorem tab_newest {es : List Ent} {l : List Rec} (g : LogI es l) : newest (tRecs (tabT es l) 32) = newest l := newest_same (tab_perm g) g.nd
theorem S_loadWhole {α : Type} {T : Ty α} {l : SE} {H H0 : SH} {K : Value → SH → Prop} {i n : Nat} {t : TypeId} {a : Opd} {xs : List α} (ha : a.lv l = some (.pointer (some ⟨i, 0, none⟩))) (hp : Pick (AO i t T xs) H H0) (hn : n = xs.length * T.es) (kk : K (.agg (T.cells xs).toArray) H) : Step (.load true n a) l H K := by
  have hc := T.cells_len xs
  exact S_loadO ha hp (by rw [Nat.ble_eq, hc]; omega) (by rw [List.drop_zero, hn, ← hc, List.take_length]; rfl) kk

end Go.Proofs.YtpgidiompdabdaaGreat.AM
