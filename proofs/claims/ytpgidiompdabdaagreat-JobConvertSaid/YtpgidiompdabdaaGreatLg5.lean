/- Walks: what the functions compute. -/
import Derived.Test.YtpgidiompdabdaaGreatLg1
import Derived.Test.YtpgidiompdabdaaGreatNewest
namespace Go.Proofs.YtpgidiompdabdaaGreat.AM
open Go
set_option linter.unusedSimpArgs false
set_option linter.unusedVariables false
set_option maxRecDepth 4000

/-! ### A log's list -/
theorem fnd_none_iff (k : ByteArray) : ∀ l : List Rec, fnd l k = none ↔ ∀ r ∈ l, r.key ≠ k
  | [] => by simp [fnd]
  | x :: l => by
    rw [fnd]
    by_cases h : x.key = k
    · rw [if_pos h]; simp [h]
    · rw [if_neg h, fnd_none_iff k l]; simp [h]
theorem mem_inj {l : List Rec} (hn : (keysOf l).Nodup) {a b : Rec} (h1 : a ∈ l) (h2 : b ∈ l) (h : a.key = b.key) : a = b := by
  obtain ⟨i, hi⟩ := List.getElem?_of_mem h1
  obtain ⟨j, hj⟩ := List.getElem?_of_mem h2
  have := key_inj hn hi hj h
  subst this
  rw [hi] at hj; cases hj; rfl
theorem fnd_some_iff {l : List Rec} (hn : (keysOf l).Nodup) {k : ByteArray} {r : Rec} : fnd l k = some r ↔ r ∈ l ∧ r.key = k := by
  constructor
  · exact fnd_mem'
  · rintro ⟨h1, rfl⟩
    cases h : fnd l r.key with
    | none => exact absurd rfl ((fnd_none_iff _ l).1 h r h1)
    | some q =>
      obtain ⟨h2, h3⟩ := fnd_mem' h
      rw [mem_inj hn h2 h1 h3]
theorem fnd_mem_congr {a b : List Rec} (ha : (keysOf a).Nodup) (hb : (keysOf b).Nodup) (h : ∀ r, r ∈ a ↔ r ∈ b) (k : ByteArray) : fnd a k = fnd b k := by
  cases e : fnd b k with
  | none => rw [fnd_none_iff] at e ⊢; exact fun r hr => e r ((h r).1 hr)
  | some r => rw [fnd_some_iff hb] at e; rw [fnd_some_iff ha]; exact ⟨(h r).2 e.1, e.2⟩
theorem keys_rev {l : List Rec} (h : (keysOf l).Nodup) : (keysOf l.reverse).Nodup := by
  unfold keysOf
  rw [List.map_reverse]; exact (List.reverse_perm _).nodup_iff.2 h
theorem fnd_newest {l : List Rec} (h : (keysOf l).Nodup) (k : ByteArray) : fnd (newest l) k = fnd l k := by
  rw [(newest_spec l).2 k]
  exact fnd_mem_congr (keys_rev h) h (fun r => List.mem_reverse) k
theorem Inc.nd {l : List Rec} (h : Inc l) : (keysOf l).Nodup := by
  unfold List.Nodup keysOf
  rw [List.pairwise_map]
  exact h.imp fun {a b} hab e => by
    unfold kl at hab
    rw [e] at hab
    exact List.lt_irrefl _ hab
theorem setR_perm {r : Rec} : ∀ {l : List Rec} {d : Bool}, (∀ y ∈ l, y.key ≠ r.key) → (setR r l d).Perm (if d then l else r :: l)
  | [], true, _ => by simp [setR]
  | [], false, _ => by simp [setR]
  | x :: l, true, h => by
    have hx := h x (List.mem_cons_self ..)
    have := setR_perm (r := r) (l := l) (d := true) (fun y hy => h y (List.mem_cons_of_mem _ hy))
    rw [setR_c5 hx]
    exact this.cons x
  | x :: l, false, h => by
    have hx := h x (List.mem_cons_self ..)
    have h1 := setR_perm (r := r) (l := l) (d := true) (fun y hy => h y (List.mem_cons_of_mem _ hy))
    have h2 := setR_perm (r := r) (l := l) (d := false) (fun y hy => h y (List.mem_cons_of_mem _ hy))
    by_cases hlt : kl x < kl r
    · rw [setR_c3 hlt hx]
      exact (h2.cons x).trans (List.Perm.swap r x l)
    · rw [setR_c1 hlt hx]
      exact (h1.cons x).cons r
theorem newest_perm {l : List Rec} (h : (keysOf l).Nodup) : (newest l).Perm l := by
  have key : ∀ (n : Nat) (l : List Rec), l.length = n → (keysOf l).Nodup → (newest l).Perm l := by
    intro n
    induction n with
    | zero => intro l hl _; rw [List.length_eq_zero_iff.1 hl]; exact List.Perm.refl _
    | succ n ih =>
      intro l hl hn
      obtain ⟨B, y, rfl⟩ := snoc_of_pos (A := l) (by omega)
      rw [newest_snoc]
      unfold keysOf at hn
      rw [List.map_append, List.nodup_append] at hn
      have hB := ih B (by simp at hl; exact hl) hn.1
      refine (setR_perm (d := false) (fun z hz => ?_)).trans ?_
      · exact fun e => hn.2.2 z.key (List.mem_map.2 ⟨z, hB.mem_iff.1 hz, rfl⟩) y.key (by simp) e
      · simp only [Bool.false_eq_true, if_false]
        exact (hB.cons y).trans (List.perm_append_singleton y B).symm
  exact key _ l rfl h
/-- Is there room for a key, by the document? -/
def roomK (l : List Rec) (k : ByteArray) : Bool := (fnd l k).isSome || decide (Room (hsOf l ++ [kH k]))
theorem Room.perm_iff {a b : List Nat} (h : a.Perm b) : Room a ↔ Room b := ⟨Room.perm h, Room.perm h.symm⟩
theorem roomK_newest {l : List Rec} (h : (keysOf l).Nodup) (k : ByteArray) : roomK (newest l) k = roomK l k := by
  unfold roomK
  rw [fnd_newest h]
  congr 1
  rw [Bool.eq_iff_iff, decide_eq_true_eq, decide_eq_true_eq]
  exact Room.perm_iff ((newest_perm h).map _ |>.append_right _)
theorem put_code {l : List Rec} {r : Rec} (hm : mayRec r = true) : (putF l r).1 = if roomK l r.key then 0 else 5 := by
  unfold putF roomK
  rw [if_neg (by rw [hm]; simp)]
  rcases fnd_idx r.key l with ⟨h1, h2⟩ | ⟨i, q, h1, h2, _⟩
  · rw [h1, h2, if_neg (by decide)]
    by_cases hr : Room (hsOf l ++ [kH r.key])
    · rw [if_pos hr]; simp [hr]
    · rw [if_neg hr]; simp [hr]
  · rw [h1, h2, if_pos (Int.natCast_nonneg i)]; simp
theorem newest_put {l : List Rec} {r : Rec} (hn : (keysOf l).Nodup) (hn' : (keysOf (putF l r).2).Nodup) (h0 : (putF l r).1 = 0) : newest (putF l r).2 = setR r (newest l) false := by
  obtain ⟨a1, a2⟩ := setR_spec r (newest l) (newest_spec l).1
  refine Inc.uniq (newest_spec _).1 a1 (fun k => ?_)
  rw [fnd_newest hn', fnd_put hn h0, a2 k, fnd_newest hn]
  by_cases e : k = r.key
  · rw [if_pos e, if_pos e.symm]
  · rw [if_neg e, if_neg (fun c => e c.symm)]
theorem sp_lList {H : SH} {j i n : Nat} {w : SV} {l : List Rec} {es : List Ent} (hl : l.length ≤ 1000000) (hk : ∀ x ∈ l, x.key.size ≤ maxLen) : WF F X f_logstore_Log_List [.pointer (some ⟨j, 0, none⟩)] (LO j i w :: SL w.toV TRec l :: DO i es n :: H) (fun v H' => ∃ u : SV, v = u.toV ∧ H' = SL u.toV TRec (newest l) :: LO j i w :: SL w.toV TRec l :: DO i es n :: H) := by
  refine WF_fn F_logstore_Log_List ?_
  refine WC_seq (WC_region ?_)
  refine WO_step rfl (S_pure rfl ?_)
  refine WO_nil (KSeq_n (WC_seq (WC_seq (WC_region ?_))))
  iterate 2 refine WO_step rfl (S_pure rfl ?_)
  refine WO_nil (KSeq_n ?_)
  refine WC_cond rfl (fun hb1 => ?_) (fun hb1 => ?_)
  ·
   try simp only [bsT] at hb1
   exact absurd hb1 (by simp)
   --stop
  ·
   try simp only [bsT] at hb1
   refine WC_skip (KSeq_n (WC_seq (WC_region ?_)))
   iterate 3 refine WO_step rfl (S_pure rfl ?_)
   refine WO_step rfl (S_loadO rfl pkA (by rfl) (by rfl) ?_)
   refine WO_call rfl rfl rfl ?_
   refine (sp_rNewest rdA (by omega) (by assumption)).mono ?_
   rintro _ _ ⟨w9, rfl, rfl⟩
   refine WO_step rfl (S_pure rfl ?_)
   refine WO_nil (KSeq_n (WC_ret ?_))
   refine KFn_r (ResL.tmp rfl ResL.nil) ?_
   exact ⟨_, HSub.refl, _, rfl, rfl⟩
/-! ### The law LogRoom -/
theorem S_and15 {l : SE} {H : SH} {K : Value → SH → Prop} {x : Opd} {n : Int} (hx : x.lv l = some (.int .i64 n)) (k : ∀ m : Nat, m < 16 → K (.int .i64 (m : Int)) H) : Step (.bin .and x (.const (.int .i64 15))) l H K := by
  have hlt : (BitVec.ofInt 64 n &&& BitVec.ofInt 64 15).toNat < 16 := by
    rw [BitVec.toNat_and, show (BitVec.ofInt 64 15).toNat = 15 from rfl]
    have := Nat.and_le_right (n := (BitVec.ofInt 64 n).toNat) (m := 15)
    omega
  refine S_pureE (v := .int .i64 (IntKind.wrap .i64 ((BitVec.ofInt 64 n &&& BitVec.ofInt 64 15).toNat : Int))) (v' := .int .i64 (((BitVec.ofInt 64 n &&& BitVec.ofInt 64 15).toNat : Nat) : Int)) (by
    have h2 : (Opd.const (.int .i64 15)).lv l = some (.int .i64 15) := rfl
    simp only [pev, hx, h2, binV, intBin, if_true]; rfl) (by rw [wrap_i64 (by omega) (by omega)]) (k _ hlt)
theorem put_same {l : List Rec} {r : Rec} (hm : mayRec r = true) (hs : (fnd l r.key).isSome = true) : (putF l r).1 = 0 ∧ keysOf (putF l r).2 = keysOf l := by
  have h0 : (putF l r).1 = 0 := by rw [put_code hm]; unfold roomK; rw [hs]; rfl
  refine ⟨h0, ?_⟩
  unfold putF
  rw [if_neg (by rw [hm]; simp)]
  rcases fnd_idx r.key l with ⟨h1, _⟩ | ⟨i, q, h1, h2, h3⟩
  · rw [h1] at hs; cases hs
  · rw [h2, if_pos (Int.natCast_nonneg i), Int.toNat_natCast]
    exact keys_set h3 (fnd_mem' h1).2.symm
def Two (l : List Rec) : Prop := ∀ r ∈ l, r.key.size = 2
theorem Two.put {l : List Rec} {r : Rec} (h : Two l) (hr : r.key.size = 2) : Two (putF l r).2 := fun q hq => by
  rcases put_mem hq with hq | rfl
  · exact h q hq
  · exact hr
def kR (a b : Nat) : ByteArray := ⟨[UInt8.ofNat a, UInt8.ofNat b].toArray⟩
/-! ### What lies where, in a log -/
def occ (es : List Ent) (k : Nat) : List Int := if (at' es k).has then [(at' es k).id] else []
def occFrom (es : List Ent) : Nat → Nat → List Int
  | _, 0 => []
  | k, n + 1 => occ es k ++ occFrom es (k + 1) n
theorem Left.ids {es : List Ent} : ∀ (n k : Nat) (L : List Kv), k + n = 32 → Left es k L → (occFrom es k n).Perm (L.map (·.id))
  | 0, k, L, hk, h => by
    have : k = 32 := by omega
    subst this
    rw [h.end']; exact List.Perm.refl _
  | n + 1, k, L, hk, h => by
    rw [occFrom]
    unfold occ
    cases he : (at' es k).has with
    | false =>
      simp only [Bool.false_eq_true, if_false, List.nil_append]
      exact Left.ids n (k + 1) L (by omega) (h.none (by omega) he)
    | true =>
      simp only [if_true]
      obtain ⟨x, hx, hf⟩ := h.some (by omega) he
      obtain ⟨A, B, rfl⟩ := List.append_of_mem hx
      have h2 := Left.ids n (k + 1) (A ++ B) (by omega) (h.take (by omega) he hf)
      have e := (fits_iff.1 hf).1
      rw [List.map_append, List.map_cons]
      refine List.Perm.trans ?_ List.perm_middle.symm
      rw [e]
      rw [List.map_append] at h2
      exact h2.cons _
theorem Left.mem {es : List Ent} {l0 : List Kv} : ∀ (k : Nat), k ≤ 32 → Left es 0 l0 → ∃ L, Left es k L ∧ ∀ x ∈ L, x ∈ l0
  | 0, _, h => ⟨l0, h, fun _ hx => hx⟩
  | k + 1, hk, h => by
    obtain ⟨L, h1, h2⟩ := Left.mem k (by omega) h
    cases he : (at' es k).has with
    | false => exact ⟨L, h1.none (by omega) he, h2⟩
    | true =>
      obtain ⟨x, hx, hf⟩ := h1.some (by omega) he
      obtain ⟨A, B, rfl⟩ := List.append_of_mem hx
      exact ⟨A ++ B, h1.take (by omega) he hf, fun y hy => h2 y (by
        rcases List.mem_append.1 hy with hy | hy
        · exact List.mem_append_left _ hy
        · exact List.mem_append_right _ (List.mem_cons_of_mem _ hy))⟩
theorem kvsF_ids : ∀ (a : Nat) (l : List Rec), (kvsF a l).map (·.id) = (List.range' a l.length).map fun i => ((i : Nat) : Int)
  | _, [] => rfl
  | a, r :: l => by rw [kvsF, List.map_cons, kvsF_ids (a + 1) l, List.length_cons, List.range'_succ, List.map_cons]
/-- An occupied slot's record. -/
theorem LogI.slot {es : List Ent} {l : List Rec} (g : LogI es l) {k : Nat} (hk : k < 32) (he : (at' es k).has = true) : ∃ (i : Nat) (r : Rec), (at' es k).id = (i : Int) ∧ l[i]? = some r ∧ tagOf (kH r.key) = (at' es k).tag ∧ (k / 4 = frst (kH r.key) ∨ k / 4 = oth (frst (kH r.key)) (tagOf (kH r.key))) := by
  obtain ⟨L, h1, h2⟩ := Left.mem k (by omega) (Left.start g.holds)
  obtain ⟨x, hx, hf⟩ := h1.some hk he
  obtain ⟨i, r, hr, rfl⟩ := (kvsF_mem 0 l).1 (h2 x hx)
  obtain ⟨e1, e2, e3⟩ := fits_iff.1 hf
  simp only [Nat.zero_add] at e1
  exact ⟨i, r, e1.symm, hr, e2, by rw [e2]; exact e3⟩
def recAt (l : List Rec) (v : Int) : Rec := (l[v.toNat]?).getD rec0
def recsFrom (es : List Ent) (l : List Rec) (k n : Nat) : List Rec := (occFrom es k n).map (recAt l)
theorem range_recs (l : List Rec) : ((List.range' 0 l.length).map fun i => ((i : Nat) : Int)).map (recAt l) = l := by
  rw [List.map_map]
  refine List.ext_getElem (by simp) (fun i h1 h2 => ?_)
  simp [recAt, List.getElem?_eq_getElem h2]
theorem recs_perm {es : List Ent} {l : List Rec} (g : LogI es l) : (recsFrom es l 0 32).Perm l := by
  have h1 := Left.ids 32 0 (kvs l) rfl (Left.start g.holds)
  have h2 := h1.map (recAt l)
  unfold kvs at h2
  rw [kvsF_ids, range_recs] at h2
  exact h2
/-- A slot of the document's table. -/
structure SlT where
  has : Bool
  r : Rec
def slt0 : SlT := ⟨false, rec0⟩
def TSlT : Ty SlT := Ty.ofAgg 6 35 64 (fun s => [.bool s.has, .string s.r.key, .bool s.r.gone, .int .i64 s.r.val.kind, .int .i64 s.r.val.n, .string s.r.val.s]) (fun _ => rfl) (fun _ => rfl)
def sltOf (es : List Ent) (l : List Rec) (k : Nat) : SlT := if (at' es k).has then ⟨true, recAt l (at' es k).id⟩ else slt0
theorem newest_same {a b : List Rec} (h : a.Perm b) (hb : (keysOf b).Nodup) : newest a = newest b := by
  have ha : (keysOf a).Nodup := (h.map _).nodup_iff.2 hb
  refine Inc.uniq (newest_spec a).1 (newest_spec b).1 (fun k => ?_)
  rw [fnd_newest ha, fnd_newest hb]
  exact fnd_mem_congr ha hb (fun r => h.mem_iff) k
/-! ### Arrays in an object -/
def AO {α : Type} (i : Nat) (t : TypeId) (T : Ty α) (xs : List α) : Res := .obj i (.row false t (T.cells xs))
theorem S_loadAF {α : Type} {T : Ty α} {l : SE} {H H0 : SH} {K : Value → SH → Prop} {i o k off n : Nat} {agg : Bool} {t : TypeId} {a : Opd} {xs : List α} {x : α} {v : Value} (ha : a.lv l = some (.pointer (some ⟨i, o, none⟩))) (hp : Pick (AO i t T xs) H H0) (ho : o = k * T.es + off) (hx : xs[k]? = some x) (hb : off + n ≤ T.es) (hv : mkV agg (((T.enc x).drop off).take n) = some v) (kk : K v H) : Step (.load agg n a) l H K := by
  subst ho
  have hlt := (List.getElem?_eq_some_iff.1 hx).1
  have hc := T.cells_len xs
  have hm : k * T.es + T.es ≤ xs.length * T.es := by rw [← Nat.succ_mul]; exact Nat.mul_le_mul_right _ hlt
  exact S_loadO ha hp (by rw [Nat.ble_eq, hc]; omega) (by rw [T.cells_at hx hb]; exact hv) kk
theorem S_loadA {α : Type} {T : Ty α} {l : SE} {H H0 : SH} {K : Value → SH → Prop} {i o k n : Nat} {agg : Bool} {t : TypeId} {a : Opd} {xs : List α} {x : α} (ha : a.lv l = some (.pointer (some ⟨i, o, none⟩))) (hp : Pick (AO i t T xs) H H0) (ho : o = k * T.es) (hx : xs[k]? = some x) (hn : n = T.es) (hg : agg = T.agg) (kk : K (T.val x) H) : Step (.load agg n a) l H K := by
  subst hn hg
  refine S_loadAF (off := 0) ha hp (by rw [ho, Nat.add_zero]) hx (by omega) ?_ kk
  rw [List.drop_zero, ← T.len x, List.take_length]; exact T.hmk x
theorem S_storeA {α : Type} {T : Ty α} {l : SE} {H H0 : SH} {K : Value → SH → Prop} {i o k n : Nat} {t : TypeId} {a y : Opd} {xs : List α} {v : Value} {x : α} (ha : a.lv l = some (.pointer (some ⟨i, o, none⟩))) (hy : y.lv l = some v) (hp : Pick (AO i t T xs) H H0) (ho : o = k * T.es) (hk : k < xs.length) (hv : v = T.val x) (hn : n = T.es) (kk : K undef (AO i t T (xs.set k x) :: H0)) : Step (.store n a y) l H K := by
  subst ho hv hn
  have hc := T.cells_len xs
  have hm : k * T.es + T.es ≤ xs.length * T.es := by rw [← Nat.succ_mul]; exact Nat.mul_le_mul_right _ hk
  have e1 := T.cells_set (xs := xs) (j := k) (x := xs[k]) (y := x) (List.getElem?_eq_getElem hk) (off := 0) (vs := T.enc x) (by rw [splice_all (by rw [T.len, T.len])]) (by rw [T.len]; omega)
  refine S_storeO ha hy hp (by rw [T.hcells, T.len]) (by rw [Nat.ble_eq, hc]; omega) (by rw [T.hcells]; exact T.ones x) ?_
  rw [Nat.add_zero] at e1
  rw [T.hcells, e1]; exact kk
theorem S_boxA {α : Type} {T : Ty α} {l : SE} {H : SH} {K : Value → SH → Prop} {t : TypeId} {x : Opd} {xs : List α} (hx : x.lv l = some (.agg (T.cells xs).toArray)) (k : ∀ i, K (.pointer (some ⟨i, 0, none⟩)) (AO i t T xs :: H)) : Step (.box t x) l H K :=
  S_box hx (T.cells_all xs) k
/-! ### A slot, told -/
theorem sp_lSlot {H : SH} {j i n b s : Nat} {w : SV} {l : List Rec} {es : List Ent} (g : LogI es l) (hb : b < 8) (hs : s < 4) : WF F X f_logstore_Log_Slot [.pointer (some ⟨j, 0, none⟩), .int .i64 (b : Int), .int .i64 (s : Int)] (LO j i w :: SL w.toV TRec l :: DO i es n :: H) (fun v H' => H' = LO j i w :: SL w.toV TRec l :: DO i es n :: H ∧ v = .tuple #[TRec.val (sltOf es l (b * 4 + s)).r, .bool (sltOf es l (b * 4 + s)).has]) := by
  have hel := g.good.len
  have hl := g.len
  refine WF_fn F_logstore_Log_Slot ?_
  refine WC_seq (WC_region ?_)
  refine WO_step rfl (S_newT TRec rec0 rfl rfl fun i6 => ?_)
  refine WO_step rfl (S_pure rfl ?_)
  refine WO_nil (KSeq_n (WC_seq (WC_seq (WC_region ?_))))
  iterate 2 refine WO_step rfl (S_pure rfl ?_)
  refine WO_nil (KSeq_n ?_)
  refine WC_cond rfl (fun hb1 => ?_) (fun hb1 => ?_)
  ·
   try simp only [bsT] at hb1
   exact absurd hb1 (by simp)
   --stop
  ·
   try simp only [bsT] at hb1
   refine WC_skip (KSeq_n (WC_seq (WC_region ?_)))
   iterate 3 refine WO_step rfl (S_pure rfl ?_)
   refine WO_step rfl (S_loadO rfl pkA (by rfl) (by rfl) ?_)
   iterate 2 refine WO_step rfl (S_pure rfl ?_)
   refine WO_call rfl rfl rfl ?_
   refine (sp_At hel pkA hb hs).mono ?_
   rintro _ _ ⟨rfl, rfl⟩
   iterate 7 refine WO_step rfl (S_pure rfl ?_)
   refine WO_nil (KSeq_n (WC_seq (WC_seq (WC_region ?_))))
   iterate 2 refine WO_step rfl (S_pure rfl ?_)
   refine WO_nil (KSeq_n ?_)
   refine WC_cond rfl (fun hb2 => ?_) (fun hb2 => ?_)
   ·
    try simp only [bsT] at hb2
    refine WC_seq (WC_region ?_)
    refine WO_step rfl (S_pure rfl ?_)
    refine WO_step rfl (S_storeO rfl rfl pkA (by first | rfl | exact SV.cells1 _) (by rfl) (by first | rfl | exact SV.ones _) ?_)
    refine WO_step rfl (S_pure rfl ?_)
    refine WO_nil (KSeq_n (WC_ret (KSeq_r ?_)))
    refine KFn_r (ResL.cell rfl pkA (Nat.le_of_ble_eq_true rfl) rfl (ResL.tmp rfl ResL.nil)) ?_
    refine ⟨_, hsA, rfl, ?_⟩
    unfold sltOf
    rw [hb2]; rfl
   ·
    try simp only [bsT] at hb2
    have hhas : (at' es (b * 4 + s)).has = true := by simpa using hb2
    obtain ⟨i0, q, e1, e2, _⟩ := g.slot (by omega) hhas
    have hi0 := (List.getElem?_eq_some_iff.1 e2).1
    rw [e1]
    refine WC_skip (KSeq_n (WC_seq (WC_region ?_)))
    iterate 3 refine WO_step rfl (S_pure rfl ?_)
    refine WO_step rfl (S_loadO rfl pkA (by rfl) (by rfl) ?_)
    refine WO_step rfl (S_pure rfl ?_)
    refine WO_step rfl (S_idx rfl rfl rdA (by first | rfl | assumption | (symm; assumption)) (by rfl) (by first | assumption | omega | exact lt_of_get (by assumption) | (simp only [List.length_set]; first | assumption | omega | exact lt_of_get (by assumption))) fun hp33 => ?_)
    refine WO_step rfl (S_loadE rfl rdA (by first | rfl | assumption | (symm; assumption)) (by first | rfl | assumption | (symm; assumption)) (by first | rfl | assumption | (symm; assumption)) (by assumption) ?_)
    refine WO_step rfl (S_storeO rfl rfl pkA (by first | rfl | exact SV.cells1 _) (by rfl) (by first | rfl | exact SV.ones _) ?_)
    refine WO_step rfl (S_pure rfl ?_)
    refine WO_nil (KSeq_n (WC_ret ?_))
    refine KFn_r (ResL.cell rfl pkA (Nat.le_of_ble_eq_true rfl) rfl (ResL.tmp rfl ResL.nil)) ?_
    refine ⟨_, hsA, rfl, ?_⟩
    unfold sltOf
    rw [hhas]
    simp only [if_true, e1, recAt, Int.toNat_natCast, e2, Option.getD_some]; rfl
theorem sp_lSlotNo {H : SH} {j i n b s : Nat} {w : SV} {l : List Rec} {es : List Ent} (h : 8 ≤ b ∨ 4 ≤ s) : WF F X f_logstore_Log_Slot [.pointer (some ⟨j, 0, none⟩), .int .i64 (b : Int), .int .i64 (s : Int)] (LO j i w :: SL w.toV TRec l :: DO i es n :: H) (fun v H' => H' = LO j i w :: SL w.toV TRec l :: DO i es n :: H ∧ v = .tuple #[TRec.val rec0, .bool false]) := by
  refine WF_fn F_logstore_Log_Slot ?_
  refine WC_seq (WC_region ?_)
  refine WO_step rfl (S_newT TRec rec0 rfl rfl fun i6 => ?_)
  refine WO_step rfl (S_pure rfl ?_)
  refine WO_nil (KSeq_n (WC_seq (WC_seq (WC_region ?_))))
  iterate 2 refine WO_step rfl (S_pure rfl ?_)
  refine WO_nil (KSeq_n ?_)
  refine WC_cond rfl (fun hb1 => ?_) (fun hb1 => ?_)
  ·
   try simp only [bsT] at hb1
   exact absurd hb1 (by simp)
   --stop
  ·
   try simp only [bsT] at hb1
   refine WC_skip (KSeq_n (WC_seq (WC_region ?_)))
   iterate 3 refine WO_step rfl (S_pure rfl ?_)
   refine WO_step rfl (S_loadO rfl pkA (by rfl) (by rfl) ?_)
   iterate 2 refine WO_step rfl (S_pure rfl ?_)
   refine WO_call rfl rfl rfl ?_
   refine (sp_AtNo h).mono ?_
   rintro _ _ ⟨rfl, rfl⟩
   iterate 7 refine WO_step rfl (S_pure rfl ?_)
   refine WO_nil (KSeq_n (WC_seq (WC_seq (WC_region ?_))))
   iterate 2 refine WO_step rfl (S_pure rfl ?_)
   refine WO_nil (KSeq_n ?_)
   refine WC_cond rfl (fun hb2 => ?_) (fun hb2 => ?_)
   ·
    try simp only [bsT] at hb2
    refine WC_seq (WC_region ?_)
    refine WO_step rfl (S_pure rfl ?_)
    refine WO_step rfl (S_storeO rfl rfl pkA (by first | rfl | exact SV.cells1 _) (by rfl) (by first | rfl | exact SV.ones _) ?_)
    refine WO_step rfl (S_pure rfl ?_)
    refine WO_nil (KSeq_n (WC_ret (KSeq_r ?_)))
    refine KFn_r (ResL.cell rfl pkA (Nat.le_of_ble_eq_true rfl) rfl (ResL.tmp rfl ResL.nil)) ?_
    exact ⟨_, hsA, rfl, rfl⟩
   ·
    try simp only [bsT] at hb2
    exact absurd hb2 (by simp)
    --stop
/-! ### A log of records -/
def ofF (l : List Rec) : List Rec → Int × List Rec
  | [] => (0, l)
  | r :: N => if (putF l r).1 = 0 then ofF (putF l r).2 N else putF l r

end Go.Proofs.YtpgidiompdabdaaGreat.AM
