/- Walks: what the functions compute. -/
import Derived.Test.YtpgidiompdabdaaGreatC8
import Derived.Test.YtpgidiompdabdaaGreatVal
namespace Go.Proofs.YtpgidiompdabdaaGreat.AM
open Go
set_option linter.unusedSimpArgs false
set_option linter.unusedVariables false
set_option maxRecDepth 4000

/-! ### A log, plainly -/
theorem hashOf_nat (s : ByteArray) : ∃ n : Nat, hashOf s = (n : Int) ∧ n < 18446744073709551616 := by
  have key : ∀ m : Int, ∃ n : Nat, IntKind.wrap .u64 m = (n : Int) ∧ n < 18446744073709551616 := fun m => by
    rw [wrapU]
    exact ⟨(m % 18446744073709551616).toNat, by omega, by omega⟩
  exact key _
def kH (s : ByteArray) : Nat := (hashOf s).toNat
theorem kH_eq (s : ByteArray) : hashOf s = ((kH s : Nat) : Int) := by
  obtain ⟨n, h1, _⟩ := hashOf_nat s
  unfold kH; rw [h1]; simp
theorem kH_lt (s : ByteArray) : kH s < 18446744073709551616 := by
  obtain ⟨n, h1, h2⟩ := hashOf_nat s
  unfold kH; rw [h1]; simpa using h2
def kvsF : Nat → List Rec → List Kv
  | _, [] => []
  | a, r :: l => ⟨kH r.key, (a : Int)⟩ :: kvsF (a + 1) l
def kvs (l : List Rec) : List Kv := kvsF 0 l
theorem kvsF_snoc (r : Rec) : ∀ (a : Nat) (l : List Rec), kvsF a (l ++ [r]) = kvsF a l ++ [⟨kH r.key, ((a + l.length : Nat) : Int)⟩]
  | a, [] => by simp [kvsF]
  | a, x :: l => by
    rw [List.cons_append, kvsF, kvsF, kvsF_snoc r (a + 1) l, List.cons_append, List.length_cons, show a + 1 + l.length = a + (l.length + 1) by omega]
theorem kvs_snoc (l : List Rec) (r : Rec) : kvs (l ++ [r]) = kvs l ++ [⟨kH r.key, (l.length : Int)⟩] := by
  have := kvsF_snoc r 0 l
  rwa [Nat.zero_add] at this
theorem kvsF_set {r x : Rec} (hk : r.key = x.key) : ∀ (a : Nat) (l : List Rec) (i : Nat), l[i]? = some x → kvsF a (l.set i r) = kvsF a l
  | a, [], i, h => by simp at h
  | a, y :: l, 0, h => by
    simp at h; subst h
    rw [List.set_cons_zero, kvsF, kvsF, hk]
  | a, y :: l, i + 1, h => by
    rw [List.getElem?_cons_succ] at h
    rw [List.set_cons_succ, kvsF, kvsF, kvsF_set hk (a + 1) l i h]
theorem kvsF_map : ∀ (a : Nat) (l : List Rec), (kvsF a l).map (·.h) = l.map fun r => kH r.key
  | _, [] => rfl
  | a, r :: l => by rw [kvsF, List.map_cons, List.map_cons, kvsF_map (a + 1) l]
def hsOf (l : List Rec) : List Nat := l.map fun r => kH r.key
theorem kvs_map (l : List Rec) : (kvs l).map (·.h) = hsOf l := kvsF_map 0 l
theorem kvsF_mem {x : Kv} : ∀ (a : Nat) (l : List Rec), x ∈ kvsF a l ↔ ∃ i r, l[i]? = some r ∧ x = ⟨kH r.key, ((a + i : Nat) : Int)⟩
  | a, [] => by simp [kvsF]
  | a, y :: l => by
    rw [kvsF, List.mem_cons, kvsF_mem (a + 1) l]
    constructor
    · rintro (rfl | ⟨i, r, h1, h2⟩)
      · exact ⟨0, y, rfl, rfl⟩
      · exact ⟨i + 1, r, by rw [List.getElem?_cons_succ]; exact h1, by rw [h2]; congr 2; omega⟩
    · rintro ⟨i, r, h1, h2⟩
      cases i with
      | zero => simp at h1; subst h1; exact .inl h2
      | succ i => exact .inr ⟨i, r, by rw [List.getElem?_cons_succ] at h1; exact h1, by rw [h2]; congr 2; omega⟩
theorem near_self (h : Nat) : near h h = true := by simp [near]
theorem nearL_mem {l : List Rec} {h : Nat} {v : Int} : v ∈ nearL (kvs l) h ↔ ∃ (i : Nat) (r : Rec), l[i]? = some r ∧ v = (i : Int) ∧ near h (kH r.key) = true := by
  unfold nearL kvs
  rw [List.mem_map]
  constructor
  · rintro ⟨x, hx, rfl⟩
    obtain ⟨h1, h2⟩ := List.mem_filter.1 hx
    obtain ⟨i, r, h3, rfl⟩ := (kvsF_mem 0 l).1 h1
    exact ⟨i, r, h3, by simp, h2⟩
  · rintro ⟨i, r, h1, rfl, h2⟩
    exact ⟨⟨kH r.key, (i : Int)⟩, List.mem_filter.2 ⟨(kvsF_mem 0 l).2 ⟨i, r, h1, by simp⟩, h2⟩, rfl⟩
/-- Where a key stands. -/
def idxF (k : ByteArray) : Nat → List Rec → Int
  | _, [] => -1
  | a, r :: l => if r.key = k then (a : Int) else idxF k (a + 1) l
def idxK (l : List Rec) (k : ByteArray) : Int := idxF k 0 l
theorem idxF_spec (k : ByteArray) : ∀ (a : Nat) (l : List Rec), (∃ i r, idxF k a l = ((a + i : Nat) : Int) ∧ l[i]? = some r ∧ r.key = k) ∨ (idxF k a l = -1 ∧ ∀ r ∈ l, r.key ≠ k)
  | a, [] => .inr ⟨rfl, by simp⟩
  | a, x :: l => by
    by_cases h : x.key = k
    · exact .inl ⟨0, x, by rw [idxF, if_pos h]; rfl, rfl, h⟩
    · rw [idxF, if_neg h]
      rcases idxF_spec k (a + 1) l with ⟨i, r, h1, h2, h3⟩ | ⟨h1, h2⟩
      · exact .inl ⟨i + 1, r, by rw [h1]; congr 1; omega, by rw [List.getElem?_cons_succ]; exact h2, h3⟩
      · exact .inr ⟨h1, fun r hr => by
          rcases List.mem_cons.1 hr with rfl | hr
          · exact h
          · exact h2 r hr⟩
theorem idxK_spec (l : List Rec) (k : ByteArray) : (∃ (i : Nat) (r : Rec), idxK l k = (i : Int) ∧ l[i]? = some r ∧ r.key = k) ∨ (idxK l k = -1 ∧ ∀ r ∈ l, r.key ≠ k) := by
  have := idxF_spec k 0 l
  simp only [Nat.zero_add] at this
  exact this
def keysOf (l : List Rec) : List ByteArray := l.map (·.key)
theorem key_inj {l : List Rec} (hn : (keysOf l).Nodup) {i j : Nat} {a b : Rec} (h1 : l[i]? = some a) (h2 : l[j]? = some b) (h : a.key = b.key) : i = j := by
  have e1 : (keysOf l)[i]? = some a.key := by rw [keysOf, List.getElem?_map, h1]; rfl
  have e2 : (keysOf l)[j]? = some a.key := by rw [keysOf, List.getElem?_map, h2, h]; rfl
  obtain ⟨l1, e1⟩ := List.getElem?_eq_some_iff.1 e1
  obtain ⟨l2, e2⟩ := List.getElem?_eq_some_iff.1 e2
  exact (List.getElem_inj hn).1 (e1.trans e2.symm)
theorem idxK_at {l : List Rec} (hn : (keysOf l).Nodup) {i : Nat} {r : Rec} (h : l[i]? = some r) : idxK l r.key = (i : Int) := by
  rcases idxK_spec l r.key with ⟨j, q, h1, h2, h3⟩ | ⟨h1, h2⟩
  · rw [h1, key_inj hn h2 h h3]
  · exact absurd rfl (h2 r (List.mem_of_getElem? h))
theorem fnd_idx (k : ByteArray) : ∀ l : List Rec, (fnd l k = none ∧ idxK l k = -1) ∨ ∃ (i : Nat) (r : Rec), fnd l k = some r ∧ idxK l k = (i : Int) ∧ l[i]? = some r := by
  have key : ∀ (a : Nat) (l : List Rec), (fnd l k = none ∧ idxF k a l = -1) ∨ ∃ (i : Nat) (r : Rec), fnd l k = some r ∧ idxF k a l = ((a + i : Nat) : Int) ∧ l[i]? = some r := by
    intro a l
    induction l generalizing a with
    | nil => exact .inl ⟨rfl, rfl⟩
    | cons x l ih =>
      by_cases h : x.key = k
      · exact .inr ⟨0, x, by rw [fnd, if_pos h], by rw [idxF, if_pos h]; rfl, rfl⟩
      · rw [fnd, if_neg h, idxF, if_neg h]
        rcases ih (a + 1) with h1 | ⟨i, r, h1, h2, h3⟩
        · exact .inl h1
        · exact .inr ⟨i + 1, r, h1, by rw [h2]; congr 1; omega, by rw [List.getElem?_cons_succ]; exact h3⟩
  intro l
  have := key 0 l
  simp only [Nat.zero_add] at this
  exact this
/-- What a log knows of its directory. -/
structure LogI (es : List Ent) (l : List Rec) : Prop where
  good : Good es
  holds : Holds es (kvs l)
  nd : (keysOf l).Nodup
theorem sumL_one : ∀ l : List Kv, sumL (fun _ _ => 1) l = l.length
  | [] => rfl
  | x :: l => by
    rw [sumL, sumL_one l, List.length_cons]
    show 1 + l.length = _
    omega
theorem kvsF_len : ∀ (a : Nat) (l : List Rec), (kvsF a l).length = l.length
  | _, [] => rfl
  | a, x :: l => by rw [kvsF, List.length_cons, List.length_cons, kvsF_len (a + 1) l]
theorem LogI.len {es : List Ent} {l : List Rec} (g : LogI es l) : l.length ≤ 32 := by
  have h := g.holds (fun _ _ => 1) (fun _ _ _ => rfl)
  rw [sumL_one, kvs, kvsF_len] at h
  rw [← h]
  have : tot (fun _ _ => 1) es ≤ sumN (fun _ => 1) 32 := sumN_le fun k _ => by
    show (if (at' es k).has then 1 else 0) ≤ 1
    split <;> omega
  have e : sumN (fun _ => 1) 32 = 32 * 1 := sumN_one fun _ _ => rfl
  omega
theorem LogI.new : LogI (List.replicate 32 ent0) [] := ⟨Good.new, Holds.new, List.nodup_nil⟩
theorem LogI.ins {es es' : List Ent} {l : List Rec} {r : Rec} (g : LogI es l) (hg : Good es') (hi : InsOk es (kH r.key) (l.length : Int) es') (hn : ∀ q ∈ l, q.key ≠ r.key) : LogI es' (l ++ [r]) := by
  refine ⟨hg, by rw [kvs_snoc]; exact g.holds.ins hi, ?_⟩
  unfold keysOf
  rw [List.map_append, List.nodup_append]
  refine ⟨g.nd, by simp, fun a ha b hb => ?_⟩
  simp at hb; subst hb
  obtain ⟨q, hq, rfl⟩ := List.mem_map.1 ha
  exact hn q hq
theorem keys_set {l : List Rec} {i : Nat} {r x : Rec} (h : l[i]? = some x) (hk : r.key = x.key) : keysOf (l.set i r) = keysOf l := by
  unfold keysOf
  rw [List.map_set, hk]
  obtain ⟨hlt, he⟩ := List.getElem?_eq_some_iff.1 h
  rw [← he, ← List.getElem_map (f := fun x : Rec => x.key) (h := by simpa using hlt), List.set_getElem_self]
theorem LogI.set {es : List Ent} {l : List Rec} {i : Nat} {r x : Rec} (g : LogI es l) (h : l[i]? = some x) (hk : r.key = x.key) : LogI es (l.set i r) :=
  ⟨g.good, by unfold kvs; rw [kvsF_set hk 0 l i h]; exact g.holds, by rw [keys_set h hk]; exact g.nd⟩
theorem LogI.has {es : List Ent} {l : List Rec} (g : LogI es l) : Has es (hsOf l) := by
  have := g.holds.has
  rwa [kvs_map] at this
/-- A record is put: what is told, and what is there. -/
def putF (l : List Rec) (r : Rec) : Int × List Rec :=
  if mayRec r = false then (1, l)
  else if 0 ≤ idxK l r.key then (0, l.set (idxK l r.key).toNat r)
  else if Room (hsOf l ++ [kH r.key]) then (0, l ++ [r]) else (5, l)
theorem few_room {hs : List Nat} (h : hs.length ≤ 8) : Room hs := fun S hS => by
  by_cases h0 : cnt S hs = 0
  · omega
  · obtain ⟨x, hx, he⟩ := List.countP_pos_iff.1 (Nat.pos_of_ne_zero h0)
    unfold edge inS at he
    rw [Bool.and_eq_true] at he
    have h1 := pop_ge2 _ _ (frst_lt x) (oth_lt (t := tagOf x) (frst_lt x)) (Ne.symm (oth_ne (frst_lt x))) he.1 he.2
    have h2 := cnt_le S hs
    omega
/-! ### The log: walks -/
def LO (j i : Nat) (w : SV) : Res := .obj j (.row false 63 [w.toV, .pointer (some ⟨i, 0, none⟩)])
theorem sp_lNew {H : SH} : WF F X f_logstore_New [] H (fun r H' => ∃ j i, H' = LO j i .nil :: SL (SV.toV .nil) TRec [] :: DO i (List.replicate 32 ent0) 0 :: H ∧ r = .pointer (some ⟨j, 0, none⟩)) := by
  refine WF_addNil (T := TRec) ?_
  refine WF_fn F_logstore_New ?_
  refine WC_seq (WC_region ?_)
  refine WO_step rfl (S_pure rfl ?_)
  refine WO_nil (KSeq_n (WC_seq (WC_region ?_)))
  refine WO_call rfl rfl rfl ?_
  refine sp_New.mono ?_
  rintro _ _ ⟨i1, rfl, rfl⟩
  refine WO_step rfl (S_pure rfl ?_)
  refine WO_step rfl (S_box rfl rfl fun i3 => ?_)
  refine WO_step rfl (S_pure rfl ?_)
  refine WO_nil (KSeq_n (WC_ret ?_))
  refine KFn_r (ResL.tmp rfl ResL.nil) ?_
  exact ⟨_, hsA, i3, i1, rfl, rfl⟩
theorem lp_lfind {RS R0 : SH} {j i : Nat} {w w2 : SV} {l : List Rec} {L : List Int} {k : ByteArray} (hL : RD RS w2.toV TInt L) (hl : RD RS w.toV TRec l) (hp : Pick (LO j i w) RS R0) (hin : ∀ v ∈ L, ∃ i : Nat, v = (i : Int) ∧ i < l.length) (hLl : L.length ≤ 100) : ∀ (m a : Nat), L.length - a = m → a ≤ L.length → (∀ v ∈ L.take a, ∀ (i : Nat) (r : Rec), v = (i : Int) → l[i]? = some r → r.key ≠ k) →
    WC F X (.loop L_logstore_Log_find_0) [(17, .int .i64 (a : Int)), (16, .int .i64 (L.length : Int)), (15, w2.toV), (0, .pointer (some ⟨j, 0, none⟩)), (1, .string k)] RS
      (KPost fun x l' H' => H' = RS ∧ ((∃ (i : Nat) (r : Rec), x = .ret ∧ l' = [(4, .int .i64 (i : Int))] ∧ l[i]? = some r ∧ r.key = k) ∨ (x = .exit 0 ∧ l' = [] ∧ ∀ v ∈ L, ∀ (i : Nat) (r : Rec), v = (i : Int) → l[i]? = some r → r.key ≠ k))) := by
  intro m
  induction m using Nat.strongRecOn with
  | _ m ih =>
    intro a hm ha hno
    refine WC_loop (WC_seq (WC_region ?_))
    refine WO_step rfl (S_pure rfl ?_)
    refine WO_nil (KSeq_n (WC_seq ?_))
    refine WC_cond rfl (fun hb1 => ?_) (fun hb1 => ?_)
    ·
     try simp only [bsT] at hb1
     obtain ⟨v, hv⟩ := get_of_lt hb1
     obtain ⟨i0, rfl, hi0⟩ := hin v (List.mem_of_getElem? hv)
     obtain ⟨q, hq⟩ := get_of_lt hi0
     refine WC_skip (KSeq_n (WC_seq (WC_block (WC_seq (WC_region ?_)))))
     refine WO_step rfl (S_idx rfl rfl rdA (by first | rfl | assumption | (symm; assumption)) (by rfl) (by first | assumption | omega | exact lt_of_get (by assumption) | (simp only [List.length_set]; first | assumption | omega | exact lt_of_get (by assumption))) fun hp19 => ?_)
     refine WO_step rfl (S_loadE rfl rdA (by first | rfl | assumption | (symm; assumption)) (by first | rfl | assumption | (symm; assumption)) (by first | rfl | assumption | (symm; assumption)) (by assumption) ?_)
     refine WO_step rfl (S_pure rfl ?_)
     refine WO_nil (KSeq_n (WC_seq (WC_region ?_)))
     iterate 3 refine WO_step rfl (S_pure rfl ?_)
     refine WO_step rfl (S_loadO rfl hp (by rfl) (by rfl) ?_)
     refine WO_step rfl (S_pure rfl ?_)
     refine WO_step rfl (S_idx rfl rfl rdA (by first | rfl | assumption | (symm; assumption)) (by rfl) (by first | assumption | omega | exact lt_of_get (by assumption) | (simp only [List.length_set]; first | assumption | omega | exact lt_of_get (by assumption))) fun hp26 => ?_)
     refine WO_step rfl (S_fldE rfl (by repeat (first | assumption | apply IsP.padd)) ?_)
     refine WO_step rfl (S_loadF rfl rdA (by rfl) (by assumption) (by rfl) (by rfl) ?_)
     refine WO_step rfl (S_pure rfl ?_)
     first | refine WO_step rfl (S_eqS rfl rfl ?_) | refine WO_step rfl (S_pure rfl ?_)
     refine WO_nil (KSeq_n ?_)
     refine WC_cond rfl (fun hb2 => ?_) (fun hb2 => ?_)
     ·
      try simp only [bsT] at hb2
      refine WC_seq (WC_region ?_)
      iterate 2 refine WO_step rfl (S_pure rfl ?_)
      refine WO_nil (KSeq_n (WC_ret (KBlock_r (KSeq_r (KLoop_r ?_)))))
      exact KPost_i seA hsA ⟨rfl, .inl ⟨i0, q, rfl, rfl, hq, hb2⟩⟩
     ·
      try simp only [bsT] at hb2
      refine WC_skip (KBlock_n (KSeq_n (WC_region ?_)))
      first | refine WO_step rfl (S_addN (b := 1) rfl rfl (by omega) ?_) | refine WO_step rfl (S_pure rfl ?_)
      refine WO_step rfl (S_pure rfl ?_)
      refine WO_nil (KLoop_n ?_)
      refine WC_weak (ih (L.length - (a + 1)) (by omega) (a + 1) rfl (by omega) fun v hm i r hvi hr => ?_) seA hsA
      rw [List.take_add_one, hv] at hm
      rcases List.mem_append.1 hm with hm | hm
      · exact hno v hm i r hvi hr
      · simp at hm
        subst hm
        have : i0 = i := by omega
        subst this
        rw [hq] at hr; cases hr
        exact hb2
    ·
     try simp only [bsT] at hb1
     refine WC_exit (KSeq_x (KLoop_x ?_))
     refine KPost_i (l' := []) seA hsA ⟨rfl, .inr ⟨rfl, rfl, fun v hm i r hvi hr => hno v ?_ i r hvi hr⟩⟩
     rw [List.take_of_length_le (by omega)]; exact hm
theorem sp_lfind {H : SH} {j i n : Nat} {w : SV} {l : List Rec} {es : List Ent} {k : ByteArray} (g : LogI es l) (hk : k.size ≤ 1000000) : WF F X f_logstore_Log_find [.pointer (some ⟨j, 0, none⟩), .string k] (LO j i w :: SL w.toV TRec l :: DO i es n :: H) (fun r H' => H' = LO j i w :: SL w.toV TRec l :: DO i es n :: H ∧ r = .int .i64 (idxK l k)) := by
  have hl := g.len
  have hel := g.good.len
  refine WF_fn F_logstore_Log_find ?_
  refine WC_seq (WC_region ?_)
  refine WO_step rfl (S_pure rfl ?_)
  refine WO_nil (KSeq_n (WC_seq (WC_seq (WC_region ?_))))
  iterate 2 refine WO_step rfl (S_pure rfl ?_)
  refine WO_nil (KSeq_n ?_)
  refine WC_cond rfl (fun hb1 => ?_) (fun hb1 => ?_)
  ·
   try simp only [bsT] at hb1
   exact absurd hb1 (by simp)
   --stop
  ·
   try simp only [bsT] at hb1
   refine WC_skip (KSeq_n (WC_seq (WC_seq (WC_drawn ?_))))
   refine WD_step rfl (S_pure rfl ?_)
   refine WD_step rfl (S_pure rfl ?_)
   refine WD_step rfl (S_pure rfl ?_)
   refine WD_step rfl (S_loadO rfl pkA (by rfl) (by rfl) ?_)
   refine WD_step rfl (S_pure rfl ?_)
   refine WD_call rfl rfl rfl ?_
   refine (sp_HashOf hk).mono ?_
   rintro _ _ ⟨rfl, rfl⟩
   rw [kH_eq]
   refine WD_call rfl rfl rfl ?_
   refine (sp_DFind hel pkA (kH_lt k)).mono ?_
   rintro _ _ ⟨w2, L, rfl, rfl, hsL, hpL⟩
   have hpn : L.Perm (nearL (kvs l) (kH k)) := hpL.trans (found_perm g.holds (kH k))
   have hLl : L.length ≤ 100 := by rw [hpL.length_eq]; exact Nat.le_trans (foundL_len es (kH k)) (by omega)
   first | refine WD_step rfl (S_pure rfl ?_) | refine WD_step rfl (S_lenS rfl rdA ?_)
   refine WD_step rfl (S_pure rfl ?_)
   refine WD_nil ?_
   refine ⟨?_, ?_⟩
   ·
    repeat' (first | exact trivial | apply And.intro)
    exact ObR.of_step rfl (S_loadO rfl pkA (by rfl) (by rfl) (by simp [eqV, eqV0]))
   ·
    refine KSeq_n (WC_block ?_)
    --out r x0
    refine WC_post (WC_weak (lp_lfind (j := j) (i := i) (w := w) (w2 := w2) (l := l) (L := L) (k := k) rdA rdA pkA (fun v hv => ?_) hLl L.length 0 (by omega) (by omega) (by simp)) seA HSub.refl) ?_
    · obtain ⟨i, r, h1, h2, _⟩ := nearL_mem.1 (hpn.mem_iff.1 hv)
      exact ⟨i, h2, (List.getElem?_eq_some_iff.1 h1).1⟩
    rintro x l' H' ⟨rfl, ⟨i0, q, rfl, rfl, hq, hqk⟩ | ⟨rfl, rfl, hno⟩⟩
    ·
     refine KBlock_r (KSeq_r ?_)
     refine KFn_r (ResL.tmp rfl ResL.nil) ?_
     refine ⟨_, hsA, rfl, ?_⟩
     rw [← hqk, idxK_at g.nd hq]; rfl
    ·
     refine KBlock_h (KSeq_n (WC_seq (WC_region ?_)))
     refine WO_step rfl (S_pure rfl ?_)
     refine WO_nil (KSeq_n (WC_ret ?_))
     refine KFn_r (ResL.tmp rfl ResL.nil) ?_
     refine ⟨LO j i w :: SL w.toV TRec l :: DO i es n :: H, hsA, rfl, ?_⟩
     rcases idxK_spec l k with ⟨i0, q, h1, h2, h3⟩ | ⟨h1, _⟩
     · exfalso
       refine hno (i0 : Int) (hpn.mem_iff.2 (nearL_mem.2 ⟨i0, q, h2, rfl, ?_⟩)) i0 q rfl h2 h3
       rw [h3]; exact near_self _
     · rw [h1]; rfl
theorem S_storeLO {l : SE} {H H0 : SH} {K : Value → SH → Prop} {j i : Nat} {a x : Opd} {w w' : SV} (ha : a.lv l = some (.pointer (some ⟨j, 0, none⟩))) (hx : x.lv l = some w'.toV) (hp : Pick (LO j i w) H H0) (k : K undef (LO j i w' :: H0)) : Step (.store 1 a x) l H K := by
  refine S_storeO ha hx hp (SV.cells1 _) (by rfl) (SV.ones _) ?_
  have e : splice [w.toV, .pointer (some ⟨i, 0, none⟩)] 0 (AM.cells w'.toV) = [w'.toV, .pointer (some ⟨i, 0, none⟩)] := by rw [SV.cells]; rfl
  rw [e]; exact k
theorem may_key {r : Rec} (h : mayRec r = true) : r.key.size ≤ 16 := by
  unfold mayRec mayKey at h
  simp only [Bool.and_eq_true, decide_eq_true_eq] at h
  exact h.1.2
theorem get_append_last {α : Type} (l : List α) (x : α) : (l ++ [x])[l.length]? = some x := by simp
theorem sp_lPut {H : SH} {j i : Nat} {w : SV} {l : List Rec} {es : List Ent} {r : Rec} (g : LogI es l) : WF F X f_logstore_Log_Put [.pointer (some ⟨j, 0, none⟩), TRec.val r] (LO j i w :: SL w.toV TRec l :: DO i es l.length :: H) (fun v H' => ∃ (es' : List Ent) (w' : SV), v = .int .i64 (putF l r).1 ∧ H' = LO j i w' :: SL w'.toV TRec (putF l r).2 :: DO i es' (putF l r).2.length :: H ∧ LogI es' (putF l r).2) := by
  have hl := g.len
  have hel := g.good.len
  refine WF_fn F_logstore_Log_Put ?_
  refine WC_seq (WC_region ?_)
  refine WO_step rfl (S_box rfl rfl fun i3 => ?_)
  refine WO_step rfl (S_pure rfl ?_)
  refine WO_nil (KSeq_n (WC_seq (WC_block (WC_seq (WC_region ?_)))))
  iterate 3 refine WO_step rfl (S_pure rfl ?_)
  refine WO_nil (KSeq_n ?_)
  refine WC_cond rfl (fun hb1 => ?_) (fun hb1 => ?_)
  ·
   try simp only [bsT] at hb1
   exact absurd hb1 (by simp)
   --stop
  ·
   try simp only [bsT] at hb1
   refine WC_seq (WC_region ?_)
   first | refine WO_step rfl (S_loadT rfl pkA (by rfl) (by rfl) ?_) | refine WO_step rfl (S_loadO rfl pkA (by rfl) (by rfl) ?_)
   refine WO_call rfl rfl rfl ?_
   refine sp_rMay.mono ?_
   rintro _ _ ⟨rfl, rfl⟩
   iterate 2 refine WO_step rfl (S_pure rfl ?_)
   refine WO_nil (KSeq_n ?_)
   refine WC_cond rfl (fun hb2 => ?_) (fun hb2 => ?_)
   ·
    try simp only [bsT] at hb2
    refine WC_seq (WC_region ?_)
    refine WO_step rfl (S_pure rfl ?_)
    refine WO_nil (KSeq_n (WC_ret (KBlock_r (KSeq_r ?_))))
    refine KFn_r (ResL.tmp rfl ResL.nil) ?_
    refine ⟨LO j i w :: SL w.toV TRec l :: DO i es l.length :: H, hsA, es, w, ?_⟩
    unfold putF
    rw [if_pos hb2]
    exact ⟨rfl, rfl, g⟩
   ·
    try simp only [bsT] at hb2
    refine WC_skip (KBlock_n (KSeq_n (WC_seq (WC_seq (WC_region ?_)))))
    iterate 2 refine WO_step rfl (S_pure rfl ?_)
    refine WO_step rfl (S_loadO rfl pkA (by rfl) (by rfl) ?_)
    refine WO_call rfl rfl rfl ?_
    have hmay : mayRec r = true := by
      cases h : mayRec r with
      | true => rfl
      | false => exact absurd h (by simpa using hb2)
    have hks := may_key hmay
    refine (sp_lfind (k := r.key) (i := i) (w := w) (n := l.length) (H := .obj i3 (.row false 33 (cells (TRec.val r))) :: H) g (by omega)).weak hsA |>.mono ?_
    rintro _ _ ⟨rfl, rfl⟩
    refine WO_step rfl (S_pure rfl ?_)
    refine WO_nil (KSeq_n (WC_seq (WC_region ?_)))
    iterate 2 refine WO_step rfl (S_pure rfl ?_)
    refine WO_nil (KSeq_n ?_)
    refine WC_cond rfl (fun hb3 => ?_) (fun hb3 => ?_)
    ·
     try simp only [bsT] at hb3
     obtain ⟨i0, q, h1, h2, h3⟩ : ∃ (i0 : Nat) (q : Rec), idxK l r.key = (i0 : Int) ∧ l[i0]? = some q ∧ q.key = r.key := by
       rcases idxK_spec l r.key with h | ⟨h, _⟩
       · exact h
       · omega
     rw [h1]
     refine WC_seq (WC_region ?_)
     iterate 3 refine WO_step rfl (S_pure rfl ?_)
     refine WO_step rfl (S_loadO rfl pkA (by rfl) (by rfl) ?_)
     refine WO_step rfl (S_pure rfl ?_)
     first | refine WO_step rfl (S_loadT rfl pkA (by rfl) (by rfl) ?_) | refine WO_step rfl (S_loadO rfl pkA (by rfl) (by rfl) ?_)
     refine WO_step rfl (S_idx rfl rfl rdA (by first | rfl | assumption | (symm; assumption)) (by rfl) (by first | assumption | omega | exact lt_of_get (by assumption) | (simp only [List.length_set]; first | assumption | omega | exact lt_of_get (by assumption))) fun hp25 => ?_)
     refine WO_step rfl (S_storeW (y := r) rfl rfl pkA (by first | rfl | assumption | (symm; assumption)) (by rfl) (by first | rfl | assumption | (symm; assumption)) (by first | assumption | omega | exact lt_of_get (by assumption) | (simp only [List.length_set]; first | assumption | omega | exact lt_of_get (by assumption))) ?_)
     refine WO_nil (KSeq_n (WC_seq (WC_region ?_)))
     refine WO_step rfl (S_pure rfl ?_)
     refine WO_nil (KSeq_n (WC_ret (KSeq_r ?_)))
     refine KFn_r (ResL.tmp rfl ResL.nil) ?_
     refine ⟨LO j i w :: SL w.toV TRec (l.set i0 r) :: DO i es (l.set i0 r).length :: H, by rw [List.length_set]; exact hsA, es, w, ?_⟩
     have e : putF l r = (0, l.set i0 r) := by
       unfold putF
       rw [if_neg (by rw [hmay]; simp), if_pos hb3, h1]; rfl
     rw [e]
     exact ⟨rfl, rfl, g.set h2 h3.symm⟩
    ·
     try simp only [bsT] at hb3
     have hno : ∀ q ∈ l, q.key ≠ r.key := by
       rcases idxK_spec l r.key with ⟨i0, q, h1, h2, h3⟩ | ⟨_, h⟩
       · rw [h1] at hb3; exact absurd (Int.natCast_nonneg i0) hb3
       · exact h
     refine WC_skip (KSeq_n (WC_seq (WC_seq (WC_drawn ?_))))
     refine WD_step rfl (S_pure rfl ?_)
     refine WD_step rfl (S_pure rfl ?_)
     refine WD_step rfl (S_pure rfl ?_)
     refine WD_step rfl (S_loadO rfl pkA (by rfl) (by rfl) ?_)
     refine WD_step rfl (S_pure rfl ?_)
     refine WD_step rfl (S_loadO rfl pkA (by rfl) (by rfl) ?_)
     refine WD_call rfl rfl rfl ?_
     refine (sp_HashOf (by omega)).mono ?_
     rintro _ _ ⟨rfl, rfl⟩
     rw [kH_eq]
     refine WD_step rfl (S_pure rfl ?_)
     refine WD_step rfl (S_pure rfl ?_)
     refine WD_step rfl (S_pure rfl ?_)
     refine WD_step rfl (S_loadO rfl pkA (by rfl) (by rfl) ?_)
     first | refine WD_step rfl (S_pure rfl ?_) | refine WD_step rfl (S_lenS rfl rdA ?_)
     refine WD_call rfl rfl rfl ?_
     refine (sp_ins (id := (l.length : Int)) g.good pkA (kH_lt _) (by omega)).mono ?_
     rintro _ _ ⟨es', n', ok, rfl, rfl, hg', hok, hno2⟩
     refine WD_step rfl (S_pure rfl ?_)
     refine WD_nil ?_
     refine ⟨?_, ?_⟩
     ·
      repeat' (first | exact trivial | apply And.intro)
      all_goals exact ObR.of_step rfl (S_loadO rfl pkA (by rfl) (by rfl) (by first | (simp [eqV, eqV0, SV.toV]; done) | (cases w <;> simp [eqV, eqV0, SV.toV])))
     ·
      refine KSeq_n ?_
      refine WC_cond rfl (fun hb4 => ?_) (fun hb4 => ?_)
      ·
       try simp only [bsT] at hb4
       refine WC_seq (WC_region ?_)
       refine WO_step rfl (S_pure rfl ?_)
       refine WO_nil (KSeq_n (WC_ret (KSeq_r ?_)))
       refine KFn_r (ResL.tmp rfl ResL.nil) ?_
       obtain ⟨rfl, rfl, hnw⟩ := hno2 (by simpa using hb4)
       have hnr := g.has.noRoom (hnw (by omega))
       refine ⟨LO j i w :: SL w.toV TRec l :: DO i es' l.length :: H, hsA, es', w, ?_⟩
       have e : putF l r = (5, l) := by
         unfold putF
         rw [if_neg (by rw [hmay]; simp), if_neg hb3, if_neg hnr]
       rw [e]
       exact ⟨rfl, rfl, g⟩
      ·
       try simp only [bsT] at hb4
       refine WC_skip (KSeq_n (WC_seq (WC_region ?_)))
       iterate 4 refine WO_step rfl (S_pure rfl ?_)
       refine WO_step rfl (S_loadO rfl pkA (by rfl) (by rfl) ?_)
       first | refine WO_step rfl (S_loadT rfl pkA (by rfl) (by rfl) ?_) | refine WO_step rfl (S_loadO rfl pkA (by rfl) (by rfl) ?_)
       refine WO_step rfl (S_lit1 (T := TRec) (y := r) rfl rfl rfl rfl fun w46 => ?_)
       refine WO_step rfl (S_app rfl rfl pkA (by first | exact SRC.str rfl rfl | (apply RD.src; repeat (first | assumption | exact RD.head | exact RD.nil | apply RD.tail))) (by rfl) (by rfl) (by (try simp only [List.length_append, List.length_cons, List.length_nil]); omega) fun w47 => ?_)
       iterate 2 refine WO_step rfl (S_pure rfl ?_)
       refine WO_step rfl (S_storeLO rfl rfl pkA ?_)
       refine WO_nil (KSeq_n (WC_seq (WC_region ?_)))
       refine WO_step rfl (S_pure rfl ?_)
       refine WO_nil (KSeq_n (WC_ret ?_))
       refine KFn_r (ResL.tmp rfl ResL.nil) ?_
       obtain ⟨rfl, hid, hins⟩ := hok (by simpa using hb4)
       refine ⟨LO j i w47 :: SL w47.toV TRec (l ++ [r]) :: DO i es' (l ++ [r]).length :: H, by rw [List.length_append]; exact hsA, es', w47, ?_⟩
       have e : putF l r = (0, l ++ [r]) := by
         unfold putF
         rw [if_neg (by rw [hmay]; simp), if_neg hb3, if_pos (g.has.ins hins).room]
       rw [e]
       exact ⟨rfl, rfl, g.ins hg' hins hno⟩

end Go.Proofs.YtpgidiompdabdaaGreat.AM
