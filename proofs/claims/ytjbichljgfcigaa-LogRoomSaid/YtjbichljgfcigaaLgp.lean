/- Walks: what the functions compute. -/
import Derived.Test.YtjbichljgfcigaaC8
import Derived.Test.YtjbichljgfcigaaVal
namespace Go.Proofs.Ytjbichljgfcigaa.AM
open Go
set_option linter.unusedSimpArgs false
set_option linter.unusedVariables false
set_option maxRecDepth 4000

/-! ### A log, plainly -/
theorem hashOf_nat (s : ByteArray) : ∃ n : Nat, hashOf s = (n : Int) ∧ n < 18446744073709551616 := by
  have key : ∀ m : Int, ∃ n : Nat, IntKind.wrap .u64 m = (n : Int) ∧ n < 18446744073709551616 := fun m => by
    rw [wrapU]
    exact ⟨(m % 18446744073709551616).toNat, by omega, by omega⟩
  exact key _
def kH (s : ByteArray) : Nat := (hashOf s).toNat
theorem kH_eq (s : ByteArray) : hashOf s = ((kH s : Nat) : Int) := by
  obtain ⟨n, h1, _⟩ := hashOf_nat s
  unfold kH; rw [h1]; simp
theorem kH_lt (s : ByteArray) : kH s < 18446744073709551616 := by
  obtain ⟨n, h1, h2⟩ := hashOf_nat s
  unfold kH; rw [h1]; simpa using h2
def kvsF : Nat → List Rec → List Kv
  | _, [] => []
  | a, r :: l => ⟨kH r.key, (a : Int)⟩ :: kvsF (a + 1) l
def kvs (l : List Rec) : List Kv := kvsF 0 l
theorem kvsF_snoc (r : Rec) : ∀ (a : Nat) (l : List Rec), kvsF a (l ++ [r]) = kvsF a l ++ [⟨kH r.key, ((a + l.length : Nat) : Int)⟩]
  | a, [] => by simp [kvsF]
  | a, x :: l => by
    rw [List.cons_append, kvsF, kvsF, kvsF_snoc r (a + 1) l, List.cons_append, List.length_cons, show a + 1 + l.length = a + (l.length + 1) by omega]
theorem kvs_snoc (l : List Rec) (r : Rec) : kvs (l ++ [r]) = kvs l ++ [⟨kH r.key, (l.length : Int)⟩] := by
  have := kvsF_snoc r 0 l
  rwa [Nat.zero_add] at this
theorem kvsF_set {r x : Rec} (hk : r.key = x.key) : ∀ (a : Nat) (l : List Rec) (i : Nat), l[i]? = some x → kvsF a (l.set i r) = kvsF a l
  | a, [], i, h => by simp at h
  | a, y :: l, 0, h => by
    simp at h; subst h
    rw [List.set_cons_zero, kvsF, kvsF, hk]
  | a, y :: l, i + 1, h => by
    rw [List.getElem?_cons_succ] at h
    rw [List.set_cons_succ, kvsF, kvsF, kvsF_set hk (a + 1) l i h]
theorem kvsF_map : ∀ (a : Nat) (l : List Rec), (kvsF a l).map (·.h) = l.map fun r => kH r.key
  | _, [] => rfl
  | a, r :: l => by rw [kvsF, List.map_cons, List.map_cons, kvsF_map (a + 1) l]
def hsOf (l : List Rec) : List Nat := l.map fun r => kH r.key
theorem kvs_map (l : List Rec) : (kvs l).map (·.h) = hsOf l := kvsF_map 0 l
theorem kvsF_mem {x : Kv} : ∀ (a : Nat) (l : List Rec), x ∈ kvsF a l ↔ ∃ i r, l[i]? = some r ∧ x = ⟨kH r.key, ((a + i : Nat) : Int)⟩
  | a, [] => by simp [kvsF]
  | a, y :: l => by
    rw [kvsF, List.mem_cons, kvsF_mem (a + 1) l]
    constructor
    · rintro (rfl | ⟨i, r, h1, h2⟩)
      · exact ⟨0, y, rfl, rfl⟩
      · exact ⟨i + 1, r, by rw [List.getElem?_cons_succ]; exact h1, by rw [h2]; congr 2; omega⟩
    · rintro ⟨i, r, h1, h2⟩
      cases i with
      | zero => simp at h1; subst h1; exact .inl h2
      | succ i => exact .inr ⟨i, r, by rw [List.getElem?_cons_succ] at h1; exact h1, by rw [h2]; congr 2; omega⟩
theorem near_self (h : Nat) : near h h = true := by simp [near]
theorem nearL_mem {l : List Rec} {h : Nat} {v : Int} : v ∈ nearL (kvs l) h ↔ ∃ (i : Nat) (r : Rec), l[i]? = some r ∧ v = (i : Int) ∧ near h (kH r.key) = true := by
  unfold nearL kvs
  rw [List.mem_map]
  constructor
  · rintro ⟨x, hx, rfl⟩
    obtain ⟨h1, h2⟩ := List.mem_filter.1 hx
    obtain ⟨i, r, h3, rfl⟩ := (kvsF_mem 0 l).1 h1
    exact ⟨i, r, h3, by simp, h2⟩
  · rintro ⟨i, r, h1, rfl, h2⟩
    exact ⟨⟨kH r.key, (i : Int)⟩, List.mem_filter.2 ⟨(kvsF_mem 0 l).2 ⟨i, r, h1, by simp⟩, h2⟩, rfl⟩
/-- Where a key stands. -/
def idxF (k : ByteArray) : Nat → List Rec → Int
  | _, [] => -1
  | a, r :: l => if r.key = k then (a : Int) else idxF k (a + 1) l
def idxK (l : List Rec) (k : ByteArray) : Int := idxF k 0 l
theorem idxF_spec (k : ByteArray) : ∀ (a : Nat) (l : List Rec), (∃ i r, idxF k a l = ((a + i : Nat) : Int) ∧ l[i]? = some r ∧ r.key = k) ∨ (idxF k a l = -1 ∧ ∀ r ∈ l, r.key ≠ k)
  | a, [] => .inr ⟨rfl, by simp⟩
  | a, x :: l => by
    by_cases h : x.key = k
    · exact .inl ⟨0, x, by rw [idxF, if_pos h]; rfl, rfl, h⟩
    · rw [idxF, if_neg h]
      rcases idxF_spec k (a + 1) l with ⟨i, r, h1, h2, h3⟩ | ⟨h1, h2⟩
      · exact .inl ⟨i + 1, r, by rw [h1]; congr 1; omega, by rw [List.getElem?_cons_succ]; exact h2, h3⟩
      · exact .inr ⟨h1, fun r hr => by
          rcases List.mem_cons.1 hr with rfl | hr
          · exact h
          · exact h2 r hr⟩
theorem idxK_spec (l : List Rec) (k : ByteArray) : (∃ (i : Nat) (r : Rec), idxK l k = (i : Int) ∧ l[i]? = some r ∧ r.key = k) ∨ (idxK l k = -1 ∧ ∀ r ∈ l, r.key ≠ k) := by
  have := idxF_spec k 0 l
  simp only [Nat.zero_add] at this
  exact this
def keysOf (l : List Rec) : List ByteArray := l.map (·.key)
theorem key_inj {l : List Rec} (hn : (keysOf l).Nodup) {i j : Nat} {a b : Rec} (h1 : l[i]? = some a) (h2 : l[j]? = some b) (h : a.key = b.key) : i = j := by
  have e1 : (keysOf l)[i]? = some a.key := by rw [keysOf, List.getElem?_map, h1]; rfl
  have e2 : (keysOf l)[j]? = some a.key := by rw [keysOf, List.getElem?_map, h2, h]; rfl
  obtain ⟨l1, e1⟩ := List.getElem?_eq_some_iff.1 e1
  obtain ⟨l2, e2⟩ := List.getElem?_eq_some_iff.1 e2
  exact (List.getElem_inj hn).1 (e1.trans e2.symm)
theorem idxK_at {l : List Rec} (hn : (keysOf l).Nodup) {i : Nat} {r : Rec} (h : l[i]? = some r) : idxK l r.key = (i : Int) := by
  rcases idxK_spec l r.key with ⟨j, q, h1, h2, h3⟩ | ⟨h1, h2⟩
  · rw [h1, key_inj hn h2 h h3]
  · exact absurd rfl (h2 r (List.mem_of_getElem? h))
theorem fnd_idx (k : ByteArray) : ∀ l : List Rec, (fnd l k = none ∧ idxK l k = -1) ∨ ∃ (i : Nat) (r : Rec), fnd l k = some r ∧ idxK l k = (i : Int) ∧ l[i]? = some r := by
  have key : ∀ (a : Nat) (l : List Rec), (fnd l k = none ∧ idxF k a l = -1) ∨ ∃ (i : Nat) (r : Rec), fnd l k = some r ∧ idxF k a l = ((a + i : Nat) : Int) ∧ l[i]? = some r := by
    intro a l
    induction l generalizing a with
    | nil => exact .inl ⟨rfl, rfl⟩
    | cons x l ih =>
      by_cases h : x.key = k
      · exact .inr ⟨0, x, by rw [fnd, if_pos h], by rw [idxF, if_pos h]; rfl, rfl⟩
      · rw [fnd, if_neg h, idxF, if_neg h]
        rcases ih (a + 1) with h1 | ⟨i, r, h1, h2, h3⟩
        · exact .inl h1
        · exact .inr ⟨i + 1, r, h1, by rw [h2]; congr 1; omega, by rw [List.getElem?_cons_succ]; exact h3⟩
  intro l
  have := key 0 l
  simp only [Nat.zero_add] at this
  exact this
/-- What a log knows of its directory. -/
structure LogI (es : List Ent) (l : List Rec) : Prop where
  good : Good es
  holds : Holds es (kvs l)
  nd : (keysOf l).Nodup
theorem sumL_one : ∀ l : List Kv, sumL (fun _ _ => 1) l = l.length
  | [] => rfl
  | x :: l => by
    rw [sumL, sumL_one l, List.length_cons]
    show 1 + l.length = _
    omega
theorem kvsF_len : ∀ (a : Nat) (l : List Rec), (kvsF a l).length = l.length
  | _, [] => rfl
  | a, x :: l => by rw [kvsF, List.length_cons, List.length_cons, kvsF_len (a + 1) l]
theorem LogI.len {es : List Ent} {l : List Rec} (g : LogI es l) : l.length ≤ 32 := by
  have h := g.holds (fun _ _ => 1) (fun _ _ _ => rfl)
  rw [sumL_one, kvs, kvsF_len] at h
  rw [← h]
  have : tot (fun _ _ => 1) es ≤ sumN (fun _ => 1) 32 := sumN_le fun k _ => by
    show (if (at' es k).has then 1 else 0) ≤ 1
    split <;> omega
  have e : sumN (fun _ => 1) 32 = 32 * 1 := sumN_one fun _ _ => rfl
  omega
theorem LogI.new : LogI (List.replicate 32 ent0) [] := ⟨Good.new, Holds.new, List.nodup_nil⟩
theorem LogI.ins {es es' : List Ent} {l : List Rec} {r : Rec} (g : LogI es l) (hg : Good es') (hi : InsOk es (kH r.key) (l.length : Int) es') (hn : ∀ q ∈ l, q.key ≠ r.key) : LogI es' (l ++ [r]) := by
  refine ⟨hg, by rw [kvs_snoc]; exact g.holds.ins hi, ?_⟩
  unfold keysOf
  rw [List.map_append, List.nodup_append]
  refine ⟨g.nd, by simp, fun a ha b hb => ?_⟩
  simp at hb; subst hb
  obtain ⟨q, hq, rfl⟩ := List.mem_map.1 ha
  exact hn q hq
theorem keys_set {l : List Rec} {i : Nat} {r x : Rec} (h : l[i]? = some x) (hk : r.key = x.key) : keysOf (l.set i r) = keysOf l := by
  unfold keysOf
  rw [List.map_set, hk]
  obtain ⟨hlt, he⟩ := List.getElem?_eq_some_iff.1 h
  rw [← he, ← List.getElem_map (f := fun x : Rec => x.key) (h := by simpa using hlt), List.set_getElem_self]
theorem LogI.set {es : List Ent} {l : List Rec} {i : Nat} {r x : Rec} (g : LogI es l) (h : l[i]? = some x) (hk : r.key = x.key) : LogI es (l.set i r) :=
  ⟨g.good, by unfold kvs; rw [kvsF_set hk 0 l i h]; exact g.holds, by rw [keys_set h hk]; exact g.nd⟩
theorem LogI.has {es : List Ent} {l : List Rec} (g : LogI es l) : Has es (hsOf l) := by
  have := g.holds.has
  rwa [kvs_map] at this
/-- A record is put: what is told, and what is there. -/
def putF (l : List Rec) (r : Rec) : Int × List Rec :=
  if mayRec r = false then (1, l)
  else if 0 ≤ idxK l r.key then (0, l.set (idxK l r.key).toNat r)
  else if Room (hsOf l ++ [kH r.key]) then (0, l ++ [r]) else (5, l)
theorem few_room {hs : List Nat} (h : hs.length ≤ 8) : Room hs := fun S hS => by
  by_cases h0 : cnt S hs = 0
  · omega
  · obtain ⟨x, hx, he⟩ := List.countP_pos_iff.1 (Nat.pos_of_ne_zero h0)
    unfold edge inS at he
    rw [Bool.and_eq_true] at he
    have h1 := pop_ge2 _ _ (frst_lt x) (oth_lt (t := tagOf x) (frst_lt x)) (Ne.symm (oth_ne (frst_lt x))) he.1 he.2
    have h2 := cnt_le S hs
    omega

end Go.Proofs.Ytjbichljgfcigaa.AM
