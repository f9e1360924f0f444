/- Walks: what the functions compute. -/
import Derived.Test.YtpgidiompdabdaaGreatTypes
namespace Go.Proofs.YtpgidiompdabdaaGreat.AM
open Go
set_option linter.unusedSimpArgs false
set_option linter.unusedVariables false
set_option maxRecDepth 4000

/-! ### Entries in buckets, plainly -/
structure Ent where
  has : Bool
  id : Int
  tag : Nat
  deriving DecidableEq
def ent0 : Ent := ⟨false, 0, 0⟩
def frst (h : Nat) : Nat := h % 8
def tagOf (h : Nat) : Nat := h / 256 % 32768
def oth (b t : Nat) : Nat := b ^^^ (1 + t % 7)
theorem oth_facts : ∀ b, b < 8 → ∀ t, t < 7 → (b ^^^ (1 + t)) < 8 ∧ (b ^^^ (1 + t)) ≠ b ∧ ((b ^^^ (1 + t)) ^^^ (1 + t)) = b := by decide
theorem oth_lt {b t : Nat} (hb : b < 8) : oth b t < 8 := (oth_facts b hb (t % 7) (Nat.mod_lt _ (by omega))).1
theorem oth_ne {b t : Nat} (hb : b < 8) : oth b t ≠ b := (oth_facts b hb (t % 7) (Nat.mod_lt _ (by omega))).2.1
theorem oth_oth {b t : Nat} (hb : b < 8) : oth (oth b t) t = b := (oth_facts b hb (t % 7) (Nat.mod_lt _ (by omega))).2.2
theorem frst_lt (h : Nat) : frst h < 8 := Nat.mod_lt _ (by omega)
theorem tagOf_lt (h : Nat) : tagOf h < 32768 := Nat.mod_lt _ (by omega)
def sumN (f : Nat → Nat) : Nat → Nat
  | 0 => 0
  | n + 1 => sumN f n + f n
theorem sumN_congr {f g : Nat → Nat} : ∀ {n : Nat}, (∀ k, k < n → f k = g k) → sumN f n = sumN g n
  | 0, _ => rfl
  | n + 1, h => by rw [sumN, sumN, sumN_congr (fun k hk => h k (by omega)), h n (by omega)]
theorem sumN_le {f g : Nat → Nat} : ∀ {n : Nat}, (∀ k, k < n → f k ≤ g k) → sumN f n ≤ sumN g n
  | 0, _ => Nat.le_refl _
  | n + 1, h => Nat.add_le_add (sumN_le (fun k hk => h k (by omega))) (h n (by omega))
theorem sumN_mono {f : Nat → Nat} {m : Nat} : ∀ {n : Nat}, m ≤ n → sumN f m ≤ sumN f n
  | 0, h => by have : m = 0 := by omega
               subst this; exact Nat.le_refl _
  | n + 1, h => by
    by_cases e : m = n + 1
    · subst e; exact Nat.le_refl _
    · have := sumN_mono (f := f) (m := m) (n := n) (by omega)
      rw [sumN]; omega
theorem sumN_upd {f g : Nat → Nat} {k : Nat} : ∀ {n : Nat}, k < n → (∀ j, j < n → j ≠ k → g j = f j) → sumN g n + f k = sumN f n + g k
  | 0, h, _ => by omega
  | n + 1, h, he => by
    by_cases e : k = n
    · subst e
      have := sumN_congr (f := g) (g := f) (n := k) (fun j hj => he j (by omega) (by omega))
      rw [sumN, sumN, this]; omega
    · have := sumN_upd (f := f) (g := g) (k := k) (n := n) (by omega) (fun j hj hn => he j (by omega) hn)
      have h2 := he n (by omega) (by omega)
      rw [sumN, sumN, h2]; omega
theorem sumN_one {f : Nat → Nat} {c : Nat} : ∀ {n : Nat}, (∀ k, k < n → f k = c) → sumN f n = n * c
  | 0, _ => by rw [sumN, Nat.zero_mul]
  | n + 1, h => by rw [sumN, sumN_one (fun k hk => h k (by omega)), h n (by omega), Nat.succ_mul]
def at' (es : List Ent) (k : Nat) : Ent := es.getD k ent0
theorem at_set {es : List Ent} {k j : Nat} {e : Ent} (h : k < es.length) : at' (es.set k e) j = if j = k then e else at' es j := by
  unfold at'
  rw [List.getD_eq_getElem?_getD, List.getD_eq_getElem?_getD, List.getElem?_set]
  by_cases hj : k = j
  · subst hj; simp [h]
  · rw [if_neg hj, if_neg (fun e => hj e.symm)]
/-- A weight of entries that does not hang on the bucket of the two. -/
def Sym (f : Ent → Nat → Nat) : Prop := ∀ e b, b < 8 → f e (oth b e.tag) = f e b
def wt (f : Ent → Nat → Nat) (es : List Ent) (k : Nat) : Nat := if (at' es k).has then f (at' es k) (k / 4) else 0
def tot (f : Ent → Nat → Nat) (es : List Ent) : Nat := sumN (wt f es) 32
theorem tot_set {f : Ent → Nat → Nat} {es : List Ent} {k : Nat} {e : Ent} (hl : es.length = 32) (hk : k < 32) : tot f (es.set k e) + wt f es k = tot f es + (if e.has then f e (k / 4) else 0) := by
  have h := sumN_upd (f := wt f es) (g := wt f (es.set k e)) (k := k) (n := 32) hk (fun j hj hn => by unfold wt; rw [at_set (by omega), if_neg hn])
  have h2 : wt f (es.set k e) k = if e.has then f e (k / 4) else 0 := by unfold wt; rw [at_set (by omega), if_pos rfl]
  rw [h2] at h; exact h
def inS (S a b : Nat) : Bool := S.testBit a && S.testBit b
def fS (S : Nat) : Ent → Nat → Nat := fun e b => if inS S b (oth b e.tag) then 1 else 0
theorem fS_sym (S : Nat) : Sym (fS S) := fun e b hb => by
  unfold fS inS; rw [oth_oth hb, Bool.and_comm]
def pop4 (S : Nat) : Nat := sumN (fun k => if S.testBit (k / 4) then 1 else 0) 32
theorem occ_le (S : Nat) (es : List Ent) : tot (fS S) es ≤ pop4 S := sumN_le fun k _ => by
  show (if (at' es k).has then fS S (at' es k) (k / 4) else 0) ≤ (if S.testBit (k / 4) then 1 else 0)
  unfold fS inS
  cases S.testBit (k / 4) <;> cases (at' es k).has <;> cases S.testBit (oth (k / 4) (at' es k).tag) <;> simp
def edge (S h : Nat) : Bool := inS S (frst h) (oth (frst h) (tagOf h))
def cnt (S : Nat) (hs : List Nat) : Nat := hs.countP (edge S)
def Room (hs : List Nat) : Prop := ∀ S, S < 256 → cnt S hs ≤ pop4 S
theorem set_ex (p : Nat → Bool) : ∀ n, ∃ S, S < 2 ^ n ∧ ∀ b, b < n → S.testBit b = p b
  | 0 => ⟨0, by simp, fun b hb => by omega⟩
  | n + 1 => by
    obtain ⟨S, h1, h2⟩ := set_ex p n
    cases hp : p n with
    | false =>
      refine ⟨S, by rw [Nat.pow_succ]; omega, fun b hb => ?_⟩
      by_cases e : b = n
      · subst e; rw [hp]; exact Nat.testBit_lt_two_pow h1
      · exact h2 b (by omega)
    | true =>
      refine ⟨S ||| 2 ^ n, Nat.or_lt_two_pow (by rw [Nat.pow_succ]; omega) (by rw [Nat.pow_succ]; omega), fun b hb => ?_⟩
      rw [Nat.testBit_or, Nat.testBit_two_pow]
      by_cases e : b = n
      · subst e; rw [hp]; simp
      · rw [h2 b (by omega)]; simp [Ne.symm e]
/-- Buckets that are full, and none leads out of them. -/
def Shut (es : List Ent) (ks : List Nat) : Prop := ∀ b, b ∈ ks → b < 8 ∧ ∀ s, s < 4 → (at' es (b * 4 + s)).has = true ∧ oth b (at' es (b * 4 + s)).tag ∈ ks
def NoWay (es : List Ent) (h : Nat) : Prop := ∃ S, S < 256 ∧ S.testBit (frst h) = true ∧ S.testBit (oth (frst h) (tagOf h)) = true ∧ tot (fS S) es = pop4 S
theorem shut_noWay {es : List Ent} {ks : List Nat} {h : Nat} (hs : Shut es ks) (h1 : frst h ∈ ks) (h2 : oth (frst h) (tagOf h) ∈ ks) : NoWay es h := by
  obtain ⟨S, e1, e2⟩ := set_ex (fun b => decide (b ∈ ks)) 8
  refine ⟨S, e1, by rw [e2 _ (frst_lt h)]; simpa using h1, by rw [e2 _ (oth_lt (frst_lt h))]; simpa using h2, sumN_congr fun k hk => ?_⟩
  show (if (at' es k).has then fS S (at' es k) (k / 4) else 0) = (if S.testBit (k / 4) then 1 else 0)
  unfold fS inS
  have hb : k / 4 < 8 := by omega
  rw [e2 _ hb, e2 _ (oth_lt hb)]
  by_cases hm : k / 4 ∈ ks
  · obtain ⟨_, h3⟩ := hs _ hm
    have h4 := h3 (k % 4) (Nat.mod_lt _ (by omega))
    rw [show k / 4 * 4 + k % 4 = k by omega] at h4
    simp [hm, h4.1, h4.2]
  · simp [hm]
/-- The directory has just these hashes. -/
def Has (es : List Ent) (hs : List Nat) : Prop := ∀ S, tot (fS S) es = cnt S hs
def InsOk (es : List Ent) (h : Nat) (id : Int) (es' : List Ent) : Prop := ∀ f, Sym f → tot f es' = tot f es + f ⟨true, id, tagOf h⟩ (frst h)
theorem cnt_snoc (S : Nat) (hs : List Nat) (h : Nat) : cnt S (hs ++ [h]) = cnt S hs + if edge S h then 1 else 0 := by
  unfold cnt; rw [List.countP_append, List.countP_singleton]
theorem Has.ins {es es' : List Ent} {hs : List Nat} {h : Nat} {id : Int} (hh : Has es hs) (hi : InsOk es h id es') : Has es' (hs ++ [h]) := fun S => by
  rw [hi _ (fS_sym S), hh S, cnt_snoc]; rfl
theorem Has.room {es : List Ent} {hs : List Nat} (hh : Has es hs) : Room hs := fun S _ => by rw [← hh S]; exact occ_le S es
theorem Has.noRoom {es : List Ent} {hs : List Nat} {h : Nat} (hh : Has es hs) (hn : NoWay es h) : ¬Room (hs ++ [h]) := fun hr => by
  obtain ⟨S, h1, h2, h3, h4⟩ := hn
  have := hr S h1
  rw [cnt_snoc, ← hh S, h4] at this
  unfold edge inS at this
  rw [h2, h3] at this
  simp only [Bool.and_self, if_true] at this
  omega
theorem Room.mono {hs hs' : List Nat} (h : ∀ S, cnt S hs' ≤ cnt S hs) (hr : Room hs) : Room hs' := fun S hS => Nat.le_trans (h S) (hr S hS)
theorem cnt_take (S : Nat) (hs : List Nat) (i : Nat) : cnt S (hs.take i) ≤ cnt S hs := by
  conv => rhs; rw [← List.take_append_drop i hs]
  unfold cnt; rw [List.countP_append]; omega
theorem cnt_perm {S : Nat} {hs hs' : List Nat} (h : hs.Perm hs') : cnt S hs = cnt S hs' := h.countP_eq _
/-! ### The search -/
structure Good (es : List Ent) : Prop where
  len : es.length = 32
  tag : ∀ k, k < 32 → (at' es k).tag < 32768
  off : ∀ k, k < 32 → (at' es k).has = false → at' es k = ent0
theorem Good.new : Good (List.replicate 32 ent0) := by
  refine ⟨by simp, fun k hk => ?_, fun k hk _ => ?_⟩ <;> unfold at' <;> rw [List.getD_eq_getElem?_getD, List.getElem?_replicate, if_pos hk] <;> simp [ent0]
theorem Good.set {es : List Ent} (g : Good es) {k : Nat} {e : Ent} (hk : k < 32) (h1 : e.tag < 32768) (h2 : e.has = true) : Good (es.set k e) := by
  have := g.len
  refine ⟨by rw [List.length_set, g.len], fun j hj => ?_, fun j hj => ?_⟩ <;> rw [at_set (by omega)] <;> split
  · exact h1
  · exact g.tag j hj
  · intro h; rw [h2] at h; cases h
  · exact g.off j hj
structure Stp where
  b : Int
  s : Int
  deriving DecidableEq
abbrev MpS := List (Nat × Stp)
def ksOf (mp : MpS) : List Nat := mp.map Prod.fst
def StepOk (es : List Ent) (h : Nat) (ks : List Nat) (k : Nat) (st : Stp) : Prop :=
  (st.b = -1 ∧ (k = frst h ∨ k = oth (frst h) (tagOf h))) ∨ ∃ b s : Nat, st = ⟨(b : Int), (s : Int)⟩ ∧ b ∈ ks ∧ b < 8 ∧ s < 4 ∧ (at' es (b * 4 + s)).has = true ∧ oth b (at' es (b * 4 + s)).tag = k
structure WInv (es : List Ent) (h : Nat) (sh dn td : List Nat) (mp : MpS) : Prop where
  keys : ksOf mp = dn ++ td
  nd : (dn ++ td).Nodup
  lt : ∀ b ∈ dn ++ td, b < 8
  shut : ∀ b ∈ sh, ∀ s, s < 4 → (at' es (b * 4 + s)).has = true ∧ oth b (at' es (b * 4 + s)).tag ∈ dn ++ td
  chain : ∀ p k st, mp[p]? = some (k, st) → StepOk es h (ksOf (mp.take p)) k st
def Rch (k : Nat) (st : Stp) (mp : MpS) (td : List Nat) (mp' : MpS) (td' : List Nat) : Prop :=
  (k ∈ ksOf mp ∧ mp' = mp ∧ td' = td) ∨ (k ∉ ksOf mp ∧ mp' = mp ++ [(k, st)] ∧ td' = td ++ [k])
theorem WInv.init (es : List Ent) (h : Nat) : WInv es h [] [] [] [] := ⟨rfl, List.nodup_nil, by simp, by simp, by simp⟩
theorem WInv.reach {es : List Ent} {h : Nat} {sh dn td td' : List Nat} {mp mp' : MpS} {k : Nat} {st : Stp} (w : WInv es h sh dn td mp) (hr : Rch k st mp td mp' td') (hs : StepOk es h (ksOf mp) k st) (hk : k < 8) :
    WInv es h sh dn td' mp' ∧ k ∈ dn ++ td' ∧ ∀ x, x ∈ dn ++ td → x ∈ dn ++ td' := by
  rcases hr with ⟨h1, rfl, rfl⟩ | ⟨h1, rfl, rfl⟩
  · exact ⟨w, w.keys ▸ h1, fun x hx => hx⟩
  · have e : dn ++ (td ++ [k]) = (dn ++ td) ++ [k] := by simp
    rw [w.keys] at h1
    refine ⟨⟨by rw [ksOf, List.map_append, ← ksOf, w.keys, e]; rfl, ?_, ?_, ?_, ?_⟩, by rw [e]; simp, fun x hx => by rw [e]; exact List.mem_append_left _ hx⟩
    · rw [e, List.nodup_append]
      refine ⟨w.nd, by simp, fun a ha b hb => ?_⟩
      simp at hb; subst hb
      rintro rfl; exact h1 ha
    · intro b hb
      rw [e] at hb
      rcases List.mem_append.1 hb with hb | hb
      · exact w.lt b hb
      · simp at hb; subst hb; exact hk
    · intro b hb s hs4
      obtain ⟨h2, h3⟩ := w.shut b hb s hs4
      exact ⟨h2, by rw [e]; exact List.mem_append_left _ h3⟩
    · intro p k' st' hp
      by_cases hlt : p < mp.length
      · rw [List.getElem?_append_left hlt] at hp
        rw [List.take_append_of_le_length (by omega)]
        exact w.chain p k' st' hp
      · have hl := (List.getElem?_eq_some_iff.1 hp).1
        simp at hl
        have : p = mp.length := by omega
        subst this
        rw [List.getElem?_append_right (Nat.le_refl _)] at hp
        simp at hp
        obtain ⟨rfl, rfl⟩ := hp
        rw [List.take_left']
        · exact hs
        · rfl
theorem nd_len : ∀ (n : Nat) (l : List Nat), l.Nodup → (∀ x ∈ l, x < n) → l.length ≤ n
  | 0, l, _, h => by
    cases l with
    | nil => simp
    | cons x l => exact absurd (h x (List.mem_cons_self ..)) (by omega)
  | n + 1, l, hn, h => by
    by_cases hm : n ∈ l
    · have h1 := nd_len n (l.erase n) (hn.erase n) (fun x hx => by
        obtain ⟨h2, h3⟩ := (List.Nodup.mem_erase_iff hn).1 hx
        have := h x h3; omega)
      rw [List.length_erase_of_mem hm] at h1
      omega
    · have := nd_len n l hn (fun x hx => by
        have h2 := h x hx
        have : x ≠ n := by rintro rfl; exact hm hx
        omega)
      omega
theorem WInv.len {es : List Ent} {h : Nat} {sh dn td : List Nat} {mp : MpS} (w : WInv es h sh dn td mp) : dn.length + td.length ≤ 8 := by
  have := nd_len 8 _ w.nd w.lt
  rwa [List.length_append] at this
theorem WInv.pop {es : List Ent} {h : Nat} {sh dn td : List Nat} {mp : MpS} {b : Nat} (w : WInv es h sh dn (b :: td) mp) : WInv es h sh (dn ++ [b]) td mp := by
  have e : dn ++ b :: td = dn ++ [b] ++ td := by simp
  exact ⟨by rw [w.keys, e], by rw [← e]; exact w.nd, by rw [← e]; exact w.lt, by rw [← e]; exact w.shut, w.chain⟩
theorem WInv.close {es : List Ent} {h : Nat} {dn td : List Nat} {mp : MpS} {b : Nat} (w : WInv es h dn (dn ++ [b]) td mp) (hb : ∀ s, s < 4 → (at' es (b * 4 + s)).has = true ∧ oth b (at' es (b * 4 + s)).tag ∈ (dn ++ [b]) ++ td) : WInv es h (dn ++ [b]) (dn ++ [b]) td mp :=
  ⟨w.keys, w.nd, w.lt, fun x hx s hs => by
    rcases List.mem_append.1 hx with hx | hx
    · exact w.shut x hx s hs
    · simp at hx; subst hx; exact hb s hs, w.chain⟩
theorem WInv.noWay {es : List Ent} {h : Nat} {dn : List Nat} {mp : MpS} (w : WInv es h dn dn [] mp) (h1 : frst h ∈ dn) (h2 : oth (frst h) (tagOf h) ∈ dn) : NoWay es h := by
  refine shut_noWay (ks := dn) (fun b hb => ⟨w.lt b (by simpa using hb), fun s hs => ?_⟩) h1 h2
  have := w.shut b hb s hs
  rwa [List.append_nil] at this
/-- What is asked of the map behind a search. -/
structure Chain (es : List Ent) (h : Nat) (mp : MpS) : Prop where
  nd : (ksOf mp).Nodup
  lt : ∀ b ∈ ksOf mp, b < 8
  chain : ∀ p k st, mp[p]? = some (k, st) → StepOk es h (ksOf (mp.take p)) k st
theorem WInv.toChain {es : List Ent} {h : Nat} {sh dn td : List Nat} {mp : MpS} (w : WInv es h sh dn td mp) : Chain es h mp := ⟨by rw [w.keys]; exact w.nd, by rw [w.keys]; exact w.lt, w.chain⟩
def look (k : Nat) : MpS → Option Stp
  | [] => none
  | (k', st) :: l => if k = k' then some st else look k l
theorem look_none {k : Nat} : ∀ {mp : MpS}, k ∉ ksOf mp → look k mp = none
  | [], _ => rfl
  | (k', st) :: l, h => by
    simp only [ksOf, List.map_cons, List.mem_cons, not_or] at h
    rw [look, if_neg h.1]; exact look_none h.2
theorem look_mem {k : Nat} : ∀ {mp : MpS}, k ∈ ksOf mp → ∃ st, look k mp = some st
  | [], h => by simp [ksOf] at h
  | (k', st) :: l, h => by
    by_cases e : k = k'
    · exact ⟨st, by rw [look, if_pos e]⟩
    · simp only [ksOf, List.map_cons, List.mem_cons] at h
      rw [look, if_neg e]
      exact look_mem (h.resolve_left e)
theorem look_at : ∀ {mp : MpS} {p k : Nat} {st : Stp}, (ksOf mp).Nodup → mp[p]? = some (k, st) → look k mp = some st
  | [], p, k, st, _, h => by simp at h
  | (k', st') :: l, 0, k, st, hn, h => by
    simp at h; obtain ⟨rfl, rfl⟩ := h
    rw [look, if_pos rfl]
  | (k', st') :: l, p + 1, k, st, hn, h => by
    rw [List.getElem?_cons_succ] at h
    simp only [ksOf, List.map_cons, List.nodup_cons] at hn
    have hm : k ∈ ksOf l := List.mem_map.2 ⟨_, List.mem_of_getElem? h, rfl⟩
    rw [look, if_neg (by rintro rfl; exact hn.1 hm)]
    exact look_at hn.2 h
theorem Chain.inj {es : List Ent} {h : Nat} {mp : MpS} (c : Chain es h mp) {p q k : Nat} {st st' : Stp} (h1 : mp[p]? = some (k, st)) (h2 : mp[q]? = some (k, st')) : p = q := by
  have e1 : (ksOf mp)[p]? = some k := by rw [ksOf, List.getElem?_map, h1]; rfl
  have e2 : (ksOf mp)[q]? = some k := by rw [ksOf, List.getElem?_map, h2]; rfl
  obtain ⟨l1, e1⟩ := List.getElem?_eq_some_iff.1 e1
  obtain ⟨l2, e2⟩ := List.getElem?_eq_some_iff.1 e2
  exact (List.getElem_inj c.nd).1 (e1.trans e2.symm)
theorem Chain.key_lt {es : List Ent} {h : Nat} {mp : MpS} (c : Chain es h mp) {p k : Nat} {st : Stp} (h1 : mp[p]? = some (k, st)) : k < 8 := c.lt k (List.mem_map.2 ⟨_, List.mem_of_getElem? h1, rfl⟩)
/-- A hole moves along the chain. -/
structure JInv (es : List Ent) (h : Nat) (mp : MpS) (es' : List Ent) (p b s : Nat) : Prop where
  pos : ∃ st, mp[p]? = some (b, st)
  s4 : s < 4
  good : Good es'
  agree : ∀ j k st, j ≤ p → mp[j]? = some (k, st) → ∀ s, s < 4 → at' es' (k * 4 + s) = at' es (k * 4 + s)
  tot : ∀ f, Sym f → tot f (es'.set (b * 4 + s) ent0) = tot f es
theorem tot_zero {es : List Ent} {f : Ent → Nat → Nat} {k : Nat} (hl : es.length = 32) (hk : k < 32) : tot f (es.set k ent0) + wt f es k = tot f es := by
  have := tot_set (f := f) (e := ent0) hl hk
  rw [this]; simp [ent0]
theorem JInv.init {es : List Ent} {h : Nat} {mp : MpS} {p b s : Nat} {st : Stp} (g : Good es) (hp : mp[p]? = some (b, st)) (hb : b < 8) (hs : s < 4) (hf : (at' es (b * 4 + s)).has = false) : JInv es h mp es p b s :=
  ⟨⟨st, hp⟩, hs, g, fun _ _ _ _ _ _ _ => rfl, fun f _ => by
    have := tot_zero (f := f) (k := b * 4 + s) g.len (by omega)
    have hw : wt f es (b * 4 + s) = 0 := by unfold wt; rw [hf]; rfl
    omega⟩
theorem JInv.step {es es' : List Ent} {h : Nat} {mp : MpS} {p b s b2 s2 : Nat} (c : Chain es h mp) (j : JInv es h mp es' p b s) (hp : mp[p]? = some (b, ⟨(b2 : Int), (s2 : Int)⟩)) :
    b2 < 8 ∧ s2 < 4 ∧ ∃ q, q < p ∧ JInv es h mp (es'.set (b * 4 + s) (at' es' (b2 * 4 + s2))) q b2 s2 := by
  rcases c.chain p b _ hp with ⟨h1, _⟩ | ⟨b', s', h1, h2, h3, h4, h5, h6⟩
  · exact absurd h1 (by simp)
  · simp only [Stp.mk.injEq, Int.natCast_inj] at h1
    obtain ⟨rfl, rfl⟩ := h1
    obtain ⟨x, hx, hxe⟩ := List.mem_map.1 h2
    obtain ⟨q, hq⟩ := List.getElem?_of_mem hx
    rw [List.getElem?_take] at hq
    split at hq
    · rename_i hqp
      obtain ⟨x1, x2⟩ := x
      simp only at hxe; subst hxe
      have hb := c.key_lt hp
      have hs := j.s4
      have hne : x1 ≠ b := by
        rintro rfl
        have := c.inj hq hp; omega
      have hk : x1 * 4 + s2 ≠ b * 4 + s := by omega
      have hag := j.agree q x1 x2 (by omega) hq s2 h4
      have hl := j.good.len
      have hg := j.good.set (k := b * 4 + s) (e := at' es' (x1 * 4 + s2)) (by omega) (j.good.tag _ (by omega)) (by rw [hag]; exact h5)
      refine ⟨h3, h4, q, hqp, ⟨⟨x2, hq⟩, h4, hg, fun i k st hi hm s3 hs3 => ?_, fun f hf => ?_⟩⟩
      · have hkb : k ≠ b := by
          rintro rfl
          have := c.inj hm hp; omega
        rw [at_set (by omega), if_neg (by omega)]
        exact j.agree i k st (by omega) hm s3 hs3
      · have t1 := tot_zero (f := f) (k := x1 * 4 + s2) hg.len (by omega)
        have t2 := tot_set (f := f) (e := at' es' (x1 * 4 + s2)) hl (k := b * 4 + s) (by omega)
        have t3 := tot_zero (f := f) (k := b * 4 + s) hl (by omega)
        have t4 := j.tot f hf
        have w1 : wt f (es'.set (b * 4 + s) (at' es' (x1 * 4 + s2))) (x1 * 4 + s2) = f (at' es (x1 * 4 + s2)) x1 := by
          unfold wt
          rw [at_set (by omega), if_neg hk, hag, h5, if_pos rfl, show (x1 * 4 + s2) / 4 = x1 by omega]
        have e1 : (if (at' es' (x1 * 4 + s2)).has = true then f (at' es' (x1 * 4 + s2)) ((b * 4 + s) / 4) else 0) = f (at' es (x1 * 4 + s2)) x1 := by
          rw [hag, h5, if_pos rfl, show (b * 4 + s) / 4 = b by omega, ← h6]
          exact hf _ _ h3
        omega
    · cases hq
theorem JInv.done {es es' : List Ent} {h : Nat} {mp : MpS} {p b s : Nat} {st : Stp} {id : Int} (c : Chain es h mp) (j : JInv es h mp es' p b s) (hp : mp[p]? = some (b, st)) (hn : st.b < 0) :
    Good (es'.set (b * 4 + s) ⟨true, id, tagOf h⟩) ∧ InsOk es h id (es'.set (b * 4 + s) ⟨true, id, tagOf h⟩) := by
  have hb := c.key_lt hp
  have hs := j.s4
  have hl := j.good.len
  refine ⟨j.good.set (by omega) (tagOf_lt h) rfl, fun f hf => ?_⟩
  have t2 := tot_set (f := f) (e := ⟨true, id, tagOf h⟩) hl (k := b * 4 + s) (by omega)
  have t3 := tot_zero (f := f) (k := b * 4 + s) hl (by omega)
  have t4 := j.tot f hf
  simp only [if_true] at t2
  rw [show (b * 4 + s) / 4 = b by omega] at t2
  have e : f ⟨true, id, tagOf h⟩ b = f ⟨true, id, tagOf h⟩ (frst h) := by
    rcases c.chain p b st hp with ⟨_, h1⟩ | ⟨b', s', h1, _⟩
    · rcases h1 with rfl | rfl
      · rfl
      · exact hf ⟨true, id, tagOf h⟩ (frst h) (frst_lt h)
    · rw [h1] at hn; exact absurd hn (by simp only; omega)
  omega
/-! ### A bucket's free slot -/
def idx0 : Nat → List Ent → Int
  | _, [] => -1
  | a, e :: l => if e.has then idx0 (a + 1) l else (a : Int)
def frI (es : List Ent) (b : Nat) : Int := idx0 0 ((es.drop (b * 4)).take 4)
theorem take4 {es : List Ent} {b : Nat} (hl : es.length = 32) (hb : b < 8) : (es.drop (b * 4)).take 4 = [at' es (b * 4), at' es (b * 4 + 1), at' es (b * 4 + 2), at' es (b * 4 + 3)] := by
  unfold at'
  simp only [List.getD_eq_getElem?_getD]
  rw [List.getElem?_eq_getElem (by omega), List.getElem?_eq_getElem (by omega), List.getElem?_eq_getElem (by omega), List.getElem?_eq_getElem (by omega)]
  rw [List.drop_eq_getElem_cons (by omega), List.drop_eq_getElem_cons (by omega), List.drop_eq_getElem_cons (by omega), List.drop_eq_getElem_cons (by omega)]
  rfl
theorem frI_ge {es : List Ent} {b : Nat} (hl : es.length = 32) (hb : b < 8) (h : 0 ≤ frI es b) : ∃ s : Nat, frI es b = (s : Int) ∧ s < 4 ∧ (at' es (b * 4 + s)).has = false := by
  unfold frI at h ⊢
  rw [take4 hl hb] at h ⊢
  simp only [idx0] at h ⊢
  cases h0 : (at' es (b * 4)).has with
  | false => exact ⟨0, by simp, by omega, h0⟩
  | true =>
    cases h1 : (at' es (b * 4 + 1)).has with
    | false => exact ⟨1, by simp, by omega, h1⟩
    | true =>
      cases h2 : (at' es (b * 4 + 2)).has with
      | false => exact ⟨2, by simp, by omega, h2⟩
      | true =>
        cases h3 : (at' es (b * 4 + 3)).has with
        | false => exact ⟨3, by simp, by omega, h3⟩
        | true => rw [h0, h1, h2, h3] at h; simp at h
theorem frI_lt {es : List Ent} {b : Nat} (hl : es.length = 32) (hb : b < 8) (h : ¬(0 ≤ frI es b)) : ∀ s, s < 4 → (at' es (b * 4 + s)).has = true := by
  unfold frI at h
  rw [take4 hl hb] at h
  simp only [idx0] at h
  intro s hs
  cases h0 : (at' es (b * 4)).has with
  | false => rw [h0] at h; simp at h
  | true =>
    cases h1 : (at' es (b * 4 + 1)).has with
    | false => rw [h0, h1] at h; simp at h
    | true =>
      cases h2 : (at' es (b * 4 + 2)).has with
      | false => rw [h0, h1, h2] at h; simp at h
      | true =>
        cases h3 : (at' es (b * 4 + 3)).has with
        | false => rw [h0, h1, h2, h3] at h; simp at h
        | true =>
          have : s = 0 ∨ s = 1 ∨ s = 2 ∨ s = 3 := by omega
          rcases this with rfl | rfl | rfl | rfl <;> assumption
/-! ### Room, as it is asked -/
theorem tb (S j : Nat) : (if S.testBit j then 1 else 0) = S / 2 ^ j % 2 := by
  rw [← Nat.toNat_testBit]; cases S.testBit j <;> rfl
def popc (S n : Nat) : Nat := sumN (fun b => 4 * (S / 2 ^ b % 2)) n
theorem pop4_eq (S : Nat) : pop4 S = popc S 8 := by
  unfold pop4 popc
  simp only [tb, sumN, Nat.reduceDiv]
  omega
theorem pop4_mod (S : Nat) : pop4 S = sumN (fun k => if S.testBit (k % 8) then 1 else 0) 32 := by
  unfold pop4
  simp only [tb, sumN, Nat.reduceDiv, Nat.reduceMod]
  omega
theorem popc_le (S : Nat) : ∀ n, popc S n ≤ n * 4
  | 0 => Nat.le_refl _
  | n + 1 => by
    have := popc_le S n
    unfold popc at this ⊢
    rw [sumN]
    have : S / 2 ^ n % 2 < 2 := Nat.mod_lt _ (by omega)
    omega
theorem edge_eq (S h : Nat) : edge S h = (decide (S / 2 ^ frst h % 2 = 1) && decide (S / 2 ^ oth (frst h) (tagOf h) % 2 = 1)) := by
  unfold edge inS
  rw [Nat.testBit_eq_decide_div_mod_eq, Nat.testBit_eq_decide_div_mod_eq]
instance roomDec (hs : List Nat) : Decidable (Room hs) := Nat.decidableBallLT 256 (fun S _ => cnt S hs ≤ pop4 S)
theorem cnt_succ {S : Nat} {hs : List Nat} {a h : Nat} (hx : hs[a]? = some h) : cnt S (hs.take (a + 1)) = cnt S (hs.take a) + if edge S h then 1 else 0 := by
  rw [List.take_add_one, hx, Option.toList_some, cnt_snoc]
theorem cnt_le (S : Nat) (hs : List Nat) : cnt S hs ≤ hs.length := List.countP_le_length
/-! ### Spread, and not -/
def hN (tag i : Nat) (one : Bool) : Nat := if one then tag * 256 else tag * 256 + i % 8
def hsN (tag : Nat) (one : Bool) (i : Nat) : List Nat := (List.range i).map fun j => hN tag j one
theorem hsN_succ (tag : Nat) (one : Bool) (i : Nat) : hsN tag one (i + 1) = hsN tag one i ++ [hN tag i one] := by
  unfold hsN; rw [List.range_succ, List.map_append]; rfl
theorem frst_hN {tag i : Nat} {one : Bool} : frst (hN tag i one) = if one then 0 else i % 8 := by
  unfold frst hN; cases one <;> simp <;> omega
theorem tag_hN {tag i : Nat} {one : Bool} (h : tag < 32768) : tagOf (hN tag i one) = tag := by
  unfold tagOf hN; cases one <;> simp <;> omega
theorem cnt_hsN_le (S tag : Nat) (i : Nat) : cnt S (hsN tag false i) ≤ sumN (fun k => if S.testBit (k % 8) then 1 else 0) i := by
  induction i with
  | zero => exact Nat.le_refl _
  | succ i ih =>
    rw [hsN_succ, cnt_snoc, sumN]
    have : (if edge S (hN tag i false) then 1 else 0) ≤ (if S.testBit (i % 8) then 1 else 0) := by
      unfold edge inS
      rw [frst_hN]
      cases hh : S.testBit (i % 8) <;> simp [hh]
      split <;> omega
    omega
theorem cnt_hsN_one (S tag : Nat) (i : Nat) : cnt S (hsN tag true i) = i * (if edge S (hN tag 0 true) then 1 else 0) := by
  induction i with
  | zero => simp [hsN, cnt]
  | succ i ih =>
    rw [hsN_succ, cnt_snoc, ih, Nat.succ_mul, show hN tag i true = hN tag 0 true by simp [hN]]
theorem cnt_full (hs : List Nat) : cnt 255 hs = hs.length := by
  unfold cnt
  rw [List.countP_eq_length]
  intro h _
  unfold edge inS
  have : ∀ b, b < 8 → Nat.testBit 255 b = true := fun b hb => by
    rw [show 255 = 2 ^ 8 - 1 from rfl, Nat.testBit_two_pow_sub_one]; simpa using hb
  rw [this _ (frst_lt h), this _ (oth_lt (frst_lt h))]; rfl
/-- What the loop knows: k found a place, of the first i. -/
def FullI (tag : Nat) (one : Bool) (es : List Ent) (i k : Nat) : Prop := k = min i (if one then 8 else 32) ∧ Has es (hsN tag one k)
theorem FullI.zero (tag : Nat) (one : Bool) : FullI tag one (List.replicate 32 ent0) 0 0 := by
  refine ⟨by simp, fun S => ?_⟩
  have : tot (fS S) (List.replicate 32 ent0) = 32 * 0 := sumN_one fun k hk => by
    unfold wt at'
    rw [List.getD_eq_getElem?_getD, List.getElem?_replicate, if_pos hk]; rfl
  rw [this]; rfl
theorem pop_ge2 {S : Nat} (a b : Nat) (ha : a < 8) (hb : b < 8) (hne : a ≠ b) (h1 : S.testBit a = true) (h2 : S.testBit b = true) : 8 ≤ pop4 S := by
  have e := tb S a
  have e2 := tb S b
  rw [h1, if_pos rfl] at e
  rw [h2, if_pos rfl] at e2
  rw [pop4_eq]
  unfold popc
  simp only [sumN]
  have h3 : a = 0 ∨ a = 1 ∨ a = 2 ∨ a = 3 ∨ a = 4 ∨ a = 5 ∨ a = 6 ∨ a = 7 := by omega
  have h4 : b = 0 ∨ b = 1 ∨ b = 2 ∨ b = 3 ∨ b = 4 ∨ b = 5 ∨ b = 6 ∨ b = 7 := by omega
  rcases h3 with rfl | rfl | rfl | rfl | rfl | rfl | rfl | rfl <;> rcases h4 with rfl | rfl | rfl | rfl | rfl | rfl | rfl | rfl <;> first | (exact absurd rfl hne) | omega
theorem pairs_le : ∀ c, c < 8 → sumN (fun j => if (j / 4 = 0 ∨ j / 4 = c) then 1 else 0) 32 ≤ 8 := by
  set_option maxRecDepth 4000 in decide
theorem FullI.ok {tag : Nat} {one : Bool} {es es' : List Ent} {i k : Nat} {id : Int} (ht : tag < 32768) (f : FullI tag one es i k) (hi : InsOk es (hN tag i one) id es') : FullI tag one es' (i + 1) (k + 1) := by
  obtain ⟨h1, h2⟩ := f
  have key : k = i := by
    cases one with
    | true =>
      simp only [if_true] at h1
      have h3 := (h2.ins hi).room
      obtain ⟨S, e1, e2⟩ := set_ex (fun b => decide (b = 0 ∨ b = oth 0 tag)) 8
      have h4 := h3 S e1
      have he : edge S (hN tag 0 true) = true := by
        unfold edge inS
        rw [frst_hN, tag_hN ht, if_pos rfl, e2 _ (by omega), e2 _ (oth_lt (by omega))]; simp
      have h5 : hsN tag true k ++ [hN tag i true] = hsN tag true (k + 1) := by rw [hsN_succ]; rfl
      rw [h5, cnt_hsN_one, he, if_pos rfl, Nat.mul_one] at h4
      have h6 : pop4 S ≤ 8 := by
        have hcongr : pop4 S = sumN (fun j => if (j / 4 = 0 ∨ j / 4 = oth 0 tag) then 1 else 0) 32 := sumN_congr fun j hj => by
          show (if S.testBit (j / 4) then 1 else 0) = _
          rw [e2 _ (by omega)]; simp
        rw [hcongr]
        exact pairs_le _ (oth_lt (by omega))
      omega
    | false =>
      simp only [Bool.false_eq_true, if_false] at h1
      have h3 := (h2.ins hi).room 255 (by omega)
      rw [cnt_full] at h3
      have : pop4 255 = 32 := by decide
      simp [hsN] at h3
      omega
  subst key
  refine ⟨?_, by rw [hsN_succ]; exact h2.ins hi⟩
  cases one with
  | true =>
    simp only [if_true] at h1 ⊢
    have h3 := (h2.ins hi).room
    obtain ⟨S, e1, e2⟩ := set_ex (fun b => decide (b = 0 ∨ b = oth 0 tag)) 8
    have h4 := h3 S e1
    have he : edge S (hN tag 0 true) = true := by
      unfold edge inS
      rw [frst_hN, tag_hN ht, if_pos rfl, e2 _ (by omega), e2 _ (oth_lt (by omega))]; simp
    rw [← hsN_succ, cnt_hsN_one, he, if_pos rfl, Nat.mul_one] at h4
    have h6 : pop4 S ≤ 8 := by
      have hcongr : pop4 S = sumN (fun j => if (j / 4 = 0 ∨ j / 4 = oth 0 tag) then 1 else 0) 32 := sumN_congr fun j hj => by
        show (if S.testBit (j / 4) then 1 else 0) = _
        rw [e2 _ (by omega)]; simp
      rw [hcongr]
      exact pairs_le _ (oth_lt (by omega))
    omega
  | false =>
    simp only [Bool.false_eq_true, if_false] at h1 ⊢
    have h3 := (h2.ins hi).room 255 (by omega)
    rw [cnt_full] at h3
    have : pop4 255 = 32 := by decide
    simp [hsN] at h3
    omega
theorem FullI.no {tag : Nat} {one : Bool} {es : List Ent} {i k : Nat} (ht : tag < 32768) (f : FullI tag one es i k) (hn : NoWay es (hN tag i one)) : FullI tag one es (i + 1) k := by
  obtain ⟨h1, h2⟩ := f
  refine ⟨?_, h2⟩
  obtain ⟨S, s1, s2, s3, s4⟩ := hn
  rw [h2 S] at s4
  cases one with
  | true =>
    simp only [if_true] at h1 ⊢
    rw [frst_hN, if_pos rfl] at s2 s3
    rw [tag_hN ht] at s3
    have h3 := pop_ge2 0 (oth 0 tag) (by omega) (oth_lt (by omega)) (Ne.symm (oth_ne (by omega))) s2 s3
    have he : edge S (hN tag 0 true) = true := by
      unfold edge inS
      rw [frst_hN, tag_hN ht, if_pos rfl, s2, s3]; rfl
    rw [cnt_hsN_one, he, if_pos rfl, Nat.mul_one] at s4
    omega
  | false =>
    simp only [Bool.false_eq_true, if_false] at h1 ⊢
    by_cases hi : i < 32
    · have hk : k = i := by omega
      subst hk
      have h3 := cnt_hsN_le S tag k
      rw [frst_hN] at s2
      simp only [Bool.false_eq_true, if_false] at s2
      have h4 := sumN_mono (f := fun k => if S.testBit (k % 8) then 1 else 0) (m := k + 1) (n := 32) (by omega)
      rw [← pop4_mod, sumN] at h4
      simp only [s2, if_true] at h4
      omega
    · omega
/-! ### In any order -/
/-- What the loop knows: whether all of the first i found a place. -/
def OrdI (es : List Ent) (n : Nat) (hs : List Nat) (i : Nat) (ok : Bool) : Prop := (ok = true → Has es (hs.take i) ∧ n = i) ∧ (ok = false → ¬Room hs)
theorem OrdI.zero (hs : List Nat) : OrdI (List.replicate 32 ent0) 0 hs 0 true := by
  refine ⟨fun _ => ⟨fun S => ?_, rfl⟩, by simp⟩
  have := (FullI.zero 0 false).2 S
  rw [this]; rfl
theorem OrdI.ins {es es' : List Ent} {n i h : Nat} {hs : List Nat} {ok : Bool} {id : Int} (o : OrdI es n hs i ok) (hx : hs[i]? = some h) (hi : InsOk es h id es') : OrdI es' (n + 1) hs (i + 1) ok := by
  refine ⟨fun hok => ?_, o.2⟩
  obtain ⟨h1, h2⟩ := o.1 hok
  refine ⟨?_, by omega⟩
  rw [List.take_add_one, hx]; exact h1.ins hi
theorem OrdI.no {es es' : List Ent} {n n' i h : Nat} {hs : List Nat} {ok : Bool} (o : OrdI es n hs i ok) (hx : hs[i]? = some h) (hn : NoWay es h) : OrdI es' n' hs (i + 1) false := by
  refine ⟨by simp, fun _ => ?_⟩
  cases ok with
  | false => exact o.2 rfl
  | true =>
    obtain ⟨h1, h2⟩ := o.1 rfl
    have h3 := h1.noRoom hn
    intro hr
    apply h3
    have e : hs.take i ++ [h] = hs.take (i + 1) := by rw [List.take_add_one, hx]; rfl
    rw [e]
    exact hr.mono fun S => cnt_take S hs (i + 1)
theorem OrdI.end' {es : List Ent} {n i : Nat} {hs : List Nat} {ok : Bool} (o : OrdI es n hs i ok) (hi : hs.length ≤ i) : ok = decide (Room hs) ∧ (ok = true → n = i) := by
  cases ok with
  | true =>
    obtain ⟨h1, h2⟩ := o.1 rfl
    rw [List.take_of_length_le hi] at h1
    exact ⟨by rw [eq_comm, decide_eq_true_eq]; exact h1.room, fun _ => h2⟩
  | false => exact ⟨by rw [eq_comm, decide_eq_false_iff_not]; exact o.2 rfl, by simp⟩
def turned (hs : List Nat) (r : Nat) : List Nat := (hs.drop r ++ hs.take r).reverse
theorem turned_perm (hs : List Nat) (r : Nat) : (turned hs r).Perm hs := by
  unfold turned
  refine (List.reverse_perm _).trans ?_
  refine List.perm_append_comm.trans ?_
  rw [List.take_append_drop]
theorem turned_len (hs : List Nat) (r : Nat) : (turned hs r).length = hs.length := (turned_perm hs r).length_eq
theorem Room.perm {hs hs' : List Nat} (h : hs.Perm hs') (hr : Room hs) : Room hs' := hr.mono fun S => by rw [cnt_perm h]; exact Nat.le_refl _
theorem turned_at {hs : List Nat} {r i : Nat} (hr : r < hs.length) (hi : i < hs.length) : (turned hs r)[i]? = hs[(hs.length - 1 - i + r) % hs.length]? := by
  unfold turned
  rw [List.getElem?_reverse (by simp; omega)]
  simp only [List.length_append, List.length_drop, List.length_take]
  rw [show hs.length - r + min r hs.length - 1 - i = hs.length - 1 - i by omega]
  by_cases h : hs.length - 1 - i + r < hs.length
  · rw [Nat.mod_eq_of_lt h, List.getElem?_append_left (by rw [List.length_drop]; omega), List.getElem?_drop]
    congr 1; omega
  · rw [List.getElem?_append_right (by rw [List.length_drop]; omega), List.length_drop, List.getElem?_take, if_pos (by omega)]
    congr 1
    rw [Nat.mod_eq_sub_mod (by omega), Nat.mod_eq_of_lt (by omega)]; omega

end Go.Proofs.YtpgidiompdabdaaGreat.AM
