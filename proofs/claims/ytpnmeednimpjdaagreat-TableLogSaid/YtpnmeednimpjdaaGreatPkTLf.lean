/- Texts of this repo, laid together. -/
import Derived.Test.YtpnmeednimpjdaaGreatPkTLa
import Derived.Test.YtpnmeednimpjdaaGreatShelf
import Derived.Test.YtpnmeednimpjdaaGreatPkTLb
import Derived.Test.YtpnmeednimpjdaaGreatPkTLc
import Derived.Test.YtpnmeednimpjdaaGreatPkTLd
import Derived.Test.YtpnmeednimpjdaaGreatPkTLe
namespace Go.Proofs.YtpnmeednimpjdaaGreat.AM
open Go
set_option linter.unusedSimpArgs false
set_option linter.unusedVariables false
set_option maxRecDepth 4000
def sumN (f : Nat → Nat) : Nat → Nat
  | 0 => 0
  | n + 1 => sumN f n + f n
theorem sumN_congr {f g : Nat → Nat} : ∀ {n : Nat}, (∀ k, k < n → f k = g k) → sumN f n = sumN g n
  | 0, _ => rfl
  | n + 1, h => by rw [sumN, sumN, sumN_congr (fun k hk => h k (by omega)), h n (by omega)]
theorem sumN_le {f g : Nat → Nat} : ∀ {n : Nat}, (∀ k, k < n → f k ≤ g k) → sumN f n ≤ sumN g n
  | 0, _ => Nat.le_refl _
  | n + 1, h => Nat.add_le_add (sumN_le (fun k hk => h k (by omega))) (h n (by omega))
theorem sumN_mono {f : Nat → Nat} {m : Nat} : ∀ {n : Nat}, m ≤ n → sumN f m ≤ sumN f n
  | 0, h => by have : m = 0 := by omega
               subst this; exact Nat.le_refl _
  | n + 1, h => by
    by_cases e : m = n + 1
    · subst e; exact Nat.le_refl _
    · have := sumN_mono (f := f) (m := m) (n := n) (by omega)
      rw [sumN]; omega
theorem sumN_upd {f g : Nat → Nat} {k : Nat} : ∀ {n : Nat}, k < n → (∀ j, j < n → j ≠ k → g j = f j) → sumN g n + f k = sumN f n + g k
  | 0, h, _ => by omega
  | n + 1, h, he => by
    by_cases e : k = n
    · subst e
      have := sumN_congr (f := g) (g := f) (n := k) (fun j hj => he j (by omega) (by omega))
      rw [sumN, sumN, this]; omega
    · have := sumN_upd (f := f) (g := g) (k := k) (n := n) (by omega) (fun j hj hn => he j (by omega) hn)
      have h2 := he n (by omega) (by omega)
      rw [sumN, sumN, h2]; omega
theorem sumN_one {f : Nat → Nat} {c : Nat} : ∀ {n : Nat}, (∀ k, k < n → f k = c) → sumN f n = n * c
  | 0, _ => by rw [sumN, Nat.zero_mul]
  | n + 1, h => by rw [sumN, sumN_one (fun k hk => h k (by omega)), h n (by omega), Nat.succ_mul]
def at' (es : List Ent) (k : Nat) : Ent := es.getD k ent0
theorem at_set {es : List Ent} {k j : Nat} {e : Ent} (h : k < es.length) : at' (es.set k e) j = if j = k then e else at' es j := by
  unfold at'
  rw [List.getD_eq_getElem?_getD, List.getD_eq_getElem?_getD, List.getElem?_set]
  by_cases hj : k = j
  · subst hj; simp [h]
  · rw [if_neg hj, if_neg (fun e => hj e.symm)]
def Sym (f : Ent → Nat → Nat) : Prop := ∀ e b, b < 8 → f e (oth b e.tag) = f e b
def wt (f : Ent → Nat → Nat) (es : List Ent) (k : Nat) : Nat := if (at' es k).has then f (at' es k) (k / 4) else 0
def tot (f : Ent → Nat → Nat) (es : List Ent) : Nat := sumN (wt f es) 32
theorem tot_set {f : Ent → Nat → Nat} {es : List Ent} {k : Nat} {e : Ent} (hl : es.length = 32) (hk : k < 32) : tot f (es.set k e) + wt f es k = tot f es + (if e.has then f e (k / 4) else 0) := by
  have h := sumN_upd (f := wt f es) (g := wt f (es.set k e)) (k := k) (n := 32) hk (fun j hj hn => by unfold wt; rw [at_set (by omega), if_neg hn])
  have h2 : wt f (es.set k e) k = if e.has then f e (k / 4) else 0 := by unfold wt; rw [at_set (by omega), if_pos rfl]
  rw [h2] at h; exact h
def inS (S a b : Nat) : Bool := S.testBit a && S.testBit b
def fS (S : Nat) : Ent → Nat → Nat := fun e b => if inS S b (oth b e.tag) then 1 else 0
theorem fS_sym (S : Nat) : Sym (fS S) := fun e b hb => by
  unfold fS inS; rw [oth_oth hb, Bool.and_comm]
def pop4 (S : Nat) : Nat := sumN (fun k => if S.testBit (k / 4) then 1 else 0) 32
theorem occ_le (S : Nat) (es : List Ent) : tot (fS S) es ≤ pop4 S := sumN_le fun k _ => by
  show (if (at' es k).has then fS S (at' es k) (k / 4) else 0) ≤ (if S.testBit (k / 4) then 1 else 0)
  unfold fS inS
  cases S.testBit (k / 4) <;> cases (at' es k).has <;> cases S.testBit (oth (k / 4) (at' es k).tag) <;> simp
def edge (S h : Nat) : Bool := inS S (frst h) (oth (frst h) (tagOf h))
def cnt (S : Nat) (hs : List Nat) : Nat := hs.countP (edge S)
def Room (hs : List Nat) : Prop := ∀ S, S < 256 → cnt S hs ≤ pop4 S
theorem set_ex (p : Nat → Bool) : ∀ n, ∃ S, S < 2 ^ n ∧ ∀ b, b < n → S.testBit b = p b
  | 0 => ⟨0, by simp, fun b hb => by omega⟩
  | n + 1 => by
    obtain ⟨S, h1, h2⟩ := set_ex p n
    cases hp : p n with
    | false =>
      refine ⟨S, by rw [Nat.pow_succ]; omega, fun b hb => ?_⟩
      by_cases e : b = n
      · subst e; rw [hp]; exact Nat.testBit_lt_two_pow h1
      · exact h2 b (by omega)
    | true =>
      refine ⟨S ||| 2 ^ n, Nat.or_lt_two_pow (by rw [Nat.pow_succ]; omega) (by rw [Nat.pow_succ]; omega), fun b hb => ?_⟩
      rw [Nat.testBit_or, Nat.testBit_two_pow]
      by_cases e : b = n
      · subst e; rw [hp]; simp
      · rw [h2 b (by omega)]; simp [Ne.symm e]
def Shut (es : List Ent) (ks : List Nat) : Prop := ∀ b, b ∈ ks → b < 8 ∧ ∀ s, s < 4 → (at' es (b * 4 + s)).has = true ∧ oth b (at' es (b * 4 + s)).tag ∈ ks
def NoWay (es : List Ent) (h : Nat) : Prop := ∃ S, S < 256 ∧ S.testBit (frst h) = true ∧ S.testBit (oth (frst h) (tagOf h)) = true ∧ tot (fS S) es = pop4 S
theorem shut_noWay {es : List Ent} {ks : List Nat} {h : Nat} (hs : Shut es ks) (h1 : frst h ∈ ks) (h2 : oth (frst h) (tagOf h) ∈ ks) : NoWay es h := by
  obtain ⟨S, e1, e2⟩ := set_ex (fun b => decide (b ∈ ks)) 8
  refine ⟨S, e1, by rw [e2 _ (frst_lt h)]; simpa using h1, by rw [e2 _ (oth_lt (frst_lt h))]; simpa using h2, sumN_congr fun k hk => ?_⟩
  show (if (at' es k).has then fS S (at' es k) (k / 4) else 0) = (if S.testBit (k / 4) then 1 else 0)
  unfold fS inS
  have hb : k / 4 < 8 := by omega
  rw [e2 _ hb, e2 _ (oth_lt hb)]
  by_cases hm : k / 4 ∈ ks
  · obtain ⟨_, h3⟩ := hs _ hm
    have h4 := h3 (k % 4) (Nat.mod_lt _ (by omega))
    rw [show k / 4 * 4 + k % 4 = k by omega] at h4
    simp [hm, h4.1, h4.2]
  · simp [hm]
def Has (es : List Ent) (hs : List Nat) : Prop := ∀ S, tot (fS S) es = cnt S hs
def InsOk (es : List Ent) (h : Nat) (id : Int) (es' : List Ent) : Prop := ∀ f, Sym f → tot f es' = tot f es + f ⟨true, id, tagOf h⟩ (frst h)
theorem cnt_snoc (S : Nat) (hs : List Nat) (h : Nat) : cnt S (hs ++ [h]) = cnt S hs + if edge S h then 1 else 0 := by
  unfold cnt; rw [List.countP_append, List.countP_singleton]
theorem Has.ins {es es' : List Ent} {hs : List Nat} {h : Nat} {id : Int} (hh : Has es hs) (hi : InsOk es h id es') : Has es' (hs ++ [h]) := fun S => by
  rw [hi _ (fS_sym S), hh S, cnt_snoc]; rfl
theorem Has.room {es : List Ent} {hs : List Nat} (hh : Has es hs) : Room hs := fun S _ => by rw [← hh S]; exact occ_le S es
theorem Has.noRoom {es : List Ent} {hs : List Nat} {h : Nat} (hh : Has es hs) (hn : NoWay es h) : ¬Room (hs ++ [h]) := fun hr => by
  obtain ⟨S, h1, h2, h3, h4⟩ := hn
  have := hr S h1
  rw [cnt_snoc, ← hh S, h4] at this
  unfold edge inS at this
  rw [h2, h3] at this
  simp only [Bool.and_self, if_true] at this
  omega
theorem Room.mono {hs hs' : List Nat} (h : ∀ S, cnt S hs' ≤ cnt S hs) (hr : Room hs) : Room hs' := fun S hS => Nat.le_trans (h S) (hr S hS)
theorem cnt_take (S : Nat) (hs : List Nat) (i : Nat) : cnt S (hs.take i) ≤ cnt S hs := by
  conv => rhs; rw [← List.take_append_drop i hs]
  unfold cnt; rw [List.countP_append]; omega
theorem cnt_perm {S : Nat} {hs hs' : List Nat} (h : hs.Perm hs') : cnt S hs = cnt S hs' := h.countP_eq _
structure Good (es : List Ent) : Prop where
  len : es.length = 32
  tag : ∀ k, k < 32 → (at' es k).tag < 32768
  off : ∀ k, k < 32 → (at' es k).has = false → at' es k = ent0
theorem Good.new : Good (List.replicate 32 ent0) := by
  refine ⟨by simp, fun k hk => ?_, fun k hk _ => ?_⟩ <;> unfold at' <;> rw [List.getD_eq_getElem?_getD, List.getElem?_replicate, if_pos hk] <;> simp [ent0]
theorem Good.set {es : List Ent} (g : Good es) {k : Nat} {e : Ent} (hk : k < 32) (h1 : e.tag < 32768) (h2 : e.has = true) : Good (es.set k e) := by
  have := g.len
  refine ⟨by rw [List.length_set, g.len], fun j hj => ?_, fun j hj => ?_⟩ <;> rw [at_set (by omega)] <;> split
  · exact h1
  · exact g.tag j hj
  · intro h; rw [h2] at h; cases h
  · exact g.off j hj
structure Stp where
  b : Int
  s : Int
  deriving DecidableEq
abbrev MpS := List (Nat × Stp)
def ksOf (mp : MpS) : List Nat := mp.map Prod.fst
def StepOk (es : List Ent) (h : Nat) (ks : List Nat) (k : Nat) (st : Stp) : Prop :=
  (st.b = -1 ∧ (k = frst h ∨ k = oth (frst h) (tagOf h))) ∨ ∃ b s : Nat, st = ⟨(b : Int), (s : Int)⟩ ∧ b ∈ ks ∧ b < 8 ∧ s < 4 ∧ (at' es (b * 4 + s)).has = true ∧ oth b (at' es (b * 4 + s)).tag = k
structure WInv (es : List Ent) (h : Nat) (sh dn td : List Nat) (mp : MpS) : Prop where
  keys : ksOf mp = dn ++ td
  nd : (dn ++ td).Nodup
  lt : ∀ b ∈ dn ++ td, b < 8
  shut : ∀ b ∈ sh, ∀ s, s < 4 → (at' es (b * 4 + s)).has = true ∧ oth b (at' es (b * 4 + s)).tag ∈ dn ++ td
  chain : ∀ p k st, mp[p]? = some (k, st) → StepOk es h (ksOf (mp.take p)) k st
def Rch (k : Nat) (st : Stp) (mp : MpS) (td : List Nat) (mp' : MpS) (td' : List Nat) : Prop :=
  (k ∈ ksOf mp ∧ mp' = mp ∧ td' = td) ∨ (k ∉ ksOf mp ∧ mp' = mp ++ [(k, st)] ∧ td' = td ++ [k])
theorem WInv.init (es : List Ent) (h : Nat) : WInv es h [] [] [] [] := ⟨rfl, List.nodup_nil, by simp, by simp, by simp⟩
theorem WInv.reach {es : List Ent} {h : Nat} {sh dn td td' : List Nat} {mp mp' : MpS} {k : Nat} {st : Stp} (w : WInv es h sh dn td mp) (hr : Rch k st mp td mp' td') (hs : StepOk es h (ksOf mp) k st) (hk : k < 8) :
    WInv es h sh dn td' mp' ∧ k ∈ dn ++ td' ∧ ∀ x, x ∈ dn ++ td → x ∈ dn ++ td' := by
  rcases hr with ⟨h1, rfl, rfl⟩ | ⟨h1, rfl, rfl⟩
  · exact ⟨w, w.keys ▸ h1, fun x hx => hx⟩
  · have e : dn ++ (td ++ [k]) = (dn ++ td) ++ [k] := by simp
    rw [w.keys] at h1
    refine ⟨⟨by rw [ksOf, List.map_append, ← ksOf, w.keys, e]; rfl, ?_, ?_, ?_, ?_⟩, by rw [e]; simp, fun x hx => by rw [e]; exact List.mem_append_left _ hx⟩
    · rw [e, List.nodup_append]
      refine ⟨w.nd, by simp, fun a ha b hb => ?_⟩
      simp at hb; subst hb
      rintro rfl; exact h1 ha
    · intro b hb
      rw [e] at hb
      rcases List.mem_append.1 hb with hb | hb
      · exact w.lt b hb
      · simp at hb; subst hb; exact hk
    · intro b hb s hs4
      obtain ⟨h2, h3⟩ := w.shut b hb s hs4
      exact ⟨h2, by rw [e]; exact List.mem_append_left _ h3⟩
    · intro p k' st' hp
      by_cases hlt : p < mp.length
      · rw [List.getElem?_append_left hlt] at hp
        rw [List.take_append_of_le_length (by omega)]
        exact w.chain p k' st' hp
      · have hl := (List.getElem?_eq_some_iff.1 hp).1
        simp at hl
        have : p = mp.length := by omega
        subst this
        rw [List.getElem?_append_right (Nat.le_refl _)] at hp
        simp at hp
        obtain ⟨rfl, rfl⟩ := hp
        rw [List.take_left']
        · exact hs
        · rfl
theorem nd_len : ∀ (n : Nat) (l : List Nat), l.Nodup → (∀ x ∈ l, x < n) → l.length ≤ n
  | 0, l, _, h => by
    cases l with
    | nil => simp
    | cons x l => exact absurd (h x (List.mem_cons_self ..)) (by omega)
  | n + 1, l, hn, h => by
    by_cases hm : n ∈ l
    · have h1 := nd_len n (l.erase n) (hn.erase n) (fun x hx => by
        obtain ⟨h2, h3⟩ := (List.Nodup.mem_erase_iff hn).1 hx
        have := h x h3; omega)
      rw [List.length_erase_of_mem hm] at h1
      omega
    · have := nd_len n l hn (fun x hx => by
        have h2 := h x hx
        have : x ≠ n := by rintro rfl; exact hm hx
        omega)
      omega
theorem WInv.len {es : List Ent} {h : Nat} {sh dn td : List Nat} {mp : MpS} (w : WInv es h sh dn td mp) : dn.length + td.length ≤ 8 := by
  have := nd_len 8 _ w.nd w.lt
  rwa [List.length_append] at this
theorem WInv.pop {es : List Ent} {h : Nat} {sh dn td : List Nat} {mp : MpS} {b : Nat} (w : WInv es h sh dn (b :: td) mp) : WInv es h sh (dn ++ [b]) td mp := by
  have e : dn ++ b :: td = dn ++ [b] ++ td := by simp
  exact ⟨by rw [w.keys, e], by rw [← e]; exact w.nd, by rw [← e]; exact w.lt, by rw [← e]; exact w.shut, w.chain⟩
theorem WInv.close {es : List Ent} {h : Nat} {dn td : List Nat} {mp : MpS} {b : Nat} (w : WInv es h dn (dn ++ [b]) td mp) (hb : ∀ s, s < 4 → (at' es (b * 4 + s)).has = true ∧ oth b (at' es (b * 4 + s)).tag ∈ (dn ++ [b]) ++ td) : WInv es h (dn ++ [b]) (dn ++ [b]) td mp :=
  ⟨w.keys, w.nd, w.lt, fun x hx s hs => by
    rcases List.mem_append.1 hx with hx | hx
    · exact w.shut x hx s hs
    · simp at hx; subst hx; exact hb s hs, w.chain⟩
theorem WInv.noWay {es : List Ent} {h : Nat} {dn : List Nat} {mp : MpS} (w : WInv es h dn dn [] mp) (h1 : frst h ∈ dn) (h2 : oth (frst h) (tagOf h) ∈ dn) : NoWay es h := by
  refine shut_noWay (ks := dn) (fun b hb => ⟨w.lt b (by simpa using hb), fun s hs => ?_⟩) h1 h2
  have := w.shut b hb s hs
  rwa [List.append_nil] at this
structure Chain (es : List Ent) (h : Nat) (mp : MpS) : Prop where
  nd : (ksOf mp).Nodup
  lt : ∀ b ∈ ksOf mp, b < 8
  chain : ∀ p k st, mp[p]? = some (k, st) → StepOk es h (ksOf (mp.take p)) k st
theorem WInv.toChain {es : List Ent} {h : Nat} {sh dn td : List Nat} {mp : MpS} (w : WInv es h sh dn td mp) : Chain es h mp := ⟨by rw [w.keys]; exact w.nd, by rw [w.keys]; exact w.lt, w.chain⟩
def look (k : Nat) : MpS → Option Stp
  | [] => none
  | (k', st) :: l => if k = k' then some st else look k l
theorem look_none {k : Nat} : ∀ {mp : MpS}, k ∉ ksOf mp → look k mp = none
  | [], _ => rfl
  | (k', st) :: l, h => by
    simp only [ksOf, List.map_cons, List.mem_cons, not_or] at h
    rw [look, if_neg h.1]; exact look_none h.2
theorem look_mem {k : Nat} : ∀ {mp : MpS}, k ∈ ksOf mp → ∃ st, look k mp = some st
  | [], h => by simp [ksOf] at h
  | (k', st) :: l, h => by
    by_cases e : k = k'
    · exact ⟨st, by rw [look, if_pos e]⟩
    · simp only [ksOf, List.map_cons, List.mem_cons] at h
      rw [look, if_neg e]
      exact look_mem (h.resolve_left e)
theorem look_at : ∀ {mp : MpS} {p k : Nat} {st : Stp}, (ksOf mp).Nodup → mp[p]? = some (k, st) → look k mp = some st
  | [], p, k, st, _, h => by simp at h
  | (k', st') :: l, 0, k, st, hn, h => by
    simp at h; obtain ⟨rfl, rfl⟩ := h
    rw [look, if_pos rfl]
  | (k', st') :: l, p + 1, k, st, hn, h => by
    rw [List.getElem?_cons_succ] at h
    simp only [ksOf, List.map_cons, List.nodup_cons] at hn
    have hm : k ∈ ksOf l := List.mem_map.2 ⟨_, List.mem_of_getElem? h, rfl⟩
    rw [look, if_neg (by rintro rfl; exact hn.1 hm)]
    exact look_at hn.2 h
theorem Chain.inj {es : List Ent} {h : Nat} {mp : MpS} (c : Chain es h mp) {p q k : Nat} {st st' : Stp} (h1 : mp[p]? = some (k, st)) (h2 : mp[q]? = some (k, st')) : p = q := by
  have e1 : (ksOf mp)[p]? = some k := by rw [ksOf, List.getElem?_map, h1]; rfl
  have e2 : (ksOf mp)[q]? = some k := by rw [ksOf, List.getElem?_map, h2]; rfl
  obtain ⟨l1, e1⟩ := List.getElem?_eq_some_iff.1 e1
  obtain ⟨l2, e2⟩ := List.getElem?_eq_some_iff.1 e2
  exact (List.getElem_inj c.nd).1 (e1.trans e2.symm)
theorem Chain.key_lt {es : List Ent} {h : Nat} {mp : MpS} (c : Chain es h mp) {p k : Nat} {st : Stp} (h1 : mp[p]? = some (k, st)) : k < 8 := c.lt k (List.mem_map.2 ⟨_, List.mem_of_getElem? h1, rfl⟩)
structure JInv (es : List Ent) (h : Nat) (mp : MpS) (es' : List Ent) (p b s : Nat) : Prop where
  pos : ∃ st, mp[p]? = some (b, st)
  s4 : s < 4
  good : Good es'
  agree : ∀ j k st, j ≤ p → mp[j]? = some (k, st) → ∀ s, s < 4 → at' es' (k * 4 + s) = at' es (k * 4 + s)
  tot : ∀ f, Sym f → tot f (es'.set (b * 4 + s) ent0) = tot f es
theorem tot_zero {es : List Ent} {f : Ent → Nat → Nat} {k : Nat} (hl : es.length = 32) (hk : k < 32) : tot f (es.set k ent0) + wt f es k = tot f es := by
  have := tot_set (f := f) (e := ent0) hl hk
  rw [this]; simp [ent0]
theorem JInv.init {es : List Ent} {h : Nat} {mp : MpS} {p b s : Nat} {st : Stp} (g : Good es) (hp : mp[p]? = some (b, st)) (hb : b < 8) (hs : s < 4) (hf : (at' es (b * 4 + s)).has = false) : JInv es h mp es p b s :=
  ⟨⟨st, hp⟩, hs, g, fun _ _ _ _ _ _ _ => rfl, fun f _ => by
    have := tot_zero (f := f) (k := b * 4 + s) g.len (by omega)
    have hw : wt f es (b * 4 + s) = 0 := by unfold wt; rw [hf]; rfl
    omega⟩
theorem JInv.step {es es' : List Ent} {h : Nat} {mp : MpS} {p b s b2 s2 : Nat} (c : Chain es h mp) (j : JInv es h mp es' p b s) (hp : mp[p]? = some (b, ⟨(b2 : Int), (s2 : Int)⟩)) :
    b2 < 8 ∧ s2 < 4 ∧ ∃ q, q < p ∧ JInv es h mp (es'.set (b * 4 + s) (at' es' (b2 * 4 + s2))) q b2 s2 := by
  rcases c.chain p b _ hp with ⟨h1, _⟩ | ⟨b', s', h1, h2, h3, h4, h5, h6⟩
  · exact absurd h1 (by simp)
  · simp only [Stp.mk.injEq, Int.natCast_inj] at h1
    obtain ⟨rfl, rfl⟩ := h1
    obtain ⟨x, hx, hxe⟩ := List.mem_map.1 h2
    obtain ⟨q, hq⟩ := List.getElem?_of_mem hx
    rw [List.getElem?_take] at hq
    split at hq
    · rename_i hqp
      obtain ⟨x1, x2⟩ := x
      simp only at hxe; subst hxe
      have hb := c.key_lt hp
      have hs := j.s4
      have hne : x1 ≠ b := by
        rintro rfl
        have := c.inj hq hp; omega
      have hk : x1 * 4 + s2 ≠ b * 4 + s := by omega
      have hag := j.agree q x1 x2 (by omega) hq s2 h4
      have hl := j.good.len
      have hg := j.good.set (k := b * 4 + s) (e := at' es' (x1 * 4 + s2)) (by omega) (j.good.tag _ (by omega)) (by rw [hag]; exact h5)
      refine ⟨h3, h4, q, hqp, ⟨⟨x2, hq⟩, h4, hg, fun i k st hi hm s3 hs3 => ?_, fun f hf => ?_⟩⟩
      · have hkb : k ≠ b := by
          rintro rfl
          have := c.inj hm hp; omega
        rw [at_set (by omega), if_neg (by omega)]
        exact j.agree i k st (by omega) hm s3 hs3
      · have t1 := tot_zero (f := f) (k := x1 * 4 + s2) hg.len (by omega)
        have t2 := tot_set (f := f) (e := at' es' (x1 * 4 + s2)) hl (k := b * 4 + s) (by omega)
        have t3 := tot_zero (f := f) (k := b * 4 + s) hl (by omega)
        have t4 := j.tot f hf
        have w1 : wt f (es'.set (b * 4 + s) (at' es' (x1 * 4 + s2))) (x1 * 4 + s2) = f (at' es (x1 * 4 + s2)) x1 := by
          unfold wt
          rw [at_set (by omega), if_neg hk, hag, h5, if_pos rfl, show (x1 * 4 + s2) / 4 = x1 by omega]
        have e1 : (if (at' es' (x1 * 4 + s2)).has = true then f (at' es' (x1 * 4 + s2)) ((b * 4 + s) / 4) else 0) = f (at' es (x1 * 4 + s2)) x1 := by
          rw [hag, h5, if_pos rfl, show (b * 4 + s) / 4 = b by omega, ← h6]
          exact hf _ _ h3
        omega
    · cases hq
theorem JInv.done {es es' : List Ent} {h : Nat} {mp : MpS} {p b s : Nat} {st : Stp} {id : Int} (c : Chain es h mp) (j : JInv es h mp es' p b s) (hp : mp[p]? = some (b, st)) (hn : st.b < 0) :
    Good (es'.set (b * 4 + s) ⟨true, id, tagOf h⟩) ∧ InsOk es h id (es'.set (b * 4 + s) ⟨true, id, tagOf h⟩) := by
  have hb := c.key_lt hp
  have hs := j.s4
  have hl := j.good.len
  refine ⟨j.good.set (by omega) (tagOf_lt h) rfl, fun f hf => ?_⟩
  have t2 := tot_set (f := f) (e := ⟨true, id, tagOf h⟩) hl (k := b * 4 + s) (by omega)
  have t3 := tot_zero (f := f) (k := b * 4 + s) hl (by omega)
  have t4 := j.tot f hf
  simp only [if_true] at t2
  rw [show (b * 4 + s) / 4 = b by omega] at t2
  have e : f ⟨true, id, tagOf h⟩ b = f ⟨true, id, tagOf h⟩ (frst h) := by
    rcases c.chain p b st hp with ⟨_, h1⟩ | ⟨b', s', h1, _⟩
    · rcases h1 with rfl | rfl
      · rfl
      · exact hf ⟨true, id, tagOf h⟩ (frst h) (frst_lt h)
    · rw [h1] at hn; exact absurd hn (by simp only; omega)
  omega
def idx0 : Nat → List Ent → Int
  | _, [] => -1
  | a, e :: l => if e.has then idx0 (a + 1) l else (a : Int)
def frI (es : List Ent) (b : Nat) : Int := idx0 0 ((es.drop (b * 4)).take 4)
theorem take4 {es : List Ent} {b : Nat} (hl : es.length = 32) (hb : b < 8) : (es.drop (b * 4)).take 4 = [at' es (b * 4), at' es (b * 4 + 1), at' es (b * 4 + 2), at' es (b * 4 + 3)] := by
  unfold at'
  simp only [List.getD_eq_getElem?_getD]
  rw [List.getElem?_eq_getElem (by omega), List.getElem?_eq_getElem (by omega), List.getElem?_eq_getElem (by omega), List.getElem?_eq_getElem (by omega)]
  rw [List.drop_eq_getElem_cons (by omega), List.drop_eq_getElem_cons (by omega), List.drop_eq_getElem_cons (by omega), List.drop_eq_getElem_cons (by omega)]
  rfl
theorem frI_ge {es : List Ent} {b : Nat} (hl : es.length = 32) (hb : b < 8) (h : 0 ≤ frI es b) : ∃ s : Nat, frI es b = (s : Int) ∧ s < 4 ∧ (at' es (b * 4 + s)).has = false := by
  unfold frI at h ⊢
  rw [take4 hl hb] at h ⊢
  simp only [idx0] at h ⊢
  cases h0 : (at' es (b * 4)).has with
  | false => exact ⟨0, by simp, by omega, h0⟩
  | true =>
    cases h1 : (at' es (b * 4 + 1)).has with
    | false => exact ⟨1, by simp, by omega, h1⟩
    | true =>
      cases h2 : (at' es (b * 4 + 2)).has with
      | false => exact ⟨2, by simp, by omega, h2⟩
      | true =>
        cases h3 : (at' es (b * 4 + 3)).has with
        | false => exact ⟨3, by simp, by omega, h3⟩
        | true => rw [h0, h1, h2, h3] at h; simp at h
theorem frI_lt {es : List Ent} {b : Nat} (hl : es.length = 32) (hb : b < 8) (h : ¬(0 ≤ frI es b)) : ∀ s, s < 4 → (at' es (b * 4 + s)).has = true := by
  unfold frI at h
  rw [take4 hl hb] at h
  simp only [idx0] at h
  intro s hs
  cases h0 : (at' es (b * 4)).has with
  | false => rw [h0] at h; simp at h
  | true =>
    cases h1 : (at' es (b * 4 + 1)).has with
    | false => rw [h0, h1] at h; simp at h
    | true =>
      cases h2 : (at' es (b * 4 + 2)).has with
      | false => rw [h0, h1, h2] at h; simp at h
      | true =>
        cases h3 : (at' es (b * 4 + 3)).has with
        | false => rw [h0, h1, h2, h3] at h; simp at h
        | true =>
          have : s = 0 ∨ s = 1 ∨ s = 2 ∨ s = 3 := by omega
          rcases this with rfl | rfl | rfl | rfl <;> assumption
theorem tb (S j : Nat) : (if S.testBit j then 1 else 0) = S / 2 ^ j % 2 := by
  rw [← Nat.toNat_testBit]; cases S.testBit j <;> rfl
def popc (S n : Nat) : Nat := sumN (fun b => 4 * (S / 2 ^ b % 2)) n
theorem pop4_eq (S : Nat) : pop4 S = popc S 8 := by
  unfold pop4 popc
  simp only [tb, sumN, Nat.reduceDiv]
  omega
theorem pop4_mod (S : Nat) : pop4 S = sumN (fun k => if S.testBit (k % 8) then 1 else 0) 32 := by
  unfold pop4
  simp only [tb, sumN, Nat.reduceDiv, Nat.reduceMod]
  omega
instance roomDec (hs : List Nat) : Decidable (Room hs) := Nat.decidableBallLT 256 (fun S _ => cnt S hs ≤ pop4 S)
def hN (tag i : Nat) (one : Bool) : Nat := if one then tag * 256 else tag * 256 + i % 8
def hsN (tag : Nat) (one : Bool) (i : Nat) : List Nat := (List.range i).map fun j => hN tag j one
theorem hsN_succ (tag : Nat) (one : Bool) (i : Nat) : hsN tag one (i + 1) = hsN tag one i ++ [hN tag i one] := by
  unfold hsN; rw [List.range_succ, List.map_append]; rfl
theorem frst_hN {tag i : Nat} {one : Bool} : frst (hN tag i one) = if one then 0 else i % 8 := by
  unfold frst hN; cases one <;> simp <;> omega
theorem tag_hN {tag i : Nat} {one : Bool} (h : tag < 32768) : tagOf (hN tag i one) = tag := by
  unfold tagOf hN; cases one <;> simp <;> omega
theorem cnt_hsN_le (S tag : Nat) (i : Nat) : cnt S (hsN tag false i) ≤ sumN (fun k => if S.testBit (k % 8) then 1 else 0) i := by
  induction i with
  | zero => exact Nat.le_refl _
  | succ i ih =>
    rw [hsN_succ, cnt_snoc, sumN]
    have : (if edge S (hN tag i false) then 1 else 0) ≤ (if S.testBit (i % 8) then 1 else 0) := by
      unfold edge inS
      rw [frst_hN]
      cases hh : S.testBit (i % 8) <;> simp [hh]
      split <;> omega
    omega
theorem cnt_hsN_one (S tag : Nat) (i : Nat) : cnt S (hsN tag true i) = i * (if edge S (hN tag 0 true) then 1 else 0) := by
  induction i with
  | zero => simp [hsN, cnt]
  | succ i ih =>
    rw [hsN_succ, cnt_snoc, ih, Nat.succ_mul, show hN tag i true = hN tag 0 true by simp [hN]]
theorem cnt_full (hs : List Nat) : cnt 255 hs = hs.length := by
  unfold cnt
  rw [List.countP_eq_length]
  intro h _
  unfold edge inS
  have : ∀ b, b < 8 → Nat.testBit 255 b = true := fun b hb => by
    rw [show 255 = 2 ^ 8 - 1 from rfl, Nat.testBit_two_pow_sub_one]; simpa using hb
  rw [this _ (frst_lt h), this _ (oth_lt (frst_lt h))]; rfl
def FullI (tag : Nat) (one : Bool) (es : List Ent) (i k : Nat) : Prop := k = min i (if one then 8 else 32) ∧ Has es (hsN tag one k)
theorem FullI.zero (tag : Nat) (one : Bool) : FullI tag one (List.replicate 32 ent0) 0 0 := by
  refine ⟨by simp, fun S => ?_⟩
  have : tot (fS S) (List.replicate 32 ent0) = 32 * 0 := sumN_one fun k hk => by
    unfold wt at'
    rw [List.getD_eq_getElem?_getD, List.getElem?_replicate, if_pos hk]; rfl
  rw [this]; rfl
theorem pop_ge2 {S : Nat} (a b : Nat) (ha : a < 8) (hb : b < 8) (hne : a ≠ b) (h1 : S.testBit a = true) (h2 : S.testBit b = true) : 8 ≤ pop4 S := by
  have e := tb S a
  have e2 := tb S b
  rw [h1, if_pos rfl] at e
  rw [h2, if_pos rfl] at e2
  rw [pop4_eq]
  unfold popc
  simp only [sumN]
  have h3 : a = 0 ∨ a = 1 ∨ a = 2 ∨ a = 3 ∨ a = 4 ∨ a = 5 ∨ a = 6 ∨ a = 7 := by omega
  have h4 : b = 0 ∨ b = 1 ∨ b = 2 ∨ b = 3 ∨ b = 4 ∨ b = 5 ∨ b = 6 ∨ b = 7 := by omega
  rcases h3 with rfl | rfl | rfl | rfl | rfl | rfl | rfl | rfl <;> rcases h4 with rfl | rfl | rfl | rfl | rfl | rfl | rfl | rfl <;> first | (exact absurd rfl hne) | omega
theorem pairs_le : ∀ c, c < 8 → sumN (fun j => if (j / 4 = 0 ∨ j / 4 = c) then 1 else 0) 32 ≤ 8 := by
  set_option maxRecDepth 4000 in decide
theorem FullI.ok {tag : Nat} {one : Bool} {es es' : List Ent} {i k : Nat} {id : Int} (ht : tag < 32768) (f : FullI tag one es i k) (hi : InsOk es (hN tag i one) id es') : FullI tag one es' (i + 1) (k + 1) := by
  obtain ⟨h1, h2⟩ := f
  have key : k = i := by
    cases one with
    | true =>
      simp only [if_true] at h1
      have h3 := (h2.ins hi).room
      obtain ⟨S, e1, e2⟩ := set_ex (fun b => decide (b = 0 ∨ b = oth 0 tag)) 8
      have h4 := h3 S e1
      have he : edge S (hN tag 0 true) = true := by
        unfold edge inS
        rw [frst_hN, tag_hN ht, if_pos rfl, e2 _ (by omega), e2 _ (oth_lt (by omega))]; simp
      have h5 : hsN tag true k ++ [hN tag i true] = hsN tag true (k + 1) := by rw [hsN_succ]; rfl
      rw [h5, cnt_hsN_one, he, if_pos rfl, Nat.mul_one] at h4
      have h6 : pop4 S ≤ 8 := by
        have hcongr : pop4 S = sumN (fun j => if (j / 4 = 0 ∨ j / 4 = oth 0 tag) then 1 else 0) 32 := sumN_congr fun j hj => by
          show (if S.testBit (j / 4) then 1 else 0) = _
          rw [e2 _ (by omega)]; simp
        rw [hcongr]
        exact pairs_le _ (oth_lt (by omega))
      omega
    | false =>
      simp only [Bool.false_eq_true, if_false] at h1
      have h3 := (h2.ins hi).room 255 (by omega)
      rw [cnt_full] at h3
      have : pop4 255 = 32 := by decide
      simp [hsN] at h3
      omega
  subst key
  refine ⟨?_, by rw [hsN_succ]; exact h2.ins hi⟩
  cases one with
  | true =>
    simp only [if_true] at h1 ⊢
    have h3 := (h2.ins hi).room
    obtain ⟨S, e1, e2⟩ := set_ex (fun b => decide (b = 0 ∨ b = oth 0 tag)) 8
    have h4 := h3 S e1
    have he : edge S (hN tag 0 true) = true := by
      unfold edge inS
      rw [frst_hN, tag_hN ht, if_pos rfl, e2 _ (by omega), e2 _ (oth_lt (by omega))]; simp
    rw [← hsN_succ, cnt_hsN_one, he, if_pos rfl, Nat.mul_one] at h4
    have h6 : pop4 S ≤ 8 := by
      have hcongr : pop4 S = sumN (fun j => if (j / 4 = 0 ∨ j / 4 = oth 0 tag) then 1 else 0) 32 := sumN_congr fun j hj => by
        show (if S.testBit (j / 4) then 1 else 0) = _
        rw [e2 _ (by omega)]; simp
      rw [hcongr]
      exact pairs_le _ (oth_lt (by omega))
    omega
  | false =>
    simp only [Bool.false_eq_true, if_false] at h1 ⊢
    have h3 := (h2.ins hi).room 255 (by omega)
    rw [cnt_full] at h3
    have : pop4 255 = 32 := by decide
    simp [hsN] at h3
    omega
theorem FullI.no {tag : Nat} {one : Bool} {es : List Ent} {i k : Nat} (ht : tag < 32768) (f : FullI tag one es i k) (hn : NoWay es (hN tag i one)) : FullI tag one es (i + 1) k := by
  obtain ⟨h1, h2⟩ := f
  refine ⟨?_, h2⟩
  obtain ⟨S, s1, s2, s3, s4⟩ := hn
  rw [h2 S] at s4
  cases one with
  | true =>
    simp only [if_true] at h1 ⊢
    rw [frst_hN, if_pos rfl] at s2 s3
    rw [tag_hN ht] at s3
    have h3 := pop_ge2 0 (oth 0 tag) (by omega) (oth_lt (by omega)) (Ne.symm (oth_ne (by omega))) s2 s3
    have he : edge S (hN tag 0 true) = true := by
      unfold edge inS
      rw [frst_hN, tag_hN ht, if_pos rfl, s2, s3]; rfl
    rw [cnt_hsN_one, he, if_pos rfl, Nat.mul_one] at s4
    omega
  | false =>
    simp only [Bool.false_eq_true, if_false] at h1 ⊢
    by_cases hi : i < 32
    · have hk : k = i := by omega
      subst hk
      have h3 := cnt_hsN_le S tag k
      rw [frst_hN] at s2
      simp only [Bool.false_eq_true, if_false] at s2
      have h4 := sumN_mono (f := fun k => if S.testBit (k % 8) then 1 else 0) (m := k + 1) (n := 32) (by omega)
      rw [← pop4_mod, sumN] at h4
      simp only [s2, if_true] at h4
      omega
    · omega
def OrdI (es : List Ent) (n : Nat) (hs : List Nat) (i : Nat) (ok : Bool) : Prop := (ok = true → Has es (hs.take i) ∧ n = i) ∧ (ok = false → ¬Room hs)
theorem OrdI.zero (hs : List Nat) : OrdI (List.replicate 32 ent0) 0 hs 0 true := by
  refine ⟨fun _ => ⟨fun S => ?_, rfl⟩, by simp⟩
  have := (FullI.zero 0 false).2 S
  rw [this]; rfl
theorem OrdI.ins {es es' : List Ent} {n i h : Nat} {hs : List Nat} {ok : Bool} {id : Int} (o : OrdI es n hs i ok) (hx : hs[i]? = some h) (hi : InsOk es h id es') : OrdI es' (n + 1) hs (i + 1) ok := by
  refine ⟨fun hok => ?_, o.2⟩
  obtain ⟨h1, h2⟩ := o.1 hok
  refine ⟨?_, by omega⟩
  rw [List.take_add_one, hx]; exact h1.ins hi
theorem OrdI.no {es es' : List Ent} {n n' i h : Nat} {hs : List Nat} {ok : Bool} (o : OrdI es n hs i ok) (hx : hs[i]? = some h) (hn : NoWay es h) : OrdI es' n' hs (i + 1) false := by
  refine ⟨by simp, fun _ => ?_⟩
  cases ok with
  | false => exact o.2 rfl
  | true =>
    obtain ⟨h1, h2⟩ := o.1 rfl
    have h3 := h1.noRoom hn
    intro hr
    apply h3
    have e : hs.take i ++ [h] = hs.take (i + 1) := by rw [List.take_add_one, hx]; rfl
    rw [e]
    exact hr.mono fun S => cnt_take S hs (i + 1)
theorem OrdI.end' {es : List Ent} {n i : Nat} {hs : List Nat} {ok : Bool} (o : OrdI es n hs i ok) (hi : hs.length ≤ i) : ok = decide (Room hs) ∧ (ok = true → n = i) := by
  cases ok with
  | true =>
    obtain ⟨h1, h2⟩ := o.1 rfl
    rw [List.take_of_length_le hi] at h1
    exact ⟨by rw [eq_comm, decide_eq_true_eq]; exact h1.room, fun _ => h2⟩
  | false => exact ⟨by rw [eq_comm, decide_eq_false_iff_not]; exact o.2 rfl, by simp⟩
theorem Room.perm {hs hs' : List Nat} (h : hs.Perm hs') (hr : Room hs) : Room hs' := hr.mono fun S => by rw [cnt_perm h]; exact Nat.le_refl _
def TEnt : Ty Ent := Ty.ofAgg 3 126 24 (fun e => [.bool e.has, .int .i64 e.id, .int .i64 ((e.tag : Nat) : Int)]) (fun _ => rfl) (fun _ => rfl)
def TStp : Ty Stp := Ty.ofAgg 2 140 16 (fun e => [.int .i64 e.b, .int .i64 e.s]) (fun _ => rfl) (fun _ => rfl)
def TNat : Ty Nat := Ty.ofOne 3 8 (fun n => .int .i64 ((n : Nat) : Int)) (fun _ => rfl)
def TSV : Ty SV := Ty.ofOne 75 24 SV.toV SV.one
def TMp : Ty Nat := Ty.ofOne 135 8 (fun i => .map (some i)) (fun _ => rfl)
def DO (i : Nat) (es : List Ent) (n : Nat) : Res := .obj i (.row false 130 (TEnt.cells es ++ [.int .i64 ((n : Nat) : Int)]))
theorem at_get {es : List Ent} {k : Nat} (hk : k < es.length) : es[k]? = some (at' es k) := by
  unfold at'; rw [List.getD_eq_getElem?_getD, List.getElem?_eq_getElem hk]; rfl
theorem DO.at {es : List Ent} {v : Value} {k off m : Nat} {e : Ent} (he : es[k]? = some e) (hb : off + m ≤ 3) : ((TEnt.cells es ++ [v]).drop (k * 3 + off)).take m = ((TEnt.enc e).drop off).take m := by
  have hlt := (List.getElem?_eq_some_iff.1 he).1
  have hl : (TEnt.cells es).length = es.length * 3 := TEnt.cells_len es
  rw [List.drop_append_of_le_length (by rw [hl]; omega), List.take_append_of_le_length (by rw [List.length_drop, hl]; omega)]
  exact TEnt.cells_at he hb
theorem DO.len {es : List Ent} {v : Value} (hl : es.length = 32) : (TEnt.cells es ++ [v]).length = 97 := by
  have h : (TEnt.cells es).length = es.length * 3 := TEnt.cells_len es
  rw [List.length_append, h, hl]; rfl
theorem S_loadEnt {l : SE} {H H0 : SH} {K : Value → SH → Prop} {i o k : Nat} {a : Opd} {es : List Ent} {n : Nat} (hl : es.length = 32) (ha : a.lv l = some (.pointer (some ⟨i, o, none⟩))) (hp : Pick (DO i es n) H H0) (ho : o = k * 3) (hk : k < 32) (kk : K (TEnt.val (at' es k)) H) : Step (.load true 3 a) l H K := by
  have h := DO.at (v := .int .i64 ((n : Nat) : Int)) (off := 0) (m := 3) (at_get (es := es) (k := k) (by omega)) (by omega)
  subst ho
  exact S_loadO ha hp (by rw [Nat.ble_eq, DO.len hl]; omega) (by rw [Nat.add_zero] at h; rw [h]; rfl) kk
theorem S_storeEnt {l : SE} {H H0 : SH} {K : Value → SH → Prop} {i o k : Nat} {a x : Opd} {es : List Ent} {n : Nat} {e : Ent} (hl : es.length = 32) (ha : a.lv l = some (.pointer (some ⟨i, o, none⟩))) (hx : x.lv l = some (TEnt.val e)) (hp : Pick (DO i es n) H H0) (ho : o = k * 3) (hk : k < 32) (kk : K undef (DO i (es.set k e) n :: H0)) : Step (.store 3 a x) l H K := by
  subst ho
  have hc : (TEnt.cells es).length = es.length * 3 := TEnt.cells_len es
  have e1 := TEnt.cells_set (xs := es) (j := k) (x := at' es k) (y := e) (at_get (by omega)) (off := 0) (vs := TEnt.enc e) (by rw [splice_all (by rw [TEnt.len, TEnt.len])]) (by rw [TEnt.len]; omega)
  refine S_storeO ha hx hp rfl (by rw [Nat.ble_eq, DO.len hl]; omega) rfl ?_
  have e2 := splice_mid (P := []) (M := TEnt.cells es) (S := [.int .i64 ((n : Nat) : Int)]) (vs := TEnt.enc e) (off := k * 3) (by rw [TEnt.len, hc]; show k * 3 + 3 ≤ _; omega)
  simp only [List.nil_append, List.length_nil, Nat.zero_add] at e2
  show K undef (.obj i (.row false 130 (splice (TEnt.cells es ++ [.int .i64 ((n : Nat) : Int)]) (k * 3) (TEnt.enc e))) :: H0)
  rw [e2]
  have e3 : splice (TEnt.cells es) (k * 3) (TEnt.enc e) = TEnt.cells (es.set k e) := e1
  rw [e3]; exact kk
theorem S_loadN {l : SE} {H H0 : SH} {K : Value → SH → Prop} {i : Nat} {a : Opd} {es : List Ent} {n : Nat} (hl : es.length = 32) (ha : a.lv l = some (.pointer (some ⟨i, 96, none⟩))) (hp : Pick (DO i es n) H H0) (kk : K (.int .i64 ((n : Nat) : Int)) H) : Step (.load false 1 a) l H K := by
  have hc : (TEnt.cells es).length = es.length * 3 := TEnt.cells_len es
  refine S_loadO ha hp (by rw [Nat.ble_eq, DO.len hl]; omega) ?_ kk
  rw [List.drop_append, List.drop_of_length_le (by omega), hc, hl]; rfl
theorem S_storeN {l : SE} {H H0 : SH} {K : Value → SH → Prop} {i : Nat} {a x : Opd} {es : List Ent} {n m : Nat} (hl : es.length = 32) (ha : a.lv l = some (.pointer (some ⟨i, 96, none⟩))) (hx : x.lv l = some (.int .i64 ((m : Nat) : Int))) (hp : Pick (DO i es n) H H0) (kk : K undef (DO i es m :: H0)) : Step (.store 1 a x) l H K := by
  have hc : (TEnt.cells es).length = 96 := by have : (TEnt.cells es).length = es.length * 3 := TEnt.cells_len es
                                              rw [this, hl]
  refine S_storeO ha hx hp rfl (by rw [Nat.ble_eq, DO.len hl]; exact Nat.le_refl _) rfl ?_
  have e : splice (TEnt.cells es ++ [.int .i64 ((n : Nat) : Int)]) 96 [.int .i64 ((m : Nat) : Int)] = TEnt.cells es ++ [.int .i64 ((m : Nat) : Int)] := by
    unfold splice
    rw [List.take_append_of_le_length (by omega), List.take_of_length_le (by omega), List.drop_of_length_le (by rw [DO.len hl]; simp), List.append_nil]
  show K undef (.obj i (.row false 130 (splice (TEnt.cells es ++ [.int .i64 ((n : Nat) : Int)]) 96 [.int .i64 ((m : Nat) : Int)])) :: H0)
  rw [e]; exact kk
theorem S_loadB {l : SE} {H H0 : SH} {K : Value → SH → Prop} {i o b : Nat} {a : Opd} {es : List Ent} {n : Nat} (hl : es.length = 32) (ha : a.lv l = some (.pointer (some ⟨i, o, none⟩))) (hp : Pick (DO i es n) H H0) (ho : o = b * 12) (hb : b < 8) (kk : K (.agg (TEnt.cells ((es.drop (b * 4)).take 4)).toArray) H) : Step (.load true 12 a) l H K := by
  have hc : (TEnt.cells es).length = es.length * 3 := TEnt.cells_len es
  subst ho
  refine S_loadO ha hp (by rw [Nat.ble_eq, DO.len hl]; omega) ?_ kk
  rw [List.drop_append_of_le_length (by omega), List.take_append_of_le_length (by rw [List.length_drop]; omega)]
  rw [show b * 12 = b * 4 * TEnt.es by show _ = b * 4 * 3; omega, TEnt.cells_drop, show 12 = 4 * TEnt.es from rfl, TEnt.cells_take]; rfl
theorem S_idxEnt {l : SE} {H : SH} {K : Value → SH → Prop} {m j : Nat} {x y : Opd} {kd : IntKind} {J : Int} {xs : List Ent} {e : Ent} (hx : x.lv l = some (.agg (TEnt.cells xs).toArray)) (hy : y.lv l = some (.int kd J)) (hJ : J = (j : Int)) (hj : j < m) (he : xs[j]? = some e) (k : K (TEnt.val e) H) : Step (.idxV m true 3 x y) l H K :=
  fun en h hA hH => by
    subst hJ
    have hlt := (List.getElem?_eq_some_iff.1 he).1
    have hc : (TEnt.cells xs).length = xs.length * 3 := TEnt.cells_len xs
    have h1 := TEnt.cells_at he (off := 0) (n := 3) (by show 3 ≤ 3; omega)
    refine ⟨_, h, H, ?_, hH, k⟩
    simp only [ev, Opd.lv_ev hA hx, Opd.lv_ev hA hy]
    rw [if_pos ⟨by omega, by omega, by simp only [List.size_toArray, Int.toNat_natCast]; omega⟩, Int.toNat_natCast]
    have h2 : ((TEnt.cells xs).drop (j * 3)).take 3 = TEnt.enc e := h1
    rw [h2]; rfl
theorem S_idxPair {l : SE} {H : SH} {K : Value → SH → Prop} {j : Nat} {x y : Opd} {kd : IntKind} {J : Int} {a b v : Value} (hx : x.lv l = some (.agg #[a, b])) (hy : y.lv l = some (.int kd J)) (hJ : J = (j : Int)) (hv : [a, b][j]? = some v) (k : K v H) : Step (.idxV 2 false 1 x y) l H K :=
  fun en h hA hH => by
    subst hJ
    have hlt := (List.getElem?_eq_some_iff.1 hv).1
    simp only [List.length_cons, List.length_nil] at hlt
    refine ⟨v, h, H, ?_, hH, k⟩
    simp only [ev, Opd.lv_ev hA hx, Opd.lv_ev hA hy]
    rw [if_pos ⟨by omega, by omega, by simp only [Int.toNat_natCast, List.size_toArray, List.length_cons, List.length_nil]; omega⟩, Int.toNat_natCast, Nat.mul_one]
    have h0 : j = 0 ∨ j = 1 := by omega
    rcases h0 with rfl | rfl
    · simp at hv; subst hv; rfl
    · simp at hv; subst hv; rfl
theorem RD.bucket {H H0 : SH} {i b n : Nat} {es : List Ent} (hl : es.length = 32) (hp : Pick (DO i es n) H H0) (hb : b < 8) : RD H (.slice (some ⟨i, b * 12, none⟩) 4 3) TEnt ((es.drop (b * 4)).take 4) := by
  have hc : (TEnt.cells es).length = es.length * 3 := TEnt.cells_len es
  have h4 : ((es.drop (b * 4)).take 4).length = 4 := by rw [List.length_take, List.length_drop]; omega
  refine ⟨TEnt.cells_len _, fun a hH => .inl ⟨false, 130, TEnt.cells_len _, .inr ?_⟩⟩
  obtain ⟨h1, h2, _⟩ := hH.1 _ hp.mem
  refine ⟨i, b * 12, _, by rw [h4]; rfl, h1, h2, by rw [h4, DO.len hl]; show _ + 4 * 3 ≤ _; omega, ?_⟩
  rw [h4, List.drop_append_of_le_length (by omega), List.take_append_of_le_length (by rw [List.length_drop]; show 4 * 3 ≤ _; omega)]
  rw [show b * 12 = b * 4 * TEnt.es by show _ = b * 4 * 3; omega, TEnt.cells_drop, TEnt.cells_take]
theorem S_cutB {l : SE} {H H0 : SH} {K : Value → SH → Prop} {i b o n : Nat} {x : Opd} {es : List Ent} (hl : es.length = 32) (hx : x.lv l = some (.pointer (some ⟨i, o, none⟩))) (hp : Pick (DO i es n) H H0) (ho : o = b * 12) (hb : b < 8) (k : K (.slice (some ⟨i, b * 12, none⟩) 4 3) H) : Step (.cutA 4 3 x none none none) l H K :=
  fun e h hA hH => by
    subst ho
    obtain ⟨h1, h2, _⟩ := hH.1 _ hp.mem
    refine ⟨_, h, H, ?_, hH, k⟩
    simp only [ev, Opd.lv_ev hA hx, rowAt_of h1 h2, bound]
    rw [if_pos ⟨by rw [DO.len hl]; omega, by omega, by omega, by omega⟩]; simp
theorem Pick.sub {r : Res} {H H0 : SH} (h : Pick r H H0) : HSub H (r :: H0) := HSub.pick h HSub.refl
def mEncS (mp : MpS) : List (Value × Value) := mp.map fun p => (Value.int .i64 ((p.1 : Nat) : Int), TStp.val p.2)
theorem kEq1_i (a b : Nat) : kEq1 .i (.int .i64 ((a : Nat) : Int)) (.int .i64 ((b : Nat) : Int)) = some (decide (a = b)) := by
  simp only [kEq1, if_true]
  congr 1
  rw [Bool.eq_iff_iff, beq_iff_eq, decide_eq_true_eq]; omega
theorem mFind_S (k : Nat) : ∀ mp : MpS, mFind .i (.int .i64 ((k : Nat) : Int)) (mEncS mp) = some ((look k mp).map TStp.val)
  | [] => rfl
  | (k', y) :: l => by
    have ih := mFind_S k l
    unfold mEncS at ih ⊢
    simp only [List.map_cons, mFind, kEq1_i, look]
    by_cases e : k = k'
    · simp [e]
    · simp only [e, decide_false, if_false]; exact ih
theorem mSet_S {k : Nat} (x : Stp) : ∀ {mp : MpS}, k ∉ ksOf mp → mSet .i (.int .i64 ((k : Nat) : Int)) (TStp.val x) (mEncS mp) = mEncS (mp ++ [(k, x)])
  | [], _ => rfl
  | (k', y) :: l, h => by
    simp only [ksOf, List.map_cons, List.mem_cons, not_or] at h
    have ih := mSet_S x (mp := l) h.2
    unfold mEncS at ih ⊢
    simp only [List.map_cons, List.cons_append, mSet, kEq1_i]
    simp only [h.1, decide_false]
    rw [ih]
def MPS (i : Nat) (mp : MpS) : Res := .obj i (.map (mEncS mp))
theorem S_mkMapS {l : SE} {H : SH} {K : Value → SH → Prop} (k : ∀ i, K (.map (some i)) (MPS i [] :: H)) : Step .mkMap l H K :=
  fun e h _ hH => ⟨_, _, _, rfl, hH.push rfl, k _⟩
theorem S_updS {l : SE} {H H0 : SH} {K : Value → SH → Prop} {m k x : Opd} {i s : Nat} {y : Stp} {mp : MpS} (hm : m.lv l = some (.map (some i))) (hk : k.lv l = some (.int .i64 ((s : Nat) : Int))) (hx : x.lv l = some (TStp.val y)) (hp : Pick (MPS i mp) H H0) (hn : s ∉ ksOf mp) (kk : K undef (MPS i (mp ++ [(s, y)]) :: H0)) : Step (.upd .i m k x) l H K :=
  fun e h hA hH => by
    have hH' := hH.perm hp.perm
    obtain ⟨h1, h2, h3⟩ := hH'.1 _ (List.mem_cons_self ..)
    have hm' : mapAt h i = some (mEncS mp) := by unfold mapAt; rw [if_pos h1, h2]
    refine ⟨undef, h.put i (.map (mEncS (mp ++ [(s, y)]))), MPS i (mp ++ [(s, y)]) :: H0, by simp only [ev, Opd.lv_ev hA hm, Opd.lv_ev hA hk, Opd.lv_ev hA hx, hm', kEq1_i, mFind_S, mSet_S y hn], ?_, kk⟩
    exact hH'.write rfl h2 rfl rfl ⟨h1, AH.get_put_same _ _ _, rfl⟩
theorem S_lookS {l : SE} {H H0 : SH} {K : Value → SH → Prop} {z : Value} {m k : Opd} {i s : Nat} {mp : MpS} {y : Stp} (hm : m.lv l = some (.map (some i))) (hk : k.lv l = some (.int .i64 ((s : Nat) : Int))) (hp : Pick (MPS i mp) H H0) (hy : look s mp = some y) (kk : K (TStp.val y) H) : Step (.look .i z false m k) l H K :=
  fun e h hA hH => by
    have hH' := hH.perm hp.perm
    obtain ⟨h1, h2, h3⟩ := hH'.1 _ (List.mem_cons_self ..)
    have hm' : mapAt h i = some (mEncS mp) := by unfold mapAt; rw [if_pos h1, h2]
    exact ⟨_, h, _, by simp only [ev, Opd.lv_ev hA hm, Opd.lv_ev hA hk, hm', kEq1_i, mFind_S, hy]; rfl, hH, kk⟩
theorem S_lookSO {l : SE} {H H0 : SH} {K : Value → SH → Prop} {z : Value} {m k : Opd} {i s : Nat} {mp : MpS} (hm : m.lv l = some (.map (some i))) (hk : k.lv l = some (.int .i64 ((s : Nat) : Int))) (hz : z = TStp.val ⟨0, 0⟩) (hp : Pick (MPS i mp) H H0) (kk : ∀ y, K (.tuple #[TStp.val y, .bool (decide (s ∈ ksOf mp))]) H) : Step (.look .i z true m k) l H K :=
  fun e h hA hH => by
    subst hz
    have hH' := hH.perm hp.perm
    obtain ⟨h1, h2, h3⟩ := hH'.1 _ (List.mem_cons_self ..)
    have hm' : mapAt h i = some (mEncS mp) := by unfold mapAt; rw [if_pos h1, h2]
    by_cases hs : s ∈ ksOf mp
    · obtain ⟨st, hst⟩ := look_mem hs
      exact ⟨.tuple #[TStp.val st, .bool true], h, _, by simp only [ev, Opd.lv_ev hA hm, Opd.lv_ev hA hk, hm', kEq1_i, mFind_S, hst]; rfl, hH, by have := kk st; rwa [decide_eq_true hs] at this⟩
    · exact ⟨.tuple #[TStp.val ⟨0, 0⟩, .bool false], h, _, by simp only [ev, Opd.lv_ev hA hm, Opd.lv_ev hA hk, hm', kEq1_i, mFind_S, look_none hs]; rfl, hH, by have := kk ⟨0, 0⟩; rwa [decide_eq_false hs] at this⟩
end Go.Proofs.YtpnmeednimpjdaaGreat.AM
namespace Go.Proofs.YtpnmeednimpjdaaGreat.AM
open Go
set_option linter.unusedSimpArgs false
set_option linter.unusedVariables false
set_option maxRecDepth 4000
theorem sp_both {H : SH} {h : Nat} (hh : h < 18446744073709551616) : WF F X f_cuckoo_both [.int .u64 (h : Int)] H (fun r H' => H' = H ∧ r = .agg #[.int .i64 ((frst h : Nat) : Int), .int .i64 ((oth (frst h) (tagOf h) : Nat) : Int)]) := by
  have h1 := frst_lt h
  have h2 := tagOf_lt h
  refine WF_fn F_cuckoo_both ?_
  refine WC_seq (WC_region ?_)
  refine WO_step rfl (S_new fun i2 => ?_)
  refine WO_nil (KSeq_n (WC_seq (WC_region ?_)))
  refine WO_step rfl (S_pure rfl ?_)
  refine WO_call rfl rfl rfl ?_
  refine (sp_hFirst (by omega)).mono ?_
  rintro _ _ ⟨rfl, rfl⟩
  refine WO_step rfl (S_pure rfl ?_)
  refine WO_nil (KSeq_n (WC_seq (WC_region ?_)))
  iterate 3 refine WO_step rfl (S_pure rfl ?_)
  refine WO_call rfl rfl rfl ?_
  refine (sp_hTag (by omega)).mono ?_
  rintro _ _ ⟨rfl, rfl⟩
  refine WO_call rfl rfl rfl ?_
  refine (sp_hOther (by assumption) (by assumption)).mono ?_
  rintro _ _ ⟨rfl, rfl⟩
  refine WO_step rfl (S_pure rfl ?_)
  first | refine WO_step rfl (S_storeT rfl rfl pkA (by rfl) (by rfl) ?_) | refine WO_step rfl (S_storeO rfl rfl pkA (by first | rfl | exact SV.cells1 _) (by rfl) (by first | rfl | exact SV.ones _) ?_)
  refine WO_nil (KSeq_n (WC_ret ?_))
  refine KFn_r (ResL.cell rfl pkA (Nat.le_of_ble_eq_true rfl) rfl ResL.nil) ?_
  exact ⟨_, hsA, rfl, rfl⟩
theorem sp_may {H : SH} {id : Int} : WF F X f_cuckoo_may [.int .i64 id] H (fun r H' => H' = H ∧ r = .bool (decide (0 ≤ id ∧ id ≤ 1099511627776))) := by
  refine WF_fn F_cuckoo_may ?_
  refine WC_seq (WC_region ?_)
  refine WO_step rfl (S_pure rfl ?_)
  refine WO_nil (KSeq_n (WC_seq (WC_region ?_)))
  iterate 3 refine WO_step rfl (S_pure rfl ?_)
  refine WO_cases (t := 5) rfl (fun hg1 => ?_) (fun hg1 => ?_)
  ·
   try simp only [bsT] at hg1
   iterate 4 refine WO_step rfl (S_pure rfl ?_)
   refine WO_nil (KSeq_n (WC_ret ?_))
   refine KFn_r (ResL.tmp rfl ResL.nil) ?_
   refine ⟨_, hsA, rfl, ?_⟩
   simp [resV, hg1]
  ·
   try simp only [bsT] at hg1
   iterate 2 refine WO_off rfl ?_
   iterate 2 refine WO_step rfl (S_pure rfl ?_)
   refine WO_nil (KSeq_n (WC_ret ?_))
   refine KFn_r (ResL.tmp rfl ResL.nil) ?_
   refine ⟨_, hsA, rfl, ?_⟩
   simp [resV, hg1]
theorem sp_free1 {H : SH} {e : Ent} : WF F X f_cuckoo_Dir_free_1 [TEnt.val e] H (fun r H' => H' = H ∧ r = .bool (!e.has)) := by
  refine WF_fn F_cuckoo_Dir_free_1 ?_
  refine WC_seq (WC_region ?_)
  refine WO_step rfl (S_box rfl rfl fun i1 => ?_)
  refine WO_step rfl (S_pure rfl ?_)
  refine WO_nil (KSeq_n (WC_seq (WC_region ?_)))
  refine WO_step rfl (S_pure rfl ?_)
  refine WO_step rfl (S_loadO rfl pkA (by rfl) (by rfl) ?_)
  iterate 2 refine WO_step rfl (S_pure rfl ?_)
  refine WO_nil (KSeq_n (WC_ret ?_))
  refine KFn_r (ResL.tmp rfl ResL.nil) ?_
  exact ⟨_, hsA, rfl, rfl⟩
theorem lp_idxF {H : SH} {v : Value} {l : List Ent} (hv : RD H v TEnt l) (hb : l.length < 1000000) : ∀ (n a : Nat), l.length - a = n → a ≤ l.length → idx0 a (l.drop a) = idx0 0 l →
    WC F X (.loop L_slices_IndexFunc_cuckoo_entry_0) [(8, .int .i64 a), (7, .int .i64 l.length), (0, v), (1, .func (.func f_cuckoo_Dir_free_1) #[] #[])] H (KPost fun x l' H' => H' = H ∧ ((∃ j : Nat, x = .ret ∧ l' = [(4, .int .i64 (j : Int))] ∧ idx0 0 l = (j : Int)) ∨ (x = .exit 0 ∧ l' = [] ∧ idx0 0 l = -1))) := by
  intro n
  induction n using Nat.strongRecOn with
  | _ n ih =>
    intro a hn ha hf
    refine WC_loop (WC_seq (WC_region ?_))
    refine WO_step rfl (S_pure rfl ?_)
    refine WO_nil (KSeq_n (WC_seq ?_))
    refine WC_cond rfl (fun hb1 => ?_) (fun hb1 => ?_)
    ·
     try simp only [bsT] at hb1
     obtain ⟨x, hx⟩ := get_of_lt hb1
     rw [drop_get hx, idx0] at hf
     refine WC_skip (KSeq_n (WC_seq (WC_block (WC_seq (WC_region ?_)))))
     iterate 2 refine WO_step rfl (S_pure rfl ?_)
     refine WO_nil (KSeq_n (WC_seq (WC_region ?_)))
     iterate 3 refine WO_step rfl (S_pure rfl ?_)
     refine WO_step rfl (S_idx rfl rfl rdA (by first | rfl | assumption | (symm; assumption)) (by rfl) (by first | assumption | omega | exact lt_of_get (by assumption) | (simp only [List.length_set]; first | assumption | omega | exact lt_of_get (by assumption))) fun hp14 => ?_)
     refine WO_step rfl (S_loadE rfl rdA (by first | rfl | assumption | (symm; assumption)) (by first | rfl | assumption | (symm; assumption)) (by first | rfl | assumption | (symm; assumption)) (by assumption) ?_)
     refine WO_call rfl rfl rfl ?_
     refine (sp_free1 (e := x)).mono ?_
     rintro _ _ ⟨rfl, rfl⟩
     refine WO_nil (KSeq_n ?_)
     refine WC_cond rfl (fun hb2 => ?_) (fun hb2 => ?_)
     ·
      try simp only [bsT] at hb2
      refine WC_seq (WC_region ?_)
      iterate 2 refine WO_step rfl (S_pure rfl ?_)
      refine WO_nil (KSeq_n (WC_ret (KBlock_r (KSeq_r (KLoop_r ?_)))))
      rw [if_neg (by simpa using hb2)] at hf
      exact KPost_i seA hsA ⟨rfl, .inl ⟨a, rfl, rfl, hf.symm⟩⟩
     ·
      try simp only [bsT] at hb2
      refine WC_skip (KBlock_n (KSeq_n (WC_region ?_)))
      first | refine WO_step rfl (S_addN (b := 1) rfl rfl (by omega) ?_) | refine WO_step rfl (S_pure rfl ?_)
      refine WO_step rfl (S_pure rfl ?_)
      refine WO_nil (KLoop_n ?_)
      rw [if_pos (by simpa using hb2)] at hf
      exact WC_weak (ih (l.length - (a + 1)) (by omega) (a + 1) rfl (by omega) hf) seA hsA
    ·
     try simp only [bsT] at hb1
     refine WC_exit (KSeq_x (KLoop_x ?_))
     rw [List.drop_of_length_le (by omega)] at hf
     exact KPost_i seA hsA ⟨rfl, .inr ⟨rfl, rfl, hf.symm⟩⟩
theorem sp_idxF {H : SH} {v : Value} {l : List Ent} (hv : RD H v TEnt l) (hb : l.length < 1000000) : WF F X f_slices_IndexFunc_cuckoo_entry [v, .func (.func f_cuckoo_Dir_free_1) #[] #[]] H (fun r H' => H' = H ∧ r = .int .i64 (idx0 0 l)) := by
  refine WF_fn F_slices_IndexFunc_cuckoo_entry ?_
  refine WC_seq (WC_region ?_)
  refine WO_step rfl (S_pure rfl ?_)
  refine WO_nil (KSeq_n (WC_seq (WC_seq (WC_region ?_))))
  refine WO_step rfl (S_pure rfl ?_)
  first | refine WO_step rfl (S_pure rfl ?_) | refine WO_step rfl (S_lenS rfl rdA ?_)
  refine WO_step rfl (S_pure rfl ?_)
  refine WO_nil (KSeq_n (WC_block ?_))
  refine WC_post (WC_weak (lp_idxF hv hb l.length 0 (by omega) (by omega) rfl) seA hsA) ?_
  rintro x l' H' ⟨rfl, ⟨j, rfl, rfl, hj⟩ | ⟨rfl, rfl, hj⟩⟩
  ·
   rw [hj]
   refine KBlock_r (KSeq_r ?_)
   refine KFn_r (ResL.tmp rfl ResL.nil) ?_
   exact ⟨_, hsA, rfl, rfl⟩
  ·
   rw [hj]
   refine KBlock_h (KSeq_n (WC_seq (WC_region ?_)))
   refine WO_step rfl (S_pure rfl ?_)
   refine WO_nil (KSeq_n (WC_ret ?_))
   refine KFn_r (ResL.tmp rfl ResL.nil) ?_
   exact ⟨_, hsA, rfl, rfl⟩
theorem sp_free {H H0 : SH} {i n b : Nat} {es : List Ent} (hl : es.length = 32) (hp : Pick (DO i es n) H H0) (hb : b < 8) : WF F X f_cuckoo_Dir_free [.pointer (some ⟨i, 0, none⟩), .int .i64 (b : Int)] H (fun r H' => H' = H ∧ r = .int .i64 (frI es b)) := by
  refine WF_fn F_cuckoo_Dir_free ?_
  refine WC_seq (WC_region ?_)
  refine WO_step rfl (S_pure rfl ?_)
  refine WO_nil (KSeq_n (WC_seq (WC_region ?_)))
  iterate 4 refine WO_step rfl (S_pure rfl ?_)
  refine WO_step rfl (S_idxA rfl rfl rfl hb ?_)
  refine WO_step rfl (S_cutB hl rfl hp (by omega) hb ?_)
  refine WO_call rfl rfl rfl ?_
  refine (sp_idxF (RD.bucket hl hp hb) (by rw [List.length_take]; omega)).mono ?_
  rintro _ _ ⟨rfl, rfl⟩
  refine WO_step rfl (S_pure rfl ?_)
  refine WO_nil (KSeq_n (WC_ret ?_))
  refine KFn_r (ResL.tmp rfl ResL.nil) ?_
  exact ⟨_, hsA, rfl, rfl⟩
theorem sp_reach {H : SH} {i6 i7 im k : Nat} {st : Stp} {w : SV} {mp : MpS} {td : List Nat} (hl : td.length < 1000) : WF F X f_cuckoo_Dir_way_1 [.int .i64 (k : Int), TStp.val st, .pointer (some ⟨i6, 0, none⟩), .pointer (some ⟨i7, 0, none⟩)] (OB i6 TMp im :: OB i7 TSV w :: MPS im mp :: SL w.toV TNat td :: H)
    (fun r H' => ∃ mp' td' w', Rch k st mp td mp' td' ∧ H' = OB i6 TMp im :: OB i7 TSV w' :: MPS im mp' :: SL w'.toV TNat td' :: H) := by
  refine WF_fn F_cuckoo_Dir_way_1 ?_
  refine WC_seq (WC_region ?_)
  refine WO_step rfl (S_box rfl rfl fun i5 => ?_)
  refine WO_nil (KSeq_n (WC_seq (WC_region ?_)))
  refine WO_step rfl (S_loadO rfl pkA (by rfl) (by rfl) ?_)
  refine WO_step rfl (S_pure rfl ?_)
  refine WO_step rfl (S_lookSO rfl rfl rfl pkA fun v11 => ?_)
  iterate 3 refine WO_step rfl (S_pure rfl ?_)
  refine WO_step rfl (S_newT TStp ⟨0, 0⟩ rfl rfl fun i6' => ?_)
  refine WO_step rfl (S_storeO rfl rfl pkA (by first | rfl | exact SV.cells1 _) (by rfl) (by first | rfl | exact SV.ones _) ?_)
  refine WO_step rfl (S_pure rfl ?_)
  refine WO_nil (KSeq_n (WC_seq (WC_region ?_)))
  iterate 2 refine WO_step rfl (S_pure rfl ?_)
  refine WO_nil (KSeq_n ?_)
  refine WC_cond rfl (fun hb1 => ?_) (fun hb1 => ?_)
  ·
   try simp only [bsT] at hb1
   refine WC_seq (WC_region ?_)
   refine WO_step rfl (S_loadO rfl pkA (by rfl) (by rfl) ?_)
   refine WO_step rfl (S_pure rfl ?_)
   first | refine WO_step rfl (S_loadT rfl pkA (by rfl) (by rfl) ?_) | refine WO_step rfl (S_loadO rfl pkA (by rfl) (by rfl) ?_)
   refine WO_step rfl (S_updS (y := st) rfl rfl rfl pkA hb1 ?_)
   refine WO_nil (KSeq_n (WC_region ?_))
   refine WO_step rfl (S_loadO rfl pkA (by rfl) (by rfl) ?_)
   refine WO_step rfl (S_pure rfl ?_)
   refine WO_step rfl (S_lit1 (T := TNat) (y := k) rfl rfl rfl rfl fun w21 => ?_)
   refine WO_step rfl (S_app rfl rfl pkA (by first | exact SRC.str rfl rfl | (apply RD.src; repeat (first | assumption | exact RD.head | exact RD.nil | apply RD.tail))) (by rfl) (by rfl) (by (try simp only [List.length_append, List.length_cons, List.length_nil]); omega) fun w22 => ?_)
   refine WO_step rfl (S_storeT (T := TSV) (y := w22) rfl rfl pkA (by rfl) (by rfl) ?_)
   refine WO_nil ?_
   refine KFn_n ResL.nil ?_
   exact ⟨OB i6 TMp im :: OB i7 TSV w22 :: MPS im (mp ++ [(k, st)]) :: SL w22.toV TNat (td ++ [k]) :: H, hsA, mp ++ [(k, st)], td ++ [k], w22, .inr ⟨hb1, rfl, rfl⟩, rfl⟩
  ·
   try simp only [bsT] at hb1
   refine WC_skip ?_
   refine KFn_n ResL.nil ?_
   exact ⟨OB i6 TMp im :: OB i7 TSV w :: MPS im mp :: SL w.toV TNat td :: H, hsA, mp, td, w, .inl ⟨hb1, rfl, rfl⟩, rfl⟩
theorem HAg.recut4 {α : Type} {T : Ty α} {H : SH} {h : AH} {a b c : Res} {w : SV} {x : α} {xs : List α} {es : Nat} (he : es = T.es) (hh : HAg (a :: b :: c :: SL w.toV T (x :: xs) :: H) h) : HAg (a :: b :: c :: SL (w.sub es 1 ((x :: xs).length - 1)).toV T xs :: H) h := by
  have h1 := hh.perm (List.perm_middle (l₁ := [a, b, c]) (a := SL w.toV T (x :: xs)) (l₂ := H))
  have h2 := HAg.recutSL (lo := 1) (n := xs.length) he (by simp; omega) h1
  simp only [List.drop_succ_cons, List.drop_zero, List.take_length] at h2
  exact h2.perm (List.perm_middle (l₁ := [a, b, c]) (l₂ := H)).symm
def wayF (i6 i7 : Nat) : Value := .func (.func f_cuckoo_Dir_way_1) #[] #[.pointer (some ⟨i6, 0, none⟩), .pointer (some ⟨i7, 0, none⟩)]
theorem lp_way_0 {H : SH} {es : List Ent} {h i i6 i7 im f o : Nat} (hf : f = frst h) (ho : o = oth (frst h) (tagOf h)) : ∀ (n a : Nat) (mp : MpS) (td : List Nat) (w : SV), 2 - a = n → a ≤ 2 → WInv es h [] [] td mp → (1 ≤ a → f ∈ td) → (2 ≤ a → o ∈ td) →
    WC F X (.loop L_cuckoo_Dir_way_0) [(18, .int .i64 (a : Int)), (17, .agg #[.int .i64 (f : Int), .int .i64 (o : Int)]), (8, wayF i6 i7), (0, .pointer (some ⟨i, 0, none⟩)), (6, .pointer (some ⟨i6, 0, none⟩)), (7, .pointer (some ⟨i7, 0, none⟩))] (OB i6 TMp im :: OB i7 TSV w :: MPS im mp :: SL w.toV TNat td :: H)
      (KPost fun x l' H' => ∃ mp' td' w', x = .exit 0 ∧ l' = [(8, wayF i6 i7), (0, .pointer (some ⟨i, 0, none⟩)), (6, .pointer (some ⟨i6, 0, none⟩)), (7, .pointer (some ⟨i7, 0, none⟩))] ∧ H' = OB i6 TMp im :: OB i7 TSV w' :: MPS im mp' :: SL w'.toV TNat td' :: H ∧ WInv es h [] [] td' mp' ∧ f ∈ td' ∧ o ∈ td') := by
  intro n
  induction n using Nat.strongRecOn with
  | _ n ih =>
    intro a mp td w hn ha hw h1 h2
    have hlen := hw.len
    refine WC_loop (WC_seq (WC_region ?_))
    refine WO_step rfl (S_pure rfl ?_)
    refine WO_nil (KSeq_n (WC_seq ?_))
    refine WC_cond rfl (fun hb1 => ?_) (fun hb1 => ?_)
    ·
     try simp only [bsT] at hb1
     refine WC_skip (KSeq_n (WC_seq (WC_block (WC_seq (WC_region ?_)))))
     obtain ⟨v, hv, hv8⟩ : ∃ v, (a = 0 ∧ v = f ∨ a = 1 ∧ v = o) ∧ v < 8 := by
       have e1 := frst_lt h
       have e2 := oth_lt (t := tagOf h) e1
       have h0 : a = 0 ∨ a = 1 := by omega
       rcases h0 with h0 | h0
       · exact ⟨f, .inl ⟨h0, rfl⟩, by omega⟩
       · exact ⟨o, .inr ⟨h0, rfl⟩, by omega⟩
     refine WO_step rfl (S_idxPair (v := .int .i64 (v : Int)) rfl rfl rfl (by rcases hv with ⟨rfl, rfl⟩ | ⟨rfl, rfl⟩ <;> rfl) ?_)
     refine WO_step rfl (S_pure rfl ?_)
     refine WO_nil (KSeq_n (WC_region ?_))
     iterate 3 refine WO_step rfl (S_pure rfl ?_)
     refine WO_call rfl rfl rfl ?_
     refine (sp_reach (k := v) (st := ⟨-1, 0⟩) (by simp at hlen; omega)).mono ?_
     rintro _ _ ⟨mp', td', w', hr, rfl⟩
     obtain ⟨hw', hm, hsub⟩ := hw.reach hr (.inl ⟨rfl, by rcases hv with ⟨_, rfl⟩ | ⟨_, rfl⟩ <;> simp [hf, ho]⟩) hv8
     refine WO_nil (KBlock_n (KSeq_n (WC_region ?_)))
     first | refine WO_step rfl (S_addN (b := 1) rfl rfl (by omega) ?_) | refine WO_step rfl (S_pure rfl ?_)
     refine WO_step rfl (S_pure rfl ?_)
     refine WO_nil (KLoop_n ?_)
     refine WC_weak (ih (2 - (a + 1)) (by omega) (a + 1) mp' td' w' rfl (by omega) hw' (fun _ => ?_) (fun _ => ?_)) seA hsA
     · rcases hv with ⟨_, rfl⟩ | ⟨_, rfl⟩
       · simpa using hm
       · have := hsub f (by simpa using h1 (by omega)); simpa using this
     · rcases hv with ⟨_, rfl⟩ | ⟨_, rfl⟩
       · omega
       · simpa using hm
    ·
     try simp only [bsT] at hb1
     refine WC_exit (KSeq_x (KLoop_x ?_))
     exact KPost_i seA hsA ⟨mp, td, w, rfl, rfl, rfl, hw, h1 (by omega), h2 (by omega)⟩
theorem lp_way_2 {H : SH} {es : List Ent} {h i i6 i7 im b : Nat} {dn : List Nat} (g : Good es) (hb : b < 8) (hbd : b ∈ dn) (hfull : ∀ s, s < 4 → (at' es (b * 4 + s)).has = true) (sh kk : List Nat) : ∀ (n a : Nat) (mp : MpS) (td : List Nat) (w : SV), 4 - a = n → a ≤ 4 → WInv es h sh dn td mp → (∀ x ∈ kk, x ∈ dn ++ td) → (∀ s, s < a → oth b (at' es (b * 4 + s)).tag ∈ dn ++ td) →
    WC F X (.loop L_cuckoo_Dir_way_2) [(46, .int .i64 (a : Int)), (45, .agg (TEnt.cells ((es.drop (b * 4)).take 4)).toArray), (11, .int .i64 (b : Int)), (8, wayF i6 i7), (0, .pointer (some ⟨i, 0, none⟩)), (6, .pointer (some ⟨i6, 0, none⟩)), (7, .pointer (some ⟨i7, 0, none⟩))] (OB i6 TMp im :: OB i7 TSV w :: MPS im mp :: SL w.toV TNat td :: H)
      (KPost fun x l' H' => ∃ mp' td' w', x = .exit 4 ∧ l' = [(8, wayF i6 i7), (0, .pointer (some ⟨i, 0, none⟩)), (6, .pointer (some ⟨i6, 0, none⟩)), (7, .pointer (some ⟨i7, 0, none⟩))] ∧ H' = OB i6 TMp im :: OB i7 TSV w' :: MPS im mp' :: SL w'.toV TNat td' :: H ∧ WInv es h sh dn td' mp' ∧ (∀ x ∈ kk, x ∈ dn ++ td') ∧ (∀ s, s < 4 → oth b (at' es (b * 4 + s)).tag ∈ dn ++ td')) := by
  intro n
  induction n using Nat.strongRecOn with
  | _ n ih =>
    intro a mp td w hn ha hw hkk h1
    have hlen := hw.len
    refine WC_loop (WC_seq (WC_region ?_))
    refine WO_step rfl (S_pure rfl ?_)
    refine WO_nil (KSeq_n (WC_seq ?_))
    refine WC_cond rfl (fun hb1 => ?_) (fun hb1 => ?_)
    ·
     try simp only [bsT] at hb1
     refine WC_skip (KSeq_n (WC_seq (WC_block (WC_seq (WC_region ?_)))))
     refine WO_step rfl (S_pure rfl ?_)
     have hke : ((es.drop (b * 4)).take 4)[a]? = some (at' es (b * 4 + a)) := by
       rw [List.getElem?_take, if_pos (by omega), List.getElem?_drop]; exact at_get (by have := g.len; omega)
     refine WO_step rfl (S_idxEnt rfl rfl rfl (by omega) hke ?_)
     refine WO_step rfl (S_newT TEnt ent0 rfl rfl fun i13 => ?_)
     refine WO_step rfl (S_pure rfl ?_)
     refine WO_step rfl (S_storeO rfl rfl pkA (by first | rfl | exact SV.cells1 _) (by rfl) (by first | rfl | exact SV.ones _) ?_)
     refine WO_nil (KSeq_n (WC_region ?_))
     iterate 3 refine WO_step rfl (S_pure rfl ?_)
     refine WO_step rfl (S_loadO rfl pkA (by rfl) (by rfl) ?_)
     refine WO_call rfl rfl rfl ?_
     have htg := g.tag (b * 4 + a) (by omega)
     refine (sp_hOther hb htg).mono ?_
     rintro _ _ ⟨rfl, rfl⟩
     iterate 3 refine WO_step rfl (S_pure rfl ?_)
     refine WO_call rfl rfl rfl ?_
     refine (WF.weak (sp_reach (H := OB i13 TEnt (at' es (b * 4 + a)) :: H) (k := oth b (at' es (b * 4 + a)).tag) (st := ⟨b, a⟩) (i6 := i6) (i7 := i7) (im := im) (w := w) (mp := mp) (td := td) (by omega)) hsA).mono ?_
     rintro _ _ ⟨mp', td', w', hr, rfl⟩
     obtain ⟨hw', hm, hsub⟩ := hw.reach hr (.inr ⟨b, a, rfl, by rw [hw.keys]; exact List.mem_append_left _ hbd, hb, by omega, hfull a (by omega), rfl⟩) (oth_lt hb)
     refine WO_nil (KBlock_n (KSeq_n (WC_region ?_)))
     first | refine WO_step rfl (S_addN (b := 1) rfl rfl (by omega) ?_) | refine WO_step rfl (S_pure rfl ?_)
     refine WO_step rfl (S_pure rfl ?_)
     refine WO_nil (KLoop_n ?_)
     refine WC_weak (ih (4 - (a + 1)) (by omega) (a + 1) mp' td' w' rfl (by omega) hw' (fun x hx => hsub x (hkk x hx)) (fun s hs => ?_)) seA hsA
     by_cases e : s = a
     · subst e; exact hm
     · exact hsub _ (h1 s (by omega))
    ·
     try simp only [bsT] at hb1
     refine WC_exit (KSeq_x (KLoop_x ?_))
     exact KPost_i seA hsA ⟨mp, td, w, rfl, rfl, rfl, hw, hkk, fun s hs => h1 s (by omega)⟩
theorem lp_way_1 {H H0 : SH} {es : List Ent} {h i i6 i7 im nn f o : Nat} (g : Good es) (hp : Pick (DO i es nn) H H0) (hf : f = frst h) (ho : o = oth (frst h) (tagOf h)) : ∀ (n : Nat) (dn td : List Nat) (mp : MpS) (w : SV), 8 - dn.length = n → WInv es h dn dn td mp → (∀ x ∈ [f, o], x ∈ dn ++ td) →
    WC F X (.loop L_cuckoo_Dir_way_1) [(8, wayF i6 i7), (0, .pointer (some ⟨i, 0, none⟩)), (6, .pointer (some ⟨i6, 0, none⟩)), (7, .pointer (some ⟨i7, 0, none⟩))] (OB i6 TMp im :: OB i7 TSV w :: MPS im mp :: SL w.toV TNat td :: H)
      (KPost fun x l' H' => (∃ (b : Nat) (mp' : MpS), x = .ret ∧ l' = [(4, .int .i64 (b : Int)), (5, .map (some im))] ∧ H' = MPS im mp' :: H ∧ b < 8 ∧ Chain es h mp' ∧ b ∈ ksOf mp' ∧ 0 ≤ frI es b) ∨ (x = .exit 2 ∧ l' = [] ∧ H' = H ∧ NoWay es h)) := by
  intro n
  induction n using Nat.strongRecOn with
  | _ n ih =>
    intro dn td mp w hn hw hfo
    have hlen := hw.len
    refine WC_loop (WC_seq (WC_seq (WC_region ?_)))
    refine WO_step rfl (S_loadO rfl pkA (by rfl) (by rfl) ?_)
    first | refine WO_step rfl (S_pure rfl ?_) | refine WO_step rfl (S_lenS rfl rdA ?_)
    refine WO_step rfl (S_pure rfl ?_)
    refine WO_nil (KSeq_n ?_)
    refine WC_cond rfl (fun hb1 => ?_) (fun hb1 => ?_)
    ·
     try simp only [bsT] at hb1
     obtain ⟨b, td, rfl⟩ : ∃ b t, td = b :: t := by
       cases td with
       | nil => exact absurd hb1 (by simp)
       | cons b t => exact ⟨b, t, rfl⟩
     have hx0 : (b :: td)[0]? = some b := rfl
     have hb8 : b < 8 := hw.lt b (by simp)
     simp only [List.length_cons] at hlen
     refine WC_skip (KSeq_n (WC_block (WC_seq (WC_region ?_))))
     refine WO_step rfl (S_loadO rfl pkA (by rfl) (by rfl) ?_)
     refine WO_step rfl (S_idx (j := 0) rfl rfl rdA (by first | rfl | assumption | (symm; assumption)) (by rfl) (by first | assumption | omega | exact lt_of_get (by assumption) | (simp only [List.length_set]; first | assumption | omega | exact lt_of_get (by assumption))) fun hp30 => ?_)
     refine WO_step rfl (S_loadE rfl rdA (by first | rfl | assumption | (symm; assumption)) (by first | rfl | assumption | (symm; assumption)) (by first | rfl | assumption | (symm; assumption)) (by assumption) ?_)
     refine WO_step rfl (S_pure rfl ?_)
     refine WO_nil (KSeq_n (WC_seq (WC_region ?_)))
     refine WO_step rfl (S_loadO rfl pkA (by rfl) (by rfl) ?_)
     refine WO_step rfl (S_cut (a := 1) (b := (b :: td).length) (m := (b :: td).length) rfl rdA (by rfl) (LB.mk rfl rfl) LB.dflt LB.dflt (by simp) (by omega) (by omega) ?_)
     refine WO_step rfl (S_storeT (T := TSV) (y := w.sub 1 1 ((b :: td).length - 1)) rfl rfl pkA (by rfl) (by rfl) ?_)
     refine WO_view (H' := OB i7 TSV (w.sub 1 1 ((b :: td).length - 1)) :: OB i6 TMp im :: MPS im mp :: SL (w.sub 1 1 ((b :: td).length - 1)).toV TNat td :: H) (fun a ha => HAg.recut4 rfl ha) ?_
     have hw2 := hw.pop
     refine WO_nil (KSeq_n (WC_seq (WC_seq (WC_region ?_))))
     iterate 2 refine WO_step rfl (S_pure rfl ?_)
     refine WO_call rfl rfl rfl ?_
     refine (sp_free g.len (by repeat (first | exact hp | exact Pick.head | apply Pick.tail)) hb8).mono ?_
     rintro _ _ ⟨rfl, rfl⟩
     refine WO_step rfl (S_pure rfl ?_)
     refine WO_nil (KSeq_n ?_)
     refine WC_cond rfl (fun hb2 => ?_) (fun hb2 => ?_)
     ·
      try simp only [bsT] at hb2
      refine WC_seq (WC_region ?_)
      refine WO_step rfl (S_pure rfl ?_)
      refine WO_step rfl (S_loadO rfl pkA (by rfl) (by rfl) ?_)
      iterate 2 refine WO_step rfl (S_pure rfl ?_)
      refine WO_nil (KSeq_n (WC_ret (KSeq_r (KBlock_r (KLoop_r ?_)))))
      exact KPost_i seA hsA (.inl ⟨b, mp, rfl, rfl, rfl, hb8, hw.toChain, by rw [hw.keys]; simp, hb2⟩)
     ·
      try simp only [bsT] at hb2
      refine WC_skip (KSeq_n (WC_seq (WC_region ?_)))
      iterate 4 refine WO_step rfl (S_pure rfl ?_)
      refine WO_step rfl (S_idxA rfl rfl rfl hb8 ?_)
      refine WO_step rfl (S_loadB (b := b) g.len rfl (by repeat (first | exact hp | exact Pick.head | apply Pick.tail)) (by omega) hb8 ?_)
      have hfull := frI_lt g.len hb8 hb2
      refine WO_step rfl (S_pure rfl ?_)
      refine WO_nil (KSeq_n (WC_block ?_))
      refine WC_post (WC_weak (lp_way_2 (i := i) (i6 := i6) (i7 := i7) (im := im) (H := H) g hb8 (by simp) hfull dn [f, o] 4 0 mp td (w.sub 1 1 ((b :: td).length - 1)) (by omega) (by omega) hw2 (fun x hx => by have := hfo x hx; simpa using this) (by simp)) seA hsA) ?_
      rintro x l' H' ⟨mp', td', w', rfl, rfl, rfl, hw3, hfo3, hall⟩
      refine KBlock_h (KBlock_n (KLoop_n ?_))
      exact WC_weak (ih (8 - (dn ++ [b]).length) (by simp; omega) (dn ++ [b]) td' mp' w' rfl (hw3.close fun s hs => ⟨hfull s hs, hall s hs⟩) hfo3) seA hsA
    ·
     try simp only [bsT] at hb1
     refine WC_exit (KSeq_x (KLoop_x ?_))
     have htd : td = [] := by
       cases td with
       | nil => rfl
       | cons b t => exact absurd hb1 (by simp)
     subst htd
     exact KPost_i seA hsA (.inr ⟨rfl, rfl, rfl, hw.noWay (by rw [← hf]; simpa using hfo f (by simp)) (by rw [← ho]; simpa using hfo o (by simp))⟩)
theorem sp_way {H H0 : SH} {es : List Ent} {h i nn : Nat} (g : Good es) (hp : Pick (DO i es nn) H H0) (hh : h < 18446744073709551616) : WF F X f_cuckoo_Dir_way [.pointer (some ⟨i, 0, none⟩), .int .u64 (h : Int)] H (fun r H' => ∃ (bI : Int) (mv : Value) (R : SH), r = .tuple #[.int .i64 bI, mv] ∧ H' = R ++ H ∧
    (0 ≤ bI → ∃ (b im : Nat) (mp : MpS), bI = (b : Int) ∧ b < 8 ∧ mv = .map (some im) ∧ R = [MPS im mp] ∧ Chain es h mp ∧ b ∈ ksOf mp ∧ 0 ≤ frI es b) ∧ (bI < 0 → NoWay es h)) := by
  refine WF_fn F_cuckoo_Dir_way ?_
  refine WC_seq (WC_region ?_)
  iterate 2 refine WO_step rfl (S_pure rfl ?_)
  refine WO_nil (KSeq_n (WC_seq (WC_region ?_)))
  refine WO_step rfl (S_mkMapS fun i14 => ?_)
  refine WO_step rfl (S_new fun i6 => ?_)
  first | refine WO_step rfl (S_storeT rfl rfl pkA (by rfl) (by rfl) ?_) | refine WO_step rfl (S_storeO rfl rfl pkA (by first | rfl | exact SV.cells1 _) (by rfl) (by first | rfl | exact SV.ones _) ?_)
  refine WO_nil (KSeq_n (WC_seq (WC_region ?_)))
  refine WO_step rfl (S_newT TSV .nil rfl rfl fun i7 => ?_)
  refine WO_nil (KSeq_n (WC_seq (WC_region ?_)))
  iterate 2 refine WO_step rfl (S_pure rfl ?_)
  refine WO_nil (KSeq_n (WC_seq (WC_seq (WC_region ?_))))
  refine WO_step rfl (S_pure rfl ?_)
  refine WO_call rfl rfl rfl ?_
  refine (sp_both (by omega)).mono ?_
  rintro _ _ ⟨rfl, rfl⟩
  refine WO_step rfl (S_pure rfl ?_)
  refine WO_nil (KSeq_n (WC_block ?_))
  refine WC_view (H' := SL (SV.toV .nil) TNat [] :: OB i7 TSV .nil :: OB i6 TMp i14 :: MPS i14 [] :: H) (fun a ha => HAg.addNil ha) ?_
  refine WC_post (WC_weak (lp_way_0 (es := es) (H := H) (h := h) (i := i) (i6 := i6) (i7 := i7) (im := i14) rfl rfl 2 0 [] [] .nil (by omega) (by omega) (WInv.init es h) (by simp) (by simp)) seA hsA) ?_
  rintro x l' H' ⟨mp', td', w', rfl, rfl, rfl, hw3, hf3, ho3⟩
  refine KBlock_h (KSeq_n (WC_seq (WC_block ?_)))
  refine WC_post (WC_weak (lp_way_1 (H := H) (i := i) (i6 := i6) (i7 := i7) (im := i14) g hp rfl rfl 8 [] td' mp' w' rfl hw3 (by intro x hx; simp at hx; rcases hx with rfl | rfl <;> simpa)) seA hsA) ?_
  rintro x l' H' (⟨b, mp2, rfl, rfl, rfl, h1, h2, h3, h4⟩ | ⟨rfl, rfl, rfl, h1⟩)
  ·
   refine KBlock_r (KSeq_r ?_)
   refine KFn_r (ResL.tmp rfl (ResL.tmp rfl ResL.nil)) ?_
   exact ⟨_, HSub.refl, b, _, [MPS i14 mp2], rfl, rfl, fun _ => ⟨b, i14, mp2, rfl, h1, rfl, rfl, h2, h3, h4⟩, fun hlt => by omega⟩
  ·
   refine KBlock_h (KSeq_n (WC_seq (WC_region ?_)))
   iterate 2 refine WO_step rfl (S_pure rfl ?_)
   refine WO_nil (KSeq_n (WC_ret ?_))
   refine KFn_r (ResL.tmp rfl (ResL.tmp rfl ResL.nil)) ?_
   exact ⟨_, HSub.refl, -1, _, [], rfl, rfl, fun hge => by omega, fun _ => h1⟩
theorem lp_ins {H : SH} {es : List Ent} {h i im n : Nat} {id : Int} {mp : MpS} (c : Chain es h mp) : ∀ (p : Nat) (es' : List Ent) (b s : Nat), JInv es h mp es' p b s →
    WC F X (.loop L_cuckoo_Dir_Insert_0) [(7, .int .i64 (b : Int)), (8, .map (some im)), (9, .int .i64 (s : Int)), (0, .pointer (some ⟨i, 0, none⟩)), (1, .int .u64 (h : Int)), (2, .int .i64 id)] (MPS im mp :: DO i es' n :: H)
      (KPost fun x l' H' => ∃ (es2 : List Ent) (b2 s2 p2 : Nat) (st : Stp), x = .exit 0 ∧ l' = [(7, .int .i64 (b2 : Int)), (9, .int .i64 (s2 : Int)), (0, .pointer (some ⟨i, 0, none⟩)), (1, .int .u64 (h : Int)), (2, .int .i64 id)] ∧ H' = DO i es2 n :: H ∧ JInv es h mp es2 p2 b2 s2 ∧ mp[p2]? = some (b2, st) ∧ st.b < 0) := by
  intro p
  induction p using Nat.strongRecOn with
  | _ p ih =>
    intro es' b s hj
    obtain ⟨⟨sb, ss⟩, hst⟩ := hj.pos
    have hlk := look_at c.nd hst
    have hb8 := c.key_lt hst
    have hs4 := hj.s4
    have hg := hj.good
    refine WC_loop (WC_seq (WC_seq (WC_region ?_)))
    iterate 2 refine WO_step rfl (S_pure rfl ?_)
    refine WO_step rfl (S_lookS rfl rfl pkA hlk ?_)
    iterate 2 refine WO_step rfl (S_pure rfl ?_)
    refine WO_nil (KSeq_n ?_)
    refine WC_cond rfl (fun hb1 => ?_) (fun hb1 => ?_)
    ·
     try simp only [bsT] at hb1
     obtain ⟨b2, s2, e1⟩ : ∃ b2 s2 : Nat, (⟨sb, ss⟩ : Stp) = ⟨(b2 : Int), (s2 : Int)⟩ := by
       rcases c.chain p b _ hst with ⟨h1, _⟩ | ⟨b', s', h1, _⟩
       · simp only at h1; omega
       · exact ⟨b', s', h1⟩
     simp only [Stp.mk.injEq] at e1
     obtain ⟨rfl, rfl⟩ := e1
     obtain ⟨hb2, hs2, q, hq, hj2⟩ := hj.step c hst
     refine WC_skip (KSeq_n (WC_block (WC_seq (WC_region ?_))))
     iterate 2 refine WO_step rfl (S_pure rfl ?_)
     refine WO_step rfl (S_lookS rfl rfl pkA hlk ?_)
     refine WO_step rfl (S_newT TStp ⟨0, 0⟩ rfl rfl fun i10 => ?_)
     refine WO_step rfl (S_storeO rfl rfl pkA (by first | rfl | exact SV.cells1 _) (by rfl) (by first | rfl | exact SV.ones _) ?_)
     refine WO_nil (KSeq_n (WC_seq (WC_region ?_)))
     iterate 5 refine WO_step rfl (S_pure rfl ?_)
     refine WO_step rfl (S_loadO rfl pkA (by rfl) (by rfl) ?_)
     refine WO_step rfl (S_pure rfl ?_)
     refine WO_step rfl (S_loadO rfl pkA (by rfl) (by rfl) ?_)
     iterate 2 refine WO_step rfl (S_pure rfl ?_)
     refine WO_step rfl (S_idxA rfl rfl rfl hb2 ?_)
     refine WO_step rfl (S_idxA rfl rfl rfl hs2 ?_)
     refine WO_step rfl (S_loadEnt (k := b2 * 4 + s2) hg.len rfl pkA (by omega) (by omega) ?_)
     iterate 2 refine WO_step rfl (S_pure rfl ?_)
     refine WO_step rfl (S_idxA rfl rfl rfl hb8 ?_)
     refine WO_step rfl (S_idxA rfl rfl rfl hs4 ?_)
     refine WO_step rfl (S_storeEnt (k := b * 4 + s) hg.len rfl rfl pkA (by omega) (by omega) ?_)
     refine WO_nil (KSeq_n (WC_region ?_))
     refine WO_step rfl (S_pure rfl ?_)
     refine WO_step rfl (S_loadO rfl pkA (by rfl) (by rfl) ?_)
     refine WO_step rfl (S_pure rfl ?_)
     refine WO_step rfl (S_loadO rfl pkA (by rfl) (by rfl) ?_)
     iterate 2 refine WO_step rfl (S_pure rfl ?_)
     refine WO_nil (KBlock_n (KLoop_n ?_))
     exact WC_weak (ih q hq _ b2 s2 hj2) seA hsA
    ·
     try simp only [bsT] at hb1
     refine WC_exit (KSeq_x (KLoop_x ?_))
     exact KPost_i seA hsA ⟨es', b, s, p, ⟨sb, ss⟩, rfl, rfl, rfl, hj, hst, by simpa using hb1⟩
theorem sp_ins {H H0 : SH} {es : List Ent} {h i n : Nat} {id : Int} (g : Good es) (hp : Pick (DO i es n) H H0) (hh : h < 18446744073709551616) (hn : n < 1000000) : WF F X f_cuckoo_Dir_Insert [.pointer (some ⟨i, 0, none⟩), .int .u64 (h : Int), .int .i64 id] H (fun r H' => ∃ (es' : List Ent) (n' : Nat) (ok : Bool), r = .bool ok ∧ H' = DO i es' n' :: H0 ∧ Good es' ∧
    (ok = true → n' = n + 1 ∧ (0 ≤ id ∧ id ≤ 1099511627776) ∧ InsOk es h id es') ∧ (ok = false → es' = es ∧ n' = n ∧ ((0 ≤ id ∧ id ≤ 1099511627776) → NoWay es h))) := by
  refine WF_fn F_cuckoo_Dir_Insert ?_
  refine WC_seq (WC_region ?_)
  refine WO_step rfl (S_pure rfl ?_)
  refine WO_nil (KSeq_n (WC_seq (WC_seq (WC_region ?_))))
  iterate 3 refine WO_step rfl (S_pure rfl ?_)
  refine WO_cases (t := 13) rfl (fun hg1 => ?_) (fun hg1 => ?_)
  ·
   try simp only [bsT] at hg1
   exact absurd hg1 (by simp)
   --stop
  ·
   try simp only [bsT] at hg1
   refine WO_step rfl (S_pure rfl ?_)
   refine WO_call rfl rfl rfl ?_
   refine sp_may.mono ?_
   rintro _ _ ⟨rfl, rfl⟩
   iterate 2 refine WO_step rfl (S_pure rfl ?_)
   refine WO_nil (KSeq_n ?_)
   refine WC_cond rfl (fun hb1 => ?_) (fun hb1 => ?_)
   ·
    try simp only [bsT] at hb1
    refine WC_seq (WC_region ?_)
    refine WO_step rfl (S_pure rfl ?_)
    refine WO_nil (KSeq_n (WC_ret (KSeq_r ?_)))
    refine KFn_r (ResL.tmp rfl ResL.nil) ?_
    exact ⟨_, hp.sub, es, n, false, rfl, rfl, g, fun h => (by cases h), fun _ => ⟨rfl, rfl, fun hm => absurd hm hb1⟩⟩
   ·
    try simp only [bsT] at hb1
    refine WC_skip (KSeq_n (WC_seq (WC_region ?_)))
    iterate 2 refine WO_step rfl (S_pure rfl ?_)
    refine WO_call rfl rfl rfl ?_
    refine (sp_way g hp hh).mono ?_
    rintro _ _ ⟨bI, mv, R, rfl, rfl, hge, hlt⟩
    iterate 5 refine WO_step rfl (S_pure rfl ?_)
    refine WO_nil (KSeq_n (WC_seq (WC_seq (WC_region ?_))))
    iterate 2 refine WO_step rfl (S_pure rfl ?_)
    refine WO_nil (KSeq_n ?_)
    refine WC_cond rfl (fun hb2 => ?_) (fun hb2 => ?_)
    ·
     try simp only [bsT] at hb2
     refine WC_seq (WC_region ?_)
     refine WO_step rfl (S_pure rfl ?_)
     refine WO_nil (KSeq_n (WC_ret (KSeq_r ?_)))
     refine KFn_r (ResL.tmp rfl ResL.nil) ?_
     exact ⟨_, (HSub.app (L := R)).trans hp.sub, es, n, false, rfl, rfl, g, fun h => (by cases h), fun _ => ⟨rfl, rfl, fun _ => hlt hb2⟩⟩
    ·
     try simp only [bsT] at hb2
     obtain ⟨b, im, mp, rfl, hb8, rfl, rfl, hch, hbk, hfr⟩ := hge (by omega)
     obtain ⟨s, hs, hs4, hfree⟩ := frI_ge g.len hb8 hfr
     refine WC_skip (KSeq_n (WC_seq (WC_region ?_)))
     iterate 2 refine WO_step rfl (S_pure rfl ?_)
     refine WO_call rfl rfl rfl ?_
     refine (sp_free g.len (.tail hp) hb8).mono ?_
     rintro _ _ ⟨rfl, rfl⟩
     rw [hs]
     obtain ⟨x0, hx0, hxe⟩ := List.mem_map.1 hbk
     obtain ⟨xk, xst⟩ := x0
     simp only at hxe
     subst hxe
     obtain ⟨p0, hp0⟩ := List.getElem?_of_mem hx0
     refine WO_step rfl (S_pure rfl ?_)
     refine WO_nil (KSeq_n (WC_seq (WC_block ?_)))
     refine WC_post (WC_weak (lp_ins (H := H0) (n := n) (i := i) (id := id) (im := im) hch p0 es xk s (JInv.init g hp0 hb8 hs4 hfree)) seA (HSub.pick .head (HSub.pick hp HSub.refl))) ?_
     rintro x l' H' ⟨es2, b2, s2, p2, st, rfl, rfl, rfl, hj2, hp2, hneg⟩
     obtain ⟨hgood, hins⟩ := hj2.done (id := id) hch hp2 hneg
     have hb2 := hch.key_lt hp2
     have hs2 := hj2.s4
     have hg2 := hj2.good
     have hlen : (es2.set (b2 * 4 + s2) ⟨true, id, tagOf h⟩).length = 32 := by rw [List.length_set]; exact hg2.len
     refine KBlock_h (KSeq_n (WC_seq (WC_region ?_)))
     iterate 5 refine WO_step rfl (S_pure rfl ?_)
     refine WO_call rfl rfl rfl ?_
     refine (sp_hTag (by omega)).mono ?_
     rintro _ _ ⟨rfl, rfl⟩
     iterate 3 refine WO_step rfl (S_pure rfl ?_)
     refine WO_step rfl (S_idxA rfl rfl rfl hb2 ?_)
     refine WO_step rfl (S_idxA rfl rfl rfl hs2 ?_)
     refine WO_step rfl (S_storeEnt (k := b2 * 4 + s2) (e := ⟨true, id, tagOf h⟩) hg2.len rfl rfl pkA (by omega) (by omega) ?_)
     refine WO_nil (KSeq_n (WC_seq (WC_region ?_)))
     iterate 3 refine WO_step rfl (S_pure rfl ?_)
     refine WO_step rfl (S_loadN hlen rfl pkA ?_)
     first | refine WO_step rfl (S_addN (b := 1) rfl rfl (by omega) ?_) | refine WO_step rfl (S_pure rfl ?_)
     iterate 2 refine WO_step rfl (S_pure rfl ?_)
     refine WO_step rfl (S_storeN hlen rfl rfl pkA ?_)
     refine WO_nil (KSeq_n (WC_seq (WC_region ?_)))
     refine WO_step rfl (S_pure rfl ?_)
     refine WO_nil (KSeq_n (WC_ret ?_))
     refine KFn_r (ResL.tmp rfl ResL.nil) ?_
     exact ⟨_, HSub.refl, _, n + 1, true, rfl, rfl, hgood, fun _ => ⟨rfl, by simpa using hb1, hins⟩, fun h => (by cases h)⟩
theorem sp_New {H : SH} : WF F X f_cuckoo_New [] H (fun r H' => ∃ i, H' = DO i (List.replicate 32 ent0) 0 :: H ∧ r = .pointer (some ⟨i, 0, none⟩)) := by
  refine WF_fn F_cuckoo_New ?_
  refine WC_seq (WC_region ?_)
  refine WO_step rfl (S_pure rfl ?_)
  refine WO_nil (KSeq_n (WC_seq (WC_region ?_)))
  refine WO_step rfl (S_pure rfl ?_)
  refine WO_step rfl (S_box rfl rfl fun i2 => ?_)
  refine WO_step rfl (S_pure rfl ?_)
  refine WO_nil (KSeq_n (WC_ret ?_))
  refine KFn_r (ResL.tmp rfl ResL.nil) ?_
  exact ⟨_, HSub.refl, i2, rfl, rfl⟩
end Go.Proofs.YtpnmeednimpjdaaGreat.AM
namespace Go.Proofs.YtpnmeednimpjdaaGreat.AM
open Go
set_option linter.unusedSimpArgs false
set_option linter.unusedVariables false
set_option maxRecDepth 4000
structure Kv where
  h : Nat
  id : Int
  deriving DecidableEq
def kw (f : Ent → Nat → Nat) (x : Kv) : Nat := f ⟨true, x.id, tagOf x.h⟩ (frst x.h)
def sumL (f : Ent → Nat → Nat) : List Kv → Nat
  | [] => 0
  | x :: l => kw f x + sumL f l
theorem sumL_app (f : Ent → Nat → Nat) : ∀ a b : List Kv, sumL f (a ++ b) = sumL f a + sumL f b
  | [], b => by simp [sumL]
  | x :: a, b => by rw [List.cons_append, sumL, sumL, sumL_app f a b]; omega
theorem sumL_pos {f : Ent → Nat → Nat} : ∀ {l : List Kv}, 0 < sumL f l → ∃ x ∈ l, 0 < kw f x
  | [], h => by simp [sumL] at h
  | x :: l, h => by
    by_cases hx : 0 < kw f x
    · exact ⟨x, List.mem_cons_self .., hx⟩
    · rw [sumL] at h
      obtain ⟨y, hy, hk⟩ := sumL_pos (f := f) (l := l) (by omega)
      exact ⟨y, List.mem_cons_of_mem _ hy, hk⟩
def Holds (es : List Ent) (l : List Kv) : Prop := ∀ f, Sym f → tot f es = sumL f l
theorem Holds.new : Holds (List.replicate 32 ent0) [] := fun f _ => by
  have : tot f (List.replicate 32 ent0) = 32 * 0 := sumN_one fun k hk => by
    unfold wt at'
    rw [List.getD_eq_getElem?_getD, List.getElem?_replicate, if_pos hk]; rfl
  rw [this]; rfl
theorem Holds.ins {es es' : List Ent} {l : List Kv} {h : Nat} {id : Int} (hh : Holds es l) (hi : InsOk es h id es') : Holds es' (l ++ [⟨h, id⟩]) := fun f hf => by
  rw [hi f hf, hh f hf, sumL_app]; simp [sumL, kw]
theorem Holds.has {es : List Ent} {l : List Kv} (hh : Holds es l) : Has es (l.map (·.h)) := fun S => by
  rw [hh _ (fS_sym S)]
  clear hh
  induction l with
  | nil => rfl
  | cons y m ih =>
    have e : cnt S ((y :: m).map (·.h)) = cnt S (m.map (·.h)) + if edge S y.h = true then 1 else 0 := List.countP_cons
    rw [sumL, ih, e, Nat.add_comm]; rfl
def same2 (t x b : Nat) : Bool := decide (b = x) || decide (oth b t = x)
def cls (id : Int) (t x : Nat) : Ent → Nat → Nat := fun e b => if e.id = id ∧ e.tag = t ∧ same2 t x b = true then 1 else 0
theorem same2_oth {t x b : Nat} (hb : b < 8) : same2 t x (oth b t) = same2 t x b := by
  unfold same2; rw [oth_oth hb, Bool.or_comm]
theorem cls_sym (id : Int) (t x : Nat) : Sym (cls id t x) := fun e b hb => by
  unfold cls
  by_cases h : e.tag = t
  · rw [h, same2_oth hb]
  · simp [h]
theorem same2_iff {t x b : Nat} (hb : b < 8) : same2 t x b = true ↔ b = x ∨ b = oth x t := by
  unfold same2
  rw [Bool.or_eq_true, decide_eq_true_eq, decide_eq_true_eq]
  constructor
  · rintro (h | h)
    · exact .inl h
    · exact .inr (by rw [← h, oth_oth hb])
  · rintro (h | rfl)
    · exact .inl h
    · right
      by_cases hx : x < 8
      · exact oth_oth hx
      · exfalso
        unfold oth at hb
        have h7 : 1 + t % 7 < 8 := by have := Nat.mod_lt t (by omega : 0 < 7); omega
        have : x ^^^ (1 + t % 7) ^^^ (1 + t % 7) < 2 ^ 3 := Nat.xor_lt_two_pow hb h7
        rw [Nat.xor_assoc, Nat.xor_self, Nat.xor_zero] at this
        omega
def fits (x : Kv) (e : Ent) (b : Nat) : Bool := decide (x.id = e.id) && (decide (tagOf x.h = e.tag) && (decide (b = frst x.h) || decide (b = oth (frst x.h) e.tag)))
theorem fits_iff {x : Kv} {e : Ent} {b : Nat} : fits x e b = true ↔ x.id = e.id ∧ tagOf x.h = e.tag ∧ (b = frst x.h ∨ b = oth (frst x.h) e.tag) := by
  unfold fits; simp only [Bool.and_eq_true, Bool.or_eq_true, decide_eq_true_eq]
theorem fits_kw {x : Kv} {e : Ent} {b : Nat} {f : Ent → Nat → Nat} (hf : Sym f) (he : e.has = true) (h : fits x e b = true) : kw f x = f e b := by
  obtain ⟨h1, h2, h3⟩ := fits_iff.1 h
  have e1 : (⟨true, x.id, tagOf x.h⟩ : Ent) = e := by cases e; simp_all
  unfold kw
  rw [e1]
  rcases h3 with rfl | rfl
  · rfl
  · exact (hf e (frst x.h) (frst_lt x.h)).symm
def restW (f : Ent → Nat → Nat) (es : List Ent) (k : Nat) : Nat := sumN (fun j => wt f es (k + j)) (32 - k)
theorem restW_zero (f : Ent → Nat → Nat) (es : List Ent) : restW f es 0 = tot f es := by unfold restW tot; simp
theorem sumN_shift (g : Nat → Nat) : ∀ n, sumN g (n + 1) = g 0 + sumN (fun j => g (1 + j)) n
  | 0 => by simp [sumN]
  | n + 1 => by rw [sumN, sumN_shift g n, sumN, Nat.add_assoc]; congr 3; omega
theorem restW_succ (f : Ent → Nat → Nat) (es : List Ent) {k : Nat} (hk : k < 32) : restW f es k = wt f es k + restW f es (k + 1) := by
  unfold restW
  rw [show 32 - k = (32 - (k + 1)) + 1 by omega, sumN_shift]
  congr 1
  exact sumN_congr fun j _ => by rw [← Nat.add_assoc]
def Left (es : List Ent) (k : Nat) (l : List Kv) : Prop := ∀ f, Sym f → restW f es k = sumL f l
theorem Left.start {es : List Ent} {l : List Kv} (h : Holds es l) : Left es 0 l := fun f hf => by rw [restW_zero]; exact h f hf
theorem Left.none {es : List Ent} {l : List Kv} {k : Nat} (h : Left es k l) (hk : k < 32) (he : (at' es k).has = false) : Left es (k + 1) l := fun f hf => by
  have h1 := h f hf
  rw [restW_succ f es hk] at h1
  have : wt f es k = 0 := by unfold wt; rw [he]; rfl
  omega
theorem Left.some {es : List Ent} {l : List Kv} {k : Nat} (h : Left es k l) (hk : k < 32) (he : (at' es k).has = true) : ∃ x ∈ l, fits x (at' es k) (k / 4) = true := by
  have h1 := h (cls (at' es k).id (at' es k).tag (k / 4)) (cls_sym _ _ _)
  rw [restW_succ _ es hk] at h1
  have : wt (cls (at' es k).id (at' es k).tag (k / 4)) es k = 1 := by
    unfold wt; rw [he]; simp [cls, same2]
  obtain ⟨x, hx, hp⟩ := sumL_pos (f := cls (at' es k).id (at' es k).tag (k / 4)) (l := l) (by omega)
  refine ⟨x, hx, fits_iff.2 ?_⟩
  unfold kw cls at hp
  split at hp
  · rename_i hc
    obtain ⟨c1, c2, c3⟩ := hc
    simp only at c1 c2
    refine ⟨c1, c2, ?_⟩
    have hb : k / 4 < 8 := by omega
    rcases (same2_iff (frst_lt x.h)).1 c3 with c | c
    · exact .inl c.symm
    · exact .inr (by rw [c, oth_oth hb])
  · omega
theorem Left.take {es : List Ent} {A B : List Kv} {x : Kv} {k : Nat} (h : Left es k (A ++ x :: B)) (hk : k < 32) (he : (at' es k).has = true) (hx : fits x (at' es k) (k / 4) = true) : Left es (k + 1) (A ++ B) := fun f hf => by
  have h1 := h f hf
  rw [restW_succ f es hk, sumL_app, sumL, fits_kw hf he hx] at h1
  have : wt f es k = f (at' es k) (k / 4) := by unfold wt; rw [he]; rfl
  rw [sumL_app]
  omega
theorem Left.end' {es : List Ent} {l : List Kv} (h : Left es 32 l) : l = [] := by
  have h1 := h (fun _ _ => 1) (fun _ _ _ => rfl)
  cases l with
  | nil => rfl
  | cons x l => simp [restW, sumN, sumL, kw] at h1; omega
def near (a b : Nat) : Bool := decide (tagOf a = tagOf b) && (decide (frst a = frst b) || decide (frst a = oth (frst b) (tagOf b)))
def slots (h : Nat) : List Nat := [frst h * 4, frst h * 4 + 1, frst h * 4 + 2, frst h * 4 + 3, oth (frst h) (tagOf h) * 4, oth (frst h) (tagOf h) * 4 + 1, oth (frst h) (tagOf h) * 4 + 2, oth (frst h) (tagOf h) * 4 + 3]
def hit (es : List Ent) (h k : Nat) : Bool := (at' es k).has && decide ((at' es k).tag = tagOf h)
def foundL (es : List Ent) (h : Nat) : List Int := ((slots h).filter (hit es h)).map fun k => (at' es k).id
def nearL (l : List Kv) (h : Nat) : List Int := (l.filter fun x => near h x.h).map (·.id)
theorem count_filter_map {α : Type} (p : α → Bool) (g : α → Int) (v : Int) : ∀ l : List α, ((l.filter p).map g).count v = l.countP (fun x => p x && decide (g x = v))
  | [] => rfl
  | x :: l => by
    have ih := count_filter_map p g v l
    rw [List.filter_cons, List.countP_cons, ← ih]
    cases hp : p x with
    | false => simp
    | true =>
      simp only [if_true, List.map_cons, List.count_cons, Bool.true_and, decide_eq_true_eq, beq_iff_eq]
theorem near_same {h : Nat} {x : Kv} : same2 (tagOf h) (frst h) (frst x.h) = true ∧ tagOf x.h = tagOf h ↔ near h x.h = true := by
  unfold near
  rw [same2_iff (frst_lt x.h)]
  simp only [Bool.and_eq_true, Bool.or_eq_true, decide_eq_true_eq]
  constructor
  · rintro ⟨h1 | h1, h2⟩
    · exact ⟨h2.symm, .inl h1.symm⟩
    · exact ⟨h2.symm, .inr (by rw [h1, h2, oth_oth (frst_lt h)])⟩
  · rintro ⟨h1, h2 | h2⟩
    · exact ⟨.inl h2.symm, h1.symm⟩
    · exact ⟨.inr (by rw [h2, h1, oth_oth (frst_lt x.h)]), h1.symm⟩
theorem slots_sum (g : Nat → Nat) (h : Nat) (hz : ∀ k, k < 32 → same2 (tagOf h) (frst h) (k / 4) = false → g k = 0) : sumN g 32 = ((slots h).map g).sum := by
  have h1 := frst_lt h
  have h2 := oth_lt (t := tagOf h) h1
  have h3 := oth_ne (t := tagOf h) h1
  have hz' : ∀ k, k < 32 → k / 4 ≠ frst h → k / 4 ≠ oth (frst h) (tagOf h) → g k = 0 := fun k hk a b => hz k hk (by
    cases hc : same2 (tagOf h) (frst h) (k / 4) with
    | false => rfl
    | true =>
      rcases (same2_iff (by omega)).1 hc with e | e
      · exact absurd e a
      · exact absurd e b)
  unfold slots
  generalize frst h = a at *
  generalize oth a (tagOf h) = b at *
  have key : ∀ (a b : Fin 8), (∀ k, k < 32 → k / 4 ≠ a.val → k / 4 ≠ b.val → g k = 0) → b.val ≠ a.val → sumN g 32 = (([a.val * 4, a.val * 4 + 1, a.val * 4 + 2, a.val * 4 + 3, b.val * 4, b.val * 4 + 1, b.val * 4 + 2, b.val * 4 + 3] : List Nat).map g).sum := by
    intro a b hz hne
    have spl : ∀ j : Fin 8, sumN (fun i => g (j.val * 4 + i)) 4 = g (j.val * 4) + g (j.val * 4 + 1) + g (j.val * 4 + 2) + g (j.val * 4 + 3) := fun j => by simp [sumN]
    have tot8 : sumN g 32 = sumN (fun j => sumN (fun i => g (j * 4 + i)) 4) 8 := by simp only [sumN, Nat.reduceMul, Nat.reduceAdd, Nat.zero_add, Nat.zero_mul]; omega
    have z : ∀ j, j < 8 → j ≠ a.val → j ≠ b.val → sumN (fun i => g (j * 4 + i)) 4 = 0 := fun j hj ha hb => by
      have : sumN (fun i => g (j * 4 + i)) 4 = 4 * 0 := sumN_one fun i hi => hz _ (by omega) (by omega) (by omega)
      omega
    have two : ∀ (G : Nat → Nat) (n x y : Nat), x < n → y < n → x ≠ y → (∀ j, j < n → j ≠ x → j ≠ y → G j = 0) → sumN G n = G x + G y := by
      intro G n
      induction n with
      | zero => intro x y h; omega
      | succ n ih =>
        intro x y hx hy hxy hG
        have one : ∀ (m x : Nat), x < m → (∀ j, j < m → j ≠ x → G j = 0) → sumN G m = G x := by
          intro m
          induction m with
          | zero => intro x h; omega
          | succ m ihm =>
            intro x hx hG
            rw [sumN]
            by_cases e : x = m
            · subst e
              have : sumN G x = x * 0 := sumN_one fun j hj => hG j (by omega) (by omega)
              omega
            · rw [ihm x (by omega) (fun j hj hne => hG j (by omega) hne), hG m (by omega) (fun h => e h.symm)]; omega
        rw [sumN]
        by_cases ex : x = n
        · subst ex
          rw [one x y (by omega) (fun j hj hne => hG j (by omega) (by omega) hne)]; omega
        · by_cases ey : y = n
          · subst ey
            rw [one y x (by omega) (fun j hj hne => hG j (by omega) hne (by omega))]
          · rw [ih x y (by omega) (by omega) hxy (fun j hj h1 h2 => hG j (by omega) h1 h2), hG n (by omega) (fun h => ex h.symm) (fun h => ey h.symm)]; omega
    rw [tot8, two _ 8 a.val b.val a.isLt b.isLt (fun h => hne h.symm) z, spl a, spl b]
    simp only [List.map_cons, List.map_nil, List.sum_cons, List.sum_nil]
    omega
  exact key ⟨a, h1⟩ ⟨b, h2⟩ hz' h3
theorem found_perm {es : List Ent} {l : List Kv} (hh : Holds es l) (h : Nat) : (foundL es h).Perm (nearL l h) := by
  rw [List.perm_iff_count]
  intro v
  unfold foundL nearL
  rw [count_filter_map, count_filter_map]
  have h1 := hh (cls v (tagOf h) (frst h)) (cls_sym _ _ _)
  have e1 : tot (cls v (tagOf h) (frst h)) es = (slots h).countP (fun k => hit es h k && decide ((at' es k).id = v)) := by
    unfold tot
    rw [slots_sum _ h (fun k hk hs => by unfold wt cls; rw [hs]; simp)]
    have hall : ∀ k ∈ slots h, same2 (tagOf h) (frst h) (k / 4) = true := by
      have h8 := frst_lt h
      have h9 := oth_lt (t := tagOf h) h8
      intro k hk
      unfold slots at hk
      simp only [List.mem_cons, List.not_mem_nil, or_false] at hk
      rw [same2_iff (by omega)]
      omega
    revert hall
    generalize slots h = ks
    intro hall
    induction ks with
    | nil => rfl
    | cons k ks ih =>
      rw [List.map_cons, List.sum_cons, List.countP_cons, ih (fun x hx => hall x (List.mem_cons_of_mem _ hx)), Nat.add_comm]
      congr 1
      have := hall k (List.mem_cons_self ..)
      unfold wt cls hit
      rw [this]
      cases (at' es k).has <;> simp [and_comm]
  have e2 : sumL (cls v (tagOf h) (frst h)) l = l.countP (fun x => near h x.h && decide (x.id = v)) := by
    clear h1 hh
    induction l with
    | nil => rfl
    | cons x l ih =>
      rw [sumL, List.countP_cons, ih, Nat.add_comm]
      congr 1
      unfold kw cls
      by_cases hn : near h x.h = true
      · obtain ⟨a, b⟩ := near_same.2 hn
        simp [hn, a, b]
      · have : ¬(same2 (tagOf h) (frst h) (frst x.h) = true ∧ tagOf x.h = tagOf h) := fun c => hn (near_same.1 c)
        rw [if_neg (by rintro ⟨_, b, c⟩; exact this ⟨c, b⟩)]
        simp [hn]
  rw [← e1, ← e2]; exact h1
theorem S_loadD {l : SE} {H H0 : SH} {K : Value → SH → Prop} {i o k off : Nat} {a : Opd} {es : List Ent} {n : Nat} {v : Value} (hl : es.length = 32) (ha : a.lv l = some (.pointer (some ⟨i, o, none⟩))) (hp : Pick (DO i es n) H H0) (ho : o = k * 3 + off) (hk : k < 32) (hv : (TEnt.enc (at' es k))[off]? = some v) (kk : K v H) : Step (.load false 1 a) l H K := by
  have hlt := (List.getElem?_eq_some_iff.1 hv).1
  rw [TEnt.len] at hlt
  have h3 : off < 3 := hlt
  have h := DO.at (v := .int .i64 ((n : Nat) : Int)) (off := off) (m := 1) (at_get (es := es) (k := k) (by omega)) (by omega)
  subst ho
  refine S_loadO ha hp (by rw [Nat.ble_eq, DO.len hl]; omega) ?_ kk
  rw [h]
  have : ((TEnt.enc (at' es k)).drop off).take 1 = [v] := by
    rw [List.drop_eq_getElem_cons (List.getElem?_eq_some_iff.1 hv).1, (List.getElem?_eq_some_iff.1 hv).2]; rfl
  rw [this]; rfl
theorem S_idxAE {l : SE} {H : SH} {K : Value → SH → Prop} {n es i o o' j : Nat} {x y : Opd} {kd : IntKind} {J : Int} (hx : x.lv l = some (.pointer (some ⟨i, o, none⟩))) (hy : y.lv l = some (.int kd J)) (hJ : J = (j : Int)) (hj : j < n) (he : o + j * es = o') (k : K (.pointer (some ⟨i, o', none⟩)) H) : Step (.idxA n es x y) l H K := S_idxA hx hy hJ hj (he ▸ k)
def eachR {σ : Type} (Tr : List Ent → σ → Nat → List Ent → σ → Bool → Prop) (h : Nat) : List Nat → List Ent → σ → List Ent → σ → Prop
  | [], es, st, es', st' => es' = es ∧ st' = st
  | k :: ks, es, st, es', st' => if hit es h k = true then ∃ es1 st1 ok, Tr es st k es1 st1 ok ∧ if ok = true then eachR Tr h ks es1 st1 es' st' else es' = es1 ∧ st' = st1 else eachR Tr h ks es st es' st'
def TellOk {σ : Type} (i n h : Nat) (Iv : Nat → σ → Prop) (R : σ → SH) (g : FuncId) (caps : Array Value) (Tr : List Ent → σ → Nat → List Ent → σ → Bool → Prop) : Prop :=
  (∀ m st, Iv (m + 1) st → Iv m st) ∧ ∀ es st k m, es.length = 32 → k < 32 → hit es h k = true → Iv (m + 1) st → WF F X g (.pointer (some ⟨i, k * 3, none⟩) :: caps.toList) (DO i es n :: R st) (fun r H' => ∃ es1 st1 ok, Tr es st k es1 st1 ok ∧ r = .bool ok ∧ H' = DO i es1 n :: R st1 ∧ es1.length = 32 ∧ Iv m st1)
theorem lp_each_1 {σ : Type} {i n h b : Nat} {Iv : Nat → σ → Prop} {R : σ → SH} {g : FuncId} {caps : Array Value} {Tr : List Ent → σ → Nat → List Ent → σ → Bool → Prop} {v13 v14 : Value} (hT : TellOk i n h Iv R g caps Tr) (hh : h < 18446744073709551616) (hb : b < 8) (q : Nat) : ∀ (m s : Nat) (es : List Ent) (st : σ), 4 - s = m → s ≤ 4 → es.length = 32 → Iv (4 - s + q) st →
    WC F X (.loop L_cuckoo_Dir_each_1) [(17, .int .i64 (s : Int)), (7, .int .i64 (b : Int)), (0, .pointer (some ⟨i, 0, none⟩)), (1, .int .u64 (h : Int)), (2, .func (.func g) #[] caps), (13, v13), (14, v14)] (DO i es n :: R st)
      (KPost fun x l' H' => ∃ es' st', H' = DO i es' n :: R st' ∧ es'.length = 32 ∧ ((x = .ret ∧ l' = [] ∧ ∀ ks, eachR Tr h (((List.range 4).drop s).map (b * 4 + ·) ++ ks) es st es' st') ∨ (x = .exit 2 ∧ l' = [(0, .pointer (some ⟨i, 0, none⟩)), (1, .int .u64 (h : Int)), (2, .func (.func g) #[] caps), (13, v13), (14, v14)] ∧ Iv q st' ∧ ∀ ks es2 st2, eachR Tr h ks es' st' es2 st2 → eachR Tr h (((List.range 4).drop s).map (b * 4 + ·) ++ ks) es st es2 st2))) := by
  intro m
  induction m using Nat.strongRecOn with
  | _ m ih =>
    intro s es st hm hs hl hiv
    refine WC_loop (WC_seq (WC_region ?_))
    refine WO_step rfl (S_pure rfl ?_)
    refine WO_nil (KSeq_n (WC_seq ?_))
    refine WC_cond rfl (fun hb1 => ?_) (fun hb1 => ?_)
    ·
     try simp only [bsT] at hb1
     have hdr : (List.range 4).drop s = s :: (List.range 4).drop (s + 1) := by
       have h0 : s = 0 ∨ s = 1 ∨ s = 2 ∨ s = 3 := by omega
       rcases h0 with rfl | rfl | rfl | rfl <;> rfl
     rw [hdr]
     simp only [List.map_cons, List.cons_append, eachR]
     have hiv' : Iv ((4 - (s + 1) + q) + 1) st := by rw [show (4 - (s + 1) + q) + 1 = 4 - s + q by omega]; exact hiv
     refine WC_skip (KSeq_n (WC_seq (WC_block (WC_seq (WC_region ?_)))))
     iterate 2 refine WO_step rfl (S_pure rfl ?_)
     refine WO_nil (KSeq_n (WC_seq (WC_region ?_)))
     iterate 5 refine WO_step rfl (S_pure rfl ?_)
     refine WO_step rfl (S_idxA rfl rfl rfl hb ?_)
     refine WO_step rfl (S_idxAE (o' := (b * 4 + s) * 3) rfl rfl rfl (by omega) (by omega) ?_)
     refine WO_step rfl (S_pure rfl ?_)
     refine WO_nil (KSeq_n (WC_seq (WC_drawn ?_)))
     refine WD_step rfl (S_pure rfl ?_)
     refine WD_step rfl (S_pure rfl ?_)
     refine WD_step rfl (S_pure rfl ?_)
     refine WD_step rfl (S_loadD (k := b * 4 + s) (off := 0) hl rfl .head (by omega) (by omega) rfl ?_)
     refine WD_step rfl (S_pure rfl ?_)
     refine WD_cases (t := 31) rfl (fun hg1 => ?_) (fun hg1 => ?_)
     ·
      try simp only [bsT] at hg1
      refine WD_step rfl (S_pure rfl ?_)
      refine WD_step rfl (S_pure rfl ?_)
      refine WD_step rfl (S_pure rfl ?_)
      refine WD_step rfl (S_loadD (k := b * 4 + s) (off := 2) hl rfl .head (by omega) (by omega) rfl ?_)
      refine WD_step rfl (S_pure rfl ?_)
      refine WD_call rfl rfl rfl ?_
      refine (sp_hTag (by omega)).mono ?_
      rintro _ _ ⟨rfl, rfl⟩
      first | refine WD_step rfl (S_eqS rfl rfl ?_) | refine WD_step rfl (S_pure rfl ?_)
      refine WD_step rfl (S_pure rfl ?_)
      refine WD_step rfl (S_pure rfl ?_)
      refine WD_cases (t := 40) rfl (fun hg2 => ?_) (fun hg2 => ?_)
      ·
       try simp only [bsT] at hg2
       refine WD_step rfl (S_pure rfl ?_)
       refine WD_step rfl (S_pure rfl ?_)
       refine WD_call rfl rfl rfl ?_
       have hhit : hit es h (b * 4 + s) = true := by
         unfold hit; rw [hg1]; simpa using hg2
       refine (hT.2 es st (b * 4 + s) _ hl (by omega) hhit hiv').mono ?_
       rintro _ _ ⟨es1, st1, ok, hTr, rfl, rfl, hl1, hiv1⟩
       refine WD_step rfl (S_pure rfl ?_)
       refine WD_step rfl (S_pure rfl ?_)
       refine WD_nil ?_
       refine ⟨?_, ?_⟩
       ·
        repeat' (first | exact trivial | apply And.intro)
        exact ObR.of_step rfl (S_loadD (k := b * 4 + s) (off := 2) hl rfl .head (by omega) (by omega) rfl (by simp [eqV, eqV0]))
       ·
        refine KSeq_n ?_
        refine WC_cond rfl (fun hb2 => ?_) (fun hb2 => ?_)
        ·
         try simp only [bsT] at hb2
         refine WC_ret (KBlock_r (KSeq_r (KLoop_r ?_)))
         refine KPost_i (l' := []) seA HSub.refl ⟨es1, st1, rfl, hl1, .inl ⟨rfl, rfl, fun ks => ?_⟩⟩
         rw [if_pos hhit]
         exact ⟨es1, st1, ok, hTr, by rw [if_neg (by simpa using hb2)]; exact ⟨rfl, rfl⟩⟩
        ·
         try simp only [bsT] at hb2
         refine WC_skip (KBlock_n (KSeq_n (WC_region ?_)))
         first | refine WO_step rfl (S_addN (b := 1) rfl rfl (by omega) ?_) | refine WO_step rfl (S_pure rfl ?_)
         refine WO_step rfl (S_pure rfl ?_)
         refine WO_nil (KLoop_n ?_)
         refine WC_post (WC_weak (ih (4 - (s + 1)) (by omega) (s + 1) es1 st1 rfl (by omega) hl1 hiv1) seA HSub.refl) ?_
         rintro x l' H' ⟨es', st', rfl, hl', h | h⟩
         · obtain ⟨rfl, rfl, hr⟩ := h
           refine KPost_i (l' := []) seA HSub.refl ⟨es', st', rfl, hl', .inl ⟨rfl, rfl, fun ks => ?_⟩⟩
           rw [if_pos hhit]
           exact ⟨es1, st1, ok, hTr, by rw [if_pos (by simpa using hb2)]; exact hr ks⟩
         · obtain ⟨rfl, rfl, hq, hr⟩ := h
           refine KPost_i seA HSub.refl ⟨es', st', rfl, hl', .inr ⟨rfl, rfl, hq, fun ks es2 st2 h2 => ?_⟩⟩
           rw [if_pos hhit]
           exact ⟨es1, st1, ok, hTr, by rw [if_pos (by simpa using hb2)]; exact hr ks es2 st2 h2⟩
      ·
       try simp only [bsT] at hg2
       refine WD_off rfl ?_
       refine WD_off rfl ?_
       refine WD_off rfl ?_
       refine WD_off rfl ?_
       refine WD_step rfl (S_pure rfl ?_)
       refine WD_nil ?_
       refine ⟨?_, ?_⟩
       ·
        repeat' (first | exact trivial | apply And.intro)
        exact ObR.of_step rfl (S_loadD (k := b * 4 + s) (off := 2) hl rfl .head (by omega) (by omega) rfl (by simp [eqV, eqV0]))
       ·
        refine KSeq_n ?_
        refine WC_cond rfl (fun h => ?_) (fun _ => ?_)
        · exact absurd h (by decide)
        refine WC_skip (KBlock_n (KSeq_n (WC_region ?_)))
        first | refine WO_step rfl (S_addN (b := 1) rfl rfl (by omega) ?_) | refine WO_step rfl (S_pure rfl ?_)
        refine WO_step rfl (S_pure rfl ?_)
        refine WO_nil (KLoop_n ?_)
        have hhit : ¬hit es h (b * 4 + s) = true := by
          unfold hit; rw [hg1]; simpa using hg2
        simp only [hhit, if_false]
        exact WC_weak (ih (4 - (s + 1)) (by omega) (s + 1) es st rfl (by omega) hl (hT.1 _ _ hiv')) seA HSub.refl
     ·
      try simp only [bsT] at hg1
      refine WD_off rfl ?_
      refine WD_off rfl ?_
      refine WD_off rfl ?_
      refine WD_off rfl ?_
      refine WD_off rfl ?_
      refine WD_off rfl ?_
      refine WD_off rfl ?_
      refine WD_step rfl (S_pure rfl ?_)
      refine WD_step rfl (S_pure rfl ?_)
      refine WD_off rfl ?_
      refine WD_off rfl ?_
      refine WD_off rfl ?_
      refine WD_off rfl ?_
      refine WD_step rfl (S_pure rfl ?_)
      refine WD_nil ?_
      refine ⟨?_, ?_⟩
      ·
       repeat' (first | exact trivial | apply And.intro)
       exact ObR.off rfl
      ·
       refine KSeq_n ?_
       refine WC_cond rfl (fun h => ?_) (fun _ => ?_)
       · exact absurd h (by decide)
       refine WC_skip (KBlock_n (KSeq_n (WC_region ?_)))
       first | refine WO_step rfl (S_addN (b := 1) rfl rfl (by omega) ?_) | refine WO_step rfl (S_pure rfl ?_)
       refine WO_step rfl (S_pure rfl ?_)
       refine WO_nil (KLoop_n ?_)
       have hhit : ¬hit es h (b * 4 + s) = true := by
         unfold hit; rw [hg1]; simp
       simp only [hhit, if_false]
       exact WC_weak (ih (4 - (s + 1)) (by omega) (s + 1) es st rfl (by omega) hl (hT.1 _ _ hiv')) seA HSub.refl
    ·
     try simp only [bsT] at hb1
     refine WC_exit (KSeq_x (KLoop_x ?_))
     have e4 : s = 4 := by omega
     subst e4
     exact KPost_i seA HSub.refl ⟨es, st, rfl, hl, .inr ⟨rfl, rfl, by simpa using hiv, fun ks es2 st2 h2 => h2⟩⟩
theorem lp_each_0 {σ : Type} {i n h f o : Nat} {Iv : Nat → σ → Prop} {R : σ → SH} {g : FuncId} {caps : Array Value} {Tr : List Ent → σ → Nat → List Ent → σ → Bool → Prop} (hT : TellOk i n h Iv R g caps Tr) (hh : h < 18446744073709551616) (hf : f < 8) (ho : o < 8) : ∀ (m a : Nat) (es : List Ent) (st : σ), 2 - a = m → a ≤ 2 → es.length = 32 → Iv ((2 - a) * 4) st →
    WC F X (.loop L_cuckoo_Dir_each_0) [(14, .int .i64 (a : Int)), (13, .agg #[.int .i64 (f : Int), .int .i64 (o : Int)]), (0, .pointer (some ⟨i, 0, none⟩)), (1, .int .u64 (h : Int)), (2, .func (.func g) #[] caps)] (DO i es n :: R st)
      (KPost fun x l' H' => ∃ es' st', l' = [] ∧ H' = DO i es' n :: R st' ∧ es'.length = 32 ∧ (x = .ret ∨ x = .exit 0) ∧ eachR Tr h (([f, o].drop a).flatMap fun b => (List.range 4).map (b * 4 + ·)) es st es' st') := by
  intro m
  induction m using Nat.strongRecOn with
  | _ m ih =>
    intro a es st hm ha hl hiv
    refine WC_loop (WC_seq (WC_region ?_))
    refine WO_step rfl (S_pure rfl ?_)
    refine WO_nil (KSeq_n (WC_seq ?_))
    refine WC_cond rfl (fun hb1 => ?_) (fun hb1 => ?_)
    ·
     try simp only [bsT] at hb1
     refine WC_skip (KSeq_n (WC_seq (WC_block (WC_seq (WC_region ?_)))))
     obtain ⟨b, hb, hb8, hdr⟩ : ∃ b : Nat, [Value.int .i64 (f : Int), .int .i64 (o : Int)][a]? = some (.int .i64 (b : Int)) ∧ b < 8 ∧ [f, o].drop a = b :: [f, o].drop (a + 1) := by
       have h0 : a = 0 ∨ a = 1 := by omega
       rcases h0 with rfl | rfl
       · exact ⟨f, rfl, hf, rfl⟩
       · exact ⟨o, rfl, ho, rfl⟩
     rw [hdr, List.flatMap_cons]
     refine WO_step rfl (S_idxPair (v := .int .i64 (b : Int)) rfl rfl rfl hb ?_)
     refine WO_step rfl (S_pure rfl ?_)
     refine WO_nil (KSeq_n (WC_seq (WC_region ?_)))
     refine WO_step rfl (S_pure rfl ?_)
     refine WO_nil (KSeq_n (WC_block ?_))
     refine WC_post (WC_weak (lp_each_1 (v13 := .agg #[.int .i64 (f : Int), .int .i64 (o : Int)]) (v14 := .int .i64 (a : Int)) hT hh hb8 ((2 - (a + 1)) * 4) 4 0 es st (by omega) (by omega) hl (by rw [show 4 - 0 + (2 - (a + 1)) * 4 = (2 - a) * 4 by omega]; exact hiv)) seA HSub.refl) ?_
     rintro x l' H' ⟨es', st', rfl, hl', ⟨rfl, rfl, hr⟩ | ⟨rfl, rfl, hq, hr⟩⟩
     ·
      refine KBlock_r (KBlock_r (KSeq_r (KLoop_r ?_)))
      exact KPost_i (l' := []) seA HSub.refl ⟨es', st', rfl, rfl, hl', .inl rfl, hr _⟩
     ·
      refine KBlock_h (KBlock_n (KSeq_n (WC_region ?_)))
      first | refine WO_step rfl (S_addN (b := 1) rfl rfl (by omega) ?_) | refine WO_step rfl (S_pure rfl ?_)
      refine WO_step rfl (S_pure rfl ?_)
      refine WO_nil (KLoop_n ?_)
      refine WC_post (WC_weak (ih (2 - (a + 1)) (by omega) (a + 1) es' st' rfl (by omega) hl' hq) seA HSub.refl) ?_
      rintro x l' H' ⟨es2, st2, rfl, rfl, hl2, hx, h2⟩
      exact KPost_i (l' := []) seA HSub.refl ⟨es2, st2, rfl, rfl, hl2, hx, hr _ _ _ h2⟩
    ·
     try simp only [bsT] at hb1
     refine WC_exit (KSeq_x (KLoop_x ?_))
     have e2 : a = 2 := by omega
     subst e2
     exact KPost_i (l' := []) seA HSub.refl ⟨es, st, rfl, rfl, hl, .inr rfl, rfl, rfl⟩
theorem sp_each {σ : Type} {i n h : Nat} {Iv : Nat → σ → Prop} {R : σ → SH} {g : FuncId} {caps : Array Value} {Tr : List Ent → σ → Nat → List Ent → σ → Bool → Prop} (hT : TellOk i n h Iv R g caps Tr) (hh : h < 18446744073709551616) {es : List Ent} {st : σ} (hl : es.length = 32) (hiv : Iv 8 st) : WF F X f_cuckoo_Dir_each [.pointer (some ⟨i, 0, none⟩), .int .u64 (h : Int), .func (.func g) #[] caps] (DO i es n :: R st) (fun r H' => ∃ es' st', H' = DO i es' n :: R st' ∧ es'.length = 32 ∧ eachR Tr h (slots h) es st es' st') := by
  refine WF_fn F_cuckoo_Dir_each ?_
  refine WC_seq (WC_seq (WC_region ?_))
  iterate 2 refine WO_step rfl (S_pure rfl ?_)
  refine WO_nil (KSeq_n ?_)
  refine WC_cond rfl (fun hb1 => ?_) (fun hb1 => ?_)
  ·
   try simp only [bsT] at hb1
   exact absurd hb1 (by simp)
   --stop
  ·
   try simp only [bsT] at hb1
   refine WC_skip (KSeq_n (WC_seq (WC_region ?_)))
   refine WO_step rfl (S_pure rfl ?_)
   refine WO_call rfl rfl rfl ?_
   refine (sp_both (by omega)).mono ?_
   rintro _ _ ⟨rfl, rfl⟩
   refine WO_step rfl (S_pure rfl ?_)
   refine WO_nil (KSeq_n (WC_block ?_))
   have hf8 := frst_lt h
   refine WC_post (WC_weak (lp_each_0 hT hh hf8 (oth_lt (t := tagOf h) hf8) 2 0 es st (by omega) (by omega) hl hiv) seA HSub.refl) ?_
   rintro x l' H' ⟨es', st', rfl, rfl, hl', hx, hr⟩
   rcases hx with rfl | rfl
   ·
    refine KBlock_r ?_
    refine KFn_r ResL.nil ?_
    exact ⟨_, HSub.refl, es', st', rfl, hl', hr⟩
   ·
    refine KBlock_h ?_
    refine KFn_n ResL.nil ?_
    exact ⟨_, HSub.refl, es', st', rfl, hl', hr⟩
def ISor (l : List Int) : Prop := l.Pairwise (· ≤ ·)
theorem isor_ins {A B : List Int} {x : Int} (h : ISor (A ++ B)) (hA : ∀ y ∈ A, y ≤ x) (hB : ∀ y ∈ B, x ≤ y) : ISor (A ++ x :: B) := by
  unfold ISor at *
  rw [List.pairwise_append] at h ⊢
  refine ⟨h.1, List.pairwise_cons.2 ⟨hB, h.2.1⟩, fun a ha b hb => ?_⟩
  rcases List.mem_cons.1 hb with rfl | hb
  · exact hA a ha
  · exact h.2.2 a ha b hb
theorem isor_last {A : List Int} {y x : Int} (h : ISor (A ++ [y])) (hy : y ≤ x) : ∀ z ∈ A ++ [y], z ≤ x := by
  unfold ISor at h
  rw [List.pairwise_append] at h
  intro z hz
  rcases List.mem_append.1 hz with hz | hz
  · exact Int.le_trans (h.2.2 z hz y (by simp)) hy
  · simp at hz; subst hz; exact hy
theorem snoc_of_pos {α : Type} {A : List α} (h : 0 < A.length) : ∃ B y, A = B ++ [y] := by
  have hne : A ≠ [] := by intro e; rw [e] at h; exact absurd h (by simp)
  exact ⟨A.dropLast, A.getLast hne, (List.dropLast_concat_getLast hne).symm⟩
theorem sp_isNaN {H : SH} {a : Int} : WF F X f_cmp_isNaN_int [.int .i64 a] H (fun r H' => H' = H ∧ r = .bool false) := by
  refine WF_fn F_cmp_isNaN_int ?_
  refine WC_seq (WC_region ?_)
  refine WO_step rfl (S_pure rfl ?_)
  refine WO_nil (KSeq_n (WC_seq (WC_region ?_)))
  iterate 2 refine WO_step rfl (S_pure rfl ?_)
  first | refine WO_step rfl (S_neS rfl rfl ?_) | refine WO_step rfl (S_pure rfl ?_)
  refine WO_step rfl (S_pure rfl ?_)
  refine WO_nil (KSeq_n (WC_ret ?_))
  refine KFn_r (ResL.tmp rfl ResL.nil) ?_
  exact ⟨_, HSub.refl, rfl, by simp [resV]⟩
theorem sp_Less {H : SH} {a b : Int} : WF F X f_cmp_Less_int [.int .i64 a, .int .i64 b] H (fun r H' => H' = H ∧ r = .bool (decide (a < b))) := by
  refine WF_fn F_cmp_Less_int ?_
  refine WC_seq (WC_region ?_)
  refine WO_step rfl (S_pure rfl ?_)
  refine WO_nil (KSeq_n (WC_seq (WC_region ?_)))
  refine WO_step rfl (S_pure rfl ?_)
  refine WO_call rfl rfl rfl ?_
  refine sp_isNaN.mono ?_
  rintro _ _ ⟨rfl, rfl⟩
  refine WO_step rfl (S_pure rfl ?_)
  refine WO_cases (t := 7) rfl (fun hg1 => ?_) (fun hg1 => ?_)
  ·
   try simp only [bsT] at hg1
   exact absurd hg1 (by simp)
   --stop
  ·
   try simp only [bsT] at hg1
   iterate 3 refine WO_off rfl ?_
   iterate 7 refine WO_step rfl (S_pure rfl ?_)
   refine WO_nil (KSeq_n (WC_ret ?_))
   refine KFn_r (ResL.tmp rfl ResL.nil) ?_
   exact ⟨_, hsA, rfl, rfl⟩
theorem lp_is_1 {H : SH} {w : SV} {x : Int} {Q : List Int} (v6 : Value) (N : Nat) (hN : N ≤ 1000) : ∀ (n : Nat) (A B : List Int), A.length = n → A.length + B.length + Q.length + 1 ≤ 1000 → ISor (A ++ B) → (∀ y ∈ B, x ≤ y) →
    WC F X (.loop L_slices_insertionSortOrdered_int_1) [(7, .int .i64 (A.length : Int)), (1, .int .i64 0), (2, .int .i64 (N : Int)), (0, w.toV), (6, v6)] (SL w.toV TInt (A ++ x :: B ++ Q) :: H)
      (KPost fun y l' H' => ∃ A' B', y = .exit 2 ∧ l' = [(1, .int .i64 0), (2, .int .i64 (N : Int)), (0, w.toV), (6, v6)] ∧ H' = SL w.toV TInt (A' ++ x :: B' ++ Q) :: H ∧ A' ++ B' = A ++ B ∧ ISor (A' ++ x :: B')) := by
  intro n
  induction n using Nat.strongRecOn with
  | _ n ih =>
    intro A B hn hl hs hB
    refine WC_loop (WC_seq (WC_seq (WC_region ?_)))
    iterate 4 refine WO_step rfl (S_pure rfl ?_)
    refine WO_cases (t := 19) rfl (fun hg1 => ?_) (fun hg1 => ?_)
    ·
     try simp only [bsT] at hg1
     obtain ⟨A, y, rfl⟩ := snoc_of_pos (A := A) (by omega)
     simp only [List.length_append, List.length_cons, List.length_nil] at *
     have hx : (A ++ [y] ++ x :: B ++ Q)[A.length + (0 + 1)]? = some x := by simp
     have hy : (A ++ [y] ++ x :: B ++ Q)[A.length + (0 + 1) - 1]? = some y := by simp
     iterate 2 refine WO_step rfl (S_pure rfl ?_)
     refine WO_step rfl (S_idx rfl rfl rdA (by first | rfl | assumption | (symm; assumption)) (by rfl) (by first | assumption | omega | exact lt_of_get (by assumption) | (simp only [List.length_set]; first | assumption | omega | exact lt_of_get (by assumption))) fun hp22 => ?_)
     refine WO_step rfl (S_loadE rfl rdA (by first | rfl | assumption | (symm; assumption)) (by first | rfl | assumption | (symm; assumption)) (by first | rfl | assumption | (symm; assumption)) (by assumption) ?_)
     iterate 2 refine WO_step rfl (S_pure rfl ?_)
     first | refine WO_step rfl (S_subN (b := 1) rfl rfl (by omega) ?_) | refine WO_step rfl (S_pure rfl ?_)
     refine WO_step rfl (S_idx rfl rfl rdA (by first | rfl | assumption | (symm; assumption)) (by rfl) (by first | assumption | omega | exact lt_of_get (by assumption) | (simp only [List.length_set]; first | assumption | omega | exact lt_of_get (by assumption))) fun hp27 => ?_)
     refine WO_step rfl (S_loadE rfl rdA (by first | rfl | assumption | (symm; assumption)) (by first | rfl | assumption | (symm; assumption)) (by first | rfl | assumption | (symm; assumption)) (by assumption) ?_)
     refine WO_call rfl rfl rfl ?_
     refine sp_Less.mono ?_
     rintro _ _ ⟨rfl, rfl⟩
     refine WO_step rfl (S_pure rfl ?_)
     refine WO_nil (KSeq_n ?_)
     refine WC_cond rfl (fun hb1 => ?_) (fun hb1 => ?_)
     ·
      try simp only [bsT] at hb1
      refine WC_skip (KSeq_n (WC_seq (WC_block (WC_region ?_))))
      iterate 4 refine WO_step rfl (S_pure rfl ?_)
      first | refine WO_step rfl (S_subN (b := 1) rfl rfl (by omega) ?_) | refine WO_step rfl (S_pure rfl ?_)
      iterate 2 refine WO_step rfl (S_pure rfl ?_)
      first | refine WO_step rfl (S_subN (b := 1) rfl rfl (by omega) ?_) | refine WO_step rfl (S_pure rfl ?_)
      refine WO_step rfl (S_idx rfl rfl rdA (by first | rfl | assumption | (symm; assumption)) (by rfl) (by first | assumption | omega | exact lt_of_get (by assumption) | (simp only [List.length_set]; first | assumption | omega | exact lt_of_get (by assumption))) fun hp41 => ?_)
      refine WO_step rfl (S_loadE rfl rdA (by first | rfl | assumption | (symm; assumption)) (by first | rfl | assumption | (symm; assumption)) (by first | rfl | assumption | (symm; assumption)) (by assumption) ?_)
      iterate 2 refine WO_step rfl (S_pure rfl ?_)
      refine WO_step rfl (S_idx rfl rfl rdA (by first | rfl | assumption | (symm; assumption)) (by rfl) (by first | assumption | omega | exact lt_of_get (by assumption) | (simp only [List.length_set]; first | assumption | omega | exact lt_of_get (by assumption))) fun hp45 => ?_)
      refine WO_step rfl (S_loadE rfl rdA (by first | rfl | assumption | (symm; assumption)) (by first | rfl | assumption | (symm; assumption)) (by first | rfl | assumption | (symm; assumption)) (by assumption) ?_)
      refine WO_step rfl (S_idx rfl rfl rdA (by first | rfl | assumption | (symm; assumption)) (by rfl) (by first | assumption | omega | exact lt_of_get (by assumption) | (simp only [List.length_set]; first | assumption | omega | exact lt_of_get (by assumption))) fun hp47 => ?_)
      refine WO_step rfl (S_storeW rfl rfl pkA (by first | rfl | assumption | (symm; assumption)) (by rfl) (by first | rfl | assumption | (symm; assumption)) (by first | assumption | omega | exact lt_of_get (by assumption) | (simp only [List.length_set]; first | assumption | omega | exact lt_of_get (by assumption))) ?_)
      refine WO_step rfl (S_idx rfl rfl rdA (by first | rfl | assumption | (symm; assumption)) (by rfl) (by first | assumption | omega | exact lt_of_get (by assumption) | (simp only [List.length_set]; first | assumption | omega | exact lt_of_get (by assumption))) fun hp48 => ?_)
      refine WO_step rfl (S_storeW rfl rfl pkA (by first | rfl | assumption | (symm; assumption)) (by rfl) (by first | rfl | assumption | (symm; assumption)) (by first | assumption | omega | exact lt_of_get (by assumption) | (simp only [List.length_set]; first | assumption | omega | exact lt_of_get (by assumption))) ?_)
      refine WO_nil (KBlock_n (KSeq_n (WC_region ?_)))
      refine WO_step rfl (S_pure rfl ?_)
      first | refine WO_step rfl (S_subN (b := 1) rfl rfl (by omega) ?_) | refine WO_step rfl (S_pure rfl ?_)
      refine WO_step rfl (S_pure rfl ?_)
      refine WO_nil (KLoop_n ?_)
      have e : ((A ++ [y] ++ x :: B ++ Q).set (A.length + (0 + 1)) y).set (A.length + (0 + 1) - 1) x = A ++ x :: (y :: B) ++ Q := by simp
      rw [e]
      refine WC_post (WC_weak (ih A.length (by omega) A (y :: B) rfl (by simp only [List.length_cons]; omega) (by simpa using hs) (fun z hz => ?_)) seA hsA) ?_
      · rcases List.mem_cons.1 hz with rfl | hz
        · omega
        · exact hB z hz
      · rintro u l' H' ⟨A', B', rfl, rfl, rfl, h1, h2⟩
        exact KPost_i seA hsA ⟨A', B', rfl, rfl, rfl, by rw [h1]; simp, h2⟩
     ·
      try simp only [bsT] at hb1
      refine WC_exit (KSeq_x (KLoop_x ?_))
      refine KPost_i (l' := [(1, .int .i64 0), (2, .int .i64 (N : Int)), (0, w.toV), (6, v6)]) seA hsA ⟨A ++ [y], B, rfl, rfl, rfl, rfl, isor_ins hs (isor_last (List.pairwise_append.1 hs).1 (by omega)) hB⟩
    ·
     try simp only [bsT] at hg1
     iterate 10 refine WO_off rfl ?_
     refine WO_step rfl (S_pure rfl ?_)
     refine WO_nil (KSeq_n ?_)
     refine WC_cond rfl (fun h => ?_) (fun _ => ?_)
     · exact absurd h (by decide)
     refine WC_exit (KSeq_x (KLoop_x ?_))
     have hA : A = [] := List.length_eq_zero_iff.1 (by omega)
     subst hA
     exact KPost_i seA hsA ⟨[], B, rfl, rfl, rfl, rfl, isor_ins hs (by simp) hB⟩
theorem lp_is_0 {H : SH} {w : SV} {L : List Int} (hL : L.length ≤ 1000) : ∀ (n i : Nat) (P Q : List Int), L.length - i = n → (P.length = i ∧ 0 < i) ∨ (L = [] ∧ i = 1) → ISor P → (P ++ Q).Perm L →
    WC F X (.loop L_slices_insertionSortOrdered_int_0) [(6, .int .i64 (i : Int)), (1, .int .i64 0), (2, .int .i64 (L.length : Int)), (0, w.toV)] (SL w.toV TInt (P ++ Q) :: H)
      (KPost fun y l' H' => ∃ L', y = .exit 0 ∧ l' = [] ∧ H' = SL w.toV TInt L' :: H ∧ ISor L' ∧ L'.Perm L) := by
  intro n
  induction n using Nat.strongRecOn with
  | _ n ih =>
    intro i P Q hn hi hs hp
    have hpl := hp.length_eq
    rw [List.length_append] at hpl
    refine WC_loop (WC_seq (WC_seq (WC_region ?_)))
    iterate 3 refine WO_step rfl (S_pure rfl ?_)
    refine WO_nil (KSeq_n ?_)
    refine WC_cond rfl (fun hb1 => ?_) (fun hb1 => ?_)
    ·
     try simp only [bsT] at hb1
     have hi : P.length = i ∧ 0 < i := by
       rcases hi with hi | ⟨rfl, rfl⟩
       · exact hi
       · exact absurd hb1 (by simp)
     obtain ⟨x, Q, rfl⟩ : ∃ x Q', Q = x :: Q' := by
       cases Q with
       | nil => rw [List.length_nil] at hpl; omega
       | cons x Q => exact ⟨x, Q, rfl⟩
     rw [List.length_cons] at hpl
     refine WC_skip (KSeq_n (WC_seq (WC_block (WC_seq (WC_region ?_)))))
     iterate 2 refine WO_step rfl (S_pure rfl ?_)
     refine WO_nil (KSeq_n (WC_block ?_))
     have e0 : P ++ x :: Q = P ++ x :: [] ++ Q := by simp
     rw [e0]
     refine WC_post (WC_weak (lp_is_1 (x := x) (Q := Q) (w := w) (H := H) (.int .i64 (i : Int)) L.length hL P.length P [] rfl (by simp only [List.length_nil]; omega) (by simpa using hs) (by simp)) (by rw [hi.1]; exact seA) hsA) ?_
     rintro y l' H' ⟨A', B', rfl, rfl, rfl, h1, h2⟩
     refine KBlock_h (KBlock_n (KSeq_n (WC_region ?_)))
     refine WO_step rfl (S_pure rfl ?_)
     first | refine WO_step rfl (S_addN (b := 1) rfl rfl (by omega) ?_) | refine WO_step rfl (S_pure rfl ?_)
     refine WO_step rfl (S_pure rfl ?_)
     refine WO_nil (KLoop_n ?_)
     refine WC_weak (ih (L.length - (i + 1)) (by omega) (i + 1) (A' ++ x :: B') Q rfl (.inl ⟨?_, by omega⟩) h2 ?_) seA hsA
     · have := congrArg List.length h1
       simp only [List.length_append, List.length_cons, List.length_nil] at this ⊢
       omega
     · refine List.Perm.trans ?_ hp
       rw [e0]
       refine List.Perm.append_right Q ?_
       refine (List.perm_middle.trans ?_).trans List.perm_middle.symm
       rw [h1]
    ·
     try simp only [bsT] at hb1
     refine WC_exit (KSeq_x (KLoop_x ?_))
     refine KPost_i seA hsA ⟨P ++ Q, rfl, rfl, rfl, ?_, hp⟩
     rcases hi with hi | ⟨rfl, rfl⟩
     · have hQ : Q = [] := List.length_eq_zero_iff.1 (by omega)
       rw [hQ, List.append_nil]; exact hs
     · rw [List.Perm.eq_nil hp]; exact List.Pairwise.nil
theorem sp_is {H H0 : SH} {w : SV} {L : List Int} (hp : Pick (SL w.toV TInt L) H H0) (hL : L.length ≤ 1000) : WF F X f_slices_insertionSortOrdered_int [w.toV, .int .i64 0, .int .i64 (L.length : Int)] H (fun r H' => ∃ L', H' = SL w.toV TInt L' :: H0 ∧ ISor L' ∧ L'.Perm L) := by
  refine WF.weak ?_ hp.sub
  refine WF_fn F_slices_insertionSortOrdered_int ?_
  refine WC_seq (WC_region ?_)
  refine WO_step rfl (S_pure rfl ?_)
  first | refine WO_step rfl (S_addN (b := 1) rfl rfl (by omega) ?_) | refine WO_step rfl (S_pure rfl ?_)
  refine WO_step rfl (S_pure rfl ?_)
  refine WO_nil (KSeq_n (WC_block ?_))
  obtain ⟨P, Q, hPQ, hP, hsP⟩ : ∃ P Q, L = P ++ Q ∧ ((P.length = 1 ∧ 0 < 1) ∨ (L = [] ∧ 1 = 1)) ∧ ISor P := by
    cases L with
    | nil => exact ⟨[], [], rfl, .inr ⟨rfl, rfl⟩, List.Pairwise.nil⟩
    | cons x L => exact ⟨[x], L, rfl, .inl ⟨rfl, by omega⟩, List.pairwise_singleton _ _⟩
  refine WC_post (WC_weak (lp_is_0 (H := H0) (w := w) hL (L.length - 1) 1 P Q rfl hP hsP (by rw [← hPQ])) seA (by rw [← hPQ]; exact HSub.refl)) ?_
  rintro y l' H' ⟨L', rfl, rfl, rfl, h1, h2⟩
  refine KBlock_h ?_
  refine KFn_n ResL.nil ?_
  exact ⟨_, HSub.refl, L', rfl, h1, h2⟩
theorem S_idxSx {l : SE} {H : SH} {K : Value → SH → Prop} {s : ByteArray} {x i : Opd} {kd : IntKind} {J : Int} {j : Nat} (hx : x.lv l = some (.string s)) (hi : i.lv l = some (.int kd J)) (hJ : J = (j : Int)) (hj : j < s.data.toList.length) (k : ∀ b : UInt8, K (.int .u8 ((b.toNat : Nat) : Int)) H) : Step (.idxS x i) l H K := by
  obtain ⟨b, hb⟩ := get_of_lt hj
  exact S_idxS hx hi hJ hb (k b)
theorem S_toBn {l : SE} {H : SH} {K : Value → SH → Prop} {x : Opd} {a : Nat} {kd : IntKind} (hx : x.lv l = some (.int kd (a : Int))) (k : K (.int .u8 ((a % 256 : Nat) : Int)) H) : Step (.conv .u8 x) l H K :=
  S_pureE (v := .int .u8 (IntKind.wrap .u8 (a : Int))) (by simp only [pev, hx]) (by rw [wrapB]; rfl) k
theorem sp_Len64 {H : SH} {n : Nat} (hn : n < 256) : WF F X f_math_bits_Len64 [.int .u64 (n : Int)] H (fun r H' => H' = H ∧ ∃ v : Int, r = .int .i64 v) := by
  refine WF_fn F_math_bits_Len64 ?_
  refine WC_seq (WC_region ?_)
  refine WO_step rfl (S_pure rfl ?_)
  refine WO_nil (KSeq_n (WC_seq (WC_seq (WC_region ?_))))
  iterate 2 refine WO_step rfl (S_pure rfl ?_)
  refine WO_nil (KSeq_n ?_)
  refine WC_cond rfl (fun hb1 => ?_) (fun hb1 => ?_)
  ·
   try simp only [bsT] at hb1
   exfalso; omega
   --stop
  ·
   try simp only [bsT] at hb1
   refine WC_skip (KSeq_n (WC_seq (WC_seq (WC_region ?_))))
   iterate 2 refine WO_step rfl (S_pure rfl ?_)
   refine WO_nil (KSeq_n ?_)
   refine WC_cond rfl (fun hb2 => ?_) (fun hb2 => ?_)
   ·
    try simp only [bsT] at hb2
    exfalso; omega
    --stop
   ·
    try simp only [bsT] at hb2
    refine WC_skip (KSeq_n (WC_seq (WC_seq (WC_region ?_))))
    iterate 2 refine WO_step rfl (S_pure rfl ?_)
    refine WO_nil (KSeq_n ?_)
    refine WC_cond rfl (fun hb3 => ?_) (fun hb3 => ?_)
    ·
     try simp only [bsT] at hb3
     exfalso; omega
     --stop
    ·
     try simp only [bsT] at hb3
     refine WC_skip (KSeq_n (WC_seq (WC_region ?_)))
     iterate 2 refine WO_step rfl (S_pure rfl ?_)
     refine WO_step rfl (S_toBn rfl ?_)
     refine WO_step rfl (S_idxSx rfl rfl rfl (Nat.lt_of_lt_of_le (Nat.mod_lt n (by omega)) (Nat.le_of_ble_eq_true rfl)) fun b => ?_)
     first | refine WO_step rfl (S_toI rfl (by omega) ?_) | refine WO_step rfl (S_pure rfl ?_)
     first | refine WO_step rfl (S_addN rfl rfl (by omega) ?_) | refine WO_step rfl (S_pure rfl ?_)
     refine WO_step rfl (S_pure rfl ?_)
     refine WO_nil (KSeq_n (WC_ret ?_))
     refine KFn_r (ResL.tmp rfl ResL.nil) ?_
     exact ⟨_, HSub.refl, rfl, _, rfl⟩
theorem sp_Len0 {H : SH} {n : Nat} (hn : n < 256) : WF F X f_math_bits_Len [.int .u64 (n : Int)] H (fun r H' => H' = H ∧ ∃ v : Int, r = .int .i64 v) := by
  refine WF_fn F_math_bits_Len ?_
  refine WC_seq (WC_region ?_)
  refine WO_step rfl (S_pure rfl ?_)
  refine WO_nil (KSeq_n (WC_seq ?_))
  refine WC_cond rfl (fun hb1 => ?_) (fun hb1 => ?_)
  ·
   try simp only [bsT] at hb1
   exact absurd hb1 (by simp)
   --stop
  ·
   try simp only [bsT] at hb1
   refine WC_skip (KSeq_n (WC_seq (WC_region ?_)))
   refine WO_step rfl (S_pure rfl ?_)
   refine WO_call rfl rfl rfl ?_
   refine (sp_Len64 (by omega)).mono ?_
   rintro _ _ ⟨rfl, n7, rfl⟩
   refine WO_step rfl (S_pure rfl ?_)
   refine WO_nil (KSeq_n (WC_ret ?_))
   refine KFn_r (ResL.tmp rfl ResL.nil) ?_
   exact ⟨_, HSub.refl, rfl, _, rfl⟩
theorem lp_pdq {H H0 : SH} {w : SV} {L : List Int} {v : Int} (hp : Pick (SL w.toV TInt L) H H0) (hL : L.length ≤ 12) :
    WC F X (.loop L_slices_pdqsortOrdered_int_0) [(0, w.toV), (1, .int .i64 0), (2, .int .i64 (L.length : Int)), (3, .int .i64 v), (8, .bool true), (9, .bool true)] H (KPost fun x l' H' => x = .ret ∧ l' = [] ∧ ∃ L', H' = SL w.toV TInt L' :: H0 ∧ ISor L' ∧ L'.Perm L) := by
  refine WC_loop (WC_block (WC_seq (WC_region ?_)))
  iterate 2 refine WO_step rfl (S_pure rfl ?_)
  refine WO_step rfl (S_subN (a := L.length) (b := 0) rfl rfl (by omega) ?_)
  refine WO_step rfl (S_pure rfl ?_)
  refine WO_nil (KSeq_n (WC_seq (WC_seq (WC_region ?_))))
  iterate 2 refine WO_step rfl (S_pure rfl ?_)
  refine WO_nil (KSeq_n ?_)
  refine WC_cond rfl (fun hb1 => ?_) (fun hb1 => ?_)
  ·
   try simp only [bsT] at hb1
   refine WC_seq (WC_region ?_)
   iterate 3 refine WO_step rfl (S_pure rfl ?_)
   refine WO_call rfl rfl rfl ?_
   refine (sp_is hp (by omega)).mono ?_
   rintro _ _ ⟨L', rfl, h1, h2⟩
   refine WO_nil (KSeq_n (WC_ret (KSeq_r (KBlock_r (KLoop_r ?_)))))
   exact KPost_i seA hsA ⟨rfl, rfl, L', rfl, h1, h2⟩
  ·
   try simp only [bsT] at hb1
   exfalso; omega
   --stop
theorem sp_pdq {H H0 : SH} {w : SV} {L : List Int} {v : Int} (hp : Pick (SL w.toV TInt L) H H0) (hL : L.length ≤ 12) : WF F X f_slices_pdqsortOrdered_int [w.toV, .int .i64 0, .int .i64 (L.length : Int), .int .i64 v] H (fun r H' => ∃ L', H' = SL w.toV TInt L' :: H0 ∧ ISor L' ∧ L'.Perm L) := by
  refine WF_fn F_slices_pdqsortOrdered_int ?_
  refine WC_seq (WC_region ?_)
  refine WO_step rfl (S_pure rfl ?_)
  refine WO_nil (KSeq_n (WC_seq (WC_region ?_)))
  refine WO_step rfl (S_pure rfl ?_)
  refine WO_nil (KSeq_n (WC_block ?_))
  refine WC_post (WC_weak (lp_pdq (v := v) hp hL) seA hsA) ?_
  rintro y l' H' ⟨rfl, rfl, L', rfl, h1, h2⟩
  refine KBlock_r ?_
  refine KFn_r ResL.nil ?_
  exact ⟨_, HSub.refl, L', rfl, h1, h2⟩
theorem sp_Sort {H H0 : SH} {w : SV} {L : List Int} (hp : Pick (SL w.toV TInt L) H H0) (hL : L.length ≤ 12) : WF F X f_slices_Sort_int [w.toV] H (fun r H' => ∃ L', H' = SL w.toV TInt L' :: H0 ∧ ISor L' ∧ L'.Perm L) := by
  have hrd := RD.pick hp
  refine WF_fn F_slices_Sort_int ?_
  refine WC_seq (WC_region ?_)
  refine WO_step rfl (S_pure rfl ?_)
  first | refine WO_step rfl (S_pure rfl ?_) | refine WO_step rfl (S_lenS rfl rdA ?_)
  refine WO_step rfl (S_pure rfl ?_)
  refine WO_nil (KSeq_n (WC_region ?_))
  iterate 3 refine WO_step rfl (S_pure rfl ?_)
  first | refine WO_step rfl (S_toU rfl (by omega) ?_) | refine WO_step rfl (S_pure rfl ?_)
  refine WO_call rfl rfl rfl ?_
  refine (sp_Len0 (by omega)).mono ?_
  rintro _ _ ⟨rfl, n9, rfl⟩
  refine WO_call rfl rfl rfl ?_
  refine (sp_pdq hp hL).mono ?_
  rintro _ _ ⟨L', rfl, h1, h2⟩
  refine WO_nil ?_
  refine KFn_n ResL.nil ?_
  exact ⟨_, HSub.refl, L', rfl, h1, h2⟩
def FindTr (es : List Ent) (st : SV × List Int) (k : Nat) (es1 : List Ent) (st1 : SV × List Int) (ok : Bool) : Prop := es1 = es ∧ st1.2 = st.2 ++ [(at' es k).id] ∧ ok = true
theorem find_each {h : Nat} : ∀ {ks : List Nat} {es : List Ent} {st : SV × List Int} {es' : List Ent} {st' : SV × List Int}, eachR FindTr h ks es st es' st' → es' = es ∧ st'.2 = st.2 ++ ((ks.filter (hit es h)).map fun k => (at' es k).id)
  | [], es, st, es', st', hr => by
    obtain ⟨rfl, rfl⟩ := hr
    exact ⟨rfl, by simp⟩
  | k :: ks, es, st, es', st', hr => by
    unfold eachR at hr
    split at hr
    · rename_i hh
      obtain ⟨es1, st1, ok, ⟨rfl, h2, rfl⟩, h4⟩ := hr
      rw [if_pos rfl] at h4
      obtain ⟨rfl, h5⟩ := find_each h4
      exact ⟨rfl, by rw [h5, h2, List.filter_cons, if_pos hh]; simp⟩
    · rename_i hh
      obtain ⟨rfl, h5⟩ := find_each hr
      exact ⟨rfl, by rw [h5, List.filter_cons, if_neg hh]⟩
theorem foundL_len (es : List Ent) (h : Nat) : (foundL es h).length ≤ 8 := by
  unfold foundL
  rw [List.length_map]
  exact Nat.le_trans (List.length_filter_le _ _) (by simp [slots])
theorem sp_find1 {H : SH} {i n k i5 : Nat} {es : List Ent} {w : SV} {l : List Int} (hl : es.length = 32) (hk : k < 32) (hb : l.length ≤ 100) : WF F X f_cuckoo_Dir_Find_1 [.pointer (some ⟨i, k * 3, none⟩), .pointer (some ⟨i5, 0, none⟩)] (DO i es n :: OB i5 TSV w :: SL w.toV TInt l :: H) (fun r H' => ∃ w', r = .bool true ∧ H' = DO i es n :: OB i5 TSV w' :: SL w'.toV TInt (l ++ [(at' es k).id]) :: H) := by
  refine WF_fn F_cuckoo_Dir_Find_1 ?_
  refine WC_seq (WC_region ?_)
  refine WO_step rfl (S_pure rfl ?_)
  refine WO_nil (KSeq_n (WC_seq (WC_region ?_)))
  refine WO_step rfl (S_loadO rfl pkA (by rfl) (by rfl) ?_)
  iterate 3 refine WO_step rfl (S_pure rfl ?_)
  refine WO_step rfl (S_loadD (k := k) (off := 1) hl rfl .head rfl hk rfl ?_)
  refine WO_step rfl (S_lit1 (T := TInt) rfl rfl rfl rfl fun w9 => ?_)
  refine WO_step rfl (S_app rfl rfl pkA (by first | exact SRC.str rfl rfl | (apply RD.src; repeat (first | assumption | exact RD.head | exact RD.nil | apply RD.tail))) (by rfl) (by rfl) (by (try simp only [List.length_append, List.length_cons, List.length_nil]); omega) fun w10 => ?_)
  refine WO_step rfl (S_storeT (T := TSV) (y := w10) rfl rfl pkA (by rfl) (by rfl) ?_)
  refine WO_nil (KSeq_n (WC_seq (WC_region ?_)))
  refine WO_step rfl (S_pure rfl ?_)
  refine WO_nil (KSeq_n (WC_ret ?_))
  refine KFn_r (ResL.tmp rfl ResL.nil) ?_
  exact ⟨_, hsA, w10, rfl, rfl⟩
def FindIv (m : Nat) (st : SV × List Int) : Prop := st.2.length + m ≤ 8
theorem find_tell {H : SH} {i n h i5 : Nat} : TellOk i n h FindIv (fun st => OB i5 TSV st.1 :: SL st.1.toV TInt st.2 :: H) f_cuckoo_Dir_Find_1 #[.pointer (some ⟨i5, 0, none⟩)] FindTr := by
  refine ⟨fun m st h => by unfold FindIv at *; omega, fun es st k m hl hk hh hiv => ?_⟩
  obtain ⟨w, l⟩ := st
  unfold FindIv at hiv
  simp only at hiv
  refine (sp_find1 (i5 := i5) (w := w) (l := l) (H := H) (n := n) hl hk (by omega)).mono ?_
  rintro _ _ ⟨w', rfl, rfl⟩
  exact ⟨es, (w', l ++ [(at' es k).id]), true, ⟨rfl, rfl, rfl⟩, rfl, rfl, hl, by unfold FindIv; simp only [List.length_append, List.length_cons, List.length_nil]; omega⟩
theorem sp_DFind {H H0 : SH} {i n h : Nat} {es : List Ent} (hl : es.length = 32) (hp : Pick (DO i es n) H H0) (hh : h < 18446744073709551616) : WF F X f_cuckoo_Dir_Find [.pointer (some ⟨i, 0, none⟩), .int .u64 (h : Int)] H (fun r H' => ∃ (w : SV) (L : List Int), r = w.toV ∧ H' = SL w.toV TInt L :: DO i es n :: H0 ∧ ISor L ∧ L.Perm (foundL es h)) := by
  refine WF.weak ?_ hp.sub
  refine WF_fn F_cuckoo_Dir_Find ?_
  refine WC_seq (WC_region ?_)
  refine WO_step rfl (S_pure rfl ?_)
  refine WO_nil (KSeq_n (WC_seq (WC_region ?_)))
  refine WO_step rfl (S_newT TSV .nil rfl rfl fun i5 => ?_)
  refine WO_nil (KSeq_n (WC_seq (WC_region ?_)))
  iterate 3 refine WO_step rfl (S_pure rfl ?_)
  refine WO_call rfl rfl rfl ?_
  refine WF_addNil (T := TInt) ?_
  refine (WF.weak (sp_each (i := i) (n := n) (h := h) (find_tell (H := H0) (i5 := i5)) hh (es := es) (st := (.nil, [])) hl (by unfold FindIv; simp)) hsA).mono ?_
  rintro _ _ ⟨es', st', rfl, hl', hr⟩
  obtain ⟨rfl, hL⟩ := find_each hr
  obtain ⟨w', L'⟩ := st'
  simp only [List.nil_append] at hL
  have hL8 := foundL_len es' h
  have hLe : L' = foundL es' h := hL
  subst hLe
  refine WO_nil (KSeq_n (WC_seq (WC_region ?_)))
  refine WO_step rfl (S_loadO rfl pkA (by rfl) (by rfl) ?_)
  refine WO_call rfl rfl rfl ?_
  refine (sp_Sort (L := foundL es' h) pkA (by omega)).mono ?_
  rintro _ _ ⟨L2, rfl, h1, h2⟩
  refine WO_nil (KSeq_n (WC_seq (WC_region ?_)))
  refine WO_step rfl (S_loadO rfl pkA (by rfl) (by rfl) ?_)
  refine WO_step rfl (S_pure rfl ?_)
  refine WO_nil (KSeq_n (WC_ret ?_))
  refine KFn_r (ResL.tmp rfl ResL.nil) ?_
  exact ⟨_, hsA, w', L2, rfl, rfl, h1, h2⟩
theorem sp_At {H H0 : SH} {i n b s : Nat} {es : List Ent} (hl : es.length = 32) (hp : Pick (DO i es n) H H0) (hb : b < 8) (hs : s < 4) : WF F X f_cuckoo_Dir_At [.pointer (some ⟨i, 0, none⟩), .int .i64 (b : Int), .int .i64 (s : Int)] H (fun r H' => H' = H ∧ r = .tuple #[.int .i64 (at' es (b * 4 + s)).id, .int .i64 ((at' es (b * 4 + s)).tag : Int), .bool (at' es (b * 4 + s)).has]) := by
  refine WF_fn F_cuckoo_Dir_At ?_
  refine WC_seq (WC_region ?_)
  iterate 3 refine WO_step rfl (S_pure rfl ?_)
  refine WO_nil (KSeq_n (WC_seq (WC_seq (WC_region ?_))))
  iterate 3 refine WO_step rfl (S_pure rfl ?_)
  refine WO_cases (t := 12) rfl (fun hg1 => ?_) (fun hg1 => ?_)
  ·
   try simp only [bsT] at hg1
   exact absurd hg1 (by simp)
   --stop
  ·
   try simp only [bsT] at hg1
   iterate 4 refine WO_step rfl (S_pure rfl ?_)
   refine WO_cases (t := 16) rfl (fun hg2 => ?_) (fun hg2 => ?_)
   ·
    try simp only [bsT] at hg2
    exfalso; omega
    --stop
   ·
    try simp only [bsT] at hg2
    iterate 4 refine WO_step rfl (S_pure rfl ?_)
    refine WO_cases (t := 20) rfl (fun hg3 => ?_) (fun hg3 => ?_)
    ·
     try simp only [bsT] at hg3
     exfalso; omega
     --stop
    ·
     try simp only [bsT] at hg3
     iterate 4 refine WO_step rfl (S_pure rfl ?_)
     refine WO_cases (t := 24) rfl (fun hg4 => ?_) (fun hg4 => ?_)
     ·
      try simp only [bsT] at hg4
      exfalso; omega
      --stop
     ·
      try simp only [bsT] at hg4
      iterate 3 refine WO_step rfl (S_pure rfl ?_)
      refine WO_nil (KSeq_n ?_)
      refine WC_cond rfl (fun hb1 => ?_) (fun hb1 => ?_)
      ·
       try simp only [bsT] at hb1
       exfalso; omega
       --stop
      ·
       try simp only [bsT] at hb1
       refine WC_skip (KSeq_n (WC_seq (WC_region ?_)))
       iterate 5 refine WO_step rfl (S_pure rfl ?_)
       refine WO_step rfl (S_idxA rfl rfl rfl hb ?_)
       refine WO_step rfl (S_idxA rfl rfl rfl hs ?_)
       refine WO_step rfl (S_loadEnt (k := b * 4 + s) hl rfl hp (by omega) (by omega) ?_)
       refine WO_step rfl (S_newT TEnt ent0 rfl rfl fun i9 => ?_)
       refine WO_step rfl (S_storeO rfl rfl pkA (by first | rfl | exact SV.cells1 _) (by rfl) (by first | rfl | exact SV.ones _) ?_)
       refine WO_nil (KSeq_n (WC_seq (WC_region ?_)))
       refine WO_step rfl (S_pure rfl ?_)
       refine WO_step rfl (S_loadO rfl pkA (by rfl) (by rfl) ?_)
       refine WO_step rfl (S_pure rfl ?_)
       refine WO_step rfl (S_loadO rfl pkA (by rfl) (by rfl) ?_)
       refine WO_step rfl (S_pure rfl ?_)
       refine WO_step rfl (S_loadO rfl pkA (by rfl) (by rfl) ?_)
       iterate 3 refine WO_step rfl (S_pure rfl ?_)
       refine WO_nil (KSeq_n (WC_ret ?_))
       refine KFn_r (ResL.tmp rfl (ResL.tmp rfl (ResL.tmp rfl ResL.nil))) ?_
       exact ⟨_, HSub.refl.drop, rfl, rfl⟩
end Go.Proofs.YtpnmeednimpjdaaGreat.AM
namespace Go.Proofs.YtpnmeednimpjdaaGreat.AM
open Go
set_option linter.unusedSimpArgs false
set_option linter.unusedVariables false
set_option maxRecDepth 4000
def hsOf (l : List Rec) : List Nat := l.map fun r => kH r.key
def keysOf (l : List Rec) : List ByteArray := l.map (·.key)
theorem key_inj {l : List Rec} (hn : (keysOf l).Nodup) {i j : Nat} {a b : Rec} (h1 : l[i]? = some a) (h2 : l[j]? = some b) (h : a.key = b.key) : i = j := by
  have e1 : (keysOf l)[i]? = some a.key := by rw [keysOf, List.getElem?_map, h1]; rfl
  have e2 : (keysOf l)[j]? = some a.key := by rw [keysOf, List.getElem?_map, h2, h]; rfl
  obtain ⟨l1, e1⟩ := List.getElem?_eq_some_iff.1 e1
  obtain ⟨l2, e2⟩ := List.getElem?_eq_some_iff.1 e2
  exact (List.getElem_inj hn).1 (e1.trans e2.symm)
theorem setR_perm {r : Rec} : ∀ {l : List Rec} {d : Bool}, (∀ y ∈ l, y.key ≠ r.key) → (setR r l d).Perm (if d then l else r :: l)
  | [], true, _ => by simp [setR]
  | [], false, _ => by simp [setR]
  | x :: l, true, h => by
    have hx := h x (List.mem_cons_self ..)
    have := setR_perm (r := r) (l := l) (d := true) (fun y hy => h y (List.mem_cons_of_mem _ hy))
    rw [setR_c5 hx]
    exact this.cons x
  | x :: l, false, h => by
    have hx := h x (List.mem_cons_self ..)
    have h1 := setR_perm (r := r) (l := l) (d := true) (fun y hy => h y (List.mem_cons_of_mem _ hy))
    have h2 := setR_perm (r := r) (l := l) (d := false) (fun y hy => h y (List.mem_cons_of_mem _ hy))
    by_cases hlt : kl x < kl r
    · rw [setR_c3 hlt hx]
      exact (h2.cons x).trans (List.Perm.swap r x l)
    · rw [setR_c1 hlt hx]
      exact (h1.cons x).cons r
theorem newest_perm {l : List Rec} (h : (keysOf l).Nodup) : (newest l).Perm l := by
  have key : ∀ (n : Nat) (l : List Rec), l.length = n → (keysOf l).Nodup → (newest l).Perm l := by
    intro n
    induction n with
    | zero => intro l hl _; rw [List.length_eq_zero_iff.1 hl]; exact List.Perm.refl _
    | succ n ih =>
      intro l hl hn
      obtain ⟨B, y, rfl⟩ := snoc_of_pos (A := l) (by omega)
      rw [newest_snoc]
      unfold keysOf at hn
      rw [List.map_append, List.nodup_append] at hn
      have hB := ih B (by simp at hl; exact hl) hn.1
      refine (setR_perm (d := false) (fun z hz => ?_)).trans ?_
      · exact fun e => hn.2.2 z.key (List.mem_map.2 ⟨z, hB.mem_iff.1 hz, rfl⟩) y.key (by simp) e
      · simp only [Bool.false_eq_true, if_false]
        exact (hB.cons y).trans (List.perm_append_singleton y B).symm
  exact key _ l rfl h
theorem fnd_none_iff (k : ByteArray) : ∀ l : List Rec, fnd l k = none ↔ ∀ r ∈ l, r.key ≠ k
  | [] => by simp [fnd]
  | x :: l => by
    rw [fnd]
    by_cases h : x.key = k
    · rw [if_pos h]; simp [h]
    · rw [if_neg h, fnd_none_iff k l]; simp [h]
theorem mem_inj {l : List Rec} (hn : (keysOf l).Nodup) {a b : Rec} (h1 : a ∈ l) (h2 : b ∈ l) (h : a.key = b.key) : a = b := by
  obtain ⟨i, hi⟩ := List.getElem?_of_mem h1
  obtain ⟨j, hj⟩ := List.getElem?_of_mem h2
  have := key_inj hn hi hj h
  subst this
  rw [hi] at hj; cases hj; rfl
theorem fnd_some_iff {l : List Rec} (hn : (keysOf l).Nodup) {k : ByteArray} {r : Rec} : fnd l k = some r ↔ r ∈ l ∧ r.key = k := by
  constructor
  · exact fnd_mem'
  · rintro ⟨h1, rfl⟩
    cases h : fnd l r.key with
    | none => exact absurd rfl ((fnd_none_iff _ l).1 h r h1)
    | some q =>
      obtain ⟨h2, h3⟩ := fnd_mem' h
      rw [mem_inj hn h2 h1 h3]
theorem fnd_mem_congr {a b : List Rec} (ha : (keysOf a).Nodup) (hb : (keysOf b).Nodup) (h : ∀ r, r ∈ a ↔ r ∈ b) (k : ByteArray) : fnd a k = fnd b k := by
  cases e : fnd b k with
  | none => rw [fnd_none_iff] at e ⊢; exact fun r hr => e r ((h r).1 hr)
  | some r => rw [fnd_some_iff hb] at e; rw [fnd_some_iff ha]; exact ⟨(h r).2 e.1, e.2⟩
theorem keys_rev {l : List Rec} (h : (keysOf l).Nodup) : (keysOf l.reverse).Nodup := by
  unfold keysOf
  rw [List.map_reverse]; exact (List.reverse_perm _).nodup_iff.2 h
theorem fnd_newest {l : List Rec} (h : (keysOf l).Nodup) (k : ByteArray) : fnd (newest l) k = fnd l k := by
  rw [(newest_spec l).2 k]
  exact fnd_mem_congr (keys_rev h) h (fun r => List.mem_reverse) k
theorem tKeys_nodup {ts : List SlT} (hl : ts.length = 32) (hm : mayTab ts = true) : ∀ j, j ≤ 32 → (tKeys ts j).Nodup
  | 0, _ => by simp [tKeys]
  | j + 1, h => by
    have ih := tKeys_nodup hl hm j (by omega)
    obtain ⟨x, hx⟩ := get_of_lt (show j < ts.length by omega)
    have ho := (mayTab_iff hl).1 hm j x (by omega) hx
    rw [tKeys_succ hx]
    cases hh : x.has with
    | false => simpa [hh] using ih
    | true =>
      unfold slOk at ho
      rw [if_pos hh] at ho
      simp only [Bool.and_eq_true, Bool.not_eq_true'] at ho
      have hn := inB_false.1 ho.2.2
      simp only [if_true]
      rw [List.nodup_append]
      exact ⟨ih, by simp, fun a ha b hb => by simp at hb; subst hb; exact fun e => hn (e ▸ ha)⟩
theorem GoodT.nd {ts : List SlT} (g : GoodT ts) : (keysOf (tRecs ts 32)).Nodup := by
  unfold keysOf
  rw [tRecs_keys]; exact tKeys_nodup g.1 g.2.2 32 (by omega)
theorem bkR_get {ts : List SlT} {b : Nat} {r : Rec} : r ∈ bkR ts b ↔ ∃ s x, s < 4 ∧ ts[4 * b + s]? = some x ∧ x.has = true ∧ x.r = r := by
  unfold bkR
  constructor
  · intro h
    obtain ⟨x, hx, rfl⟩ := List.mem_map.1 h
    obtain ⟨h1, h2⟩ := List.mem_filter.1 hx
    obtain ⟨s, hs⟩ := List.getElem?_of_mem h1
    have hs4 : s < 4 := by
      have := (List.getElem?_eq_some_iff.1 hs).1
      unfold bk at this
      rw [List.length_take] at this; omega
    rw [bk_get hs4] at hs
    exact ⟨s, x, hs4, hs, h2, rfl⟩
  · rintro ⟨s, x, hs, hx, hh, rfl⟩
    rw [← bk_get hs] at hx
    exact List.mem_map.2 ⟨x, List.mem_filter.2 ⟨List.mem_of_getElem? hx, hh⟩, rfl⟩
theorem bkR_bel {ts : List SlT} (g : GoodT ts) {b : Nat} (hb : b < 8) {r : Rec} (h : r ∈ bkR ts b) : bel r.key b = true := by
  obtain ⟨s, x, hs, hx, hh, rfl⟩ := bkR_get.1 h
  have ho := (mayTab_iff g.1).1 g.2.2 (4 * b + s) x (by omega) hx
  unfold slOk at ho
  rw [if_pos hh, show (4 * b + s) / 4 = b by omega] at ho
  simp only [Bool.and_eq_true] at ho
  exact ho.2.1
theorem tRecs_bkR {ts : List SlT} {r : Rec} (h : r ∈ tRecs ts 32) : ∃ b, b < 8 ∧ r ∈ bkR ts b := by
  unfold tRecs at h
  obtain ⟨x, hx, rfl⟩ := List.mem_map.1 h
  obtain ⟨h1, h2⟩ := List.mem_filter.1 hx
  obtain ⟨j, hj⟩ := List.getElem?_of_mem h1
  rw [List.getElem?_take] at hj
  split at hj
  · exact ⟨j / 4, by omega, bkR_get.2 ⟨j % 4, x, by omega, by rw [show 4 * (j / 4) + j % 4 = j by omega]; exact hj, h2, rfl⟩⟩
  · cases hj
theorem near_bel {a q b : Nat} (h : b = frst q ∨ b = oth (frst q) (tagOf q)) : near a q = true ↔ tagOf q = tagOf a ∧ (b = frst a ∨ b = oth (frst a) (tagOf a)) := by
  have h1 := oth_oth (b := frst q) (t := tagOf q) (frst_lt _)
  have h2 := oth_oth (b := frst a) (t := tagOf q) (frst_lt _)
  unfold near
  simp only [Bool.and_eq_true, Bool.or_eq_true, decide_eq_true_eq]
  constructor
  · rintro ⟨e, f⟩
    rw [e] at *
    refine ⟨rfl, ?_⟩
    rcases f with f | f
    · rw [f]; exact h
    · rcases h with h | h
      · right; rw [f, h1]; exact h
      · left; rw [f]; exact h
  · rintro ⟨e, f⟩
    rw [← e] at f
    refine ⟨e.symm, ?_⟩
    rcases f with f | f
    · rw [← f]; exact h
    · rcases h with h | h
      · right; rw [← h, f, h2]
      · left; rw [← h1, ← h, f, h2]
theorem like_step' {L : List Rec} {kq : Rec → Nat} {a b : Nat} (hq : ∀ r ∈ L, b = frst (kq r) ∨ b = oth (frst (kq r)) (tagOf (kq r))) : L.countP (fun r => near a (kq r)) = if b = frst a ∨ b = oth (frst a) (tagOf a) then (L.filter fun r => decide (tagOf (kq r) = tagOf a)).length else 0 := by
  split
  · rename_i h
    rw [← List.countP_eq_length_filter]
    refine List.countP_congr fun r hr => ?_
    have := near_bel (a := a) (hq r hr)
    simp only [decide_eq_true_eq]
    rw [this]
    exact ⟨fun h' => h'.1, fun h' => ⟨h', h⟩⟩
  · rename_i h
    rw [List.countP_eq_zero]
    intro r hr hc
    exact h ((near_bel (a := a) (hq r hr)).1 hc).2
theorem hs_countP (L : List Rec) (p : Nat → Bool) : (hsOf L).countP p = L.countP (fun r => p (kH r.key)) := by
  unfold hsOf; rw [List.countP_map]; rfl
theorem like_step {ts : List SlT} (g : GoodT ts) (k : ByteArray) {b : Nat} (hb : b < 8) : (hsOf (bkR ts b)).countP (near (kH k)) = if b = frst (kH k) ∨ b = oth (frst (kH k)) (tagOf (kH k)) then (likeB (bkR ts b) (tagOf (kH k))).length else 0 := by
  rw [hs_countP]
  unfold likeB
  generalize kH k = h
  refine like_step' (kq := fun r => kH r.key) fun r hr => ?_
  have := bkR_bel g hb hr
  unfold bel at this
  simp only [Bool.or_eq_true, decide_eq_true_eq] at this
  exact this
theorem like_ifs {f o b cf co cb : Nat} (hne : o ≠ f) (hf : b = f → cb = cf) (ho : b = o → cb = co) : (if f < b then cf else 0) + (if o < b then co else 0) + (if b = f ∨ b = o then cb else 0) = (if f < b + 1 then cf else 0) + (if o < b + 1 then co else 0) := by
  by_cases e1 : b = f
  · have := hf e1
    rw [if_pos (show b = f ∨ b = o from .inl e1)]
    repeat' split
    all_goals omega
  · by_cases e2 : b = o
    · have := ho e2
      rw [if_pos (show b = f ∨ b = o from .inr e2)]
      repeat' split
      all_goals omega
    · rw [if_neg (show ¬ (b = f ∨ b = o) by rintro (h | h); exact e1 h; exact e2 h)]
      repeat' split
      all_goals omega
theorem like_count {ts : List SlT} (g : GoodT ts) (k : ByteArray) : (likeL ts k).length = (hsOf (tRecs ts 32)).countP (near (kH k)) := by
  have h0 := frst_lt (kH k)
  have h1 := oth_lt (t := tagOf (kH k)) h0
  have hne := oth_ne (t := tagOf (kH k)) h0
  have key : ∀ b, b ≤ 8 → (hsOf (tRecs ts (4 * b))).countP (near (kH k)) = (if frst (kH k) < b then (likeB (bkR ts (frst (kH k))) (tagOf (kH k))).length else 0) + (if oth (frst (kH k)) (tagOf (kH k)) < b then (likeB (bkR ts (oth (frst (kH k)) (tagOf (kH k)))) (tagOf (kH k))).length else 0) := by
    intro b
    induction b with
    | zero => intro _; simp [tRecs, hsOf]
    | succ b ih =>
      intro hb
      have e : hsOf (tRecs ts (4 * (b + 1))) = hsOf (tRecs ts (4 * b)) ++ hsOf (bkR ts b) := by
        rw [show 4 * (b + 1) = 4 * b + 4 by omega, tRecs_bk]; unfold hsOf; rw [List.map_append]
      rw [e, List.countP_append, ih (by omega), like_step g k (by omega)]
      exact like_ifs hne (fun e => by rw [e]) (fun e => by rw [e])
  have := key 8 (by omega)
  rw [if_pos h0, if_pos h1] at this
  rw [show (32 : Nat) = 4 * 8 from rfl, this]
  unfold likeL
  rw [List.length_append]
theorem like_near {ts : List SlT} (g : GoodT ts) (k : ByteArray) : (likeL ts k).length = (hsOf (newest (tRecs ts 32))).countP (near (kH k)) := by
  rw [like_count g]
  unfold hsOf
  exact ((newest_perm g.nd).map _).symm.countP_eq _
theorem fnd_like {ts : List SlT} (g : GoodT ts) (k : ByteArray) : fnd (likeL ts k) k = fnd (newest (tRecs ts 32)) k := by
  rw [fnd_newest g.nd]
  cases h : fnd (tRecs ts 32) k with
  | none =>
    rw [fnd_none_iff] at h ⊢
    exact fun r hr => h r (likeL_mem hr)
  | some r =>
    obtain ⟨h1, rfl⟩ := fnd_mem' h
    obtain ⟨b, hb, h2⟩ := tRecs_bkR h1
    have hbel := bkR_bel g hb h2
    unfold bel at hbel
    simp only [Bool.or_eq_true, decide_eq_true_eq] at hbel
    have hin : r ∈ likeL ts r.key := by
      unfold likeL likeB
      rcases hbel with e | e
      · exact List.mem_append_left _ (List.mem_filter.2 ⟨e ▸ h2, by simp⟩)
      · exact List.mem_append_right _ (List.mem_filter.2 ⟨e ▸ h2, by simp⟩)
    cases h' : fnd (likeL ts r.key) r.key with
    | none => exact absurd rfl ((fnd_none_iff _ _).1 h' r hin)
    | some q =>
      obtain ⟨h3, h4⟩ := fnd_mem' h'
      rw [mem_inj g.nd (likeL_mem h3) h1 h4]
end Go.Proofs.YtpnmeednimpjdaaGreat.AM
namespace Go.Proofs.YtpnmeednimpjdaaGreat.AM
open Go
set_option linter.unusedSimpArgs false
set_option linter.unusedVariables false
set_option maxRecDepth 4000
def kvsF : Nat → List Rec → List Kv
  | _, [] => []
  | a, r :: l => ⟨kH r.key, (a : Int)⟩ :: kvsF (a + 1) l
def kvs (l : List Rec) : List Kv := kvsF 0 l
theorem kvsF_snoc (r : Rec) : ∀ (a : Nat) (l : List Rec), kvsF a (l ++ [r]) = kvsF a l ++ [⟨kH r.key, ((a + l.length : Nat) : Int)⟩]
  | a, [] => by simp [kvsF]
  | a, x :: l => by
    rw [List.cons_append, kvsF, kvsF, kvsF_snoc r (a + 1) l, List.cons_append, List.length_cons, show a + 1 + l.length = a + (l.length + 1) by omega]
theorem kvs_snoc (l : List Rec) (r : Rec) : kvs (l ++ [r]) = kvs l ++ [⟨kH r.key, (l.length : Int)⟩] := by
  have := kvsF_snoc r 0 l
  rwa [Nat.zero_add] at this
theorem kvsF_set {r x : Rec} (hk : r.key = x.key) : ∀ (a : Nat) (l : List Rec) (i : Nat), l[i]? = some x → kvsF a (l.set i r) = kvsF a l
  | a, [], i, h => by simp at h
  | a, y :: l, 0, h => by
    simp at h; subst h
    rw [List.set_cons_zero, kvsF, kvsF, hk]
  | a, y :: l, i + 1, h => by
    rw [List.getElem?_cons_succ] at h
    rw [List.set_cons_succ, kvsF, kvsF, kvsF_set hk (a + 1) l i h]
theorem kvsF_map : ∀ (a : Nat) (l : List Rec), (kvsF a l).map (·.h) = l.map fun r => kH r.key
  | _, [] => rfl
  | a, r :: l => by rw [kvsF, List.map_cons, List.map_cons, kvsF_map (a + 1) l]
theorem kvs_map (l : List Rec) : (kvs l).map (·.h) = hsOf l := kvsF_map 0 l
theorem kvsF_mem {x : Kv} : ∀ (a : Nat) (l : List Rec), x ∈ kvsF a l ↔ ∃ i r, l[i]? = some r ∧ x = ⟨kH r.key, ((a + i : Nat) : Int)⟩
  | a, [] => by simp [kvsF]
  | a, y :: l => by
    rw [kvsF, List.mem_cons, kvsF_mem (a + 1) l]
    constructor
    · rintro (rfl | ⟨i, r, h1, h2⟩)
      · exact ⟨0, y, rfl, rfl⟩
      · exact ⟨i + 1, r, by rw [List.getElem?_cons_succ]; exact h1, by rw [h2]; congr 2; omega⟩
    · rintro ⟨i, r, h1, h2⟩
      cases i with
      | zero => simp at h1; subst h1; exact .inl h2
      | succ i => exact .inr ⟨i, r, by rw [List.getElem?_cons_succ] at h1; exact h1, by rw [h2]; congr 2; omega⟩
theorem near_self (h : Nat) : near h h = true := by simp [near]
theorem nearL_mem {l : List Rec} {h : Nat} {v : Int} : v ∈ nearL (kvs l) h ↔ ∃ (i : Nat) (r : Rec), l[i]? = some r ∧ v = (i : Int) ∧ near h (kH r.key) = true := by
  unfold nearL kvs
  rw [List.mem_map]
  constructor
  · rintro ⟨x, hx, rfl⟩
    obtain ⟨h1, h2⟩ := List.mem_filter.1 hx
    obtain ⟨i, r, h3, rfl⟩ := (kvsF_mem 0 l).1 h1
    exact ⟨i, r, h3, by simp, h2⟩
  · rintro ⟨i, r, h1, rfl, h2⟩
    exact ⟨⟨kH r.key, (i : Int)⟩, List.mem_filter.2 ⟨(kvsF_mem 0 l).2 ⟨i, r, h1, by simp⟩, h2⟩, rfl⟩
def idxF (k : ByteArray) : Nat → List Rec → Int
  | _, [] => -1
  | a, r :: l => if r.key = k then (a : Int) else idxF k (a + 1) l
def idxK (l : List Rec) (k : ByteArray) : Int := idxF k 0 l
theorem idxF_spec (k : ByteArray) : ∀ (a : Nat) (l : List Rec), (∃ i r, idxF k a l = ((a + i : Nat) : Int) ∧ l[i]? = some r ∧ r.key = k) ∨ (idxF k a l = -1 ∧ ∀ r ∈ l, r.key ≠ k)
  | a, [] => .inr ⟨rfl, by simp⟩
  | a, x :: l => by
    by_cases h : x.key = k
    · exact .inl ⟨0, x, by rw [idxF, if_pos h]; rfl, rfl, h⟩
    · rw [idxF, if_neg h]
      rcases idxF_spec k (a + 1) l with ⟨i, r, h1, h2, h3⟩ | ⟨h1, h2⟩
      · exact .inl ⟨i + 1, r, by rw [h1]; congr 1; omega, by rw [List.getElem?_cons_succ]; exact h2, h3⟩
      · exact .inr ⟨h1, fun r hr => by
          rcases List.mem_cons.1 hr with rfl | hr
          · exact h
          · exact h2 r hr⟩
theorem idxK_spec (l : List Rec) (k : ByteArray) : (∃ (i : Nat) (r : Rec), idxK l k = (i : Int) ∧ l[i]? = some r ∧ r.key = k) ∨ (idxK l k = -1 ∧ ∀ r ∈ l, r.key ≠ k) := by
  have := idxF_spec k 0 l
  simp only [Nat.zero_add] at this
  exact this
theorem idxK_at {l : List Rec} (hn : (keysOf l).Nodup) {i : Nat} {r : Rec} (h : l[i]? = some r) : idxK l r.key = (i : Int) := by
  rcases idxK_spec l r.key with ⟨j, q, h1, h2, h3⟩ | ⟨h1, h2⟩
  · rw [h1, key_inj hn h2 h h3]
  · exact absurd rfl (h2 r (List.mem_of_getElem? h))
theorem fnd_idx (k : ByteArray) : ∀ l : List Rec, (fnd l k = none ∧ idxK l k = -1) ∨ ∃ (i : Nat) (r : Rec), fnd l k = some r ∧ idxK l k = (i : Int) ∧ l[i]? = some r := by
  have key : ∀ (a : Nat) (l : List Rec), (fnd l k = none ∧ idxF k a l = -1) ∨ ∃ (i : Nat) (r : Rec), fnd l k = some r ∧ idxF k a l = ((a + i : Nat) : Int) ∧ l[i]? = some r := by
    intro a l
    induction l generalizing a with
    | nil => exact .inl ⟨rfl, rfl⟩
    | cons x l ih =>
      by_cases h : x.key = k
      · exact .inr ⟨0, x, by rw [fnd, if_pos h], by rw [idxF, if_pos h]; rfl, rfl⟩
      · rw [fnd, if_neg h, idxF, if_neg h]
        rcases ih (a + 1) with h1 | ⟨i, r, h1, h2, h3⟩
        · exact .inl h1
        · exact .inr ⟨i + 1, r, h1, by rw [h2]; congr 1; omega, by rw [List.getElem?_cons_succ]; exact h3⟩
  intro l
  have := key 0 l
  simp only [Nat.zero_add] at this
  exact this
structure LogI (es : List Ent) (l : List Rec) : Prop where
  good : Good es
  holds : Holds es (kvs l)
  nd : (keysOf l).Nodup
theorem sumL_one : ∀ l : List Kv, sumL (fun _ _ => 1) l = l.length
  | [] => rfl
  | x :: l => by
    rw [sumL, sumL_one l, List.length_cons]
    show 1 + l.length = _
    omega
theorem kvsF_len : ∀ (a : Nat) (l : List Rec), (kvsF a l).length = l.length
  | _, [] => rfl
  | a, x :: l => by rw [kvsF, List.length_cons, List.length_cons, kvsF_len (a + 1) l]
theorem LogI.len {es : List Ent} {l : List Rec} (g : LogI es l) : l.length ≤ 32 := by
  have h := g.holds (fun _ _ => 1) (fun _ _ _ => rfl)
  rw [sumL_one, kvs, kvsF_len] at h
  rw [← h]
  have : tot (fun _ _ => 1) es ≤ sumN (fun _ => 1) 32 := sumN_le fun k _ => by
    show (if (at' es k).has then 1 else 0) ≤ 1
    split <;> omega
  have e : sumN (fun _ => 1) 32 = 32 * 1 := sumN_one fun _ _ => rfl
  omega
theorem LogI.new : LogI (List.replicate 32 ent0) [] := ⟨Good.new, Holds.new, List.nodup_nil⟩
theorem LogI.ins {es es' : List Ent} {l : List Rec} {r : Rec} (g : LogI es l) (hg : Good es') (hi : InsOk es (kH r.key) (l.length : Int) es') (hn : ∀ q ∈ l, q.key ≠ r.key) : LogI es' (l ++ [r]) := by
  refine ⟨hg, by rw [kvs_snoc]; exact g.holds.ins hi, ?_⟩
  unfold keysOf
  rw [List.map_append, List.nodup_append]
  refine ⟨g.nd, by simp, fun a ha b hb => ?_⟩
  simp at hb; subst hb
  obtain ⟨q, hq, rfl⟩ := List.mem_map.1 ha
  exact hn q hq
theorem keys_set {l : List Rec} {i : Nat} {r x : Rec} (h : l[i]? = some x) (hk : r.key = x.key) : keysOf (l.set i r) = keysOf l := by
  unfold keysOf
  rw [List.map_set, hk]
  obtain ⟨hlt, he⟩ := List.getElem?_eq_some_iff.1 h
  rw [← he, ← List.getElem_map (f := fun x : Rec => x.key) (h := by simpa using hlt), List.set_getElem_self]
theorem LogI.set {es : List Ent} {l : List Rec} {i : Nat} {r x : Rec} (g : LogI es l) (h : l[i]? = some x) (hk : r.key = x.key) : LogI es (l.set i r) :=
  ⟨g.good, by unfold kvs; rw [kvsF_set hk 0 l i h]; exact g.holds, by rw [keys_set h hk]; exact g.nd⟩
theorem LogI.has {es : List Ent} {l : List Rec} (g : LogI es l) : Has es (hsOf l) := by
  have := g.holds.has
  rwa [kvs_map] at this
def putF (l : List Rec) (r : Rec) : Int × List Rec :=
  if mayRec r = false then (1, l)
  else if 0 ≤ idxK l r.key then (0, l.set (idxK l r.key).toNat r)
  else if Room (hsOf l ++ [kH r.key]) then (0, l ++ [r]) else (5, l)
def LO (j i : Nat) (w : SV) : Res := .obj j (.row false 91 [w.toV, .pointer (some ⟨i, 0, none⟩)])
theorem sp_lNew {H : SH} : WF F X f_logstore_New [] H (fun r H' => ∃ j i, H' = LO j i .nil :: SL (SV.toV .nil) TRec [] :: DO i (List.replicate 32 ent0) 0 :: H ∧ r = .pointer (some ⟨j, 0, none⟩)) := by
  refine WF_addNil (T := TRec) ?_
  refine WF_fn F_logstore_New ?_
  refine WC_seq (WC_region ?_)
  refine WO_step rfl (S_pure rfl ?_)
  refine WO_nil (KSeq_n (WC_seq (WC_region ?_)))
  refine WO_call rfl rfl rfl ?_
  refine sp_New.mono ?_
  rintro _ _ ⟨i1, rfl, rfl⟩
  refine WO_step rfl (S_pure rfl ?_)
  refine WO_step rfl (S_box rfl rfl fun i3 => ?_)
  refine WO_step rfl (S_pure rfl ?_)
  refine WO_nil (KSeq_n (WC_ret ?_))
  refine KFn_r (ResL.tmp rfl ResL.nil) ?_
  exact ⟨_, hsA, i3, i1, rfl, rfl⟩
theorem lp_lfind {RS R0 : SH} {j i : Nat} {w w2 : SV} {l : List Rec} {L : List Int} {k : ByteArray} (hL : RD RS w2.toV TInt L) (hl : RD RS w.toV TRec l) (hp : Pick (LO j i w) RS R0) (hin : ∀ v ∈ L, ∃ i : Nat, v = (i : Int) ∧ i < l.length) (hLl : L.length ≤ 100) : ∀ (m a : Nat), L.length - a = m → a ≤ L.length → (∀ v ∈ L.take a, ∀ (i : Nat) (r : Rec), v = (i : Int) → l[i]? = some r → r.key ≠ k) →
    WC F X (.loop L_logstore_Log_find_0) [(17, .int .i64 (a : Int)), (16, .int .i64 (L.length : Int)), (15, w2.toV), (0, .pointer (some ⟨j, 0, none⟩)), (1, .string k)] RS
      (KPost fun x l' H' => H' = RS ∧ ((∃ (i : Nat) (r : Rec), x = .ret ∧ l' = [(4, .int .i64 (i : Int))] ∧ l[i]? = some r ∧ r.key = k) ∨ (x = .exit 0 ∧ l' = [] ∧ ∀ v ∈ L, ∀ (i : Nat) (r : Rec), v = (i : Int) → l[i]? = some r → r.key ≠ k))) := by
  intro m
  induction m using Nat.strongRecOn with
  | _ m ih =>
    intro a hm ha hno
    refine WC_loop (WC_seq (WC_region ?_))
    refine WO_step rfl (S_pure rfl ?_)
    refine WO_nil (KSeq_n (WC_seq ?_))
    refine WC_cond rfl (fun hb1 => ?_) (fun hb1 => ?_)
    ·
     try simp only [bsT] at hb1
     obtain ⟨v, hv⟩ := get_of_lt hb1
     obtain ⟨i0, rfl, hi0⟩ := hin v (List.mem_of_getElem? hv)
     obtain ⟨q, hq⟩ := get_of_lt hi0
     refine WC_skip (KSeq_n (WC_seq (WC_block (WC_seq (WC_region ?_)))))
     refine WO_step rfl (S_idx rfl rfl rdA (by first | rfl | assumption | (symm; assumption)) (by rfl) (by first | assumption | omega | exact lt_of_get (by assumption) | (simp only [List.length_set]; first | assumption | omega | exact lt_of_get (by assumption))) fun hp19 => ?_)
     refine WO_step rfl (S_loadE rfl rdA (by first | rfl | assumption | (symm; assumption)) (by first | rfl | assumption | (symm; assumption)) (by first | rfl | assumption | (symm; assumption)) (by assumption) ?_)
     refine WO_step rfl (S_pure rfl ?_)
     refine WO_nil (KSeq_n (WC_seq (WC_region ?_)))
     iterate 3 refine WO_step rfl (S_pure rfl ?_)
     refine WO_step rfl (S_loadO rfl hp (by rfl) (by rfl) ?_)
     refine WO_step rfl (S_pure rfl ?_)
     refine WO_step rfl (S_idx rfl rfl rdA (by first | rfl | assumption | (symm; assumption)) (by rfl) (by first | assumption | omega | exact lt_of_get (by assumption) | (simp only [List.length_set]; first | assumption | omega | exact lt_of_get (by assumption))) fun hp26 => ?_)
     refine WO_step rfl (S_fldE rfl (by repeat (first | assumption | apply IsP.padd)) ?_)
     refine WO_step rfl (S_loadF rfl rdA (by rfl) (by assumption) (by rfl) (by rfl) ?_)
     refine WO_step rfl (S_pure rfl ?_)
     first | refine WO_step rfl (S_eqS rfl rfl ?_) | refine WO_step rfl (S_pure rfl ?_)
     refine WO_nil (KSeq_n ?_)
     refine WC_cond rfl (fun hb2 => ?_) (fun hb2 => ?_)
     ·
      try simp only [bsT] at hb2
      refine WC_seq (WC_region ?_)
      iterate 2 refine WO_step rfl (S_pure rfl ?_)
      refine WO_nil (KSeq_n (WC_ret (KBlock_r (KSeq_r (KLoop_r ?_)))))
      exact KPost_i seA hsA ⟨rfl, .inl ⟨i0, q, rfl, rfl, hq, hb2⟩⟩
     ·
      try simp only [bsT] at hb2
      refine WC_skip (KBlock_n (KSeq_n (WC_region ?_)))
      first | refine WO_step rfl (S_addN (b := 1) rfl rfl (by omega) ?_) | refine WO_step rfl (S_pure rfl ?_)
      refine WO_step rfl (S_pure rfl ?_)
      refine WO_nil (KLoop_n ?_)
      refine WC_weak (ih (L.length - (a + 1)) (by omega) (a + 1) rfl (by omega) fun v hm i r hvi hr => ?_) seA hsA
      rw [List.take_add_one, hv] at hm
      rcases List.mem_append.1 hm with hm | hm
      · exact hno v hm i r hvi hr
      · simp at hm
        subst hm
        have : i0 = i := by omega
        subst this
        rw [hq] at hr; cases hr
        exact hb2
    ·
     try simp only [bsT] at hb1
     refine WC_exit (KSeq_x (KLoop_x ?_))
     refine KPost_i (l' := []) seA hsA ⟨rfl, .inr ⟨rfl, rfl, fun v hm i r hvi hr => hno v ?_ i r hvi hr⟩⟩
     rw [List.take_of_length_le (by omega)]; exact hm
theorem sp_lfind {H : SH} {j i n : Nat} {w : SV} {l : List Rec} {es : List Ent} {k : ByteArray} (g : LogI es l) (hk : k.size ≤ 1000000) : WF F X f_logstore_Log_find [.pointer (some ⟨j, 0, none⟩), .string k] (LO j i w :: SL w.toV TRec l :: DO i es n :: H) (fun r H' => H' = LO j i w :: SL w.toV TRec l :: DO i es n :: H ∧ r = .int .i64 (idxK l k)) := by
  have hl := g.len
  have hel := g.good.len
  refine WF_fn F_logstore_Log_find ?_
  refine WC_seq (WC_region ?_)
  refine WO_step rfl (S_pure rfl ?_)
  refine WO_nil (KSeq_n (WC_seq (WC_seq (WC_region ?_))))
  iterate 2 refine WO_step rfl (S_pure rfl ?_)
  refine WO_nil (KSeq_n ?_)
  refine WC_cond rfl (fun hb1 => ?_) (fun hb1 => ?_)
  ·
   try simp only [bsT] at hb1
   exact absurd hb1 (by simp)
   --stop
  ·
   try simp only [bsT] at hb1
   refine WC_skip (KSeq_n (WC_seq (WC_seq (WC_drawn ?_))))
   refine WD_step rfl (S_pure rfl ?_)
   refine WD_step rfl (S_pure rfl ?_)
   refine WD_step rfl (S_pure rfl ?_)
   refine WD_step rfl (S_loadO rfl pkA (by rfl) (by rfl) ?_)
   refine WD_step rfl (S_pure rfl ?_)
   refine WD_call rfl rfl rfl ?_
   refine (sp_HashOf hk).mono ?_
   rintro _ _ ⟨rfl, rfl⟩
   rw [kH_eq]
   refine WD_call rfl rfl rfl ?_
   refine (sp_DFind hel pkA (kH_lt k)).mono ?_
   rintro _ _ ⟨w2, L, rfl, rfl, hsL, hpL⟩
   have hpn : L.Perm (nearL (kvs l) (kH k)) := hpL.trans (found_perm g.holds (kH k))
   have hLl : L.length ≤ 100 := by rw [hpL.length_eq]; exact Nat.le_trans (foundL_len es (kH k)) (by omega)
   first | refine WD_step rfl (S_pure rfl ?_) | refine WD_step rfl (S_lenS rfl rdA ?_)
   refine WD_step rfl (S_pure rfl ?_)
   refine WD_nil ?_
   refine ⟨?_, ?_⟩
   ·
    repeat' (first | exact trivial | apply And.intro)
    exact ObR.of_step rfl (S_loadO rfl pkA (by rfl) (by rfl) (by simp [eqV, eqV0]))
   ·
    refine KSeq_n (WC_block ?_)
    refine WC_post (WC_weak (lp_lfind (j := j) (i := i) (w := w) (w2 := w2) (l := l) (L := L) (k := k) rdA rdA pkA (fun v hv => ?_) hLl L.length 0 (by omega) (by omega) (by simp)) seA HSub.refl) ?_
    · obtain ⟨i, r, h1, h2, _⟩ := nearL_mem.1 (hpn.mem_iff.1 hv)
      exact ⟨i, h2, (List.getElem?_eq_some_iff.1 h1).1⟩
    rintro x l' H' ⟨rfl, ⟨i0, q, rfl, rfl, hq, hqk⟩ | ⟨rfl, rfl, hno⟩⟩
    ·
     refine KBlock_r (KSeq_r ?_)
     refine KFn_r (ResL.tmp rfl ResL.nil) ?_
     refine ⟨_, hsA, rfl, ?_⟩
     rw [← hqk, idxK_at g.nd hq]; rfl
    ·
     refine KBlock_h (KSeq_n (WC_seq (WC_region ?_)))
     refine WO_step rfl (S_pure rfl ?_)
     refine WO_nil (KSeq_n (WC_ret ?_))
     refine KFn_r (ResL.tmp rfl ResL.nil) ?_
     refine ⟨LO j i w :: SL w.toV TRec l :: DO i es n :: H, hsA, rfl, ?_⟩
     rcases idxK_spec l k with ⟨i0, q, h1, h2, h3⟩ | ⟨h1, _⟩
     · exfalso
       refine hno (i0 : Int) (hpn.mem_iff.2 (nearL_mem.2 ⟨i0, q, h2, rfl, ?_⟩)) i0 q rfl h2 h3
       rw [h3]; exact near_self _
     · rw [h1]; rfl
theorem S_storeLO {l : SE} {H H0 : SH} {K : Value → SH → Prop} {j i : Nat} {a x : Opd} {w w' : SV} (ha : a.lv l = some (.pointer (some ⟨j, 0, none⟩))) (hx : x.lv l = some w'.toV) (hp : Pick (LO j i w) H H0) (k : K undef (LO j i w' :: H0)) : Step (.store 1 a x) l H K := by
  refine S_storeO ha hx hp (SV.cells1 _) (by rfl) (SV.ones _) ?_
  have e : splice [w.toV, .pointer (some ⟨i, 0, none⟩)] 0 (AM.cells w'.toV) = [w'.toV, .pointer (some ⟨i, 0, none⟩)] := by rw [SV.cells]; rfl
  rw [e]; exact k
theorem sp_lPut {H : SH} {j i : Nat} {w : SV} {l : List Rec} {es : List Ent} {r : Rec} (g : LogI es l) : WF F X f_logstore_Log_Put [.pointer (some ⟨j, 0, none⟩), TRec.val r] (LO j i w :: SL w.toV TRec l :: DO i es l.length :: H) (fun v H' => ∃ (es' : List Ent) (w' : SV), v = .int .i64 (putF l r).1 ∧ H' = LO j i w' :: SL w'.toV TRec (putF l r).2 :: DO i es' (putF l r).2.length :: H ∧ LogI es' (putF l r).2) := by
  have hl := g.len
  have hel := g.good.len
  refine WF_fn F_logstore_Log_Put ?_
  refine WC_seq (WC_region ?_)
  refine WO_step rfl (S_box rfl rfl fun i3 => ?_)
  refine WO_step rfl (S_pure rfl ?_)
  refine WO_nil (KSeq_n (WC_seq (WC_block (WC_seq (WC_region ?_)))))
  iterate 3 refine WO_step rfl (S_pure rfl ?_)
  refine WO_nil (KSeq_n ?_)
  refine WC_cond rfl (fun hb1 => ?_) (fun hb1 => ?_)
  ·
   try simp only [bsT] at hb1
   exact absurd hb1 (by simp)
   --stop
  ·
   try simp only [bsT] at hb1
   refine WC_seq (WC_region ?_)
   first | refine WO_step rfl (S_loadT rfl pkA (by rfl) (by rfl) ?_) | refine WO_step rfl (S_loadO rfl pkA (by rfl) (by rfl) ?_)
   refine WO_call rfl rfl rfl ?_
   refine sp_rMay.mono ?_
   rintro _ _ ⟨rfl, rfl⟩
   iterate 2 refine WO_step rfl (S_pure rfl ?_)
   refine WO_nil (KSeq_n ?_)
   refine WC_cond rfl (fun hb2 => ?_) (fun hb2 => ?_)
   ·
    try simp only [bsT] at hb2
    refine WC_seq (WC_region ?_)
    refine WO_step rfl (S_pure rfl ?_)
    refine WO_nil (KSeq_n (WC_ret (KBlock_r (KSeq_r ?_))))
    refine KFn_r (ResL.tmp rfl ResL.nil) ?_
    refine ⟨LO j i w :: SL w.toV TRec l :: DO i es l.length :: H, hsA, es, w, ?_⟩
    unfold putF
    rw [if_pos hb2]
    exact ⟨rfl, rfl, g⟩
   ·
    try simp only [bsT] at hb2
    refine WC_skip (KBlock_n (KSeq_n (WC_seq (WC_seq (WC_region ?_)))))
    iterate 2 refine WO_step rfl (S_pure rfl ?_)
    refine WO_step rfl (S_loadO rfl pkA (by rfl) (by rfl) ?_)
    refine WO_call rfl rfl rfl ?_
    have hmay : mayRec r = true := by
      cases h : mayRec r with
      | true => rfl
      | false => exact absurd h (by simpa using hb2)
    have hks := may_key hmay
    refine (sp_lfind (k := r.key) (i := i) (w := w) (n := l.length) (H := .obj i3 (.row false 28 (cells (TRec.val r))) :: H) g (by omega)).weak hsA |>.mono ?_
    rintro _ _ ⟨rfl, rfl⟩
    refine WO_step rfl (S_pure rfl ?_)
    refine WO_nil (KSeq_n (WC_seq (WC_region ?_)))
    iterate 2 refine WO_step rfl (S_pure rfl ?_)
    refine WO_nil (KSeq_n ?_)
    refine WC_cond rfl (fun hb3 => ?_) (fun hb3 => ?_)
    ·
     try simp only [bsT] at hb3
     obtain ⟨i0, q, h1, h2, h3⟩ : ∃ (i0 : Nat) (q : Rec), idxK l r.key = (i0 : Int) ∧ l[i0]? = some q ∧ q.key = r.key := by
       rcases idxK_spec l r.key with h | ⟨h, _⟩
       · exact h
       · omega
     rw [h1]
     refine WC_seq (WC_region ?_)
     iterate 3 refine WO_step rfl (S_pure rfl ?_)
     refine WO_step rfl (S_loadO rfl pkA (by rfl) (by rfl) ?_)
     refine WO_step rfl (S_pure rfl ?_)
     first | refine WO_step rfl (S_loadT rfl pkA (by rfl) (by rfl) ?_) | refine WO_step rfl (S_loadO rfl pkA (by rfl) (by rfl) ?_)
     refine WO_step rfl (S_idx rfl rfl rdA (by first | rfl | assumption | (symm; assumption)) (by rfl) (by first | assumption | omega | exact lt_of_get (by assumption) | (simp only [List.length_set]; first | assumption | omega | exact lt_of_get (by assumption))) fun hp25 => ?_)
     refine WO_step rfl (S_storeW (y := r) rfl rfl pkA (by first | rfl | assumption | (symm; assumption)) (by rfl) (by first | rfl | assumption | (symm; assumption)) (by first | assumption | omega | exact lt_of_get (by assumption) | (simp only [List.length_set]; first | assumption | omega | exact lt_of_get (by assumption))) ?_)
     refine WO_nil (KSeq_n (WC_seq (WC_region ?_)))
     refine WO_step rfl (S_pure rfl ?_)
     refine WO_nil (KSeq_n (WC_ret (KSeq_r ?_)))
     refine KFn_r (ResL.tmp rfl ResL.nil) ?_
     refine ⟨LO j i w :: SL w.toV TRec (l.set i0 r) :: DO i es (l.set i0 r).length :: H, by rw [List.length_set]; exact hsA, es, w, ?_⟩
     have e : putF l r = (0, l.set i0 r) := by
       unfold putF
       rw [if_neg (by rw [hmay]; simp), if_pos hb3, h1]; rfl
     rw [e]
     exact ⟨rfl, rfl, g.set h2 h3.symm⟩
    ·
     try simp only [bsT] at hb3
     have hno : ∀ q ∈ l, q.key ≠ r.key := by
       rcases idxK_spec l r.key with ⟨i0, q, h1, h2, h3⟩ | ⟨_, h⟩
       · rw [h1] at hb3; exact absurd (Int.natCast_nonneg i0) hb3
       · exact h
     refine WC_skip (KSeq_n (WC_seq (WC_seq (WC_drawn ?_))))
     refine WD_step rfl (S_pure rfl ?_)
     refine WD_step rfl (S_pure rfl ?_)
     refine WD_step rfl (S_pure rfl ?_)
     refine WD_step rfl (S_loadO rfl pkA (by rfl) (by rfl) ?_)
     refine WD_step rfl (S_pure rfl ?_)
     refine WD_step rfl (S_loadO rfl pkA (by rfl) (by rfl) ?_)
     refine WD_call rfl rfl rfl ?_
     refine (sp_HashOf (by omega)).mono ?_
     rintro _ _ ⟨rfl, rfl⟩
     rw [kH_eq]
     refine WD_step rfl (S_pure rfl ?_)
     refine WD_step rfl (S_pure rfl ?_)
     refine WD_step rfl (S_pure rfl ?_)
     refine WD_step rfl (S_loadO rfl pkA (by rfl) (by rfl) ?_)
     first | refine WD_step rfl (S_pure rfl ?_) | refine WD_step rfl (S_lenS rfl rdA ?_)
     refine WD_call rfl rfl rfl ?_
     refine (sp_ins (id := (l.length : Int)) g.good pkA (kH_lt _) (by omega)).mono ?_
     rintro _ _ ⟨es', n', ok, rfl, rfl, hg', hok, hno2⟩
     refine WD_step rfl (S_pure rfl ?_)
     refine WD_nil ?_
     refine ⟨?_, ?_⟩
     ·
      repeat' (first | exact trivial | apply And.intro)
      all_goals exact ObR.of_step rfl (S_loadO rfl pkA (by rfl) (by rfl) (by first | (simp [eqV, eqV0, SV.toV]; done) | (cases w <;> simp [eqV, eqV0, SV.toV])))
     ·
      refine KSeq_n ?_
      refine WC_cond rfl (fun hb4 => ?_) (fun hb4 => ?_)
      ·
       try simp only [bsT] at hb4
       refine WC_seq (WC_region ?_)
       refine WO_step rfl (S_pure rfl ?_)
       refine WO_nil (KSeq_n (WC_ret (KSeq_r ?_)))
       refine KFn_r (ResL.tmp rfl ResL.nil) ?_
       obtain ⟨rfl, rfl, hnw⟩ := hno2 (by simpa using hb4)
       have hnr := g.has.noRoom (hnw (by omega))
       refine ⟨LO j i w :: SL w.toV TRec l :: DO i es' l.length :: H, hsA, es', w, ?_⟩
       have e : putF l r = (5, l) := by
         unfold putF
         rw [if_neg (by rw [hmay]; simp), if_neg hb3, if_neg hnr]
       rw [e]
       exact ⟨rfl, rfl, g⟩
      ·
       try simp only [bsT] at hb4
       refine WC_skip (KSeq_n (WC_seq (WC_region ?_)))
       iterate 4 refine WO_step rfl (S_pure rfl ?_)
       refine WO_step rfl (S_loadO rfl pkA (by rfl) (by rfl) ?_)
       first | refine WO_step rfl (S_loadT rfl pkA (by rfl) (by rfl) ?_) | refine WO_step rfl (S_loadO rfl pkA (by rfl) (by rfl) ?_)
       refine WO_step rfl (S_lit1 (T := TRec) (y := r) rfl rfl rfl rfl fun w46 => ?_)
       refine WO_step rfl (S_app rfl rfl pkA (by first | exact SRC.str rfl rfl | (apply RD.src; repeat (first | assumption | exact RD.head | exact RD.nil | apply RD.tail))) (by rfl) (by rfl) (by (try simp only [List.length_append, List.length_cons, List.length_nil]); omega) fun w47 => ?_)
       iterate 2 refine WO_step rfl (S_pure rfl ?_)
       refine WO_step rfl (S_storeLO rfl rfl pkA ?_)
       refine WO_nil (KSeq_n (WC_seq (WC_region ?_)))
       refine WO_step rfl (S_pure rfl ?_)
       refine WO_nil (KSeq_n (WC_ret ?_))
       refine KFn_r (ResL.tmp rfl ResL.nil) ?_
       obtain ⟨rfl, hid, hins⟩ := hok (by simpa using hb4)
       refine ⟨LO j i w47 :: SL w47.toV TRec (l ++ [r]) :: DO i es' (l ++ [r]).length :: H, by rw [List.length_append]; exact hsA, es', w47, ?_⟩
       have e : putF l r = (0, l ++ [r]) := by
         unfold putF
         rw [if_neg (by rw [hmay]; simp), if_neg hb3, if_pos (g.has.ins hins).room]
       rw [e]
       exact ⟨rfl, rfl, g.ins hg' hins hno⟩
theorem sp_lGet {H : SH} {j i n : Nat} {w : SV} {l : List Rec} {es : List Ent} {k : ByteArray} (g : LogI es l) (hk : k.size ≤ 1000000) : WF F X f_logstore_Log_Get [.pointer (some ⟨j, 0, none⟩), .string k] (LO j i w :: SL w.toV TRec l :: DO i es n :: H) (fun v H' => H' = LO j i w :: SL w.toV TRec l :: DO i es n :: H ∧ v = .tuple #[TRec.val ((fnd l k).getD rec0), .bool (fnd l k).isSome]) := by
  have hl := g.len
  refine WF_fn F_logstore_Log_Get ?_
  refine WC_seq (WC_region ?_)
  refine WO_step rfl (S_newT TRec rec0 rfl rfl fun i4 => ?_)
  refine WO_step rfl (S_pure rfl ?_)
  refine WO_nil (KSeq_n (WC_seq (WC_region ?_)))
  iterate 2 refine WO_step rfl (S_pure rfl ?_)
  refine WO_call rfl rfl rfl ?_
  refine (WF.weak (sp_lfind (k := k) (i := i) (w := w) (n := n) (H := OB i4 TRec rec0 :: H) g hk) hsA).mono ?_
  rintro _ _ ⟨rfl, rfl⟩
  refine WO_step rfl (S_pure rfl ?_)
  refine WO_nil (KSeq_n (WC_seq (WC_seq (WC_region ?_))))
  iterate 2 refine WO_step rfl (S_pure rfl ?_)
  refine WO_nil (KSeq_n ?_)
  refine WC_cond rfl (fun hb1 => ?_) (fun hb1 => ?_)
  ·
   try simp only [bsT] at hb1
   have hn : fnd l k = none := by
     rcases fnd_idx k l with ⟨h, _⟩ | ⟨i0, q, _, h, _⟩
     · exact h
     · rw [h] at hb1; omega
   rw [hn]
   refine WC_seq (WC_region ?_)
   refine WO_step rfl (S_pure rfl ?_)
   refine WO_step rfl (S_storeO rfl rfl pkA (by first | rfl | exact SV.cells1 _) (by rfl) (by first | rfl | exact SV.ones _) ?_)
   refine WO_step rfl (S_pure rfl ?_)
   refine WO_nil (KSeq_n (WC_ret (KSeq_r ?_)))
   refine KFn_r (ResL.cell rfl pkA (Nat.le_of_ble_eq_true rfl) rfl (ResL.tmp rfl ResL.nil)) ?_
   exact ⟨_, hsA, rfl, rfl⟩
  ·
   try simp only [bsT] at hb1
   obtain ⟨i0, q, hq, hi0, hat⟩ : ∃ (i : Nat) (r : Rec), fnd l k = some r ∧ idxK l k = (i : Int) ∧ l[i]? = some r := by
     rcases fnd_idx k l with ⟨_, h⟩ | h
     · rw [h] at hb1; omega
     · exact h
   rw [hq, hi0]
   refine WC_skip (KSeq_n (WC_seq (WC_region ?_)))
   iterate 3 refine WO_step rfl (S_pure rfl ?_)
   refine WO_step rfl (S_loadO rfl pkA (by rfl) (by rfl) ?_)
   refine WO_step rfl (S_pure rfl ?_)
   refine WO_step rfl (S_idx rfl rfl rdA (by first | rfl | assumption | (symm; assumption)) (by rfl) (by first | assumption | omega | exact lt_of_get (by assumption) | (simp only [List.length_set]; first | assumption | omega | exact lt_of_get (by assumption))) fun hp18 => ?_)
   refine WO_step rfl (S_loadE rfl rdA (by first | rfl | assumption | (symm; assumption)) (by first | rfl | assumption | (symm; assumption)) (by first | rfl | assumption | (symm; assumption)) (by assumption) ?_)
   refine WO_step rfl (S_storeO rfl rfl pkA (by first | rfl | exact SV.cells1 _) (by rfl) (by first | rfl | exact SV.ones _) ?_)
   refine WO_step rfl (S_pure rfl ?_)
   refine WO_nil (KSeq_n (WC_ret ?_))
   refine KFn_r (ResL.cell rfl pkA (Nat.le_of_ble_eq_true rfl) rfl (ResL.tmp rfl ResL.nil)) ?_
   exact ⟨_, hsA, rfl, rfl⟩
theorem sp_lReads {H : SH} {j i n : Nat} {w : SV} {l : List Rec} {es : List Ent} {k : ByteArray} (g : LogI es l) (hk : k.size ≤ 1000000) : WF F X f_logstore_Log_Reads [.pointer (some ⟨j, 0, none⟩), .string k] (LO j i w :: SL w.toV TRec l :: DO i es n :: H) (fun v H' => H' = LO j i w :: SL w.toV TRec l :: DO i es n :: H ∧ v = .int .i64 ((nearL (kvs l) (kH k)).length : Int)) := by
  have hl := g.len
  have hel := g.good.len
  refine WF_fn F_logstore_Log_Reads ?_
  refine WC_seq (WC_region ?_)
  refine WO_step rfl (S_pure rfl ?_)
  refine WO_nil (KSeq_n (WC_seq (WC_seq (WC_region ?_))))
  iterate 2 refine WO_step rfl (S_pure rfl ?_)
  refine WO_nil (KSeq_n ?_)
  refine WC_cond rfl (fun hb1 => ?_) (fun hb1 => ?_)
  ·
   try simp only [bsT] at hb1
   exact absurd hb1 (by simp)
   --stop
  ·
   try simp only [bsT] at hb1
   refine WC_skip (KSeq_n (WC_seq (WC_drawn ?_)))
   refine WD_step rfl (S_pure rfl ?_)
   refine WD_step rfl (S_pure rfl ?_)
   refine WD_step rfl (S_pure rfl ?_)
   refine WD_step rfl (S_loadO rfl pkA (by rfl) (by rfl) ?_)
   refine WD_step rfl (S_pure rfl ?_)
   refine WD_call rfl rfl rfl ?_
   refine (sp_HashOf hk).mono ?_
   rintro _ _ ⟨rfl, rfl⟩
   rw [kH_eq]
   refine WD_call rfl rfl rfl ?_
   refine (sp_DFind hel pkA (kH_lt k)).mono ?_
   rintro _ _ ⟨w2, L, rfl, rfl, hsL, hpL⟩
   have hpn : L.Perm (nearL (kvs l) (kH k)) := hpL.trans (found_perm g.holds (kH k))
   rw [← hpn.length_eq]
   refine WD_step rfl (S_lenS rfl rdA ?_)
   refine WD_step rfl (S_pure rfl ?_)
   refine WD_nil ?_
   refine ⟨?_, ?_⟩
   ·
    repeat' (first | exact trivial | apply And.intro)
    exact ObR.of_step rfl (S_loadO rfl pkA (by rfl) (by rfl) (by simp [eqV, eqV0]))
   ·
    refine KSeq_n (WC_ret ?_)
    refine KFn_r (ResL.tmp rfl ResL.nil) ?_
    exact ⟨_, hsA, rfl, rfl⟩
end Go.Proofs.YtpnmeednimpjdaaGreat.AM
namespace Go.Proofs.YtpnmeednimpjdaaGreat.AM
open Go
set_option linter.unusedSimpArgs false
set_option linter.unusedVariables false
set_option maxRecDepth 4000
theorem fnd_app (l : List Rec) (r : Rec) (k : ByteArray) (hno : ∀ q ∈ l, q.key ≠ r.key) : fnd (l ++ [r]) k = if k = r.key then some r else fnd l k := by
  induction l with
  | nil =>
    by_cases h : r.key = k
    · simp [fnd, h]
    · simp [fnd, h, Ne.symm h]
  | cons x l ih =>
    rw [List.cons_append, fnd, fnd, ih (fun q hq => hno q (List.mem_cons_of_mem _ hq))]
    by_cases h : x.key = k
    · have hx := hno x (List.mem_cons_self ..)
      rw [if_pos h, if_neg (by rintro rfl; exact hx h), if_pos h]
    · rw [if_neg h, if_neg h]
theorem fnd_set {r : Rec} {k : ByteArray} : ∀ {l : List Rec} {i : Nat} {x : Rec}, (keysOf l).Nodup → l[i]? = some x → r.key = x.key → fnd (l.set i r) k = if k = r.key then some r else fnd l k
  | [], i, x, _, h, _ => by simp at h
  | y :: l, 0, x, hn, h, hk => by
    simp at h; subst h
    rw [List.set_cons_zero, fnd, fnd, hk]
    by_cases e : y.key = k
    · rw [if_pos e, if_pos e.symm]
    · rw [if_neg e, if_neg (fun c => e c.symm), if_neg e]
  | y :: l, i + 1, x, hn, h, hk => by
    rw [List.getElem?_cons_succ] at h
    have hn' : (keysOf l).Nodup := (List.nodup_cons.1 hn).2
    have hy : y.key ∉ keysOf l := (List.nodup_cons.1 hn).1
    have hxk : x.key ∈ keysOf l := List.mem_map.2 ⟨x, List.mem_of_getElem? h, rfl⟩
    rw [List.set_cons_succ, fnd, fnd, fnd_set hn' h hk]
    by_cases e : y.key = k
    · rw [if_pos e, if_pos e, if_neg]
      rintro rfl
      rw [e, hk] at hy; exact hy hxk
    · rw [if_neg e, if_neg e]
theorem fnd_put {l : List Rec} {r : Rec} (hn : (keysOf l).Nodup) (h0 : (putF l r).1 = 0) (k : ByteArray) : fnd (putF l r).2 k = if k = r.key then some r else fnd l k := by
  unfold putF at *
  split at h0
  · exact absurd h0 (by simp)
  · rename_i hm
    rw [if_neg hm]
    split at h0
    · rename_i hi
      rw [if_pos hi]
      rcases idxK_spec l r.key with ⟨i, q, h1, h2, h3⟩ | ⟨h1, _⟩
      · rw [h1, Int.toNat_natCast]
        exact fnd_set hn h2 h3.symm
      · rw [h1] at hi; exact absurd hi (by decide)
    · rename_i hi
      rw [if_neg hi]
      split at h0
      · rename_i hr
        rw [if_pos hr]
        refine fnd_app l r k ?_
        rcases idxK_spec l r.key with ⟨i, q, h1, h2, h3⟩ | ⟨_, h2⟩
        · rw [h1] at hi; exact absurd (Int.natCast_nonneg i) hi
        · exact h2
      · exact absurd h0 (by simp)
theorem put_mem {l : List Rec} {r q : Rec} (h : q ∈ (putF l r).2) : q ∈ l ∨ q = r := by
  unfold putF at h
  split at h
  · exact .inl h
  · split at h
    · exact (List.mem_or_eq_of_mem_set h)
    · split at h
      · rcases List.mem_append.1 h with h | h
        · exact .inl h
        · simp at h; exact .inr h
      · exact .inl h
def ltr (k : Nat) : ByteArray := ⟨[UInt8.ofNat (97 + k)].toArray⟩
theorem ltr_inj {a b : Nat} (ha : a < 8) (hb : b < 8) (h : ltr a = ltr b) : a = b := by
  have := congrArg (fun b : ByteArray => (b.data.toList.headD 0).toNat) h
  simp only [ltr, List.headD_cons] at this
  rw [UInt8.toNat_ofNat_of_lt' (by show _ < 256; omega), UInt8.toNat_ofNat_of_lt' (by show _ < 256; omega)] at this
  omega
def LastI (xs : List Int) (l : List Rec) : Prop := xs.length = 8 ∧ ∀ (k : Nat) (x : Int), xs[k]? = some x → (fnd l (ltr k)).isSome = decide (x ≠ 0) ∧ ((fnd l (ltr k)).getD rec0).gone = decide (x < 0) ∧ (0 < x → ((fnd l (ltr k)).getD rec0).val.n = x - 1) ∧ -100 < x ∧ x < 100
theorem LastI.new : LastI [0, 0, 0, 0, 0, 0, 0, 0] [] := by
  refine ⟨rfl, fun k x h => ?_⟩
  have hx : x = 0 := by
    have := List.mem_of_getElem? h
    simpa using this
  subst hx
  simp [fnd, rec0]
theorem LastI.put {xs : List Int} {l : List Rec} {r : Rec} {k : Nat} {x : Int} (h : LastI xs l) (hk : k < 8) (hn : (keysOf l).Nodup) (h0 : (putF l r).1 = 0) (hr : r.key = ltr k) (h1 : x ≠ 0) (h2 : r.gone = decide (x < 0)) (h3 : 0 < x → r.val.n = x - 1) (h4 : -100 < x ∧ x < 100) : LastI (xs.set k x) (putF l r).2 := by
  refine ⟨by rw [List.length_set]; exact h.1, fun k' x' hx => ?_⟩
  rw [fnd_put hn h0, hr]
  rw [List.getElem?_set] at hx
  have hl := h.1
  by_cases e : k = k'
  · subst e
    rw [if_pos rfl, if_pos (by omega)] at hx
    cases hx
    rw [if_pos rfl]
    exact ⟨by simp [h1], h2, h3, h4.1, h4.2⟩
  · rw [if_neg e] at hx
    have hk' : k' < 8 := by have := (List.getElem?_eq_some_iff.1 hx).1; omega
    rw [if_neg (fun c => e (ltr_inj hk' hk c).symm)]
    exact h.2 k' x' hx
theorem Inc.nd {l : List Rec} (h : Inc l) : (keysOf l).Nodup := by
  unfold List.Nodup keysOf
  rw [List.pairwise_map]
  exact h.imp fun {a b} hab e => by
    unfold kl at hab
    rw [e] at hab
    exact List.lt_irrefl _ hab
theorem sp_lList {H : SH} {j i n : Nat} {w : SV} {l : List Rec} {es : List Ent} (hl : l.length ≤ 1000000) (hk : ∀ x ∈ l, x.key.size ≤ maxLen) : WF F X f_logstore_Log_List [.pointer (some ⟨j, 0, none⟩)] (LO j i w :: SL w.toV TRec l :: DO i es n :: H) (fun v H' => ∃ u : SV, v = u.toV ∧ H' = SL u.toV TRec (newest l) :: LO j i w :: SL w.toV TRec l :: DO i es n :: H) := by
  refine WF_fn F_logstore_Log_List ?_
  refine WC_seq (WC_region ?_)
  refine WO_step rfl (S_pure rfl ?_)
  refine WO_nil (KSeq_n (WC_seq (WC_seq (WC_region ?_))))
  iterate 2 refine WO_step rfl (S_pure rfl ?_)
  refine WO_nil (KSeq_n ?_)
  refine WC_cond rfl (fun hb1 => ?_) (fun hb1 => ?_)
  ·
   try simp only [bsT] at hb1
   exact absurd hb1 (by simp)
   --stop
  ·
   try simp only [bsT] at hb1
   refine WC_skip (KSeq_n (WC_seq (WC_region ?_)))
   iterate 3 refine WO_step rfl (S_pure rfl ?_)
   refine WO_step rfl (S_loadO rfl pkA (by rfl) (by rfl) ?_)
   refine WO_call rfl rfl rfl ?_
   refine (sp_rNewest rdA (by omega) (by assumption)).mono ?_
   rintro _ _ ⟨w9, rfl, rfl⟩
   refine WO_step rfl (S_pure rfl ?_)
   refine WO_nil (KSeq_n (WC_ret ?_))
   refine KFn_r (ResL.tmp rfl ResL.nil) ?_
   exact ⟨_, HSub.refl, _, rfl, rfl⟩
def occ (es : List Ent) (k : Nat) : List Int := if (at' es k).has then [(at' es k).id] else []
def occFrom (es : List Ent) : Nat → Nat → List Int
  | _, 0 => []
  | k, n + 1 => occ es k ++ occFrom es (k + 1) n
theorem Left.ids {es : List Ent} : ∀ (n k : Nat) (L : List Kv), k + n = 32 → Left es k L → (occFrom es k n).Perm (L.map (·.id))
  | 0, k, L, hk, h => by
    have : k = 32 := by omega
    subst this
    rw [h.end']; exact List.Perm.refl _
  | n + 1, k, L, hk, h => by
    rw [occFrom]
    unfold occ
    cases he : (at' es k).has with
    | false =>
      simp only [Bool.false_eq_true, if_false, List.nil_append]
      exact Left.ids n (k + 1) L (by omega) (h.none (by omega) he)
    | true =>
      simp only [if_true]
      obtain ⟨x, hx, hf⟩ := h.some (by omega) he
      obtain ⟨A, B, rfl⟩ := List.append_of_mem hx
      have h2 := Left.ids n (k + 1) (A ++ B) (by omega) (h.take (by omega) he hf)
      have e := (fits_iff.1 hf).1
      rw [List.map_append, List.map_cons]
      refine List.Perm.trans ?_ List.perm_middle.symm
      rw [e]
      rw [List.map_append] at h2
      exact h2.cons _
theorem Left.mem {es : List Ent} {l0 : List Kv} : ∀ (k : Nat), k ≤ 32 → Left es 0 l0 → ∃ L, Left es k L ∧ ∀ x ∈ L, x ∈ l0
  | 0, _, h => ⟨l0, h, fun _ hx => hx⟩
  | k + 1, hk, h => by
    obtain ⟨L, h1, h2⟩ := Left.mem k (by omega) h
    cases he : (at' es k).has with
    | false => exact ⟨L, h1.none (by omega) he, h2⟩
    | true =>
      obtain ⟨x, hx, hf⟩ := h1.some (by omega) he
      obtain ⟨A, B, rfl⟩ := List.append_of_mem hx
      exact ⟨A ++ B, h1.take (by omega) he hf, fun y hy => h2 y (by
        rcases List.mem_append.1 hy with hy | hy
        · exact List.mem_append_left _ hy
        · exact List.mem_append_right _ (List.mem_cons_of_mem _ hy))⟩
theorem kvsF_ids : ∀ (a : Nat) (l : List Rec), (kvsF a l).map (·.id) = (List.range' a l.length).map fun i => ((i : Nat) : Int)
  | _, [] => rfl
  | a, r :: l => by rw [kvsF, List.map_cons, kvsF_ids (a + 1) l, List.length_cons, List.range'_succ, List.map_cons]
theorem LogI.slot {es : List Ent} {l : List Rec} (g : LogI es l) {k : Nat} (hk : k < 32) (he : (at' es k).has = true) : ∃ (i : Nat) (r : Rec), (at' es k).id = (i : Int) ∧ l[i]? = some r ∧ tagOf (kH r.key) = (at' es k).tag ∧ (k / 4 = frst (kH r.key) ∨ k / 4 = oth (frst (kH r.key)) (tagOf (kH r.key))) := by
  obtain ⟨L, h1, h2⟩ := Left.mem k (by omega) (Left.start g.holds)
  obtain ⟨x, hx, hf⟩ := h1.some hk he
  obtain ⟨i, r, hr, rfl⟩ := (kvsF_mem 0 l).1 (h2 x hx)
  obtain ⟨e1, e2, e3⟩ := fits_iff.1 hf
  simp only [Nat.zero_add] at e1
  exact ⟨i, r, e1.symm, hr, e2, by rw [e2]; exact e3⟩
def recAt (l : List Rec) (v : Int) : Rec := (l[v.toNat]?).getD rec0
def recsFrom (es : List Ent) (l : List Rec) (k n : Nat) : List Rec := (occFrom es k n).map (recAt l)
theorem range_recs (l : List Rec) : ((List.range' 0 l.length).map fun i => ((i : Nat) : Int)).map (recAt l) = l := by
  rw [List.map_map]
  refine List.ext_getElem (by simp) (fun i h1 h2 => ?_)
  simp [recAt, List.getElem?_eq_getElem h2]
theorem recs_perm {es : List Ent} {l : List Rec} (g : LogI es l) : (recsFrom es l 0 32).Perm l := by
  have h1 := Left.ids 32 0 (kvs l) rfl (Left.start g.holds)
  have h2 := h1.map (recAt l)
  unfold kvs at h2
  rw [kvsF_ids, range_recs] at h2
  exact h2
def sltOf (es : List Ent) (l : List Rec) (k : Nat) : SlT := if (at' es k).has then ⟨true, recAt l (at' es k).id⟩ else slt0
theorem newest_same {a b : List Rec} (h : a.Perm b) (hb : (keysOf b).Nodup) : newest a = newest b := by
  have ha : (keysOf a).Nodup := (h.map _).nodup_iff.2 hb
  refine Inc.uniq (newest_spec a).1 (newest_spec b).1 (fun k => ?_)
  rw [fnd_newest ha, fnd_newest hb]
  exact fnd_mem_congr ha hb (fun r => h.mem_iff) k
theorem sp_lSlot {H : SH} {j i n b s : Nat} {w : SV} {l : List Rec} {es : List Ent} (g : LogI es l) (hb : b < 8) (hs : s < 4) : WF F X f_logstore_Log_Slot [.pointer (some ⟨j, 0, none⟩), .int .i64 (b : Int), .int .i64 (s : Int)] (LO j i w :: SL w.toV TRec l :: DO i es n :: H) (fun v H' => H' = LO j i w :: SL w.toV TRec l :: DO i es n :: H ∧ v = .tuple #[TRec.val (sltOf es l (b * 4 + s)).r, .bool (sltOf es l (b * 4 + s)).has]) := by
  have hel := g.good.len
  have hl := g.len
  refine WF_fn F_logstore_Log_Slot ?_
  refine WC_seq (WC_region ?_)
  refine WO_step rfl (S_newT TRec rec0 rfl rfl fun i6 => ?_)
  refine WO_step rfl (S_pure rfl ?_)
  refine WO_nil (KSeq_n (WC_seq (WC_seq (WC_region ?_))))
  iterate 2 refine WO_step rfl (S_pure rfl ?_)
  refine WO_nil (KSeq_n ?_)
  refine WC_cond rfl (fun hb1 => ?_) (fun hb1 => ?_)
  ·
   try simp only [bsT] at hb1
   exact absurd hb1 (by simp)
   --stop
  ·
   try simp only [bsT] at hb1
   refine WC_skip (KSeq_n (WC_seq (WC_region ?_)))
   iterate 3 refine WO_step rfl (S_pure rfl ?_)
   refine WO_step rfl (S_loadO rfl pkA (by rfl) (by rfl) ?_)
   iterate 2 refine WO_step rfl (S_pure rfl ?_)
   refine WO_call rfl rfl rfl ?_
   refine (sp_At hel pkA hb hs).mono ?_
   rintro _ _ ⟨rfl, rfl⟩
   iterate 7 refine WO_step rfl (S_pure rfl ?_)
   refine WO_nil (KSeq_n (WC_seq (WC_seq (WC_region ?_))))
   iterate 2 refine WO_step rfl (S_pure rfl ?_)
   refine WO_nil (KSeq_n ?_)
   refine WC_cond rfl (fun hb2 => ?_) (fun hb2 => ?_)
   ·
    try simp only [bsT] at hb2
    refine WC_seq (WC_region ?_)
    refine WO_step rfl (S_pure rfl ?_)
    refine WO_step rfl (S_storeO rfl rfl pkA (by first | rfl | exact SV.cells1 _) (by rfl) (by first | rfl | exact SV.ones _) ?_)
    refine WO_step rfl (S_pure rfl ?_)
    refine WO_nil (KSeq_n (WC_ret (KSeq_r ?_)))
    refine KFn_r (ResL.cell rfl pkA (Nat.le_of_ble_eq_true rfl) rfl (ResL.tmp rfl ResL.nil)) ?_
    refine ⟨_, hsA, rfl, ?_⟩
    unfold sltOf
    rw [hb2]; rfl
   ·
    try simp only [bsT] at hb2
    have hhas : (at' es (b * 4 + s)).has = true := by simpa using hb2
    obtain ⟨i0, q, e1, e2, _⟩ := g.slot (by omega) hhas
    have hi0 := (List.getElem?_eq_some_iff.1 e2).1
    rw [e1]
    refine WC_skip (KSeq_n (WC_seq (WC_region ?_)))
    iterate 3 refine WO_step rfl (S_pure rfl ?_)
    refine WO_step rfl (S_loadO rfl pkA (by rfl) (by rfl) ?_)
    refine WO_step rfl (S_pure rfl ?_)
    refine WO_step rfl (S_idx rfl rfl rdA (by first | rfl | assumption | (symm; assumption)) (by rfl) (by first | assumption | omega | exact lt_of_get (by assumption) | (simp only [List.length_set]; first | assumption | omega | exact lt_of_get (by assumption))) fun hp33 => ?_)
    refine WO_step rfl (S_loadE rfl rdA (by first | rfl | assumption | (symm; assumption)) (by first | rfl | assumption | (symm; assumption)) (by first | rfl | assumption | (symm; assumption)) (by assumption) ?_)
    refine WO_step rfl (S_storeO rfl rfl pkA (by first | rfl | exact SV.cells1 _) (by rfl) (by first | rfl | exact SV.ones _) ?_)
    refine WO_step rfl (S_pure rfl ?_)
    refine WO_nil (KSeq_n (WC_ret ?_))
    refine KFn_r (ResL.cell rfl pkA (Nat.le_of_ble_eq_true rfl) rfl (ResL.tmp rfl ResL.nil)) ?_
    refine ⟨_, hsA, rfl, ?_⟩
    unfold sltOf
    rw [hhas]
    simp only [if_true, e1, recAt, Int.toNat_natCast, e2, Option.getD_some]; rfl
end Go.Proofs.YtpnmeednimpjdaaGreat.AM
namespace Go.Proofs.YtpnmeednimpjdaaGreat.AM
open Go
set_option linter.unusedSimpArgs false
set_option linter.unusedVariables false
set_option maxRecDepth 4000
def tabT (es : List Ent) (l : List Rec) : List SlT := (List.range 32).map (sltOf es l)
theorem tabT_at {es : List Ent} {l : List Rec} {k : Nat} (h : k < 32) : (tabT es l)[k]? = some (sltOf es l k) := by simp [tabT, h]
theorem tabT_len (es : List Ent) (l : List Rec) : (tabT es l).length = 32 := by simp [tabT]
theorem tRecs_tab {es : List Ent} {l : List Rec} : ∀ k, k ≤ 32 → tRecs (tabT es l) k = recsFrom es l 0 k
  | 0, _ => rfl
  | k + 1, h => by
    have hx := tabT_at (es := es) (l := l) (show k < 32 by omega)
    rw [tRecs_succ hx, tRecs_tab k (by omega)]
    have key : ∀ (n a : Nat), recsFrom es l a (n + 1) = recsFrom es l a n ++ (occ es (a + n)).map (recAt l) := by
      intro n
      induction n with
      | zero => intro a; simp [recsFrom, occFrom]
      | succ n ih =>
        intro a
        have := ih (a + 1)
        unfold recsFrom at this ⊢
        rw [occFrom, List.map_append, this, occFrom, List.map_append, List.append_assoc, show a + 1 + n = a + (n + 1) by omega]
    rw [key k 0, Nat.zero_add]
    congr 1
    unfold sltOf occ
    cases (at' es k).has <;> simp [slt0]
theorem tab_perm {es : List Ent} {l : List Rec} (g : LogI es l) : (tRecs (tabT es l) 32).Perm l := by
  rw [tRecs_tab 32 (by omega)]; exact recs_perm g
theorem tab_newest {es : List Ent} {l : List Rec} (g : LogI es l) : newest (tRecs (tabT es l) 32) = newest l := newest_same (tab_perm g) g.nd
theorem rec0_wf : wfRec rec0 := ⟨⟨by decide, by decide⟩, ⟨by decide, by decide⟩, by decide, by decide⟩
theorem tab_slot {es : List Ent} {l : List Rec} (g : LogI es l) {k : Nat} (hk : k < 32) : sltOf es l k = slt0 ∨ ∃ r ∈ l, sltOf es l k = ⟨true, r⟩ ∧ (k / 4 = frst (kH r.key) ∨ k / 4 = oth (frst (kH r.key)) (tagOf (kH r.key))) := by
  unfold sltOf
  split
  · rename_i h
    obtain ⟨i, r, e1, e2, e3, e4⟩ := g.slot hk h
    refine .inr ⟨r, List.mem_of_getElem? e2, ?_, e4⟩
    unfold recAt; rw [e1, Int.toNat_natCast, e2]; rfl
  · exact .inl rfl
theorem keys_fresh {ts : List SlT} {k : Nat} {x : SlT} (hnd : (keysOf (tRecs ts 32)).Nodup) (hk : k < 32) (hx : ts[k]? = some x) (hh : x.has = true) : x.r.key ∉ tKeys ts k := by
  have key : ∀ n, k + 1 + n ≤ 32 → ∃ L, keysOf (tRecs ts (k + 1 + n)) = tKeys ts k ++ x.r.key :: L := by
    intro n
    induction n with
    | zero =>
      intro _
      refine ⟨[], ?_⟩
      show (tRecs ts (k + 1)).map (·.key) = _
      rw [tRecs_keys, tKeys_succ hx, hh]; rfl
    | succ n ih =>
      intro h
      obtain ⟨L, hL⟩ := ih (by omega)
      by_cases hlt : k + 1 + n < ts.length
      · obtain ⟨y, hy⟩ := get_of_lt hlt
        refine ⟨L ++ if y.has then [y.r.key] else [], ?_⟩
        have e : keysOf (tRecs ts (k + 1 + (n + 1))) = keysOf (tRecs ts (k + 1 + n)) ++ if y.has then [y.r.key] else [] := by
          rw [show k + 1 + (n + 1) = k + 1 + n + 1 by omega, tRecs_succ hy]
          unfold keysOf
          rw [List.map_append]
          cases y.has <;> rfl
        rw [e, hL]; simp
      · refine ⟨L, ?_⟩
        rw [← hL]
        unfold tRecs
        rw [List.take_of_length_le (by omega), List.take_of_length_le (by omega)]
  obtain ⟨L, hL⟩ := key (32 - (k + 1)) (by omega)
  rw [show k + 1 + (32 - (k + 1)) = 32 by omega] at hL
  rw [hL, List.nodup_append] at hnd
  exact fun h => hnd.2.2 _ h _ (by simp) rfl
theorem tab_good {es : List Ent} {l : List Rec} (g : LogI es l) (hm : ∀ r ∈ l, mayRec r = true) (hw : ∀ r ∈ l, wfRec r) : GoodT (tabT es l) := by
  have hl := tabT_len es l
  refine ⟨hl, fun x hx => ?_, (mayTab_iff hl).2 fun j x hj hx => ?_⟩
  · obtain ⟨k, hk⟩ := List.getElem?_of_mem hx
    have hk32 : k < 32 := by have := (List.getElem?_eq_some_iff.1 hk).1; rwa [hl] at this
    rw [tabT_at hk32] at hk
    cases hk
    rcases tab_slot g hk32 with e | ⟨r, hr, e, _⟩
    · rw [e]; exact rec0_wf
    · rw [e]; exact hw r hr
  · have hx' := hx
    rw [tabT_at hj] at hx
    cases hx
    have hnd : (keysOf (tRecs (tabT es l) 32)).Nodup := ((tab_perm g).map _).nodup_iff.2 g.nd
    rcases tab_slot g hj with e | ⟨r, hr, e, hb⟩
    · rw [e]; rfl
    · have hf := keys_fresh hnd hj hx' (by rw [e])
      rw [e] at hf ⊢
      unfold slOk
      rw [if_pos rfl]
      have h1 : bel r.key (j / 4) = true := by unfold bel; simpa using hb
      have h2 : inB (tKeys (tabT es l) j) r.key = false := inB_false.2 hf
      show (mayRec r && (bel r.key (j / 4) && !inB (tKeys (tabT es l) j) r.key)) = true
      rw [hm r hr, h1, h2]; rfl
theorem kvsF_count (p : Nat → Bool) : ∀ (a : Nat) (l : List Rec), ((kvsF a l).filter fun x => p x.h).length = (hsOf l).countP p
  | _, [] => rfl
  | a, r :: l => by
    have ih := kvsF_count p (a + 1) l
    rw [kvsF, List.filter_cons]
    unfold hsOf at ih ⊢
    rw [List.map_cons, List.countP_cons, ← ih]
    cases h : p (kH r.key) <;> simp
theorem reads_eqT {l : List Rec} (h : (keysOf l).Nodup) (k : Nat) : (nearL (kvs l) k).length = (hsOf (newest l)).countP (near k) := by
  unfold nearL kvs
  rw [List.length_map, kvsF_count]
  exact (((newest_perm h).map _).countP_eq _).symm
theorem put_may {l : List Rec} {r q : Rec} (h : ∀ x ∈ l, mayRec x = true) (hq : q ∈ (putF l r).2) : mayRec q = true := by
  by_cases hr : mayRec r = true
  · rcases put_mem hq with hq | rfl
    · exact h q hq
    · exact hr
  · unfold putF at hq
    rw [if_pos (by simpa using hr)] at hq
    exact h q hq
theorem lp_TL0 {H : SH} {v : Value} {N : List Rec} {j iD : Nat} (hv : RD H v TRec N) (hN : N.length ≤ 100) : ∀ (m a : Nat) (w : SV) (l : List Rec) (es : List Ent), N.length - a = m → a ≤ N.length → LogI es l → (∀ x ∈ l, mayRec x = true) → (∀ x ∈ l, x ∈ N) →
    WC F X (.loop L_loesslaw20_TableLog_0) [(5, .int .i64 (a : Int)), (0, v), (4, .pointer (some ⟨j, 0, none⟩))] (LO j iD w :: SL w.toV TRec l :: DO iD es l.length :: H)
      (KPost fun x l' H' => ∃ (w : SV) (l : List Rec) (es : List Ent), x = .exit 0 ∧ l' = [(0, v), (4, .pointer (some ⟨j, 0, none⟩))] ∧ H' = LO j iD w :: SL w.toV TRec l :: DO iD es l.length :: H ∧ LogI es l ∧ (∀ x ∈ l, mayRec x = true) ∧ (∀ x ∈ l, x ∈ N)) := by
  intro m
  induction m using Nat.strongRecOn with
  | _ m ih =>
    intro a w l es hm ha hg hal hin
    refine WC_loop (WC_seq (WC_seq (WC_region ?_)))
    iterate 2 refine WO_step rfl (S_pure rfl ?_)
    first | refine WO_step rfl (S_pure rfl ?_) | refine WO_step rfl (S_lenS rfl rdA ?_)
    refine WO_step rfl (S_pure rfl ?_)
    refine WO_nil (KSeq_n ?_)
    refine WC_cond rfl (fun hb1 => ?_) (fun hb1 => ?_)
    ·
     try simp only [bsT] at hb1
     obtain ⟨r, hr⟩ := get_of_lt hb1
     refine WC_skip (KSeq_n (WC_seq (WC_block (WC_region ?_))))
     iterate 3 refine WO_step rfl (S_pure rfl ?_)
     refine WO_step rfl (S_idx rfl rfl rdA (by first | rfl | assumption | (symm; assumption)) (by rfl) (by first | assumption | omega | exact lt_of_get (by assumption) | (simp only [List.length_set]; first | assumption | omega | exact lt_of_get (by assumption))) fun hp32 => ?_)
     refine WO_step rfl (S_loadE rfl rdA (by first | rfl | assumption | (symm; assumption)) (by first | rfl | assumption | (symm; assumption)) (by first | rfl | assumption | (symm; assumption)) (by assumption) ?_)
     refine WO_call rfl rfl rfl ?_
     refine (WF.weak (sp_lPut (H := H) (w := w) (i := iD) (j := j) (r := r) hg) hsA).mono ?_
     rintro _ _ ⟨es', w', rfl, rfl, hg'⟩
     refine WO_nil (KBlock_n (KSeq_n (WC_region ?_)))
     refine WO_step rfl (S_pure rfl ?_)
     first | refine WO_step rfl (S_addN (b := 1) rfl rfl (by omega) ?_) | refine WO_step rfl (S_pure rfl ?_)
     refine WO_step rfl (S_pure rfl ?_)
     refine WO_nil (KLoop_n ?_)
     exact WC_weak (ih (N.length - (a + 1)) (by omega) (a + 1) w' (putF l r).2 es' rfl (by omega) hg' (fun x hx => put_may hal hx) (fun x hx => by rcases put_mem hx with h | rfl; exact hin x h; exact List.mem_of_getElem? hr)) seA hsA
    ·
     try simp only [bsT] at hb1
     refine WC_exit (KSeq_x (KLoop_x ?_))
     exact KPost_i seA hsA ⟨w, l, es, rfl, rfl, rfl, hg, hal, hin⟩
theorem lp_TL1 {H : SH} {j iD n i6 : Nat} {w : SV} {l : List Rec} {es : List Ent} {v0 : Value} (g : LogI es l) : ∀ (m k : Nat) (ts : List SlT), 32 - k = m → k ≤ 32 → ts.length = 32 → (∀ q, q < k → ts[q]? = some (sltOf es l q)) → (∀ q, k ≤ q → q < 32 → ts[q]? = some slt0) →
    WC F X (.loop L_loesslaw20_TableLog_1) [(7, .int .i64 (k : Int)), (6, .pointer (some ⟨i6, 0, none⟩)), (4, .pointer (some ⟨j, 0, none⟩)), (0, v0)] (AO i6 43 TSlT ts :: LO j iD w :: SL w.toV TRec l :: DO iD es n :: H)
      (KPost fun y l' H' => y = .exit 2 ∧ l' = [(6, .pointer (some ⟨i6, 0, none⟩)), (4, .pointer (some ⟨j, 0, none⟩)), (0, v0)] ∧ H' = AO i6 43 TSlT (tabT es l) :: LO j iD w :: SL w.toV TRec l :: DO iD es n :: H) := by
  intro m
  induction m using Nat.strongRecOn with
  | _ m ih =>
    intro k ts hm hk hl hts htz
    refine WC_loop (WC_seq (WC_seq (WC_region ?_)))
    iterate 2 refine WO_step rfl (S_pure rfl ?_)
    refine WO_nil (KSeq_n ?_)
    refine WC_cond rfl (fun hb1 => ?_) (fun hb1 => ?_)
    ·
     try simp only [bsT] at hb1
     obtain ⟨x, hx⟩ : ∃ x, sltOf es l k = x := ⟨_, rfl⟩
     refine WC_skip (KSeq_n (WC_seq (WC_block (WC_seq (WC_region ?_)))))
     iterate 2 refine WO_step rfl (S_pure rfl ?_)
     refine WO_step rfl (S_quoN (a := k) (m := 4) rfl rfl (by omega) (by omega) ?_)
     refine WO_step rfl (S_pure rfl ?_)
     refine WO_step rfl (S_remU (a := k) (m := 4) rfl rfl (by omega) ?_)
     refine WO_call rfl rfl rfl ?_
     refine (WF.weak (sp_lSlot (H := AO i6 43 TSlT ts :: H) (j := j) (i := iD) (n := n) (w := w) (b := k / 4) (s := k % 4) g (by omega) (by omega)) hsA).mono ?_
     rintro _ _ ⟨rfl, rfl⟩
     rw [show k / 4 * 4 + k % 4 = k by omega, hx]
     iterate 3 refine WO_step rfl (S_pure rfl ?_)
     refine WO_step rfl (S_newT TRec rec0 rfl rfl fun i8 => ?_)
     refine WO_step rfl (S_storeT (T := TRec) (y := x.r) rfl rfl pkA (by rfl) (by rfl) ?_)
     refine WO_step rfl (S_pure rfl ?_)
     refine WO_nil (KSeq_n (WC_seq (WC_region ?_)))
     refine WO_step rfl (S_pure rfl ?_)
     refine WO_nil (KSeq_n ?_)
     refine WC_cond rfl (fun hb2 => ?_) (fun hb2 => ?_)
     ·
      try simp only [bsT] at hb2
      refine WC_region ?_
      refine WO_step rfl (S_pure rfl ?_)
      refine WO_step rfl (S_quoN (a := k) (m := 4) rfl rfl (by omega) (by omega) ?_)
      refine WO_step rfl (S_pure rfl ?_)
      refine WO_step rfl (S_remU (a := k) (m := 4) rfl rfl (by omega) ?_)
      refine WO_step rfl (S_loadT (T := TRec) (z := x.r) rfl pkA (by rfl) (by rfl) ?_)
      refine WO_step rfl (S_pure rfl ?_)
      refine WO_step rfl (S_idxA (j := k / 4) rfl rfl rfl (by omega) ?_)
      refine WO_step rfl (S_idxA (j := k % 4) rfl rfl rfl (by omega) ?_)
      refine WO_step rfl (S_storeA (T := TSlT) (k := k) (x := ⟨true, x.r⟩) rfl rfl pkA (by show _ = k * 6; omega) (by omega) (by rfl) rfl ?_)
      refine WO_nil (KBlock_n (KSeq_n (WC_region ?_)))
      refine WO_step rfl (S_pure rfl ?_)
      first | refine WO_step rfl (S_addN (b := 1) rfl rfl (by omega) ?_) | refine WO_step rfl (S_pure rfl ?_)
      refine WO_step rfl (S_pure rfl ?_)
      refine WO_nil (KLoop_n ?_)
      have hxt : x = ⟨true, x.r⟩ := by
        obtain ⟨h, r⟩ := x
        have : h = true := by simpa using hb2
        rw [this]
      refine WC_weak (ih (32 - (k + 1)) (by omega) (k + 1) (ts.set k ⟨true, x.r⟩) rfl (by omega) (by rw [List.length_set]; exact hl) (fun q hq => ?_) (fun q h1 h2 => ?_)) seA hsA
      · rw [List.getElem?_set]
        by_cases e : k = q
        · subst e
          rw [if_pos rfl, if_pos (by omega), hx, ← hxt]
        · rw [if_neg e]; exact hts q (by omega)
      · rw [List.getElem?_set_ne (by omega)]; exact htz q (by omega) h2
     ·
      try simp only [bsT] at hb2
      refine WC_skip (KBlock_n (KSeq_n (WC_region ?_)))
      refine WO_step rfl (S_pure rfl ?_)
      first | refine WO_step rfl (S_addN (b := 1) rfl rfl (by omega) ?_) | refine WO_step rfl (S_pure rfl ?_)
      refine WO_step rfl (S_pure rfl ?_)
      refine WO_nil (KLoop_n ?_)
      have hxf : x.has = false := by simpa using hb2
      have hx0 : x = slt0 := by
        rw [← hx] at hxf ⊢
        unfold sltOf at hxf ⊢
        split
        · rename_i h; rw [if_pos h] at hxf; cases hxf
        · rfl
      refine WC_weak (ih (32 - (k + 1)) (by omega) (k + 1) ts rfl (by omega) hl (fun q hq => ?_) (fun q h1 h2 => htz q (by omega) h2)) seA hsA
      by_cases e : k = q
      · subst e
        rw [hx, hx0]; exact htz _ (by omega) (by omega)
      · exact hts q (by omega)
    ·
     try simp only [bsT] at hb1
     refine WC_exit (KSeq_x (KLoop_x ?_))
     have ek : k = 32 := by omega
     subst ek
     have et : ts = tabT es l := by
       apply List.ext_getElem?
       intro q
       by_cases hq : q < 32
       · rw [hts q hq, tabT_at hq]
       · rw [List.getElem?_eq_none (by omega), List.getElem?_eq_none (by rw [tabT_len]; omega)]
     subst et
     exact KPost_i (H' := AO i6 43 TSlT (tabT es l) :: LO j iD w :: SL w.toV TRec l :: DO iD es n :: H) seA hsA ⟨rfl, rfl, rfl⟩
theorem lp_TL2 {H : SH} {v : Value} {N l : List Rec} {ts : List SlT} {es : List Ent} {j iD n i i2 : Nat} {w wk wr wt : SV} (hv : RD H v TRec N) (hN : N.length ≤ 100) (hk : ∀ x ∈ N, x.key.size ≤ 1000000) (g : LogI es l) (gt : GoodT ts) (hnw : newest (tRecs ts 32) = newest l) (hr : ∀ k, (likeL ts k).length = (nearL (kvs l) (kH k)).length) : ∀ (m a : Nat), N.length - a = m → a ≤ N.length →
    WC F X (.loop L_loesslaw20_TableLog_2) [(12, .int .i64 (a : Int)), (0, v), (10, .pointer (some ⟨i, 0, none⟩)), (4, .pointer (some ⟨j, 0, none⟩))] (STO i ts i2 wk wr wt (LO j iD w :: SL w.toV TRec l :: DO iD es n :: H))
      (KPost fun x l' H' => x = .exit 4 ∧ l' = [] ∧ H' = []) := by
  intro m
  induction m using Nat.strongRecOn with
  | _ m ih =>
    intro a hm ha
    have hvS : RD (STO i ts i2 wk wr wt (LO j iD w :: SL w.toV TRec l :: DO iD es n :: H)) v TRec N := by
      unfold STO
      exact hv.tail.tail.tail.tail.tail.tail.tail.tail
    unfold STO at hvS ⊢
    refine WC_loop (WC_seq (WC_seq (WC_region ?_)))
    iterate 2 refine WO_step rfl (S_pure rfl ?_)
    first | refine WO_step rfl (S_pure rfl ?_) | refine WO_step rfl (S_lenS rfl rdA ?_)
    refine WO_step rfl (S_pure rfl ?_)
    refine WO_nil (KSeq_n ?_)
    refine WC_cond rfl (fun hb1 => ?_) (fun hb1 => ?_)
    ·
     try simp only [bsT] at hb1
     obtain ⟨r, hr1⟩ := get_of_lt hb1
     have hrk := hk r (List.mem_of_getElem? hr1)
     have hf : fnd (likeL ts r.key) r.key = fnd l r.key := by rw [fnd_like gt, hnw, fnd_newest g.nd]
     have hrr := hr r.key
     obtain ⟨o, ho⟩ : ∃ o, fnd l r.key = o := ⟨_, rfl⟩
     obtain ⟨c, hc⟩ : ∃ c, (nearL (kvs l) (kH r.key)).length = c := ⟨_, rfl⟩
     rw [ho] at hf
     rw [hc] at hrr
     refine WC_skip (KSeq_n (WC_seq (WC_block (WC_seq (WC_region ?_)))))
     iterate 3 refine WO_step rfl (S_pure rfl ?_)
     refine WO_step rfl (S_idx rfl rfl rdA (by first | rfl | assumption | (symm; assumption)) (by rfl) (by first | assumption | omega | exact lt_of_get (by assumption) | (simp only [List.length_set]; first | assumption | omega | exact lt_of_get (by assumption))) fun hp82 => ?_)
     refine WO_step rfl (S_fldE rfl (by repeat (first | assumption | apply IsP.padd)) ?_)
     refine WO_step rfl (S_loadF rfl rdA (by rfl) (by assumption) (by rfl) (by rfl) ?_)
     refine WO_call rfl rfl rfl ?_
     refine (WF.weak (sp_hGet (i := i) (i2 := i2) (wk := wk) (wr := wr) (wt := wt) (ts := ts) (k := r.key) (H := LO j iD w :: SL w.toV TRec l :: DO iD es n :: H) gt.1 hrk) (by unfold STO; exact hsA)).mono ?_
     rintro _ _ ⟨rfl, rfl⟩
     unfold STO
     rw [hf]
     iterate 3 refine WO_step rfl (S_pure rfl ?_)
     refine WO_step rfl (S_newT TRec rec0 rfl rfl fun i13 => ?_)
     refine WO_step rfl (S_storeT (T := TRec) (y := o.getD rec0) rfl rfl pkA (by rfl) (by rfl) ?_)
     refine WO_step rfl (S_pure rfl ?_)
     refine WO_nil (KSeq_n (WC_seq (WC_region ?_)))
     iterate 3 refine WO_step rfl (S_pure rfl ?_)
     refine WO_step rfl (S_idx rfl rfl rdA (by first | rfl | assumption | (symm; assumption)) (by rfl) (by first | assumption | omega | exact lt_of_get (by assumption) | (simp only [List.length_set]; first | assumption | omega | exact lt_of_get (by assumption))) fun hp92 => ?_)
     refine WO_step rfl (S_fldE rfl (by repeat (first | assumption | apply IsP.padd)) ?_)
     refine WO_step rfl (S_loadF rfl rdA (by rfl) (by assumption) (by rfl) (by rfl) ?_)
     refine WO_call rfl rfl rfl ?_
     refine (WF.weak (sp_lGet (H := OB i13 TRec (o.getD rec0) :: STO i ts i2 wk wr wt H) (j := j) (i := iD) (n := n) (w := w) (k := r.key) g hrk) (by unfold STO; exact hsA)).mono ?_
     rintro _ _ ⟨rfl, rfl⟩
     unfold STO
     rw [ho]
     iterate 3 refine WO_step rfl (S_pure rfl ?_)
     refine WO_step rfl (S_newT TRec rec0 rfl rfl fun i15 => ?_)
     refine WO_step rfl (S_storeT (T := TRec) (y := o.getD rec0) rfl rfl pkA (by rfl) (by rfl) ?_)
     refine WO_step rfl (S_pure rfl ?_)
     refine WO_nil (KSeq_n (WC_seq (WC_drawn ?_)))
     refine WD_step rfl (S_pure rfl ?_)
     refine WD_step rfl (S_pure rfl ?_)
     refine WD_step rfl (S_pure rfl ?_)
     refine WD_step rfl (S_pure rfl ?_)
     refine WD_cases (t := 101) rfl (fun hg1 => ?_) (fun hg1 => ?_)
     ·
      try simp only [bsT] at hg1
      refine WD_off rfl ?_
      refine WD_off rfl ?_
      refine WD_off rfl ?_
      refine WD_off rfl ?_
      refine WD_step rfl (S_pure rfl ?_)
      refine WD_step rfl (S_pure rfl ?_)
      refine WD_off rfl ?_
      refine WD_off rfl ?_
      refine WD_off rfl ?_
      refine WD_off rfl ?_
      refine WD_off rfl ?_
      refine WD_off rfl ?_
      refine WD_off rfl ?_
      refine WD_off rfl ?_
      refine WD_off rfl ?_
      refine WD_off rfl ?_
      refine WD_off rfl ?_
      refine WD_off rfl ?_
      refine WD_off rfl ?_
      refine WD_off rfl ?_
      refine WD_off rfl ?_
      refine WD_step rfl (S_pure rfl ?_)
      refine WD_nil ?_
      refine ⟨?_, ?_⟩
      ·
       exact ⟨ObR.off rfl, trivial⟩
      ·
       refine KSeq_n ?_
       refine WC_cond rfl (fun _ => ?_) (fun h => ?_)
       rotate_left
       · exact absurd h (by decide)
       refine WC_seq (WC_region ?_)
       refine WO_step rfl (S_pure rfl ?_)
       refine WO_nil (KSeq_n (WC_ret (KBlock_r (KSeq_r (KLoop_r ?_)))))
       first
         | exact KPost_i (l' := []) (H' := []) seA HSub.nil ⟨rfl, rfl, rfl⟩
         | (exfalso; simp at *; done)
     ·
      try simp only [bsT] at hg1
      refine WD_step rfl (S_loadO rfl pkA (by rfl) (by rfl) ?_)
      refine WD_step rfl (S_loadO rfl pkA (by rfl) (by rfl) ?_)
      refine WD_call rfl rfl rfl ?_
      refine (sp_Eq (a := o.getD rec0) (b := o.getD rec0)).mono ?_
      rintro _ _ ⟨rfl, rfl⟩
      refine WD_step rfl (S_pure rfl ?_)
      refine WD_step rfl (S_pure rfl ?_)
      refine WD_step rfl (S_pure rfl ?_)
      refine WD_cases (t := 107) rfl (fun hg2 => ?_) (fun hg2 => ?_)
      ·
       try simp only [bsT] at hg2
       refine WD_off rfl ?_
       refine WD_off rfl ?_
       refine WD_off rfl ?_
       refine WD_off rfl ?_
       refine WD_off rfl ?_
       refine WD_off rfl ?_
       refine WD_off rfl ?_
       refine WD_off rfl ?_
       refine WD_off rfl ?_
       refine WD_off rfl ?_
       refine WD_off rfl ?_
       refine WD_off rfl ?_
       refine WD_off rfl ?_
       refine WD_off rfl ?_
       refine WD_off rfl ?_
       refine WD_step rfl (S_pure rfl ?_)
       refine WD_nil ?_
       refine ⟨?_, ?_⟩
       ·
        exact ⟨ObR.off rfl, trivial⟩
       ·
        refine KSeq_n ?_
        refine WC_cond rfl (fun _ => ?_) (fun h => ?_)
        rotate_left
        · exact absurd h (by decide)
        refine WC_seq (WC_region ?_)
        refine WO_step rfl (S_pure rfl ?_)
        refine WO_nil (KSeq_n (WC_ret (KBlock_r (KSeq_r (KLoop_r ?_)))))
        first
          | exact KPost_i (l' := []) (H' := []) seA HSub.nil ⟨rfl, rfl, rfl⟩
          | (exfalso; simp at *; done)
      ·
       try simp only [bsT] at hg2
       refine WD_step rfl (S_pure rfl ?_)
       refine WD_step rfl (S_pure rfl ?_)
       refine WD_step rfl (S_pure rfl ?_)
       refine WD_step rfl (S_idx rfl rfl rdA (by first | rfl | assumption | (symm; assumption)) (by rfl) (by first | assumption | omega | exact lt_of_get (by assumption) | (simp only [List.length_set]; first | assumption | omega | exact lt_of_get (by assumption))) fun hp111 => ?_)
       refine WD_step rfl (S_fldE rfl (by repeat (first | assumption | apply IsP.padd)) ?_)
       refine WD_step rfl (S_loadF rfl rdA (by rfl) (by assumption) (by rfl) (by rfl) ?_)
       refine WD_call rfl rfl rfl ?_
       refine (WF.weak (sp_hReads (i := i) (i2 := i2) (wk := wk) (wr := wr) (wt := wt) (ts := ts) (k := r.key) (H := LO j iD w :: SL w.toV TRec l :: DO iD es n :: H) gt.1 hrk) (by unfold STO; exact hsA)).mono ?_
       rintro _ _ ⟨rfl, rfl⟩
       unfold STO
       rw [hrr]
       refine WD_step rfl (S_pure rfl ?_)
       refine WD_step rfl (S_pure rfl ?_)
       refine WD_step rfl (S_pure rfl ?_)
       refine WD_step rfl (S_idx rfl rfl rdA (by first | rfl | assumption | (symm; assumption)) (by rfl) (by first | assumption | omega | exact lt_of_get (by assumption) | (simp only [List.length_set]; first | assumption | omega | exact lt_of_get (by assumption))) fun hp118 => ?_)
       refine WD_step rfl (S_fldE rfl (by repeat (first | assumption | apply IsP.padd)) ?_)
       refine WD_step rfl (S_loadF rfl rdA (by rfl) (by assumption) (by rfl) (by rfl) ?_)
       refine WD_call rfl rfl rfl ?_
       refine (WF.weak (sp_lReads (H := STO i ts i2 wk wr wt H) (j := j) (i := iD) (n := n) (w := w) (k := r.key) g hrk) (by unfold STO; exact hsA)).mono ?_
       rintro _ _ ⟨rfl, rfl⟩
       unfold STO
       rw [hc]
       first | refine WD_step rfl (S_neS rfl rfl ?_) | refine WD_step rfl (S_pure rfl ?_)
       refine WD_step rfl (S_pure rfl ?_)
       refine WD_nil ?_
       refine ⟨?_, ?_⟩
       ·
        exact ⟨ObR.of_step rfl (S_loadF (T := TRec) (x := r) (j := a) (off := 0) rfl (by repeat (first | exact hv | apply RD.tail)) (by rfl) hr1 (by rfl) (by rfl) (by simp [eqV, eqV0])), trivial⟩
       ·
        refine KSeq_n ?_
        refine WC_cond rfl (fun hb2 => ?_) (fun hb2 => ?_)
        ·
         try simp only [bsT] at hb2
         refine WC_seq (WC_region ?_)
         refine WO_step rfl (S_pure rfl ?_)
         refine WO_nil (KSeq_n (WC_ret (KBlock_r (KSeq_r (KLoop_r ?_)))))
         first
           | exact KPost_i (l' := []) (H' := []) seA HSub.nil ⟨rfl, rfl, rfl⟩
           | (exfalso; simp at *; done)
        ·
         try simp only [bsT] at hb2
         refine WC_skip (KBlock_n (KSeq_n (WC_region ?_)))
         refine WO_step rfl (S_pure rfl ?_)
         first | refine WO_step rfl (S_addN (b := 1) rfl rfl (by omega) ?_) | refine WO_step rfl (S_pure rfl ?_)
         refine WO_step rfl (S_pure rfl ?_)
         refine WO_nil (KLoop_n ?_)
         exact WC_weak (ih (N.length - (a + 1)) (by omega) (a + 1) rfl (by omega)) seA (by unfold STO; exact hsA)
    ·
     try simp only [bsT] at hb1
     refine WC_exit (KSeq_x (KLoop_x ?_))
     first
       | exact KPost_i (l' := []) (H' := []) seA HSub.nil ⟨rfl, rfl, rfl⟩
       | (exfalso; simp at *; done)
theorem law_TableLog {H : SH} {v0 : Value} {N0 : List Rec} (hv : RD H v0 TRec N0) (hok : ∀ x ∈ N0, okRec x) : WF F X f_loesslaw20_TableLog [v0] H (fun r _ => r = .bool true) := by
  refine WF_fn F_loesslaw20_TableLog ?_
  refine WC_seq (WC_region ?_)
  refine WO_step rfl (S_pure rfl ?_)
  refine WO_nil (KSeq_n (WC_seq (WC_region ?_)))
  refine WO_call rfl rfl rfl ?_
  refine sp_begunH.mono ?_
  rintro _ H1 ⟨rfl, rfl⟩
  refine WO_step rfl (S_pure rfl ?_)
  refine WO_nil (KSeq_n (WC_seq (WC_seq (WC_region ?_))))
  iterate 2 refine WO_step rfl (S_pure rfl ?_)
  refine WO_nil (KSeq_n ?_)
  refine WC_cond rfl (fun hb1 => ?_) (fun hb1 => ?_)
  ·
   try simp only [bsT] at hb1
   exact absurd hb1 (by simp)
   --stop
  ·
   try simp only [bsT] at hb1
   refine WC_skip (KSeq_n (WC_seq (WC_region ?_)))
   refine WO_step rfl (S_pure rfl ?_)
   refine WO_call rfl rfl rfl ?_
   refine (sp_Recs (m := 40) hv (by omega)).mono ?_
   rintro _ _ ⟨w0, rfl, rfl⟩
   obtain ⟨N, hN⟩ : ∃ N, (N0.take 40).map cutRec = N := ⟨_, rfl⟩
   have hNl : N.length ≤ 40 := by rw [← hN, List.length_map, List.length_take]; omega
   have hNw : ∀ x ∈ N, wfRec x := fun x hx => by
     rw [← hN] at hx
     obtain ⟨y, hy, rfl⟩ := List.mem_map.1 hx
     exact wf_cut (hok y (List.mem_of_mem_take hy))
   rw [hN]
   refine WO_step rfl (S_pure rfl ?_)
   refine WO_nil (KSeq_n (WC_seq (WC_region ?_)))
   refine WO_call rfl rfl rfl ?_
   refine sp_lNew.mono ?_
   rintro _ _ ⟨jL, iL, rfl, rfl⟩
   refine WO_step rfl (S_pure rfl ?_)
   refine WO_nil (KSeq_n (WC_seq (WC_seq (WC_region ?_))))
   refine WO_step rfl (S_pure rfl ?_)
   refine WO_nil (KSeq_n (WC_block ?_))
   refine WC_post (WC_weak (lp_TL0 (H := SL w0.toV TRec N :: H1) (v := w0.toV) (N := N) (j := jL) (iD := iL) RD.head (by omega) N.length 0 .nil [] _ (by omega) (by omega) LogI.new (by intro r hr; simp at hr) (by intro r hr; simp at hr)) seA hsA) ?_
   rintro x l' _ ⟨w, l, es, rfl, rfl, rfl, hg, hal, hin⟩
   have hlen := hg.len
   have hks : ∀ x ∈ l, x.key.size ≤ maxLen := fun x hx => by have := may_key (hal x hx); exact Nat.le_trans this (by decide)
   have gt := tab_good hg hal (fun x hx => hNw x (hin x hx))
   have hnw := tab_newest hg
   have hrd : ∀ k, (likeL (tabT es l) k).length = (nearL (kvs l) (kH k)).length := fun k => by
     rw [like_near gt, hnw, reads_eqT hg.nd]
   refine KBlock_h (KSeq_n (WC_seq (WC_region ?_)))
   refine WO_step rfl (S_new fun i6 => ?_)
   refine WO_nil (KSeq_n (WC_seq (WC_seq (WC_region ?_))))
   refine WO_step rfl (S_pure rfl ?_)
   refine WO_nil (KSeq_n (WC_block ?_))
   refine WC_post (WC_weak (lp_TL1 (H := SL w0.toV TRec N :: H1) (v0 := w0.toV) (j := jL) (iD := iL) (n := l.length) (i6 := i6) (w := w) hg 32 0 zeroT (by omega) (by omega) zeroT_len (fun q hq => absurd hq (Nat.not_lt_zero _)) (fun q _ hq => by unfold zeroT; rw [List.getElem?_replicate, if_pos hq])) seA (by first | exact hsA | (show HSub (AO i6 43 TSlT zeroT :: _) _; exact hsA))) ?_
   rintro x l' _ ⟨rfl, rfl, rfl⟩
   obtain ⟨ts, hts⟩ : ∃ ts, tabT es l = ts := ⟨_, rfl⟩
   rw [hts] at gt hnw hrd ⊢
   refine KBlock_h (KSeq_n (WC_seq (WC_region ?_)))
   refine WO_step rfl (S_loadAll (T := TSlT) (xs := ts) rfl pkA (by rw [gt.1]; rfl) ?_)
   refine WO_call rfl rfl rfl ?_
   refine (sp_hNewOk gt.1 gt.2.1 gt.2.2).mono ?_
   rintro _ _ ⟨i, i2, wk, wr, wt, rfl, rfl⟩
   unfold STO
   iterate 5 refine WO_step rfl (S_pure rfl ?_)
   refine WO_nil (KSeq_n (WC_seq (WC_seq (WC_region ?_))))
   refine WO_step rfl (S_pure rfl ?_)
   first | refine WO_step rfl (S_neS rfl rfl ?_) | refine WO_step rfl (S_pure rfl ?_)
   refine WO_step rfl (S_pure rfl ?_)
   refine WO_cases (t := 64) rfl (fun hg1 => ?_) (fun hg1 => ?_)
   ·
    try simp only [bsT] at hg1
    iterate 6 refine WO_off rfl ?_
    refine WO_step rfl (S_pure rfl ?_)
    refine WO_nil (KSeq_n ?_)
    refine WC_cond rfl (fun _ => ?_) (fun h => ?_)
    rotate_left
    · exact absurd h (by decide)
    refine WC_seq (WC_region ?_)
    refine WO_step rfl (S_pure rfl ?_)
    refine WO_nil (KSeq_n (WC_ret (KSeq_r ?_)))
    refine KFn_r (ResL.tmp rfl ResL.nil) ?_
    exact absurd hg1 (by simp)
   ·
    try simp only [bsT] at hg1
    refine WO_step rfl (S_pure rfl ?_)
    refine WO_call rfl rfl rfl ?_
    refine (WF.weak (sp_hList (i := i) (i2 := i2) (wk := wk) (wr := wr) (wt := wt) (ts := ts) (H := AO i6 43 TSlT ts :: LO jL iL w :: SL w.toV TRec l :: DO iL es l.length :: SL w0.toV TRec N :: H1) gt.1 gt.2.1.small) (by unfold STO; exact hsA)).mono ?_
    rintro _ _ ⟨u1, rfl, rfl⟩
    rw [hnw]
    unfold STO
    refine WO_step rfl (S_pure rfl ?_)
    refine WO_call rfl rfl rfl ?_
    refine (WF.weak (sp_lList (H := SL u1.toV TRec (newest l) :: STO i ts i2 wk wr wt (AO i6 43 TSlT ts :: SL w0.toV TRec N :: H1)) (w := w) (j := jL) (i := iL) (n := l.length) (es := es) (l := l) (by omega) hks) (by unfold STO; exact hsA)).mono ?_
    rintro _ _ ⟨u2, rfl, rfl⟩
    unfold STO
    refine WO_call rfl rfl rfl ?_
    refine (sp_EqRecs (l := newest l) (m := newest l) rdA rdA (by have := newest_len l; omega)).mono ?_
    rintro _ _ ⟨rfl, rfl⟩
    iterate 2 refine WO_step rfl (S_pure rfl ?_)
    refine WO_nil (KSeq_n ?_)
    refine WC_cond rfl (fun hb2 => ?_) (fun hb2 => ?_)
    ·
     try simp only [bsT] at hb2
     refine WC_seq (WC_region ?_)
     refine WO_step rfl (S_pure rfl ?_)
     refine WO_nil (KSeq_n (WC_ret (KSeq_r ?_)))
     refine KFn_r (ResL.tmp rfl ResL.nil) ?_
     exact absurd hb2 (by simp)
    ·
     try simp only [bsT] at hb2
     refine WC_skip (KSeq_n (WC_seq (WC_seq (WC_region ?_))))
     refine WO_step rfl (S_pure rfl ?_)
     refine WO_nil (KSeq_n (WC_block ?_))
     refine WC_post (WC_weak (lp_TL2 (H := SL w0.toV TRec N :: H1) (v := w0.toV) (N := N) (l := l) (ts := ts) (es := es) (j := jL) (iD := iL) (n := l.length) (i := i) (i2 := i2) (w := w) (wk := wk) (wr := wr) (wt := wt) RD.head (by omega) (fun x hx => by have := (hNw x hx).2.2.2; omega) hg gt hnw hrd N.length 0 (by omega) (by omega)) seA (by unfold STO; exact hsA)) ?_
     rintro x l' _ ⟨rfl, rfl, rfl⟩
     refine KBlock_h (KSeq_n (WC_seq (WC_region ?_)))
     refine WO_step rfl (S_pure rfl ?_)
     refine WO_nil (KSeq_n (WC_ret ?_))
     refine KFn_r (ResL.tmp rfl ResL.nil) ?_
     exact ⟨_, HSub.refl, rfl⟩
end Go.Proofs.YtpnmeednimpjdaaGreat.AM
