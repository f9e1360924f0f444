/- Walks: what the functions compute. -/
import Derived.Test.YtnffcpafglfebaaDir
namespace Go.Proofs.Ytnffcpafglfebaa.AM
open Go
set_option linter.unusedSimpArgs false
set_option linter.unusedVariables false
set_option maxRecDepth 4000

/-! ### Where entries lie, plainly -/
structure Kv where
  h : Nat
  id : Int
  deriving DecidableEq
def kv0 : Kv := ⟨0, 0⟩
def kw (f : Ent → Nat → Nat) (x : Kv) : Nat := f ⟨true, x.id, tagOf x.h⟩ (frst x.h)
def sumL (f : Ent → Nat → Nat) : List Kv → Nat
  | [] => 0
  | x :: l => kw f x + sumL f l
theorem sumL_app (f : Ent → Nat → Nat) : ∀ a b : List Kv, sumL f (a ++ b) = sumL f a + sumL f b
  | [], b => by simp [sumL]
  | x :: a, b => by rw [List.cons_append, sumL, sumL, sumL_app f a b]; omega
theorem sumL_pos {f : Ent → Nat → Nat} : ∀ {l : List Kv}, 0 < sumL f l → ∃ x ∈ l, 0 < kw f x
  | [], h => by simp [sumL] at h
  | x :: l, h => by
    by_cases hx : 0 < kw f x
    · exact ⟨x, List.mem_cons_self .., hx⟩
    · rw [sumL] at h
      obtain ⟨y, hy, hk⟩ := sumL_pos (f := f) (l := l) (by omega)
      exact ⟨y, List.mem_cons_of_mem _ hy, hk⟩
theorem sumL_ge {f : Ent → Nat → Nat} {x : Kv} : ∀ {l : List Kv}, x ∈ l → kw f x ≤ sumL f l
  | [], h => by simp at h
  | y :: l, h => by
    rcases List.mem_cons.1 h with e | h
    · subst e; exact Nat.le_add_right _ _
    · have := sumL_ge (f := f) h
      rw [sumL]; omega
/-- The directory holds just these. -/
def Holds (es : List Ent) (l : List Kv) : Prop := ∀ f, Sym f → tot f es = sumL f l
theorem Holds.new : Holds (List.replicate 32 ent0) [] := fun f _ => by
  have : tot f (List.replicate 32 ent0) = 32 * 0 := sumN_one fun k hk => by
    unfold wt at'
    rw [List.getD_eq_getElem?_getD, List.getElem?_replicate, if_pos hk]; rfl
  rw [this]; rfl
theorem Holds.ins {es es' : List Ent} {l : List Kv} {h : Nat} {id : Int} (hh : Holds es l) (hi : InsOk es h id es') : Holds es' (l ++ [⟨h, id⟩]) := fun f hf => by
  rw [hi f hf, hh f hf, sumL_app]; simp [sumL, kw]
theorem Holds.has {es : List Ent} {l : List Kv} (hh : Holds es l) : Has es (l.map (·.h)) := fun S => by
  rw [hh _ (fS_sym S)]
  clear hh
  induction l with
  | nil => rfl
  | cons y m ih =>
    have e : cnt S ((y :: m).map (·.h)) = cnt S (m.map (·.h)) + if edge S y.h = true then 1 else 0 := List.countP_cons
    rw [sumL, ih, e, Nat.add_comm]; rfl
theorem Holds.room_iff {es es' : List Ent} {l : List Kv} {h : Nat} {id : Int} (hh : Holds es l) : (InsOk es h id es' → Room (l.map (·.h) ++ [h])) ∧ (NoWay es h → ¬Room (l.map (·.h) ++ [h])) :=
  ⟨fun hi => (hh.has.ins hi).room, fun hn => hh.has.noRoom hn⟩
/-- Those of an entry's number, tag and buckets. -/
def same2 (t x b : Nat) : Bool := decide (b = x) || decide (oth b t = x)
def cls (id : Int) (t x : Nat) : Ent → Nat → Nat := fun e b => if e.id = id ∧ e.tag = t ∧ same2 t x b = true then 1 else 0
theorem same2_oth {t x b : Nat} (hb : b < 8) : same2 t x (oth b t) = same2 t x b := by
  unfold same2; rw [oth_oth hb, Bool.or_comm]
theorem cls_sym (id : Int) (t x : Nat) : Sym (cls id t x) := fun e b hb => by
  unfold cls
  by_cases h : e.tag = t
  · rw [h, same2_oth hb]
  · simp [h]
theorem same2_iff {t x b : Nat} (hb : b < 8) : same2 t x b = true ↔ b = x ∨ b = oth x t := by
  unfold same2
  rw [Bool.or_eq_true, decide_eq_true_eq, decide_eq_true_eq]
  constructor
  · rintro (h | h)
    · exact .inl h
    · exact .inr (by rw [← h, oth_oth hb])
  · rintro (h | rfl)
    · exact .inl h
    · right
      by_cases hx : x < 8
      · exact oth_oth hx
      · exfalso
        unfold oth at hb
        have h7 : 1 + t % 7 < 8 := by have := Nat.mod_lt t (by omega : 0 < 7); omega
        have : x ^^^ (1 + t % 7) ^^^ (1 + t % 7) < 2 ^ 3 := Nat.xor_lt_two_pow hb h7
        rw [Nat.xor_assoc, Nat.xor_self, Nat.xor_zero] at this
        omega
/-- Does an entry lie where one of a hash may? -/
def fits (x : Kv) (e : Ent) (b : Nat) : Bool := decide (x.id = e.id) && (decide (tagOf x.h = e.tag) && (decide (b = frst x.h) || decide (b = oth (frst x.h) e.tag)))
theorem fits_iff {x : Kv} {e : Ent} {b : Nat} : fits x e b = true ↔ x.id = e.id ∧ tagOf x.h = e.tag ∧ (b = frst x.h ∨ b = oth (frst x.h) e.tag) := by
  unfold fits; simp only [Bool.and_eq_true, Bool.or_eq_true, decide_eq_true_eq]
theorem fits_kw {x : Kv} {e : Ent} {b : Nat} {f : Ent → Nat → Nat} (hf : Sym f) (he : e.has = true) (h : fits x e b = true) : kw f x = f e b := by
  obtain ⟨h1, h2, h3⟩ := fits_iff.1 h
  have e1 : (⟨true, x.id, tagOf x.h⟩ : Ent) = e := by cases e; simp_all
  unfold kw
  rw [e1]
  rcases h3 with rfl | rfl
  · rfl
  · exact (hf e (frst x.h) (frst_lt x.h)).symm
/-- What is left: the slots from k on hold just these. -/
def restW (f : Ent → Nat → Nat) (es : List Ent) (k : Nat) : Nat := sumN (fun j => wt f es (k + j)) (32 - k)
theorem restW_zero (f : Ent → Nat → Nat) (es : List Ent) : restW f es 0 = tot f es := by unfold restW tot; simp
theorem sumN_shift (g : Nat → Nat) : ∀ n, sumN g (n + 1) = g 0 + sumN (fun j => g (1 + j)) n
  | 0 => by simp [sumN]
  | n + 1 => by rw [sumN, sumN_shift g n, sumN, Nat.add_assoc]; congr 3; omega
theorem restW_succ (f : Ent → Nat → Nat) (es : List Ent) {k : Nat} (hk : k < 32) : restW f es k = wt f es k + restW f es (k + 1) := by
  unfold restW
  rw [show 32 - k = (32 - (k + 1)) + 1 by omega, sumN_shift]
  congr 1
  exact sumN_congr fun j _ => by rw [← Nat.add_assoc]
def Left (es : List Ent) (k : Nat) (l : List Kv) : Prop := ∀ f, Sym f → restW f es k = sumL f l
theorem Left.start {es : List Ent} {l : List Kv} (h : Holds es l) : Left es 0 l := fun f hf => by rw [restW_zero]; exact h f hf
theorem Left.none {es : List Ent} {l : List Kv} {k : Nat} (h : Left es k l) (hk : k < 32) (he : (at' es k).has = false) : Left es (k + 1) l := fun f hf => by
  have h1 := h f hf
  rw [restW_succ f es hk] at h1
  have : wt f es k = 0 := by unfold wt; rw [he]; rfl
  omega
theorem Left.some {es : List Ent} {l : List Kv} {k : Nat} (h : Left es k l) (hk : k < 32) (he : (at' es k).has = true) : ∃ x ∈ l, fits x (at' es k) (k / 4) = true := by
  have h1 := h (cls (at' es k).id (at' es k).tag (k / 4)) (cls_sym _ _ _)
  rw [restW_succ _ es hk] at h1
  have : wt (cls (at' es k).id (at' es k).tag (k / 4)) es k = 1 := by
    unfold wt; rw [he]; simp [cls, same2]
  obtain ⟨x, hx, hp⟩ := sumL_pos (f := cls (at' es k).id (at' es k).tag (k / 4)) (l := l) (by omega)
  refine ⟨x, hx, fits_iff.2 ?_⟩
  unfold kw cls at hp
  split at hp
  · rename_i hc
    obtain ⟨c1, c2, c3⟩ := hc
    simp only at c1 c2
    refine ⟨c1, c2, ?_⟩
    have hb : k / 4 < 8 := by omega
    rcases (same2_iff (frst_lt x.h)).1 c3 with c | c
    · exact .inl c.symm
    · exact .inr (by rw [c, oth_oth hb])
  · omega
theorem Left.take {es : List Ent} {A B : List Kv} {x : Kv} {k : Nat} (h : Left es k (A ++ x :: B)) (hk : k < 32) (he : (at' es k).has = true) (hx : fits x (at' es k) (k / 4) = true) : Left es (k + 1) (A ++ B) := fun f hf => by
  have h1 := h f hf
  rw [restW_succ f es hk, sumL_app, sumL, fits_kw hf he hx] at h1
  have : wt f es k = f (at' es k) (k / 4) := by unfold wt; rw [he]; rfl
  rw [sumL_app]
  omega
theorem Left.end' {es : List Ent} {l : List Kv} (h : Left es 32 l) : l = [] := by
  have h1 := h (fun _ _ => 1) (fun _ _ _ => rfl)
  cases l with
  | nil => rfl
  | cons x l => simp [restW, sumN, sumL, kw] at h1; omega
/-! ### Who is found -/
def near (a b : Nat) : Bool := decide (tagOf a = tagOf b) && (decide (frst a = frst b) || decide (frst a = oth (frst b) (tagOf b)))
def slots (h : Nat) : List Nat := [frst h * 4, frst h * 4 + 1, frst h * 4 + 2, frst h * 4 + 3, oth (frst h) (tagOf h) * 4, oth (frst h) (tagOf h) * 4 + 1, oth (frst h) (tagOf h) * 4 + 2, oth (frst h) (tagOf h) * 4 + 3]
def hit (es : List Ent) (h k : Nat) : Bool := (at' es k).has && decide ((at' es k).tag = tagOf h)
def foundL (es : List Ent) (h : Nat) : List Int := ((slots h).filter (hit es h)).map fun k => (at' es k).id
def nearL (l : List Kv) (h : Nat) : List Int := (l.filter fun x => near h x.h).map (·.id)
theorem count_filter_map {α : Type} (p : α → Bool) (g : α → Int) (v : Int) : ∀ l : List α, ((l.filter p).map g).count v = l.countP (fun x => p x && decide (g x = v))
  | [] => rfl
  | x :: l => by
    have ih := count_filter_map p g v l
    rw [List.filter_cons, List.countP_cons, ← ih]
    cases hp : p x with
    | false => simp
    | true =>
      simp only [if_true, List.map_cons, List.count_cons, Bool.true_and, decide_eq_true_eq, beq_iff_eq]
theorem near_same {h : Nat} {x : Kv} : same2 (tagOf h) (frst h) (frst x.h) = true ∧ tagOf x.h = tagOf h ↔ near h x.h = true := by
  unfold near
  rw [same2_iff (frst_lt x.h)]
  simp only [Bool.and_eq_true, Bool.or_eq_true, decide_eq_true_eq]
  constructor
  · rintro ⟨h1 | h1, h2⟩
    · exact ⟨h2.symm, .inl h1.symm⟩
    · exact ⟨h2.symm, .inr (by rw [h1, h2, oth_oth (frst_lt h)])⟩
  · rintro ⟨h1, h2 | h2⟩
    · exact ⟨.inl h2.symm, h1.symm⟩
    · exact ⟨.inr (by rw [h2, h1, oth_oth (frst_lt x.h)]), h1.symm⟩
theorem slots_sum (g : Nat → Nat) (h : Nat) (hz : ∀ k, k < 32 → same2 (tagOf h) (frst h) (k / 4) = false → g k = 0) : sumN g 32 = ((slots h).map g).sum := by
  have h1 := frst_lt h
  have h2 := oth_lt (t := tagOf h) h1
  have h3 := oth_ne (t := tagOf h) h1
  have hz' : ∀ k, k < 32 → k / 4 ≠ frst h → k / 4 ≠ oth (frst h) (tagOf h) → g k = 0 := fun k hk a b => hz k hk (by
    cases hc : same2 (tagOf h) (frst h) (k / 4) with
    | false => rfl
    | true =>
      rcases (same2_iff (by omega)).1 hc with e | e
      · exact absurd e a
      · exact absurd e b)
  unfold slots
  generalize frst h = a at *
  generalize oth a (tagOf h) = b at *
  have key : ∀ (a b : Fin 8), (∀ k, k < 32 → k / 4 ≠ a.val → k / 4 ≠ b.val → g k = 0) → b.val ≠ a.val → sumN g 32 = (([a.val * 4, a.val * 4 + 1, a.val * 4 + 2, a.val * 4 + 3, b.val * 4, b.val * 4 + 1, b.val * 4 + 2, b.val * 4 + 3] : List Nat).map g).sum := by
    intro a b hz hne
    have spl : ∀ j : Fin 8, sumN (fun i => g (j.val * 4 + i)) 4 = g (j.val * 4) + g (j.val * 4 + 1) + g (j.val * 4 + 2) + g (j.val * 4 + 3) := fun j => by simp [sumN]
    have tot8 : sumN g 32 = sumN (fun j => sumN (fun i => g (j * 4 + i)) 4) 8 := by simp only [sumN, Nat.reduceMul, Nat.reduceAdd, Nat.zero_add, Nat.zero_mul]; omega
    have z : ∀ j, j < 8 → j ≠ a.val → j ≠ b.val → sumN (fun i => g (j * 4 + i)) 4 = 0 := fun j hj ha hb => by
      have : sumN (fun i => g (j * 4 + i)) 4 = 4 * 0 := sumN_one fun i hi => hz _ (by omega) (by omega) (by omega)
      omega
    have two : ∀ (G : Nat → Nat) (n x y : Nat), x < n → y < n → x ≠ y → (∀ j, j < n → j ≠ x → j ≠ y → G j = 0) → sumN G n = G x + G y := by
      intro G n
      induction n with
      | zero => intro x y h; omega
      | succ n ih =>
        intro x y hx hy hxy hG
        have one : ∀ (m x : Nat), x < m → (∀ j, j < m → j ≠ x → G j = 0) → sumN G m = G x := by
          intro m
          induction m with
          | zero => intro x h; omega
          | succ m ihm =>
            intro x hx hG
            rw [sumN]
            by_cases e : x = m
            · subst e
              have : sumN G x = x * 0 := sumN_one fun j hj => hG j (by omega) (by omega)
              omega
            · rw [ihm x (by omega) (fun j hj hne => hG j (by omega) hne), hG m (by omega) (fun h => e h.symm)]; omega
        rw [sumN]
        by_cases ex : x = n
        · subst ex
          rw [one x y (by omega) (fun j hj hne => hG j (by omega) (by omega) hne)]; omega
        · by_cases ey : y = n
          · subst ey
            rw [one y x (by omega) (fun j hj hne => hG j (by omega) hne (by omega))]
          · rw [ih x y (by omega) (by omega) hxy (fun j hj h1 h2 => hG j (by omega) h1 h2), hG n (by omega) (fun h => ex h.symm) (fun h => ey h.symm)]; omega
    rw [tot8, two _ 8 a.val b.val a.isLt b.isLt (fun h => hne h.symm) z, spl a, spl b]
    simp only [List.map_cons, List.map_nil, List.sum_cons, List.sum_nil]
    omega
  exact key ⟨a, h1⟩ ⟨b, h2⟩ hz' h3
theorem found_perm {es : List Ent} {l : List Kv} (hh : Holds es l) (h : Nat) : (foundL es h).Perm (nearL l h) := by
  rw [List.perm_iff_count]
  intro v
  unfold foundL nearL
  rw [count_filter_map, count_filter_map]
  have h1 := hh (cls v (tagOf h) (frst h)) (cls_sym _ _ _)
  have e1 : tot (cls v (tagOf h) (frst h)) es = (slots h).countP (fun k => hit es h k && decide ((at' es k).id = v)) := by
    unfold tot
    rw [slots_sum _ h (fun k hk hs => by unfold wt cls; rw [hs]; simp)]
    have hall : ∀ k ∈ slots h, same2 (tagOf h) (frst h) (k / 4) = true := by
      have h8 := frst_lt h
      have h9 := oth_lt (t := tagOf h) h8
      intro k hk
      unfold slots at hk
      simp only [List.mem_cons, List.not_mem_nil, or_false] at hk
      rw [same2_iff (by omega)]
      omega
    revert hall
    generalize slots h = ks
    intro hall
    induction ks with
    | nil => rfl
    | cons k ks ih =>
      rw [List.map_cons, List.sum_cons, List.countP_cons, ih (fun x hx => hall x (List.mem_cons_of_mem _ hx)), Nat.add_comm]
      congr 1
      have := hall k (List.mem_cons_self ..)
      unfold wt cls hit
      rw [this]
      cases (at' es k).has <;> simp [and_comm]
  have e2 : sumL (cls v (tagOf h) (frst h)) l = l.countP (fun x => near h x.h && decide (x.id = v)) := by
    clear h1 hh
    induction l with
    | nil => rfl
    | cons x l ih =>
      rw [sumL, List.countP_cons, ih, Nat.add_comm]
      congr 1
      unfold kw cls
      by_cases hn : near h x.h = true
      · obtain ⟨a, b⟩ := near_same.2 hn
        simp [hn, a, b]
      · have : ¬(same2 (tagOf h) (frst h) (frst x.h) = true ∧ tagOf x.h = tagOf h) := fun c => hn (near_same.1 c)
        rw [if_neg (by rintro ⟨_, b, c⟩; exact this ⟨c, b⟩)]
        simp [hn]
  rw [← e1, ← e2]; exact h1

end Go.Proofs.Ytnffcpafglfebaa.AM
