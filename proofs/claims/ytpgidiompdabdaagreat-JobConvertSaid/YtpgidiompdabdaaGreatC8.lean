/- Walks: what the functions compute. -/
import Derived.Test.YtpgidiompdabdaaGreatC3
namespace Go.Proofs.YtpgidiompdabdaaGreat.AM
open Go
set_option linter.unusedSimpArgs false
set_option linter.unusedVariables false
set_option maxRecDepth 4000

/-! ### Where entries lie, plainly -/
structure Kv where
  h : Nat
  id : Int
  deriving DecidableEq
def kv0 : Kv := ⟨0, 0⟩
def kw (f : Ent → Nat → Nat) (x : Kv) : Nat := f ⟨true, x.id, tagOf x.h⟩ (frst x.h)
def sumL (f : Ent → Nat → Nat) : List Kv → Nat
  | [] => 0
  | x :: l => kw f x + sumL f l
theorem sumL_app (f : Ent → Nat → Nat) : ∀ a b : List Kv, sumL f (a ++ b) = sumL f a + sumL f b
  | [], b => by simp [sumL]
  | x :: a, b => by rw [List.cons_append, sumL, sumL, sumL_app f a b]; omega
theorem sumL_pos {f : Ent → Nat → Nat} : ∀ {l : List Kv}, 0 < sumL f l → ∃ x ∈ l, 0 < kw f x
  | [], h => by simp [sumL] at h
  | x :: l, h => by
    by_cases hx : 0 < kw f x
    · exact ⟨x, List.mem_cons_self .., hx⟩
    · rw [sumL] at h
      obtain ⟨y, hy, hk⟩ := sumL_pos (f := f) (l := l) (by omega)
      exact ⟨y, List.mem_cons_of_mem _ hy, hk⟩
theorem sumL_ge {f : Ent → Nat → Nat} {x : Kv} : ∀ {l : List Kv}, x ∈ l → kw f x ≤ sumL f l
  | [], h => by simp at h
  | y :: l, h => by
    rcases List.mem_cons.1 h with e | h
    · subst e; exact Nat.le_add_right _ _
    · have := sumL_ge (f := f) h
      rw [sumL]; omega
/-- The directory holds just these. -/
def Holds (es : List Ent) (l : List Kv) : Prop := ∀ f, Sym f → tot f es = sumL f l
theorem Holds.new : Holds (List.replicate 32 ent0) [] := fun f _ => by
  have : tot f (List.replicate 32 ent0) = 32 * 0 := sumN_one fun k hk => by
    unfold wt at'
    rw [List.getD_eq_getElem?_getD, List.getElem?_replicate, if_pos hk]; rfl
  rw [this]; rfl
theorem Holds.ins {es es' : List Ent} {l : List Kv} {h : Nat} {id : Int} (hh : Holds es l) (hi : InsOk es h id es') : Holds es' (l ++ [⟨h, id⟩]) := fun f hf => by
  rw [hi f hf, hh f hf, sumL_app]; simp [sumL, kw]
theorem Holds.has {es : List Ent} {l : List Kv} (hh : Holds es l) : Has es (l.map (·.h)) := fun S => by
  rw [hh _ (fS_sym S)]
  clear hh
  induction l with
  | nil => rfl
  | cons y m ih =>
    have e : cnt S ((y :: m).map (·.h)) = cnt S (m.map (·.h)) + if edge S y.h = true then 1 else 0 := List.countP_cons
    rw [sumL, ih, e, Nat.add_comm]; rfl
theorem Holds.room_iff {es es' : List Ent} {l : List Kv} {h : Nat} {id : Int} (hh : Holds es l) : (InsOk es h id es' → Room (l.map (·.h) ++ [h])) ∧ (NoWay es h → ¬Room (l.map (·.h) ++ [h])) :=
  ⟨fun hi => (hh.has.ins hi).room, fun hn => hh.has.noRoom hn⟩
/-- Those of an entry's number, tag and buckets. -/
def same2 (t x b : Nat) : Bool := decide (b = x) || decide (oth b t = x)
def cls (id : Int) (t x : Nat) : Ent → Nat → Nat := fun e b => if e.id = id ∧ e.tag = t ∧ same2 t x b = true then 1 else 0
theorem same2_oth {t x b : Nat} (hb : b < 8) : same2 t x (oth b t) = same2 t x b := by
  unfold same2; rw [oth_oth hb, Bool.or_comm]
theorem cls_sym (id : Int) (t x : Nat) : Sym (cls id t x) := fun e b hb => by
  unfold cls
  by_cases h : e.tag = t
  · rw [h, same2_oth hb]
  · simp [h]
theorem same2_iff {t x b : Nat} (hb : b < 8) : same2 t x b = true ↔ b = x ∨ b = oth x t := by
  unfold same2
  rw [Bool.or_eq_true, decide_eq_true_eq, decide_eq_true_eq]
  constructor
  · rintro (h | h)
    · exact .inl h
    · exact .inr (by rw [← h, oth_oth hb])
  · rintro (h | rfl)
    · exact .inl h
    · right
      by_cases hx : x < 8
      · exact oth_oth hx
      · exfalso
        unfold oth at hb
        have h7 : 1 + t % 7 < 8 := by have := Nat.mod_lt t (by omega : 0 < 7); omega
        have : x ^^^ (1 + t % 7) ^^^ (1 + t % 7) < 2 ^ 3 := Nat.xor_lt_two_pow hb h7
        rw [Nat.xor_assoc, Nat.xor_self, Nat.xor_zero] at this
        omega
/-- Does an entry lie where one of a hash may? -/
def fits (x : Kv) (e : Ent) (b : Nat) : Bool := decide (x.id = e.id) && (decide (tagOf x.h = e.tag) && (decide (b = frst x.h) || decide (b = oth (frst x.h) e.tag)))
theorem fits_iff {x : Kv} {e : Ent} {b : Nat} : fits x e b = true ↔ x.id = e.id ∧ tagOf x.h = e.tag ∧ (b = frst x.h ∨ b = oth (frst x.h) e.tag) := by
  unfold fits; simp only [Bool.and_eq_true, Bool.or_eq_true, decide_eq_true_eq]
theorem fits_kw {x : Kv} {e : Ent} {b : Nat} {f : Ent → Nat → Nat} (hf : Sym f) (he : e.has = true) (h : fits x e b = true) : kw f x = f e b := by
  obtain ⟨h1, h2, h3⟩ := fits_iff.1 h
  have e1 : (⟨true, x.id, tagOf x.h⟩ : Ent) = e := by cases e; simp_all
  unfold kw
  rw [e1]
  rcases h3 with rfl | rfl
  · rfl
  · exact (hf e (frst x.h) (frst_lt x.h)).symm
/-- What is left: the slots from k on hold just these. -/
def restW (f : Ent → Nat → Nat) (es : List Ent) (k : Nat) : Nat := sumN (fun j => wt f es (k + j)) (32 - k)
theorem restW_zero (f : Ent → Nat → Nat) (es : List Ent) : restW f es 0 = tot f es := by unfold restW tot; simp
theorem sumN_shift (g : Nat → Nat) : ∀ n, sumN g (n + 1) = g 0 + sumN (fun j => g (1 + j)) n
  | 0 => by simp [sumN]
  | n + 1 => by rw [sumN, sumN_shift g n, sumN, Nat.add_assoc]; congr 3; omega
theorem restW_succ (f : Ent → Nat → Nat) (es : List Ent) {k : Nat} (hk : k < 32) : restW f es k = wt f es k + restW f es (k + 1) := by
  unfold restW
  rw [show 32 - k = (32 - (k + 1)) + 1 by omega, sumN_shift]
  congr 1
  exact sumN_congr fun j _ => by rw [← Nat.add_assoc]
def Left (es : List Ent) (k : Nat) (l : List Kv) : Prop := ∀ f, Sym f → restW f es k = sumL f l
theorem Left.start {es : List Ent} {l : List Kv} (h : Holds es l) : Left es 0 l := fun f hf => by rw [restW_zero]; exact h f hf
theorem Left.none {es : List Ent} {l : List Kv} {k : Nat} (h : Left es k l) (hk : k < 32) (he : (at' es k).has = false) : Left es (k + 1) l := fun f hf => by
  have h1 := h f hf
  rw [restW_succ f es hk] at h1
  have : wt f es k = 0 := by unfold wt; rw [he]; rfl
  omega
theorem Left.some {es : List Ent} {l : List Kv} {k : Nat} (h : Left es k l) (hk : k < 32) (he : (at' es k).has = true) : ∃ x ∈ l, fits x (at' es k) (k / 4) = true := by
  have h1 := h (cls (at' es k).id (at' es k).tag (k / 4)) (cls_sym _ _ _)
  rw [restW_succ _ es hk] at h1
  have : wt (cls (at' es k).id (at' es k).tag (k / 4)) es k = 1 := by
    unfold wt; rw [he]; simp [cls, same2]
  obtain ⟨x, hx, hp⟩ := sumL_pos (f := cls (at' es k).id (at' es k).tag (k / 4)) (l := l) (by omega)
  refine ⟨x, hx, fits_iff.2 ?_⟩
  unfold kw cls at hp
  split at hp
  · rename_i hc
    obtain ⟨c1, c2, c3⟩ := hc
    simp only at c1 c2
    refine ⟨c1, c2, ?_⟩
    have hb : k / 4 < 8 := by omega
    rcases (same2_iff (frst_lt x.h)).1 c3 with c | c
    · exact .inl c.symm
    · exact .inr (by rw [c, oth_oth hb])
  · omega
theorem Left.take {es : List Ent} {A B : List Kv} {x : Kv} {k : Nat} (h : Left es k (A ++ x :: B)) (hk : k < 32) (he : (at' es k).has = true) (hx : fits x (at' es k) (k / 4) = true) : Left es (k + 1) (A ++ B) := fun f hf => by
  have h1 := h f hf
  rw [restW_succ f es hk, sumL_app, sumL, fits_kw hf he hx] at h1
  have : wt f es k = f (at' es k) (k / 4) := by unfold wt; rw [he]; rfl
  rw [sumL_app]
  omega
theorem Left.end' {es : List Ent} {l : List Kv} (h : Left es 32 l) : l = [] := by
  have h1 := h (fun _ _ => 1) (fun _ _ _ => rfl)
  cases l with
  | nil => rfl
  | cons x l => simp [restW, sumN, sumL, kw] at h1; omega
/-! ### Who is found -/
def near (a b : Nat) : Bool := decide (tagOf a = tagOf b) && (decide (frst a = frst b) || decide (frst a = oth (frst b) (tagOf b)))
def slots (h : Nat) : List Nat := [frst h * 4, frst h * 4 + 1, frst h * 4 + 2, frst h * 4 + 3, oth (frst h) (tagOf h) * 4, oth (frst h) (tagOf h) * 4 + 1, oth (frst h) (tagOf h) * 4 + 2, oth (frst h) (tagOf h) * 4 + 3]
def hit (es : List Ent) (h k : Nat) : Bool := (at' es k).has && decide ((at' es k).tag = tagOf h)
def foundL (es : List Ent) (h : Nat) : List Int := ((slots h).filter (hit es h)).map fun k => (at' es k).id
def nearL (l : List Kv) (h : Nat) : List Int := (l.filter fun x => near h x.h).map (·.id)
theorem count_filter_map {α : Type} (p : α → Bool) (g : α → Int) (v : Int) : ∀ l : List α, ((l.filter p).map g).count v = l.countP (fun x => p x && decide (g x = v))
  | [] => rfl
  | x :: l => by
    have ih := count_filter_map p g v l
    rw [List.filter_cons, List.countP_cons, ← ih]
    cases hp : p x with
    | false => simp
    | true =>
      simp only [if_true, List.map_cons, List.count_cons, Bool.true_and, decide_eq_true_eq, beq_iff_eq]
theorem near_same {h : Nat} {x : Kv} : same2 (tagOf h) (frst h) (frst x.h) = true ∧ tagOf x.h = tagOf h ↔ near h x.h = true := by
  unfold near
  rw [same2_iff (frst_lt x.h)]
  simp only [Bool.and_eq_true, Bool.or_eq_true, decide_eq_true_eq]
  constructor
  · rintro ⟨h1 | h1, h2⟩
    · exact ⟨h2.symm, .inl h1.symm⟩
    · exact ⟨h2.symm, .inr (by rw [h1, h2, oth_oth (frst_lt h)])⟩
  · rintro ⟨h1, h2 | h2⟩
    · exact ⟨.inl h2.symm, h1.symm⟩
    · exact ⟨.inr (by rw [h2, h1, oth_oth (frst_lt x.h)]), h1.symm⟩
theorem slots_sum (g : Nat → Nat) (h : Nat) (hz : ∀ k, k < 32 → same2 (tagOf h) (frst h) (k / 4) = false → g k = 0) : sumN g 32 = ((slots h).map g).sum := by
  have h1 := frst_lt h
  have h2 := oth_lt (t := tagOf h) h1
  have h3 := oth_ne (t := tagOf h) h1
  have hz' : ∀ k, k < 32 → k / 4 ≠ frst h → k / 4 ≠ oth (frst h) (tagOf h) → g k = 0 := fun k hk a b => hz k hk (by
    cases hc : same2 (tagOf h) (frst h) (k / 4) with
    | false => rfl
    | true =>
      rcases (same2_iff (by omega)).1 hc with e | e
      · exact absurd e a
      · exact absurd e b)
  unfold slots
  generalize frst h = a at *
  generalize oth a (tagOf h) = b at *
  have key : ∀ (a b : Fin 8), (∀ k, k < 32 → k / 4 ≠ a.val → k / 4 ≠ b.val → g k = 0) → b.val ≠ a.val → sumN g 32 = (([a.val * 4, a.val * 4 + 1, a.val * 4 + 2, a.val * 4 + 3, b.val * 4, b.val * 4 + 1, b.val * 4 + 2, b.val * 4 + 3] : List Nat).map g).sum := by
    intro a b hz hne
    have spl : ∀ j : Fin 8, sumN (fun i => g (j.val * 4 + i)) 4 = g (j.val * 4) + g (j.val * 4 + 1) + g (j.val * 4 + 2) + g (j.val * 4 + 3) := fun j => by simp [sumN]
    have tot8 : sumN g 32 = sumN (fun j => sumN (fun i => g (j * 4 + i)) 4) 8 := by simp only [sumN, Nat.reduceMul, Nat.reduceAdd, Nat.zero_add, Nat.zero_mul]; omega
    have z : ∀ j, j < 8 → j ≠ a.val → j ≠ b.val → sumN (fun i => g (j * 4 + i)) 4 = 0 := fun j hj ha hb => by
      have : sumN (fun i => g (j * 4 + i)) 4 = 4 * 0 := sumN_one fun i hi => hz _ (by omega) (by omega) (by omega)
      omega
    have two : ∀ (G : Nat → Nat) (n x y : Nat), x < n → y < n → x ≠ y → (∀ j, j < n → j ≠ x → j ≠ y → G j = 0) → sumN G n = G x + G y := by
      intro G n
      induction n with
      | zero => intro x y h; omega
      | succ n ih =>
        intro x y hx hy hxy hG
        have one : ∀ (m x : Nat), x < m → (∀ j, j < m → j ≠ x → G j = 0) → sumN G m = G x := by
          intro m
          induction m with
          | zero => intro x h; omega
          | succ m ihm =>
            intro x hx hG
            rw [sumN]
            by_cases e : x = m
            · subst e
              have : sumN G x = x * 0 := sumN_one fun j hj => hG j (by omega) (by omega)
              omega
            · rw [ihm x (by omega) (fun j hj hne => hG j (by omega) hne), hG m (by omega) (fun h => e h.symm)]; omega
        rw [sumN]
        by_cases ex : x = n
        · subst ex
          rw [one x y (by omega) (fun j hj hne => hG j (by omega) (by omega) hne)]; omega
        · by_cases ey : y = n
          · subst ey
            rw [one y x (by omega) (fun j hj hne => hG j (by omega) hne (by omega))]
          · rw [ih x y (by omega) (by omega) hxy (fun j hj h1 h2 => hG j (by omega) h1 h2), hG n (by omega) (fun h => ex h.symm) (fun h => ey h.symm)]; omega
    rw [tot8, two _ 8 a.val b.val a.isLt b.isLt (fun h => hne h.symm) z, spl a, spl b]
    simp only [List.map_cons, List.map_nil, List.sum_cons, List.sum_nil]
    omega
  exact key ⟨a, h1⟩ ⟨b, h2⟩ hz' h3
theorem found_perm {es : List Ent} {l : List Kv} (hh : Holds es l) (h : Nat) : (foundL es h).Perm (nearL l h) := by
  rw [List.perm_iff_count]
  intro v
  unfold foundL nearL
  rw [count_filter_map, count_filter_map]
  have h1 := hh (cls v (tagOf h) (frst h)) (cls_sym _ _ _)
  have e1 : tot (cls v (tagOf h) (frst h)) es = (slots h).countP (fun k => hit es h k && decide ((at' es k).id = v)) := by
    unfold tot
    rw [slots_sum _ h (fun k hk hs => by unfold wt cls; rw [hs]; simp)]
    have hall : ∀ k ∈ slots h, same2 (tagOf h) (frst h) (k / 4) = true := by
      have h8 := frst_lt h
      have h9 := oth_lt (t := tagOf h) h8
      intro k hk
      unfold slots at hk
      simp only [List.mem_cons, List.not_mem_nil, or_false] at hk
      rw [same2_iff (by omega)]
      omega
    revert hall
    generalize slots h = ks
    intro hall
    induction ks with
    | nil => rfl
    | cons k ks ih =>
      rw [List.map_cons, List.sum_cons, List.countP_cons, ih (fun x hx => hall x (List.mem_cons_of_mem _ hx)), Nat.add_comm]
      congr 1
      have := hall k (List.mem_cons_self ..)
      unfold wt cls hit
      rw [this]
      cases (at' es k).has <;> simp [and_comm]
  have e2 : sumL (cls v (tagOf h) (frst h)) l = l.countP (fun x => near h x.h && decide (x.id = v)) := by
    clear h1 hh
    induction l with
    | nil => rfl
    | cons x l ih =>
      rw [sumL, List.countP_cons, ih, Nat.add_comm]
      congr 1
      unfold kw cls
      by_cases hn : near h x.h = true
      · obtain ⟨a, b⟩ := near_same.2 hn
        simp [hn, a, b]
      · have : ¬(same2 (tagOf h) (frst h) (frst x.h) = true ∧ tagOf x.h = tagOf h) := fun c => hn (near_same.1 c)
        rw [if_neg (by rintro ⟨_, b, c⟩; exact this ⟨c, b⟩)]
        simp [hn]
  rw [← e1, ← e2]; exact h1
/-! ### The entries of a hash's tag in its buckets -/
theorem S_loadD {l : SE} {H H0 : SH} {K : Value → SH → Prop} {i o k off : Nat} {a : Opd} {es : List Ent} {n : Nat} {v : Value} (hl : es.length = 32) (ha : a.lv l = some (.pointer (some ⟨i, o, none⟩))) (hp : Pick (DO i es n) H H0) (ho : o = k * 3 + off) (hk : k < 32) (hv : (TEnt.enc (at' es k))[off]? = some v) (kk : K v H) : Step (.load false 1 a) l H K := by
  have hlt := (List.getElem?_eq_some_iff.1 hv).1
  rw [TEnt.len] at hlt
  have h3 : off < 3 := hlt
  have h := DO.at (v := .int .i64 ((n : Nat) : Int)) (off := off) (m := 1) (at_get (es := es) (k := k) (by omega)) (by omega)
  subst ho
  refine S_loadO ha hp (by rw [Nat.ble_eq, DO.len hl]; omega) ?_ kk
  rw [h]
  have : ((TEnt.enc (at' es k)).drop off).take 1 = [v] := by
    rw [List.drop_eq_getElem_cons (List.getElem?_eq_some_iff.1 hv).1, (List.getElem?_eq_some_iff.1 hv).2]; rfl
  rw [this]; rfl
theorem S_idxAE {l : SE} {H : SH} {K : Value → SH → Prop} {n es i o o' j : Nat} {x y : Opd} {kd : IntKind} {J : Int} (hx : x.lv l = some (.pointer (some ⟨i, o, none⟩))) (hy : y.lv l = some (.int kd J)) (hJ : J = (j : Int)) (hj : j < n) (he : o + j * es = o') (k : K (.pointer (some ⟨i, o', none⟩)) H) : Step (.idxA n es x y) l H K := S_idxA hx hy hJ hj (he ▸ k)
def eachR {σ : Type} (Tr : List Ent → σ → Nat → List Ent → σ → Bool → Prop) (h : Nat) : List Nat → List Ent → σ → List Ent → σ → Prop
  | [], es, st, es', st' => es' = es ∧ st' = st
  | k :: ks, es, st, es', st' => if hit es h k = true then ∃ es1 st1 ok, Tr es st k es1 st1 ok ∧ if ok = true then eachR Tr h ks es1 st1 es' st' else es' = es1 ∧ st' = st1 else eachR Tr h ks es st es' st'
/-- What a teller does. -/
def TellOk {σ : Type} (i n h : Nat) (Iv : Nat → σ → Prop) (R : σ → SH) (g : FuncId) (caps : Array Value) (Tr : List Ent → σ → Nat → List Ent → σ → Bool → Prop) : Prop :=
  (∀ m st, Iv (m + 1) st → Iv m st) ∧ ∀ es st k m, es.length = 32 → k < 32 → hit es h k = true → Iv (m + 1) st → WF F X g (.pointer (some ⟨i, k * 3, none⟩) :: caps.toList) (DO i es n :: R st) (fun r H' => ∃ es1 st1 ok, Tr es st k es1 st1 ok ∧ r = .bool ok ∧ H' = DO i es1 n :: R st1 ∧ es1.length = 32 ∧ Iv m st1)
theorem lp_each_1 {σ : Type} {i n h b : Nat} {Iv : Nat → σ → Prop} {R : σ → SH} {g : FuncId} {caps : Array Value} {Tr : List Ent → σ → Nat → List Ent → σ → Bool → Prop} {v13 v14 : Value} (hT : TellOk i n h Iv R g caps Tr) (hh : h < 18446744073709551616) (hb : b < 8) (q : Nat) : ∀ (m s : Nat) (es : List Ent) (st : σ), 4 - s = m → s ≤ 4 → es.length = 32 → Iv (4 - s + q) st →
    WC F X (.loop L_cuckoo_Dir_each_1) [(17, .int .i64 (s : Int)), (7, .int .i64 (b : Int)), (0, .pointer (some ⟨i, 0, none⟩)), (1, .int .u64 (h : Int)), (2, .func (.func g) #[] caps), (13, v13), (14, v14)] (DO i es n :: R st)
      (KPost fun x l' H' => ∃ es' st', H' = DO i es' n :: R st' ∧ es'.length = 32 ∧ ((x = .ret ∧ l' = [] ∧ ∀ ks, eachR Tr h (((List.range 4).drop s).map (b * 4 + ·) ++ ks) es st es' st') ∨ (x = .exit 2 ∧ l' = [(0, .pointer (some ⟨i, 0, none⟩)), (1, .int .u64 (h : Int)), (2, .func (.func g) #[] caps), (13, v13), (14, v14)] ∧ Iv q st' ∧ ∀ ks es2 st2, eachR Tr h ks es' st' es2 st2 → eachR Tr h (((List.range 4).drop s).map (b * 4 + ·) ++ ks) es st es2 st2))) := by
  intro m
  induction m using Nat.strongRecOn with
  | _ m ih =>
    intro s es st hm hs hl hiv
    refine WC_loop (WC_seq (WC_region ?_))
    refine WO_step rfl (S_pure rfl ?_)
    refine WO_nil (KSeq_n (WC_seq ?_))
    refine WC_cond rfl (fun hb1 => ?_) (fun hb1 => ?_)
    ·
     try simp only [bsT] at hb1
     have hdr : (List.range 4).drop s = s :: (List.range 4).drop (s + 1) := by
       have h0 : s = 0 ∨ s = 1 ∨ s = 2 ∨ s = 3 := by omega
       rcases h0 with rfl | rfl | rfl | rfl <;> rfl
     rw [hdr]
     simp only [List.map_cons, List.cons_append, eachR]
     have hiv' : Iv ((4 - (s + 1) + q) + 1) st := by rw [show (4 - (s + 1) + q) + 1 = 4 - s + q by omega]; exact hiv
     refine WC_skip (KSeq_n (WC_seq (WC_block (WC_seq (WC_region ?_)))))
     iterate 2 refine WO_step rfl (S_pure rfl ?_)
     refine WO_nil (KSeq_n (WC_seq (WC_region ?_)))
     iterate 5 refine WO_step rfl (S_pure rfl ?_)
     refine WO_step rfl (S_idxA rfl rfl rfl hb ?_)
     refine WO_step rfl (S_idxAE (o' := (b * 4 + s) * 3) rfl rfl rfl (by omega) (by omega) ?_)
     refine WO_step rfl (S_pure rfl ?_)
     refine WO_nil (KSeq_n (WC_seq (WC_drawn ?_)))
     refine WD_step rfl (S_pure rfl ?_)
     refine WD_step rfl (S_pure rfl ?_)
     refine WD_step rfl (S_pure rfl ?_)
     refine WD_step rfl (S_loadD (k := b * 4 + s) (off := 0) hl rfl .head (by omega) (by omega) rfl ?_)
     refine WD_step rfl (S_pure rfl ?_)
     refine WD_cases (t := 31) rfl (fun hg1 => ?_) (fun hg1 => ?_)
     ·
      try simp only [bsT] at hg1
      refine WD_step rfl (S_pure rfl ?_)
      refine WD_step rfl (S_pure rfl ?_)
      refine WD_step rfl (S_pure rfl ?_)
      refine WD_step rfl (S_loadD (k := b * 4 + s) (off := 2) hl rfl .head (by omega) (by omega) rfl ?_)
      refine WD_step rfl (S_pure rfl ?_)
      refine WD_call rfl rfl rfl ?_
      refine (sp_hTag (by omega)).mono ?_
      rintro _ _ ⟨rfl, rfl⟩
      first | refine WD_step rfl (S_eqS rfl rfl ?_) | refine WD_step rfl (S_pure rfl ?_)
      refine WD_step rfl (S_pure rfl ?_)
      refine WD_step rfl (S_pure rfl ?_)
      refine WD_cases (t := 40) rfl (fun hg2 => ?_) (fun hg2 => ?_)
      ·
       try simp only [bsT] at hg2
       refine WD_step rfl (S_pure rfl ?_)
       refine WD_step rfl (S_pure rfl ?_)
       refine WD_call rfl rfl rfl ?_
       have hhit : hit es h (b * 4 + s) = true := by
         unfold hit; rw [hg1]; simpa using hg2
       refine (hT.2 es st (b * 4 + s) _ hl (by omega) hhit hiv').mono ?_
       rintro _ _ ⟨es1, st1, ok, hTr, rfl, rfl, hl1, hiv1⟩
       refine WD_step rfl (S_pure rfl ?_)
       refine WD_step rfl (S_pure rfl ?_)
       refine WD_nil ?_
       refine ⟨?_, ?_⟩
       ·
        repeat' (first | exact trivial | apply And.intro)
        exact ObR.of_step rfl (S_loadD (k := b * 4 + s) (off := 2) hl rfl .head (by omega) (by omega) rfl (by simp [eqV, eqV0]))
       ·
        refine KSeq_n ?_
        refine WC_cond rfl (fun hb2 => ?_) (fun hb2 => ?_)
        ·
         try simp only [bsT] at hb2
         refine WC_ret (KBlock_r (KSeq_r (KLoop_r ?_)))
         refine KPost_i (l' := []) seA HSub.refl ⟨es1, st1, rfl, hl1, .inl ⟨rfl, rfl, fun ks => ?_⟩⟩
         rw [if_pos hhit]
         exact ⟨es1, st1, ok, hTr, by rw [if_neg (by simpa using hb2)]; exact ⟨rfl, rfl⟩⟩
        ·
         try simp only [bsT] at hb2
         refine WC_skip (KBlock_n (KSeq_n (WC_region ?_)))
         first | refine WO_step rfl (S_addN (b := 1) rfl rfl (by omega) ?_) | refine WO_step rfl (S_pure rfl ?_)
         refine WO_step rfl (S_pure rfl ?_)
         refine WO_nil (KLoop_n ?_)
         refine WC_post (WC_weak (ih (4 - (s + 1)) (by omega) (s + 1) es1 st1 rfl (by omega) hl1 hiv1) seA HSub.refl) ?_
         rintro x l' H' ⟨es', st', rfl, hl', h | h⟩
         · obtain ⟨rfl, rfl, hr⟩ := h
           refine KPost_i (l' := []) seA HSub.refl ⟨es', st', rfl, hl', .inl ⟨rfl, rfl, fun ks => ?_⟩⟩
           rw [if_pos hhit]
           exact ⟨es1, st1, ok, hTr, by rw [if_pos (by simpa using hb2)]; exact hr ks⟩
         · obtain ⟨rfl, rfl, hq, hr⟩ := h
           refine KPost_i seA HSub.refl ⟨es', st', rfl, hl', .inr ⟨rfl, rfl, hq, fun ks es2 st2 h2 => ?_⟩⟩
           rw [if_pos hhit]
           exact ⟨es1, st1, ok, hTr, by rw [if_pos (by simpa using hb2)]; exact hr ks es2 st2 h2⟩
      ·
       try simp only [bsT] at hg2
       refine WD_off rfl ?_
       refine WD_off rfl ?_
       refine WD_off rfl ?_
       refine WD_off rfl ?_
       refine WD_step rfl (S_pure rfl ?_)
       refine WD_nil ?_
       refine ⟨?_, ?_⟩
       ·
        repeat' (first | exact trivial | apply And.intro)
        exact ObR.of_step rfl (S_loadD (k := b * 4 + s) (off := 2) hl rfl .head (by omega) (by omega) rfl (by simp [eqV, eqV0]))
       ·
        refine KSeq_n ?_
        refine WC_cond rfl (fun h => ?_) (fun _ => ?_)
        · exact absurd h (by decide)
        refine WC_skip (KBlock_n (KSeq_n (WC_region ?_)))
        first | refine WO_step rfl (S_addN (b := 1) rfl rfl (by omega) ?_) | refine WO_step rfl (S_pure rfl ?_)
        refine WO_step rfl (S_pure rfl ?_)
        refine WO_nil (KLoop_n ?_)
        have hhit : ¬hit es h (b * 4 + s) = true := by
          unfold hit; rw [hg1]; simpa using hg2
        simp only [hhit, if_false]
        exact WC_weak (ih (4 - (s + 1)) (by omega) (s + 1) es st rfl (by omega) hl (hT.1 _ _ hiv')) seA HSub.refl
     ·
      try simp only [bsT] at hg1
      refine WD_off rfl ?_
      refine WD_off rfl ?_
      refine WD_off rfl ?_
      refine WD_off rfl ?_
      refine WD_off rfl ?_
      refine WD_off rfl ?_
      refine WD_off rfl ?_
      refine WD_step rfl (S_pure rfl ?_)
      refine WD_step rfl (S_pure rfl ?_)
      refine WD_off rfl ?_
      refine WD_off rfl ?_
      refine WD_off rfl ?_
      refine WD_off rfl ?_
      refine WD_step rfl (S_pure rfl ?_)
      refine WD_nil ?_
      refine ⟨?_, ?_⟩
      ·
       repeat' (first | exact trivial | apply And.intro)
       exact ObR.off rfl
      ·
       refine KSeq_n ?_
       refine WC_cond rfl (fun h => ?_) (fun _ => ?_)
       · exact absurd h (by decide)
       refine WC_skip (KBlock_n (KSeq_n (WC_region ?_)))
       first | refine WO_step rfl (S_addN (b := 1) rfl rfl (by omega) ?_) | refine WO_step rfl (S_pure rfl ?_)
       refine WO_step rfl (S_pure rfl ?_)
       refine WO_nil (KLoop_n ?_)
       have hhit : ¬hit es h (b * 4 + s) = true := by
         unfold hit; rw [hg1]; simp
       simp only [hhit, if_false]
       exact WC_weak (ih (4 - (s + 1)) (by omega) (s + 1) es st rfl (by omega) hl (hT.1 _ _ hiv')) seA HSub.refl
    ·
     try simp only [bsT] at hb1
     refine WC_exit (KSeq_x (KLoop_x ?_))
     have e4 : s = 4 := by omega
     subst e4
     exact KPost_i seA HSub.refl ⟨es, st, rfl, hl, .inr ⟨rfl, rfl, by simpa using hiv, fun ks es2 st2 h2 => h2⟩⟩
theorem lp_each_0 {σ : Type} {i n h f o : Nat} {Iv : Nat → σ → Prop} {R : σ → SH} {g : FuncId} {caps : Array Value} {Tr : List Ent → σ → Nat → List Ent → σ → Bool → Prop} (hT : TellOk i n h Iv R g caps Tr) (hh : h < 18446744073709551616) (hf : f < 8) (ho : o < 8) : ∀ (m a : Nat) (es : List Ent) (st : σ), 2 - a = m → a ≤ 2 → es.length = 32 → Iv ((2 - a) * 4) st →
    WC F X (.loop L_cuckoo_Dir_each_0) [(14, .int .i64 (a : Int)), (13, .agg #[.int .i64 (f : Int), .int .i64 (o : Int)]), (0, .pointer (some ⟨i, 0, none⟩)), (1, .int .u64 (h : Int)), (2, .func (.func g) #[] caps)] (DO i es n :: R st)
      (KPost fun x l' H' => ∃ es' st', l' = [] ∧ H' = DO i es' n :: R st' ∧ es'.length = 32 ∧ (x = .ret ∨ x = .exit 0) ∧ eachR Tr h (([f, o].drop a).flatMap fun b => (List.range 4).map (b * 4 + ·)) es st es' st') := by
  intro m
  induction m using Nat.strongRecOn with
  | _ m ih =>
    intro a es st hm ha hl hiv
    refine WC_loop (WC_seq (WC_region ?_))
    refine WO_step rfl (S_pure rfl ?_)
    refine WO_nil (KSeq_n (WC_seq ?_))
    refine WC_cond rfl (fun hb1 => ?_) (fun hb1 => ?_)
    ·
     try simp only [bsT] at hb1
     refine WC_skip (KSeq_n (WC_seq (WC_block (WC_seq (WC_region ?_)))))
     obtain ⟨b, hb, hb8, hdr⟩ : ∃ b : Nat, [Value.int .i64 (f : Int), .int .i64 (o : Int)][a]? = some (.int .i64 (b : Int)) ∧ b < 8 ∧ [f, o].drop a = b :: [f, o].drop (a + 1) := by
       have h0 : a = 0 ∨ a = 1 := by omega
       rcases h0 with rfl | rfl
       · exact ⟨f, rfl, hf, rfl⟩
       · exact ⟨o, rfl, ho, rfl⟩
     rw [hdr, List.flatMap_cons]
     refine WO_step rfl (S_idxPair (v := .int .i64 (b : Int)) rfl rfl rfl hb ?_)
     refine WO_step rfl (S_pure rfl ?_)
     refine WO_nil (KSeq_n (WC_seq (WC_region ?_)))
     refine WO_step rfl (S_pure rfl ?_)
     refine WO_nil (KSeq_n (WC_block ?_))
     --out r x2
     refine WC_post (WC_weak (lp_each_1 (v13 := .agg #[.int .i64 (f : Int), .int .i64 (o : Int)]) (v14 := .int .i64 (a : Int)) hT hh hb8 ((2 - (a + 1)) * 4) 4 0 es st (by omega) (by omega) hl (by rw [show 4 - 0 + (2 - (a + 1)) * 4 = (2 - a) * 4 by omega]; exact hiv)) seA HSub.refl) ?_
     rintro x l' H' ⟨es', st', rfl, hl', ⟨rfl, rfl, hr⟩ | ⟨rfl, rfl, hq, hr⟩⟩
     ·
      refine KBlock_r (KBlock_r (KSeq_r (KLoop_r ?_)))
      exact KPost_i (l' := []) seA HSub.refl ⟨es', st', rfl, rfl, hl', .inl rfl, hr _⟩
     ·
      refine KBlock_h (KBlock_n (KSeq_n (WC_region ?_)))
      first | refine WO_step rfl (S_addN (b := 1) rfl rfl (by omega) ?_) | refine WO_step rfl (S_pure rfl ?_)
      refine WO_step rfl (S_pure rfl ?_)
      refine WO_nil (KLoop_n ?_)
      refine WC_post (WC_weak (ih (2 - (a + 1)) (by omega) (a + 1) es' st' rfl (by omega) hl' hq) seA HSub.refl) ?_
      rintro x l' H' ⟨es2, st2, rfl, rfl, hl2, hx, h2⟩
      exact KPost_i (l' := []) seA HSub.refl ⟨es2, st2, rfl, rfl, hl2, hx, hr _ _ _ h2⟩
    ·
     try simp only [bsT] at hb1
     refine WC_exit (KSeq_x (KLoop_x ?_))
     have e2 : a = 2 := by omega
     subst e2
     exact KPost_i (l' := []) seA HSub.refl ⟨es, st, rfl, rfl, hl, .inr rfl, rfl, rfl⟩
theorem sp_each {σ : Type} {i n h : Nat} {Iv : Nat → σ → Prop} {R : σ → SH} {g : FuncId} {caps : Array Value} {Tr : List Ent → σ → Nat → List Ent → σ → Bool → Prop} (hT : TellOk i n h Iv R g caps Tr) (hh : h < 18446744073709551616) {es : List Ent} {st : σ} (hl : es.length = 32) (hiv : Iv 8 st) : WF F X f_cuckoo_Dir_each [.pointer (some ⟨i, 0, none⟩), .int .u64 (h : Int), .func (.func g) #[] caps] (DO i es n :: R st) (fun r H' => ∃ es' st', H' = DO i es' n :: R st' ∧ es'.length = 32 ∧ eachR Tr h (slots h) es st es' st') := by
  refine WF_fn F_cuckoo_Dir_each ?_
  refine WC_seq (WC_seq (WC_region ?_))
  iterate 2 refine WO_step rfl (S_pure rfl ?_)
  refine WO_nil (KSeq_n ?_)
  refine WC_cond rfl (fun hb1 => ?_) (fun hb1 => ?_)
  ·
   try simp only [bsT] at hb1
   exact absurd hb1 (by simp)
   --stop
  ·
   try simp only [bsT] at hb1
   refine WC_skip (KSeq_n (WC_seq (WC_region ?_)))
   refine WO_step rfl (S_pure rfl ?_)
   refine WO_call rfl rfl rfl ?_
   refine (sp_both (by omega)).mono ?_
   rintro _ _ ⟨rfl, rfl⟩
   refine WO_step rfl (S_pure rfl ?_)
   refine WO_nil (KSeq_n (WC_block ?_))
   --out r x0
   have hf8 := frst_lt h
   refine WC_post (WC_weak (lp_each_0 hT hh hf8 (oth_lt (t := tagOf h) hf8) 2 0 es st (by omega) (by omega) hl hiv) seA HSub.refl) ?_
   rintro x l' H' ⟨es', st', rfl, rfl, hl', hx, hr⟩
   rcases hx with rfl | rfl
   ·
    refine KBlock_r ?_
    refine KFn_r ResL.nil ?_
    exact ⟨_, HSub.refl, es', st', rfl, hl', hr⟩
   ·
    refine KBlock_h ?_
    refine KFn_n ResL.nil ?_
    exact ⟨_, HSub.refl, es', st', rfl, hl', hr⟩
/-! ### Sorting few numbers -/
def ISor (l : List Int) : Prop := l.Pairwise (· ≤ ·)
theorem isor_perm {a b : List Int} (ha : ISor a) (hb : ISor b) (h : a.Perm b) : a = b := List.Perm.eq_of_pairwise (le := (· ≤ ·)) (fun x y _ _ h1 h2 => Int.le_antisymm h1 h2) ha hb h
theorem isor_ins {A B : List Int} {x : Int} (h : ISor (A ++ B)) (hA : ∀ y ∈ A, y ≤ x) (hB : ∀ y ∈ B, x ≤ y) : ISor (A ++ x :: B) := by
  unfold ISor at *
  rw [List.pairwise_append] at h ⊢
  refine ⟨h.1, List.pairwise_cons.2 ⟨hB, h.2.1⟩, fun a ha b hb => ?_⟩
  rcases List.mem_cons.1 hb with rfl | hb
  · exact hA a ha
  · exact h.2.2 a ha b hb
theorem isor_last {A : List Int} {y x : Int} (h : ISor (A ++ [y])) (hy : y ≤ x) : ∀ z ∈ A ++ [y], z ≤ x := by
  unfold ISor at h
  rw [List.pairwise_append] at h
  intro z hz
  rcases List.mem_append.1 hz with hz | hz
  · exact Int.le_trans (h.2.2 z hz y (by simp)) hy
  · simp at hz; subst hz; exact hy
theorem snoc_of_pos {α : Type} {A : List α} (h : 0 < A.length) : ∃ B y, A = B ++ [y] := by
  have hne : A ≠ [] := by intro e; rw [e] at h; exact absurd h (by simp)
  exact ⟨A.dropLast, A.getLast hne, (List.dropLast_concat_getLast hne).symm⟩
theorem sp_isNaN {H : SH} {a : Int} : WF F X f_cmp_isNaN_int [.int .i64 a] H (fun r H' => H' = H ∧ r = .bool false) := by
  refine WF_fn F_cmp_isNaN_int ?_
  refine WC_seq (WC_region ?_)
  refine WO_step rfl (S_pure rfl ?_)
  refine WO_nil (KSeq_n (WC_seq (WC_region ?_)))
  iterate 2 refine WO_step rfl (S_pure rfl ?_)
  first | refine WO_step rfl (S_neS rfl rfl ?_) | refine WO_step rfl (S_pure rfl ?_)
  refine WO_step rfl (S_pure rfl ?_)
  refine WO_nil (KSeq_n (WC_ret ?_))
  refine KFn_r (ResL.tmp rfl ResL.nil) ?_
  exact ⟨_, HSub.refl, rfl, by simp [resV]⟩
theorem sp_Less {H : SH} {a b : Int} : WF F X f_cmp_Less_int [.int .i64 a, .int .i64 b] H (fun r H' => H' = H ∧ r = .bool (decide (a < b))) := by
  refine WF_fn F_cmp_Less_int ?_
  refine WC_seq (WC_region ?_)
  refine WO_step rfl (S_pure rfl ?_)
  refine WO_nil (KSeq_n (WC_seq (WC_region ?_)))
  refine WO_step rfl (S_pure rfl ?_)
  refine WO_call rfl rfl rfl ?_
  refine sp_isNaN.mono ?_
  rintro _ _ ⟨rfl, rfl⟩
  refine WO_step rfl (S_pure rfl ?_)
  refine WO_cases (t := 7) rfl (fun hg1 => ?_) (fun hg1 => ?_)
  ·
   try simp only [bsT] at hg1
   exact absurd hg1 (by simp)
   --stop
  ·
   try simp only [bsT] at hg1
   iterate 3 refine WO_off rfl ?_
   iterate 7 refine WO_step rfl (S_pure rfl ?_)
   refine WO_nil (KSeq_n (WC_ret ?_))
   refine KFn_r (ResL.tmp rfl ResL.nil) ?_
   exact ⟨_, hsA, rfl, rfl⟩
theorem lp_is_1 {H : SH} {w : SV} {x : Int} {Q : List Int} (v6 : Value) (N : Nat) (hN : N ≤ 1000) : ∀ (n : Nat) (A B : List Int), A.length = n → A.length + B.length + Q.length + 1 ≤ 1000 → ISor (A ++ B) → (∀ y ∈ B, x ≤ y) →
    WC F X (.loop L_slices_insertionSortOrdered_int_1) [(7, .int .i64 (A.length : Int)), (1, .int .i64 0), (2, .int .i64 (N : Int)), (0, w.toV), (6, v6)] (SL w.toV TInt (A ++ x :: B ++ Q) :: H)
      (KPost fun y l' H' => ∃ A' B', y = .exit 2 ∧ l' = [(1, .int .i64 0), (2, .int .i64 (N : Int)), (0, w.toV), (6, v6)] ∧ H' = SL w.toV TInt (A' ++ x :: B' ++ Q) :: H ∧ A' ++ B' = A ++ B ∧ ISor (A' ++ x :: B')) := by
  intro n
  induction n using Nat.strongRecOn with
  | _ n ih =>
    intro A B hn hl hs hB
    refine WC_loop (WC_seq (WC_seq (WC_region ?_)))
    iterate 4 refine WO_step rfl (S_pure rfl ?_)
    refine WO_cases (t := 19) rfl (fun hg1 => ?_) (fun hg1 => ?_)
    ·
     try simp only [bsT] at hg1
     obtain ⟨A, y, rfl⟩ := snoc_of_pos (A := A) (by omega)
     simp only [List.length_append, List.length_cons, List.length_nil] at *
     have hx : (A ++ [y] ++ x :: B ++ Q)[A.length + (0 + 1)]? = some x := by simp
     have hy : (A ++ [y] ++ x :: B ++ Q)[A.length + (0 + 1) - 1]? = some y := by simp
     iterate 2 refine WO_step rfl (S_pure rfl ?_)
     refine WO_step rfl (S_idx rfl rfl rdA (by first | rfl | assumption | (symm; assumption)) (by rfl) (by first | assumption | omega | exact lt_of_get (by assumption) | (simp only [List.length_set]; first | assumption | omega | exact lt_of_get (by assumption))) fun hp22 => ?_)
     refine WO_step rfl (S_loadE rfl rdA (by first | rfl | assumption | (symm; assumption)) (by first | rfl | assumption | (symm; assumption)) (by first | rfl | assumption | (symm; assumption)) (by assumption) ?_)
     iterate 2 refine WO_step rfl (S_pure rfl ?_)
     first | refine WO_step rfl (S_subN (b := 1) rfl rfl (by omega) ?_) | refine WO_step rfl (S_pure rfl ?_)
     refine WO_step rfl (S_idx rfl rfl rdA (by first | rfl | assumption | (symm; assumption)) (by rfl) (by first | assumption | omega | exact lt_of_get (by assumption) | (simp only [List.length_set]; first | assumption | omega | exact lt_of_get (by assumption))) fun hp27 => ?_)
     refine WO_step rfl (S_loadE rfl rdA (by first | rfl | assumption | (symm; assumption)) (by first | rfl | assumption | (symm; assumption)) (by first | rfl | assumption | (symm; assumption)) (by assumption) ?_)
     refine WO_call rfl rfl rfl ?_
     refine sp_Less.mono ?_
     rintro _ _ ⟨rfl, rfl⟩
     refine WO_step rfl (S_pure rfl ?_)
     refine WO_nil (KSeq_n ?_)
     refine WC_cond rfl (fun hb1 => ?_) (fun hb1 => ?_)
     ·
      try simp only [bsT] at hb1
      refine WC_skip (KSeq_n (WC_seq (WC_block (WC_region ?_))))
      iterate 4 refine WO_step rfl (S_pure rfl ?_)
      first | refine WO_step rfl (S_subN (b := 1) rfl rfl (by omega) ?_) | refine WO_step rfl (S_pure rfl ?_)
      iterate 2 refine WO_step rfl (S_pure rfl ?_)
      first | refine WO_step rfl (S_subN (b := 1) rfl rfl (by omega) ?_) | refine WO_step rfl (S_pure rfl ?_)
      refine WO_step rfl (S_idx rfl rfl rdA (by first | rfl | assumption | (symm; assumption)) (by rfl) (by first | assumption | omega | exact lt_of_get (by assumption) | (simp only [List.length_set]; first | assumption | omega | exact lt_of_get (by assumption))) fun hp41 => ?_)
      refine WO_step rfl (S_loadE rfl rdA (by first | rfl | assumption | (symm; assumption)) (by first | rfl | assumption | (symm; assumption)) (by first | rfl | assumption | (symm; assumption)) (by assumption) ?_)
      iterate 2 refine WO_step rfl (S_pure rfl ?_)
      refine WO_step rfl (S_idx rfl rfl rdA (by first | rfl | assumption | (symm; assumption)) (by rfl) (by first | assumption | omega | exact lt_of_get (by assumption) | (simp only [List.length_set]; first | assumption | omega | exact lt_of_get (by assumption))) fun hp45 => ?_)
      refine WO_step rfl (S_loadE rfl rdA (by first | rfl | assumption | (symm; assumption)) (by first | rfl | assumption | (symm; assumption)) (by first | rfl | assumption | (symm; assumption)) (by assumption) ?_)
      refine WO_step rfl (S_idx rfl rfl rdA (by first | rfl | assumption | (symm; assumption)) (by rfl) (by first | assumption | omega | exact lt_of_get (by assumption) | (simp only [List.length_set]; first | assumption | omega | exact lt_of_get (by assumption))) fun hp47 => ?_)
      refine WO_step rfl (S_storeW rfl rfl pkA (by first | rfl | assumption | (symm; assumption)) (by rfl) (by first | rfl | assumption | (symm; assumption)) (by first | assumption | omega | exact lt_of_get (by assumption) | (simp only [List.length_set]; first | assumption | omega | exact lt_of_get (by assumption))) ?_)
      refine WO_step rfl (S_idx rfl rfl rdA (by first | rfl | assumption | (symm; assumption)) (by rfl) (by first | assumption | omega | exact lt_of_get (by assumption) | (simp only [List.length_set]; first | assumption | omega | exact lt_of_get (by assumption))) fun hp48 => ?_)
      refine WO_step rfl (S_storeW rfl rfl pkA (by first | rfl | assumption | (symm; assumption)) (by rfl) (by first | rfl | assumption | (symm; assumption)) (by first | assumption | omega | exact lt_of_get (by assumption) | (simp only [List.length_set]; first | assumption | omega | exact lt_of_get (by assumption))) ?_)
      refine WO_nil (KBlock_n (KSeq_n (WC_region ?_)))
      refine WO_step rfl (S_pure rfl ?_)
      first | refine WO_step rfl (S_subN (b := 1) rfl rfl (by omega) ?_) | refine WO_step rfl (S_pure rfl ?_)
      refine WO_step rfl (S_pure rfl ?_)
      refine WO_nil (KLoop_n ?_)
      have e : ((A ++ [y] ++ x :: B ++ Q).set (A.length + (0 + 1)) y).set (A.length + (0 + 1) - 1) x = A ++ x :: (y :: B) ++ Q := by simp
      rw [e]
      refine WC_post (WC_weak (ih A.length (by omega) A (y :: B) rfl (by simp only [List.length_cons]; omega) (by simpa using hs) (fun z hz => ?_)) seA hsA) ?_
      · rcases List.mem_cons.1 hz with rfl | hz
        · omega
        · exact hB z hz
      · rintro u l' H' ⟨A', B', rfl, rfl, rfl, h1, h2⟩
        exact KPost_i seA hsA ⟨A', B', rfl, rfl, rfl, by rw [h1]; simp, h2⟩
     ·
      try simp only [bsT] at hb1
      refine WC_exit (KSeq_x (KLoop_x ?_))
      refine KPost_i (l' := [(1, .int .i64 0), (2, .int .i64 (N : Int)), (0, w.toV), (6, v6)]) seA hsA ⟨A ++ [y], B, rfl, rfl, rfl, rfl, isor_ins hs (isor_last (List.pairwise_append.1 hs).1 (by omega)) hB⟩
    ·
     try simp only [bsT] at hg1
     iterate 10 refine WO_off rfl ?_
     refine WO_step rfl (S_pure rfl ?_)
     refine WO_nil (KSeq_n ?_)
     refine WC_cond rfl (fun h => ?_) (fun _ => ?_)
     · exact absurd h (by decide)
     refine WC_exit (KSeq_x (KLoop_x ?_))
     have hA : A = [] := List.length_eq_zero_iff.1 (by omega)
     subst hA
     exact KPost_i seA hsA ⟨[], B, rfl, rfl, rfl, rfl, isor_ins hs (by simp) hB⟩
theorem lp_is_0 {H : SH} {w : SV} {L : List Int} (hL : L.length ≤ 1000) : ∀ (n i : Nat) (P Q : List Int), L.length - i = n → (P.length = i ∧ 0 < i) ∨ (L = [] ∧ i = 1) → ISor P → (P ++ Q).Perm L →
    WC F X (.loop L_slices_insertionSortOrdered_int_0) [(6, .int .i64 (i : Int)), (1, .int .i64 0), (2, .int .i64 (L.length : Int)), (0, w.toV)] (SL w.toV TInt (P ++ Q) :: H)
      (KPost fun y l' H' => ∃ L', y = .exit 0 ∧ l' = [] ∧ H' = SL w.toV TInt L' :: H ∧ ISor L' ∧ L'.Perm L) := by
  intro n
  induction n using Nat.strongRecOn with
  | _ n ih =>
    intro i P Q hn hi hs hp
    have hpl := hp.length_eq
    rw [List.length_append] at hpl
    refine WC_loop (WC_seq (WC_seq (WC_region ?_)))
    iterate 3 refine WO_step rfl (S_pure rfl ?_)
    refine WO_nil (KSeq_n ?_)
    refine WC_cond rfl (fun hb1 => ?_) (fun hb1 => ?_)
    ·
     try simp only [bsT] at hb1
     have hi : P.length = i ∧ 0 < i := by
       rcases hi with hi | ⟨rfl, rfl⟩
       · exact hi
       · exact absurd hb1 (by simp)
     obtain ⟨x, Q, rfl⟩ : ∃ x Q', Q = x :: Q' := by
       cases Q with
       | nil => rw [List.length_nil] at hpl; omega
       | cons x Q => exact ⟨x, Q, rfl⟩
     rw [List.length_cons] at hpl
     refine WC_skip (KSeq_n (WC_seq (WC_block (WC_seq (WC_region ?_)))))
     iterate 2 refine WO_step rfl (S_pure rfl ?_)
     refine WO_nil (KSeq_n (WC_block ?_))
     --out x2
     have e0 : P ++ x :: Q = P ++ x :: [] ++ Q := by simp
     rw [e0]
     refine WC_post (WC_weak (lp_is_1 (x := x) (Q := Q) (w := w) (H := H) (.int .i64 (i : Int)) L.length hL P.length P [] rfl (by simp only [List.length_nil]; omega) (by simpa using hs) (by simp)) (by rw [hi.1]; exact seA) hsA) ?_
     rintro y l' H' ⟨A', B', rfl, rfl, rfl, h1, h2⟩
     refine KBlock_h (KBlock_n (KSeq_n (WC_region ?_)))
     refine WO_step rfl (S_pure rfl ?_)
     first | refine WO_step rfl (S_addN (b := 1) rfl rfl (by omega) ?_) | refine WO_step rfl (S_pure rfl ?_)
     refine WO_step rfl (S_pure rfl ?_)
     refine WO_nil (KLoop_n ?_)
     refine WC_weak (ih (L.length - (i + 1)) (by omega) (i + 1) (A' ++ x :: B') Q rfl (.inl ⟨?_, by omega⟩) h2 ?_) seA hsA
     · have := congrArg List.length h1
       simp only [List.length_append, List.length_cons, List.length_nil] at this ⊢
       omega
     · refine List.Perm.trans ?_ hp
       rw [e0]
       refine List.Perm.append_right Q ?_
       refine (List.perm_middle.trans ?_).trans List.perm_middle.symm
       rw [h1]
    ·
     try simp only [bsT] at hb1
     refine WC_exit (KSeq_x (KLoop_x ?_))
     refine KPost_i seA hsA ⟨P ++ Q, rfl, rfl, rfl, ?_, hp⟩
     rcases hi with hi | ⟨rfl, rfl⟩
     · have hQ : Q = [] := List.length_eq_zero_iff.1 (by omega)
       rw [hQ, List.append_nil]; exact hs
     · rw [List.Perm.eq_nil hp]; exact List.Pairwise.nil
theorem sp_is {H H0 : SH} {w : SV} {L : List Int} (hp : Pick (SL w.toV TInt L) H H0) (hL : L.length ≤ 1000) : WF F X f_slices_insertionSortOrdered_int [w.toV, .int .i64 0, .int .i64 (L.length : Int)] H (fun r H' => ∃ L', H' = SL w.toV TInt L' :: H0 ∧ ISor L' ∧ L'.Perm L) := by
  refine WF.weak ?_ hp.sub
  refine WF_fn F_slices_insertionSortOrdered_int ?_
  refine WC_seq (WC_region ?_)
  refine WO_step rfl (S_pure rfl ?_)
  first | refine WO_step rfl (S_addN (b := 1) rfl rfl (by omega) ?_) | refine WO_step rfl (S_pure rfl ?_)
  refine WO_step rfl (S_pure rfl ?_)
  refine WO_nil (KSeq_n (WC_block ?_))
  --out x0
  obtain ⟨P, Q, hPQ, hP, hsP⟩ : ∃ P Q, L = P ++ Q ∧ ((P.length = 1 ∧ 0 < 1) ∨ (L = [] ∧ 1 = 1)) ∧ ISor P := by
    cases L with
    | nil => exact ⟨[], [], rfl, .inr ⟨rfl, rfl⟩, List.Pairwise.nil⟩
    | cons x L => exact ⟨[x], L, rfl, .inl ⟨rfl, by omega⟩, List.pairwise_singleton _ _⟩
  refine WC_post (WC_weak (lp_is_0 (H := H0) (w := w) hL (L.length - 1) 1 P Q rfl hP hsP (by rw [← hPQ])) seA (by rw [← hPQ]; exact HSub.refl)) ?_
  rintro y l' H' ⟨L', rfl, rfl, rfl, h1, h2⟩
  refine KBlock_h ?_
  refine KFn_n ResL.nil ?_
  exact ⟨_, HSub.refl, L', rfl, h1, h2⟩
theorem S_idxSx {l : SE} {H : SH} {K : Value → SH → Prop} {s : ByteArray} {x i : Opd} {kd : IntKind} {J : Int} {j : Nat} (hx : x.lv l = some (.string s)) (hi : i.lv l = some (.int kd J)) (hJ : J = (j : Int)) (hj : j < s.data.toList.length) (k : ∀ b : UInt8, K (.int .u8 ((b.toNat : Nat) : Int)) H) : Step (.idxS x i) l H K := by
  obtain ⟨b, hb⟩ := get_of_lt hj
  exact S_idxS hx hi hJ hb (k b)
theorem S_toBn {l : SE} {H : SH} {K : Value → SH → Prop} {x : Opd} {a : Nat} {kd : IntKind} (hx : x.lv l = some (.int kd (a : Int))) (k : K (.int .u8 ((a % 256 : Nat) : Int)) H) : Step (.conv .u8 x) l H K :=
  S_pureE (v := .int .u8 (IntKind.wrap .u8 (a : Int))) (by simp only [pev, hx]) (by rw [wrapB]; rfl) k
theorem sp_Len64 {H : SH} {n : Nat} (hn : n < 256) : WF F X f_math_bits_Len64 [.int .u64 (n : Int)] H (fun r H' => H' = H ∧ ∃ v : Int, r = .int .i64 v) := by
  refine WF_fn F_math_bits_Len64 ?_
  refine WC_seq (WC_region ?_)
  refine WO_step rfl (S_pure rfl ?_)
  refine WO_nil (KSeq_n (WC_seq (WC_seq (WC_region ?_))))
  iterate 2 refine WO_step rfl (S_pure rfl ?_)
  refine WO_nil (KSeq_n ?_)
  refine WC_cond rfl (fun hb1 => ?_) (fun hb1 => ?_)
  ·
   try simp only [bsT] at hb1
   exfalso; omega
   --stop
  ·
   try simp only [bsT] at hb1
   refine WC_skip (KSeq_n (WC_seq (WC_seq (WC_region ?_))))
   iterate 2 refine WO_step rfl (S_pure rfl ?_)
   refine WO_nil (KSeq_n ?_)
   refine WC_cond rfl (fun hb2 => ?_) (fun hb2 => ?_)
   ·
    try simp only [bsT] at hb2
    exfalso; omega
    --stop
   ·
    try simp only [bsT] at hb2
    refine WC_skip (KSeq_n (WC_seq (WC_seq (WC_region ?_))))
    iterate 2 refine WO_step rfl (S_pure rfl ?_)
    refine WO_nil (KSeq_n ?_)
    refine WC_cond rfl (fun hb3 => ?_) (fun hb3 => ?_)
    ·
     try simp only [bsT] at hb3
     exfalso; omega
     --stop
    ·
     try simp only [bsT] at hb3
     refine WC_skip (KSeq_n (WC_seq (WC_region ?_)))
     iterate 2 refine WO_step rfl (S_pure rfl ?_)
     refine WO_step rfl (S_toBn rfl ?_)
     refine WO_step rfl (S_idxSx rfl rfl rfl (Nat.lt_of_lt_of_le (Nat.mod_lt n (by omega)) (Nat.le_of_ble_eq_true rfl)) fun b => ?_)
     first | refine WO_step rfl (S_toI rfl (by omega) ?_) | refine WO_step rfl (S_pure rfl ?_)
     first | refine WO_step rfl (S_addN rfl rfl (by omega) ?_) | refine WO_step rfl (S_pure rfl ?_)
     refine WO_step rfl (S_pure rfl ?_)
     refine WO_nil (KSeq_n (WC_ret ?_))
     refine KFn_r (ResL.tmp rfl ResL.nil) ?_
     exact ⟨_, HSub.refl, rfl, _, rfl⟩
theorem sp_Len0 {H : SH} {n : Nat} (hn : n < 256) : WF F X f_math_bits_Len [.int .u64 (n : Int)] H (fun r H' => H' = H ∧ ∃ v : Int, r = .int .i64 v) := by
  refine WF_fn F_math_bits_Len ?_
  refine WC_seq (WC_region ?_)
  refine WO_step rfl (S_pure rfl ?_)
  refine WO_nil (KSeq_n (WC_seq ?_))
  refine WC_cond rfl (fun hb1 => ?_) (fun hb1 => ?_)
  ·
   try simp only [bsT] at hb1
   exact absurd hb1 (by simp)
   --stop
  ·
   try simp only [bsT] at hb1
   refine WC_skip (KSeq_n (WC_seq (WC_region ?_)))
   refine WO_step rfl (S_pure rfl ?_)
   refine WO_call rfl rfl rfl ?_
   refine (sp_Len64 (by omega)).mono ?_
   rintro _ _ ⟨rfl, n7, rfl⟩
   refine WO_step rfl (S_pure rfl ?_)
   refine WO_nil (KSeq_n (WC_ret ?_))
   refine KFn_r (ResL.tmp rfl ResL.nil) ?_
   exact ⟨_, HSub.refl, rfl, _, rfl⟩
theorem lp_pdq {H H0 : SH} {w : SV} {L : List Int} {v : Int} (hp : Pick (SL w.toV TInt L) H H0) (hL : L.length ≤ 12) :
    WC F X (.loop L_slices_pdqsortOrdered_int_0) [(0, w.toV), (1, .int .i64 0), (2, .int .i64 (L.length : Int)), (3, .int .i64 v), (8, .bool true), (9, .bool true)] H (KPost fun x l' H' => x = .ret ∧ l' = [] ∧ ∃ L', H' = SL w.toV TInt L' :: H0 ∧ ISor L' ∧ L'.Perm L) := by
  refine WC_loop (WC_block (WC_seq (WC_region ?_)))
  iterate 2 refine WO_step rfl (S_pure rfl ?_)
  refine WO_step rfl (S_subN (a := L.length) (b := 0) rfl rfl (by omega) ?_)
  refine WO_step rfl (S_pure rfl ?_)
  refine WO_nil (KSeq_n (WC_seq (WC_seq (WC_region ?_))))
  iterate 2 refine WO_step rfl (S_pure rfl ?_)
  refine WO_nil (KSeq_n ?_)
  refine WC_cond rfl (fun hb1 => ?_) (fun hb1 => ?_)
  ·
   try simp only [bsT] at hb1
   refine WC_seq (WC_region ?_)
   iterate 3 refine WO_step rfl (S_pure rfl ?_)
   refine WO_call rfl rfl rfl ?_
   refine (sp_is hp (by omega)).mono ?_
   rintro _ _ ⟨L', rfl, h1, h2⟩
   refine WO_nil (KSeq_n (WC_ret (KSeq_r (KBlock_r (KLoop_r ?_)))))
   exact KPost_i seA hsA ⟨rfl, rfl, L', rfl, h1, h2⟩
  ·
   try simp only [bsT] at hb1
   exfalso; omega
   --stop
theorem sp_pdq {H H0 : SH} {w : SV} {L : List Int} {v : Int} (hp : Pick (SL w.toV TInt L) H H0) (hL : L.length ≤ 12) : WF F X f_slices_pdqsortOrdered_int [w.toV, .int .i64 0, .int .i64 (L.length : Int), .int .i64 v] H (fun r H' => ∃ L', H' = SL w.toV TInt L' :: H0 ∧ ISor L' ∧ L'.Perm L) := by
  refine WF_fn F_slices_pdqsortOrdered_int ?_
  refine WC_seq (WC_region ?_)
  refine WO_step rfl (S_pure rfl ?_)
  refine WO_nil (KSeq_n (WC_seq (WC_region ?_)))
  refine WO_step rfl (S_pure rfl ?_)
  refine WO_nil (KSeq_n (WC_block ?_))
  --out r
  refine WC_post (WC_weak (lp_pdq (v := v) hp hL) seA hsA) ?_
  rintro y l' H' ⟨rfl, rfl, L', rfl, h1, h2⟩
  refine KBlock_r ?_
  refine KFn_r ResL.nil ?_
  exact ⟨_, HSub.refl, L', rfl, h1, h2⟩
theorem sp_Sort {H H0 : SH} {w : SV} {L : List Int} (hp : Pick (SL w.toV TInt L) H H0) (hL : L.length ≤ 12) : WF F X f_slices_Sort_int [w.toV] H (fun r H' => ∃ L', H' = SL w.toV TInt L' :: H0 ∧ ISor L' ∧ L'.Perm L) := by
  have hrd := RD.pick hp
  refine WF_fn F_slices_Sort_int ?_
  refine WC_seq (WC_region ?_)
  refine WO_step rfl (S_pure rfl ?_)
  first | refine WO_step rfl (S_pure rfl ?_) | refine WO_step rfl (S_lenS rfl rdA ?_)
  refine WO_step rfl (S_pure rfl ?_)
  refine WO_nil (KSeq_n (WC_region ?_))
  iterate 3 refine WO_step rfl (S_pure rfl ?_)
  first | refine WO_step rfl (S_toU rfl (by omega) ?_) | refine WO_step rfl (S_pure rfl ?_)
  refine WO_call rfl rfl rfl ?_
  refine (sp_Len0 (by omega)).mono ?_
  rintro _ _ ⟨rfl, n9, rfl⟩
  refine WO_call rfl rfl rfl ?_
  refine (sp_pdq hp hL).mono ?_
  rintro _ _ ⟨L', rfl, h1, h2⟩
  refine WO_nil ?_
  refine KFn_n ResL.nil ?_
  exact ⟨_, HSub.refl, L', rfl, h1, h2⟩
/-! ### Find, Set, At -/
def FindTr (es : List Ent) (st : SV × List Int) (k : Nat) (es1 : List Ent) (st1 : SV × List Int) (ok : Bool) : Prop := es1 = es ∧ st1.2 = st.2 ++ [(at' es k).id] ∧ ok = true
theorem find_each {h : Nat} : ∀ {ks : List Nat} {es : List Ent} {st : SV × List Int} {es' : List Ent} {st' : SV × List Int}, eachR FindTr h ks es st es' st' → es' = es ∧ st'.2 = st.2 ++ ((ks.filter (hit es h)).map fun k => (at' es k).id)
  | [], es, st, es', st', hr => by
    obtain ⟨rfl, rfl⟩ := hr
    exact ⟨rfl, by simp⟩
  | k :: ks, es, st, es', st', hr => by
    unfold eachR at hr
    split at hr
    · rename_i hh
      obtain ⟨es1, st1, ok, ⟨rfl, h2, rfl⟩, h4⟩ := hr
      rw [if_pos rfl] at h4
      obtain ⟨rfl, h5⟩ := find_each h4
      exact ⟨rfl, by rw [h5, h2, List.filter_cons, if_pos hh]; simp⟩
    · rename_i hh
      obtain ⟨rfl, h5⟩ := find_each hr
      exact ⟨rfl, by rw [h5, List.filter_cons, if_neg hh]⟩
theorem foundL_len (es : List Ent) (h : Nat) : (foundL es h).length ≤ 8 := by
  unfold foundL
  rw [List.length_map]
  exact Nat.le_trans (List.length_filter_le _ _) (by simp [slots])
theorem sp_find1 {H : SH} {i n k i5 : Nat} {es : List Ent} {w : SV} {l : List Int} (hl : es.length = 32) (hk : k < 32) (hb : l.length ≤ 100) : WF F X f_cuckoo_Dir_Find_1 [.pointer (some ⟨i, k * 3, none⟩), .pointer (some ⟨i5, 0, none⟩)] (DO i es n :: OB i5 TSV w :: SL w.toV TInt l :: H) (fun r H' => ∃ w', r = .bool true ∧ H' = DO i es n :: OB i5 TSV w' :: SL w'.toV TInt (l ++ [(at' es k).id]) :: H) := by
  refine WF_fn F_cuckoo_Dir_Find_1 ?_
  refine WC_seq (WC_region ?_)
  refine WO_step rfl (S_pure rfl ?_)
  refine WO_nil (KSeq_n (WC_seq (WC_region ?_)))
  refine WO_step rfl (S_loadO rfl pkA (by rfl) (by rfl) ?_)
  iterate 3 refine WO_step rfl (S_pure rfl ?_)
  refine WO_step rfl (S_loadD (k := k) (off := 1) hl rfl .head rfl hk rfl ?_)
  refine WO_step rfl (S_lit1 (T := TInt) rfl rfl rfl rfl fun w9 => ?_)
  refine WO_step rfl (S_app rfl rfl pkA (by first | exact SRC.str rfl rfl | (apply RD.src; repeat (first | assumption | exact RD.head | exact RD.nil | apply RD.tail))) (by rfl) (by rfl) (by (try simp only [List.length_append, List.length_cons, List.length_nil]); omega) fun w10 => ?_)
  refine WO_step rfl (S_storeT (T := TSV) (y := w10) rfl rfl pkA (by rfl) (by rfl) ?_)
  refine WO_nil (KSeq_n (WC_seq (WC_region ?_)))
  refine WO_step rfl (S_pure rfl ?_)
  refine WO_nil (KSeq_n (WC_ret ?_))
  refine KFn_r (ResL.tmp rfl ResL.nil) ?_
  exact ⟨_, hsA, w10, rfl, rfl⟩
def FindIv (m : Nat) (st : SV × List Int) : Prop := st.2.length + m ≤ 8
theorem find_tell {H : SH} {i n h i5 : Nat} : TellOk i n h FindIv (fun st => OB i5 TSV st.1 :: SL st.1.toV TInt st.2 :: H) f_cuckoo_Dir_Find_1 #[.pointer (some ⟨i5, 0, none⟩)] FindTr := by
  refine ⟨fun m st h => by unfold FindIv at *; omega, fun es st k m hl hk hh hiv => ?_⟩
  obtain ⟨w, l⟩ := st
  unfold FindIv at hiv
  simp only at hiv
  refine (sp_find1 (i5 := i5) (w := w) (l := l) (H := H) (n := n) hl hk (by omega)).mono ?_
  rintro _ _ ⟨w', rfl, rfl⟩
  exact ⟨es, (w', l ++ [(at' es k).id]), true, ⟨rfl, rfl, rfl⟩, rfl, rfl, hl, by unfold FindIv; simp only [List.length_append, List.length_cons, List.length_nil]; omega⟩
theorem sp_DFind {H H0 : SH} {i n h : Nat} {es : List Ent} (hl : es.length = 32) (hp : Pick (DO i es n) H H0) (hh : h < 18446744073709551616) : WF F X f_cuckoo_Dir_Find [.pointer (some ⟨i, 0, none⟩), .int .u64 (h : Int)] H (fun r H' => ∃ (w : SV) (L : List Int), r = w.toV ∧ H' = SL w.toV TInt L :: DO i es n :: H0 ∧ ISor L ∧ L.Perm (foundL es h)) := by
  refine WF.weak ?_ hp.sub
  refine WF_fn F_cuckoo_Dir_Find ?_
  refine WC_seq (WC_region ?_)
  refine WO_step rfl (S_pure rfl ?_)
  refine WO_nil (KSeq_n (WC_seq (WC_region ?_)))
  refine WO_step rfl (S_newT TSV .nil rfl rfl fun i5 => ?_)
  refine WO_nil (KSeq_n (WC_seq (WC_region ?_)))
  iterate 3 refine WO_step rfl (S_pure rfl ?_)
  refine WO_call rfl rfl rfl ?_
  refine WF_addNil (T := TInt) ?_
  refine (WF.weak (sp_each (i := i) (n := n) (h := h) (find_tell (H := H0) (i5 := i5)) hh (es := es) (st := (.nil, [])) hl (by unfold FindIv; simp)) hsA).mono ?_
  rintro _ _ ⟨es', st', rfl, hl', hr⟩
  obtain ⟨rfl, hL⟩ := find_each hr
  obtain ⟨w', L'⟩ := st'
  simp only [List.nil_append] at hL
  have hL8 := foundL_len es' h
  have hLe : L' = foundL es' h := hL
  subst hLe
  refine WO_nil (KSeq_n (WC_seq (WC_region ?_)))
  refine WO_step rfl (S_loadO rfl pkA (by rfl) (by rfl) ?_)
  refine WO_call rfl rfl rfl ?_
  refine (sp_Sort (L := foundL es' h) pkA (by omega)).mono ?_
  rintro _ _ ⟨L2, rfl, h1, h2⟩
  refine WO_nil (KSeq_n (WC_seq (WC_region ?_)))
  refine WO_step rfl (S_loadO rfl pkA (by rfl) (by rfl) ?_)
  refine WO_step rfl (S_pure rfl ?_)
  refine WO_nil (KSeq_n (WC_ret ?_))
  refine KFn_r (ResL.tmp rfl ResL.nil) ?_
  exact ⟨_, hsA, w', L2, rfl, rfl, h1, h2⟩
theorem sp_At {H H0 : SH} {i n b s : Nat} {es : List Ent} (hl : es.length = 32) (hp : Pick (DO i es n) H H0) (hb : b < 8) (hs : s < 4) : WF F X f_cuckoo_Dir_At [.pointer (some ⟨i, 0, none⟩), .int .i64 (b : Int), .int .i64 (s : Int)] H (fun r H' => H' = H ∧ r = .tuple #[.int .i64 (at' es (b * 4 + s)).id, .int .i64 ((at' es (b * 4 + s)).tag : Int), .bool (at' es (b * 4 + s)).has]) := by
  refine WF_fn F_cuckoo_Dir_At ?_
  refine WC_seq (WC_region ?_)
  iterate 3 refine WO_step rfl (S_pure rfl ?_)
  refine WO_nil (KSeq_n (WC_seq (WC_seq (WC_region ?_))))
  iterate 3 refine WO_step rfl (S_pure rfl ?_)
  refine WO_cases (t := 12) rfl (fun hg1 => ?_) (fun hg1 => ?_)
  ·
   try simp only [bsT] at hg1
   exact absurd hg1 (by simp)
   --stop
  ·
   try simp only [bsT] at hg1
   iterate 4 refine WO_step rfl (S_pure rfl ?_)
   refine WO_cases (t := 16) rfl (fun hg2 => ?_) (fun hg2 => ?_)
   ·
    try simp only [bsT] at hg2
    exfalso; omega
    --stop
   ·
    try simp only [bsT] at hg2
    iterate 4 refine WO_step rfl (S_pure rfl ?_)
    refine WO_cases (t := 20) rfl (fun hg3 => ?_) (fun hg3 => ?_)
    ·
     try simp only [bsT] at hg3
     exfalso; omega
     --stop
    ·
     try simp only [bsT] at hg3
     iterate 4 refine WO_step rfl (S_pure rfl ?_)
     refine WO_cases (t := 24) rfl (fun hg4 => ?_) (fun hg4 => ?_)
     ·
      try simp only [bsT] at hg4
      exfalso; omega
      --stop
     ·
      try simp only [bsT] at hg4
      iterate 3 refine WO_step rfl (S_pure rfl ?_)
      refine WO_nil (KSeq_n ?_)
      refine WC_cond rfl (fun hb1 => ?_) (fun hb1 => ?_)
      ·
       try simp only [bsT] at hb1
       exfalso; omega
       --stop
      ·
       try simp only [bsT] at hb1
       refine WC_skip (KSeq_n (WC_seq (WC_region ?_)))
       iterate 5 refine WO_step rfl (S_pure rfl ?_)
       refine WO_step rfl (S_idxA rfl rfl rfl hb ?_)
       refine WO_step rfl (S_idxA rfl rfl rfl hs ?_)
       refine WO_step rfl (S_loadEnt (k := b * 4 + s) hl rfl hp (by omega) (by omega) ?_)
       refine WO_step rfl (S_newT TEnt ent0 rfl rfl fun i9 => ?_)
       refine WO_step rfl (S_storeO rfl rfl pkA (by first | rfl | exact SV.cells1 _) (by rfl) (by first | rfl | exact SV.ones _) ?_)
       refine WO_nil (KSeq_n (WC_seq (WC_region ?_)))
       refine WO_step rfl (S_pure rfl ?_)
       refine WO_step rfl (S_loadO rfl pkA (by rfl) (by rfl) ?_)
       refine WO_step rfl (S_pure rfl ?_)
       refine WO_step rfl (S_loadO rfl pkA (by rfl) (by rfl) ?_)
       refine WO_step rfl (S_pure rfl ?_)
       refine WO_step rfl (S_loadO rfl pkA (by rfl) (by rfl) ?_)
       iterate 3 refine WO_step rfl (S_pure rfl ?_)
       refine WO_nil (KSeq_n (WC_ret ?_))
       refine KFn_r (ResL.tmp rfl (ResL.tmp rfl (ResL.tmp rfl ResL.nil))) ?_
       exact ⟨_, HSub.refl.drop, rfl, rfl⟩
theorem sp_AtNo {H : SH} {i b s : Nat} (h : 8 ≤ b ∨ 4 ≤ s) : WF F X f_cuckoo_Dir_At [.pointer (some ⟨i, 0, none⟩), .int .i64 (b : Int), .int .i64 (s : Int)] H (fun r H' => H' = H ∧ r = .tuple #[.int .i64 0, .int .i64 0, .bool false]) := by
  refine WF_fn F_cuckoo_Dir_At ?_
  refine WC_seq (WC_region ?_)
  iterate 3 refine WO_step rfl (S_pure rfl ?_)
  refine WO_nil (KSeq_n (WC_seq (WC_seq (WC_region ?_))))
  iterate 3 refine WO_step rfl (S_pure rfl ?_)
  refine WO_cases (t := 12) rfl (fun hg1 => ?_) (fun hg1 => ?_)
  ·
   try simp only [bsT] at hg1
   exact absurd hg1 (by simp)
   --stop
  ·
   try simp only [bsT] at hg1
   iterate 4 refine WO_step rfl (S_pure rfl ?_)
   refine WO_cases (t := 16) rfl (fun hg2 => ?_) (fun hg2 => ?_)
   ·
    try simp only [bsT] at hg2
    iterate 2 refine WO_off rfl ?_
    iterate 2 refine WO_step rfl (S_pure rfl ?_)
    iterate 2 refine WO_off rfl ?_
    iterate 2 refine WO_step rfl (S_pure rfl ?_)
    iterate 2 refine WO_off rfl ?_
    refine WO_step rfl (S_pure rfl ?_)
    refine WO_nil (KSeq_n ?_)
    refine WC_cond rfl (fun _ => ?_) (fun h => ?_)
    rotate_left
    · exact absurd h (by decide)
    refine WC_seq (WC_region ?_)
    iterate 3 refine WO_step rfl (S_pure rfl ?_)
    refine WO_nil (KSeq_n (WC_ret (KSeq_r ?_)))
    refine KFn_r (ResL.tmp rfl (ResL.tmp rfl (ResL.tmp rfl ResL.nil))) ?_
    exact ⟨_, HSub.refl, rfl, rfl⟩
   ·
    try simp only [bsT] at hg2
    iterate 4 refine WO_step rfl (S_pure rfl ?_)
    refine WO_cases (t := 20) rfl (fun hg3 => ?_) (fun hg3 => ?_)
    ·
     try simp only [bsT] at hg3
     iterate 2 refine WO_off rfl ?_
     iterate 2 refine WO_step rfl (S_pure rfl ?_)
     iterate 2 refine WO_off rfl ?_
     refine WO_step rfl (S_pure rfl ?_)
     refine WO_nil (KSeq_n ?_)
     refine WC_cond rfl (fun _ => ?_) (fun h => ?_)
     rotate_left
     · exact absurd h (by decide)
     refine WC_seq (WC_region ?_)
     iterate 3 refine WO_step rfl (S_pure rfl ?_)
     refine WO_nil (KSeq_n (WC_ret (KSeq_r ?_)))
     refine KFn_r (ResL.tmp rfl (ResL.tmp rfl (ResL.tmp rfl ResL.nil))) ?_
     exact ⟨_, HSub.refl, rfl, rfl⟩
    ·
     try simp only [bsT] at hg3
     iterate 4 refine WO_step rfl (S_pure rfl ?_)
     refine WO_cases (t := 24) rfl (fun hg4 => ?_) (fun hg4 => ?_)
     ·
      try simp only [bsT] at hg4
      iterate 2 refine WO_off rfl ?_
      refine WO_step rfl (S_pure rfl ?_)
      refine WO_nil (KSeq_n ?_)
      refine WC_cond rfl (fun _ => ?_) (fun h => ?_)
      rotate_left
      · exact absurd h (by decide)
      refine WC_seq (WC_region ?_)
      iterate 3 refine WO_step rfl (S_pure rfl ?_)
      refine WO_nil (KSeq_n (WC_ret (KSeq_r ?_)))
      refine KFn_r (ResL.tmp rfl (ResL.tmp rfl (ResL.tmp rfl ResL.nil))) ?_
      exact ⟨_, HSub.refl, rfl, rfl⟩
     ·
      try simp only [bsT] at hg4
      iterate 3 refine WO_step rfl (S_pure rfl ?_)
      refine WO_nil (KSeq_n ?_)
      refine WC_cond rfl (fun hb1 => ?_) (fun hb1 => ?_)
      ·
       try simp only [bsT] at hb1
       refine WC_seq (WC_region ?_)
       iterate 3 refine WO_step rfl (S_pure rfl ?_)
       refine WO_nil (KSeq_n (WC_ret (KSeq_r ?_)))
       refine KFn_r (ResL.tmp rfl (ResL.tmp rfl (ResL.tmp rfl ResL.nil))) ?_
       exact ⟨_, HSub.refl, rfl, rfl⟩
      ·
       try simp only [bsT] at hb1
       exfalso; omega
       --stop

end Go.Proofs.YtpgidiompdabdaaGreat.AM
