/- Rules by which the abstract machine's code is walked: operations, code, functions. -/
import Derived.Test.YtpgidiompdabdaaGreatAmV
namespace Go.Proofs.YtpgidiompdabdaaGreat.AM
open Go
set_option linter.unusedSimpArgs false
set_option linter.unusedVariables false

/-! ### Operations -/
def Step (op : ROp) (l : SE) (H : SH) (K : Value → SH → Prop) : Prop :=
  ∀ e h, Ag l e → HAg H h → ∃ v h1 H1, ev op e h = some (v, h1) ∧ HAg H1 h1 ∧ K v H1
section
variable {l : SE} {H H0 : SH} {K : Value → SH → Prop}
theorem Step.mono {op : ROp} {K' : Value → SH → Prop} (h : Step op l H K) (hk : ∀ v H1, K v H1 → K' v H1) : Step op l H K' := fun e a h1 h2 => by
  obtain ⟨v, a1, H1, x1, x2, x3⟩ := h e a h1 h2
  exact ⟨v, a1, H1, x1, x2, hk _ _ x3⟩
theorem S_pure {op : ROp} {v : Value} (hv : pev l op = some v) (k : K v H) : Step op l H K :=
  fun e h hA hH => ⟨v, h, H, pev_ev hA hv h, hH, k⟩
theorem S_pureE {op : ROp} {v v' : Value} (hv : pev l op = some v) (e : v = v') (k : K v' H) : Step op l H K := S_pure hv (e ▸ k)
theorem Res.holds_frame {r : Res} {h h' : AH} {i : Nat} (hn : h.next ≤ h'.next) (hg : ∀ j, j < h.next → j ≠ i → h'.get j = h.get j) (hr : r.holds h) (hf : i ∉ r.foot) (hro : (∀ j t c, r = .ro j t c → j ≠ i) ∧ ∀ j, r = .gone j → j ≠ i) : r.holds h' := by
  cases r with
  | obj j o =>
    obtain ⟨h1, h2, h3⟩ := hr
    have hne : j ≠ i := fun e => hf (by simp [Res.foot, e])
    exact ⟨by omega, (hg j h1 hne).trans h2, h3⟩
  | ro j t c =>
    obtain ⟨h1, h2⟩ := hr
    exact ⟨by omega, (hg j h1 (hro.1 j t c rfl)).trans h2⟩
  | gone j =>
    obtain ⟨h1, h2⟩ := hr
    exact ⟨by omega, (hg j h1 (hro.2 j rfl)).trans h2⟩
  | sl v t es n cs =>
    obtain ⟨h0, h1⟩ := hr
    refine ⟨h0, ?_⟩
    rcases h1 with ⟨rfl, rfl⟩ | ⟨j, o, c, rfl, h1, h2, h3, h4⟩
    · exact .inl ⟨rfl, rfl⟩
    · have hne : j ≠ i := fun e => hf (by simp [Res.foot, idOf, e])
      exact .inr ⟨j, o, c, rfl, by omega, (hg j h1 hne).trans h2, h3, h4⟩
theorem Res.foot_lt {r : Res} {h : AH} (hr : r.holds h) {j : Nat} (hj : j ∈ r.foot) : j < h.next := by
  cases r with
  | obj i o => simp only [Res.foot, List.mem_singleton] at hj; subst hj; exact hr.1
  | ro i t c => simp [Res.foot] at hj
  | gone i => simp [Res.foot] at hj
  | sl v t es n cs =>
    obtain ⟨h0, h1⟩ := hr
    rcases h1 with ⟨rfl, rfl⟩ | ⟨i, o, c, rfl, h1, h2, h3, h4⟩
    · simp [Res.foot, idOf] at hj
    · simp only [Res.foot, idOf, List.mem_singleton] at hj; subst hj; exact h1
theorem HAg.fresh {h : AH} (hh : HAg H h) : h.next ∉ H.flatMap Res.foot := by
  intro hm
  obtain ⟨r, hr, hj⟩ := List.mem_flatMap.1 hm
  exact absurd (Res.foot_lt (hh.1 r hr) hj) (Nat.lt_irrefl _)
/-- A new object ahead of the others. -/
theorem HAg.add {h : AH} (hh : HAg H h) (o : AObj) {r : Res} (hr : r.holds (h.push o)) (hf : r.foot = [h.next]) : HAg (r :: H) (h.push o) := by
  refine ⟨fun q hq => ?_, ?_⟩
  · rcases List.mem_cons.1 hq with rfl | hq
    · exact hr
    · refine Res.holds_frame (i := h.next) (Nat.le_succ _) (fun j _ hne => AH.get_push_ne h o (Ne.symm hne)) (hh.1 q hq) (fun hm => ?_) ⟨fun j t c e => ?_, fun j e => ?_⟩
      · exact absurd (Res.foot_lt (hh.1 q hq) hm) (Nat.lt_irrefl _)
      · have := hh.1 q hq; subst e; exact Nat.ne_of_lt this.1
      · have := hh.1 q hq; subst e; exact Nat.ne_of_lt this.1
  · rw [List.flatMap_cons, hf]
    exact List.nodup_cons.2 ⟨hh.fresh, hh.2⟩
theorem HAg.push {h : AH} (hh : HAg H h) {o : AObj} (ho : rw? o = true) : HAg (.obj h.next o :: H) (h.push o) :=
  hh.add o ⟨Nat.lt_succ_self _, AH.get_push_same h o, ho⟩ rfl
/-- The others, where one object is written. -/
theorem HAg.write {h : AH} {r r' : Res} (hh : HAg (r :: H0) h) {i : Nat} (hf : r.foot = [i]) {o0 o : AObj} (h0 : h.get i = some o0) (hrw : rw? o0 = true) (hf' : r'.foot = [i]) (hr : r'.holds (h.put i o)) : HAg (r' :: H0) (h.put i o) := by
  have hnd := hh.2
  rw [List.flatMap_cons, hf] at hnd
  have hni := (List.nodup_cons.1 hnd).1
  refine ⟨fun q hq => ?_, ?_⟩
  · rcases List.mem_cons.1 hq with rfl | hq
    · exact hr
    · refine Res.holds_frame (h := h) (h' := h.put i o) (i := i) (Nat.le_refl _) (fun j _ hne => AH.get_put_ne h o (Ne.symm hne)) (hh.1 q (List.mem_cons_of_mem _ hq)) (fun hm => hni (List.mem_flatMap.2 ⟨q, hq, hm⟩)) ⟨fun j t c e => ?_, fun j e => ?_⟩
      · have := hh.1 q (List.mem_cons_of_mem _ hq)
        subst e
        rintro rfl
        rw [this.2] at h0; cases h0; cases hrw
      · have := hh.1 q (List.mem_cons_of_mem _ hq)
        subst e
        rintro rfl
        rw [this.2] at h0; cases h0; cases hrw
  · rw [List.flatMap_cons, hf']; exact hnd
theorem S_new {t : TypeId} {zs : List Value} (k : ∀ i, K (.pointer (some ⟨i, 0, none⟩)) (.obj i (.row false t zs) :: H)) : Step (.new t zs) l H K :=
  fun e h _ hH => ⟨_, _, _, rfl, hH.push rfl, k _⟩
theorem S_box {t : TypeId} {x : Opd} {v : Value} (hx : x.lv l = some v) (ho : (cells v).all one = true) (k : ∀ i, K (.pointer (some ⟨i, 0, none⟩)) (.obj i (.row false t (cells v)) :: H)) : Step (.box t x) l H K :=
  fun e h hA hH => ⟨_, _, _, by simp only [ev, Opd.lv_ev hA hx]; rw [if_pos ho], hH.push rfl, k _⟩
theorem S_lit {t : TypeId} {es len : Nat} {zs vs : List Value} {ps : List (Nat × Nat × Opd)} (hv : lfill l zs ps = some vs) (ho : vs.all one = true) (hl : vs.length = len * es) (k : ∀ w : SV, K w.toV (.sl w.toV t es len vs :: H)) : Step (.lit t es len zs ps) l H K :=
  fun e h hA hH => ⟨(SV.mk h.next 0 len es).toV, _, _, by simp only [ev, lfill_ev hA hv]; rw [if_pos ho]; rfl,
    hH.add _ (r := .sl (.slice (some ⟨h.next, 0, none⟩) len es) t es len vs) ⟨hl, .inr ⟨h.next, 0, vs, rfl, Nat.lt_succ_self _, AH.get_push_same _ _, by omega, by rw [List.drop_zero, ← hl, List.take_length]⟩⟩ rfl, k (.mk h.next 0 len es)⟩
theorem rowAt_of {h : AH} {i : Nat} {ro : Bool} {t : TypeId} {c : List Value} (h1 : i < h.next) (h2 : h.get i = some (.row ro t c)) : rowAt h i = some (ro, t, c) := by
  unfold rowAt; rw [if_pos h1, h2]
theorem S_loadO {agg : Bool} {n i o : Nat} {a : Opd} {v : Value} {ro : Bool} {t : TypeId} {c : List Value} (ha : a.lv l = some (.pointer (some ⟨i, o, none⟩))) (hm : Pick (.obj i (.row ro t c)) H H0) (hb : Nat.ble (o + n) c.length = true) (hv : mkV agg ((c.drop o).take n) = some v) (k : K v H) : Step (.load agg n a) l H K :=
  fun e h hA hH => ⟨v, h, H, by
    obtain ⟨h1, h2, _⟩ := hH.1 _ hm.mem
    simp only [ev, Opd.lv_ev hA ha, rowAt_of h1 h2]; rw [if_pos (Nat.le_of_ble_eq_true hb), hv]; rfl, hH, k⟩
theorem S_loadR {agg : Bool} {n i o : Nat} {a : Opd} {v : Value} {t : TypeId} {c : List Value} (ha : a.lv l = some (.pointer (some ⟨i, o, none⟩))) (hm : Pick (.ro i t c) H H0) (hb : Nat.ble (o + n) c.length = true) (hv : mkV agg ((c.drop o).take n) = some v) (k : K v H) : Step (.load agg n a) l H K :=
  fun e h hA hH => ⟨v, h, H, by
    obtain ⟨h1, h2⟩ := hH.1 _ hm.mem
    simp only [ev, Opd.lv_ev hA ha, rowAt_of h1 h2]; rw [if_pos (Nat.le_of_ble_eq_true hb), hv]; rfl, hH, k⟩
theorem S_storeO {n i o : Nat} {a x : Opd} {v : Value} {t : TypeId} {c : List Value} (ha : a.lv l = some (.pointer (some ⟨i, o, none⟩))) (hx : x.lv l = some v) (hm : Pick (.obj i (.row false t c)) H H0) (hn : (cells v).length = n) (hb : Nat.ble (o + n) c.length = true) (ho : (cells v).all one = true)
    (k : K undef (.obj i (.row false t (splice c o (cells v))) :: H0)) : Step (.store n a x) l H K :=
  fun e h hA hH => by
    have hH' := hH.perm hm.perm
    obtain ⟨h1, h2, _⟩ := hH'.1 _ (List.mem_cons_self ..)
    refine ⟨_, _, _, by simp only [ev, Opd.lv_ev hA ha, Opd.lv_ev hA hx, rowAt_of h1 h2]; rw [if_pos ⟨hn, Nat.le_of_ble_eq_true hb, ho⟩], hH'.write rfl h2 rfl rfl ?_, k⟩
    exact ⟨h1, AH.get_put_same _ _ _, rfl⟩

/-! ### Typed cells -/
structure Ty (α : Type) where
  es : Nat
  t : TypeId
  bytes : Nat
  agg : Bool
  enc : α → List Value
  val : α → Value
  len : ∀ x, (enc x).length = es
  ones : ∀ x, (enc x).all one = true
  hcells : ∀ x, AM.cells (val x) = enc x
  hmk : ∀ x, mkV agg (enc x) = some (val x)
variable {α : Type}
def Ty.ofAgg (es : Nat) (t : TypeId) (bytes : Nat) (enc : α → List Value) (len : ∀ x, (enc x).length = es) (ones : ∀ x, (enc x).all one = true) : Ty α :=
  ⟨es, t, bytes, true, enc, fun x => .agg (enc x).toArray, len, ones, fun x => by simp [AM.cells, Value.cells], fun x => rfl⟩
def Ty.ofOne (t : TypeId) (bytes : Nat) (f : α → Value) (h1 : ∀ x, one (f x) = true) : Ty α :=
  ⟨1, t, bytes, false, fun x => [f x], f, fun _ => rfl, fun x => by simp [h1], fun x => by
    have := h1 x
    cases hf : f x <;> rw [hf] at this <;> first | rfl | (cases this), fun _ => rfl⟩
def Ty.cells (T : Ty α) (xs : List α) : List Value := xs.flatMap T.enc
theorem Ty.cells_len (T : Ty α) : ∀ xs : List α, (T.cells xs).length = xs.length * T.es
  | [] => by simp [Ty.cells]
  | x :: xs => by
    have := Ty.cells_len T xs
    rw [Ty.cells, List.flatMap_cons, List.length_append, T.len, ← Ty.cells, this, List.length_cons, Nat.add_mul]; omega
theorem Ty.cells_app (T : Ty α) (xs ys : List α) : T.cells (xs ++ ys) = T.cells xs ++ T.cells ys := by simp [Ty.cells]
theorem Ty.cells_all (T : Ty α) (xs : List α) : (T.cells xs).all one = true := by
  simp only [Ty.cells, List.all_flatMap, List.all_eq_true]
  intro x _; exact List.all_eq_true.1 (T.ones x)
theorem Ty.cells_drop (T : Ty α) : ∀ (j : Nat) (xs : List α), (T.cells xs).drop (j * T.es) = T.cells (xs.drop j)
  | 0, xs => by simp
  | j + 1, [] => by simp [Ty.cells]
  | j + 1, x :: xs => by
    have : (j + 1) * T.es = (T.enc x).length + j * T.es := by rw [T.len, Nat.add_mul]; omega
    rw [this, Ty.cells, List.flatMap_cons, List.drop_length_add_append, ← Ty.cells, Ty.cells_drop T j xs]; rfl
theorem Ty.cells_take (T : Ty α) : ∀ (j : Nat) (xs : List α), (T.cells xs).take (j * T.es) = T.cells (xs.take j)
  | 0, xs => by simp [Ty.cells]
  | j + 1, [] => by simp [Ty.cells]
  | j + 1, x :: xs => by
    have : (j + 1) * T.es = (T.enc x).length + j * T.es := by rw [T.len, Nat.add_mul]; omega
    rw [this, Ty.cells, List.flatMap_cons, List.take_length_add_append, ← Ty.cells, Ty.cells_take T j xs, List.take_succ_cons, Ty.cells, Ty.cells, List.flatMap_cons]
theorem Ty.cells_at (T : Ty α) {xs : List α} {j : Nat} {x : α} (hx : xs[j]? = some x) {off n : Nat} (hb : off + n ≤ T.es) : ((T.cells xs).drop (j * T.es + off)).take n = ((T.enc x).drop off).take n := by
  obtain ⟨hlt, he⟩ := List.getElem?_eq_some_iff.1 hx
  rw [← List.drop_drop, Ty.cells_drop, List.drop_eq_getElem_cons hlt, he, Ty.cells, List.flatMap_cons]
  rw [List.drop_append_of_le_length (by rw [T.len]; omega), List.take_append_of_le_length (by rw [List.length_drop, T.len]; omega)]
abbrev SL (s : Value) (T : Ty α) (xs : List α) : Res := .sl s T.t T.es xs.length (T.cells xs)
def RD (H : SH) (s : Value) (T : Ty α) (xs : List α) : Prop := Rd H s T.es xs.length (T.cells xs)
theorem RD.head {s : Value} {T : Ty α} {xs : List α} : RD (SL s T xs :: H) s T xs := Rd.sl (T.cells_len xs) (List.mem_cons_self ..)
theorem RD.tail {s : Value} {T : Ty α} {xs : List α} {r : Res} (h : RD H s T xs) : RD (r :: H) s T xs := Rd.tail h
theorem RD.app {s : Value} {T : Ty α} {xs : List α} {L : SH} (h : RD H s T xs) : RD (L ++ H) s T xs := Rd.app h
theorem RD.sub {s : Value} {T : Ty α} {xs : List α} {H' : SH} (hs : HSub H' H) (h : RD H s T xs) : RD H' s T xs := Rd.sub hs h
theorem RD.nil {T : Ty α} : RD H (.slice none 0 0) T [] := Rd.nil
theorem RD.pick {s : Value} {T : Ty α} {xs : List α} (h : Pick (SL s T xs) H H0) : RD H s T xs := Rd.sl (T.cells_len xs) h.mem
theorem RD.subSl {s : Value} {T : Ty α} {xs : List α} (h : RD H s T xs) {es lo n : Nat} (he : es = T.es) (hl : lo + n ≤ xs.length) : RD H (subSl s es lo n) T ((xs.drop lo).take n) := by
  subst he
  have := Rd.subSl h hl
  rw [T.cells_drop, T.cells_take] at this
  have e : n = ((xs.drop lo).take n).length := by rw [List.length_take, List.length_drop]; omega
  unfold RD; rw [← e]; exact this
theorem HAg.addNil {T : Ty α} {h : AH} (hH : HAg H h) : HAg (SL (.slice none 0 0) T [] :: H) h := by
  refine ⟨fun r hr => ?_, by rw [List.flatMap_cons]; exact hH.2⟩
  rcases List.mem_cons.1 hr with rfl | hr
  · exact ⟨by simp [Ty.cells], .inl ⟨rfl, rfl⟩⟩
  · exact hH.1 r hr
theorem lt_of_get {xs : List α} {j : Nat} {x : α} (h : xs[j]? = some x) : j < xs.length := (List.getElem?_eq_some_iff.1 h).1
theorem S_lit1 {t : TypeId} {es : Nat} {zs vs : List Value} {ps : List (Nat × Nat × Opd)} {T : Ty α} {y : α} (hv : lfill l zs ps = some vs) (he : vs = T.enc y) (h1 : es = T.es) (ht : t = T.t) (k : ∀ w : SV, K w.toV (SL w.toV T [y] :: H)) : Step (.lit t es 1 zs ps) l H K := by
  subst he h1 ht
  have e : T.cells [y] = T.enc y := by simp [Ty.cells]
  refine S_lit hv (T.ones y) (by rw [T.len, Nat.one_mul]) (fun v => ?_)
  have := k v
  unfold SL at this
  rw [e] at this; exact this
abbrev OB (i : Nat) (T : Ty α) (x : α) : Res := .obj i (.row false T.t (T.enc x))
theorem S_newT {t : TypeId} {zs : List Value} (T : Ty α) (x : α) (ht : t = T.t) (hz : zs = T.enc x) (k : ∀ i, K (.pointer (some ⟨i, 0, none⟩)) (OB i T x :: H)) : Step (.new t zs) l H K := by
  subst ht hz; exact S_new k
theorem S_storeT {n i : Nat} {a x : Opd} {v : Value} {T : Ty α} {z y : α} (ha : a.lv l = some (.pointer (some ⟨i, 0, none⟩))) (hx : x.lv l = some v) (hm : Pick (OB i T z) H H0) (hv : v = T.val y) (hn : n = T.es) (k : K undef (OB i T y :: H0)) : Step (.store n a x) l H K := by
  subst hv hn
  refine S_storeO ha hx hm (by rw [T.hcells, T.len]) (by rw [T.len, Nat.zero_add]; exact Nat.ble_self_eq_true _) (by rw [T.hcells]; exact T.ones y) ?_
  rw [T.hcells]
  have : splice (T.enc z) 0 (T.enc y) = T.enc y := by
    unfold splice; rw [List.take_zero, List.nil_append, Nat.zero_add, T.len y, ← T.len z, List.drop_length, List.append_nil]
  rw [this]; exact k
theorem S_loadT {agg : Bool} {n i : Nat} {a : Opd} {T : Ty α} {z : α} (ha : a.lv l = some (.pointer (some ⟨i, 0, none⟩))) (hm : Pick (OB i T z) H H0) (hn : n = T.es) (hg : agg = T.agg) (k : K (T.val z) H) : Step (.load agg n a) l H K := by
  subst hn hg
  refine S_loadO ha hm (by rw [T.len, Nat.zero_add]; exact Nat.ble_self_eq_true _) ?_ k
  rw [List.drop_zero, ← T.len z, List.take_length]; exact T.hmk z
/-- Is a value a pointer? -/
def IsP (p : Value) : Prop := ∃ i o, p = .pointer (some ⟨i, o, none⟩)
theorem IsP.mk {i o : Nat} : IsP (.pointer (some ⟨i, o, none⟩)) := ⟨_, _, rfl⟩
theorem IsP.padd {p : Value} (h : IsP p) (off : Nat) : IsP (padd p off) := by obtain ⟨i, o, rfl⟩ := h; exact ⟨_, _, rfl⟩
theorem ReadsAt.at {h : AH} {s : Value} {es n : Nat} {cs : List Value} (hr : ReadsAt h s es n cs) {j : Nat} (hj : j < n) : ∃ i o ro t c, s = .slice (some ⟨i, o, none⟩) n es ∧ rowAt h i = some (ro, t, c) ∧ o + n * es ≤ c.length ∧ (c.drop o).take (n * es) = cs ∧ elemPtr s es j = .pointer (some ⟨i, o + j * es, none⟩) := by
  rcases hr with ⟨ro, t, h0, h1⟩ | ⟨rfl, _⟩
  · rcases h1 with ⟨rfl, rfl⟩ | ⟨i, o, c, rfl, h1, h2, h3, h4⟩
    · omega
    · exact ⟨i, o, ro, t, c, rfl, rowAt_of h1 h2, h3, h4, rfl⟩
  · omega
theorem S_idx {es j : Nat} {x i : Opd} {s : Value} {kd : IntKind} {J : Int} {T : Ty α} {xs : List α} (hx : x.lv l = some s) (hi : i.lv l = some (.int kd J)) (hr : RD H s T xs) (he : es = T.es) (hJ : J = (j : Int)) (hj : j < xs.length)
    (k : IsP (elemPtr s es j) → K (elemPtr s es j) H) : Step (.idx es x i) l H K :=
  fun e h hA hH => by
    subst he hJ
    obtain ⟨i', o, ro, t, c, rfl, h1, h2, h3, h4⟩ := (hr.2 h hH).at hj
    exact ⟨_, h, H, by simp only [ev, Opd.lv_ev hA hx, Opd.lv_ev hA hi]; rw [if_pos ⟨Int.natCast_nonneg _, Int.ofNat_lt.2 hj⟩]; rfl, hH, k ⟨_, _, rfl⟩⟩
theorem S_fldE {off : Nat} {x : Opd} {p : Value} (hx : x.lv l = some p) (hp : IsP p) (k : K (padd p off) H) : Step (.fld off x) l H K :=
  fun e h hA hH => by
    obtain ⟨i, o, rfl⟩ := hp
    exact ⟨_, h, H, by simp only [ev, Opd.lv_ev hA hx]; rfl, hH, k⟩
theorem S_nilE {x : Opd} {p : Value} (hx : x.lv l = some p) (hp : IsP p) (k : K p H) : Step (.nilCheck x) l H K :=
  fun e h hA hH => by
    obtain ⟨i, o, rfl⟩ := hp
    exact ⟨_, h, H, by simp only [ev, Opd.lv_ev hA hx], hH, k⟩
theorem win_at {c cs : List Value} {o n es a m : Nat} (hw : (c.drop o).take (n * es) = cs) (hm : a + m ≤ n * es) : (c.drop (o + a)).take m = (cs.drop a).take m := by
  subst hw
  rw [List.drop_take, List.take_take, List.drop_drop]
  congr 1
  omega
theorem S_loadE {agg : Bool} {n es j : Nat} {a : Opd} {s : Value} {T : Ty α} {xs : List α} {x : α} (ha : a.lv l = some (elemPtr s es j)) (hr : RD H s T xs) (he : es = T.es) (hn : n = T.es) (hg : agg = T.agg) (hx : xs[j]? = some x) (k : K (T.val x) H) : Step (.load agg n a) l H K :=
  fun e h hA hH => by
    subst he hn hg
    obtain ⟨hlt, _⟩ := List.getElem?_eq_some_iff.1 hx
    have hm : j * T.es + T.es ≤ xs.length * T.es := by rw [← Nat.succ_mul]; exact Nat.mul_le_mul_right _ hlt
    obtain ⟨i, o, ro, t, c, rfl, h1, h2, h3, h4⟩ := (hr.2 h hH).at hlt
    refine ⟨_, h, H, ?_, hH, k⟩
    simp only [ev, Opd.lv_ev hA ha, h4, h1]
    rw [if_pos (by omega), win_at h3 hm]
    have := T.cells_at hx (off := 0) (n := T.es) (by omega)
    rw [Nat.add_zero, List.drop_zero, ← T.len x, List.take_length, T.len] at this
    rw [this, T.hmk]; rfl
theorem wrap_i64 {n : Int} (h1 : -9223372036854775808 ≤ n) (h2 : n < 9223372036854775808) : IntKind.wrap .i64 n = n := by
  unfold IntKind.wrap
  simp only [IntKind.bits, IntKind.signed, Bool.true_and, ge_iff_le, decide_eq_true_eq]
  split <;> omega
theorem wrap_i32 {n : Int} (h1 : -2147483648 ≤ n) (h2 : n < 2147483648) : IntKind.wrap .i32 n = n := by
  unfold IntKind.wrap
  simp only [IntKind.bits, IntKind.signed, Bool.true_and, ge_iff_le, decide_eq_true_eq]
  split <;> omega
theorem wrap_u64 {n : Int} (h1 : 0 ≤ n) (h2 : n < 18446744073709551616) : IntKind.wrap .u64 n = n := by
  unfold IntKind.wrap
  simp only [IntKind.bits, IntKind.signed, Bool.false_and, if_false]
  simp; omega
theorem wrap_u8 {n : Int} (h1 : 0 ≤ n) (h2 : n < 256) : IntKind.wrap .u8 n = n := by
  unfold IntKind.wrap
  simp only [IntKind.bits, IntKind.signed, Bool.false_and, if_false]
  simp; omega
theorem S_addN {x y : Opd} {a b : Nat} (hx : x.lv l = some (.int .i64 (a : Int))) (hy : y.lv l = some (.int .i64 (b : Int))) (hb : a + b < 9223372036854775808) (k : K (.int .i64 ((a + b : Nat) : Int)) H) : Step (.bin .add x y) l H K :=
  S_pure (by simp only [pev, hx, hy, binV, intBin, if_true]; rw [wrap_i64 (by omega) (by omega)]; rfl) k
theorem S_subN {x y : Opd} {a b : Nat} (hx : x.lv l = some (.int .i64 (a : Int))) (hy : y.lv l = some (.int .i64 (b : Int))) (hb : b ≤ a ∧ a < 9223372036854775808) (k : K (.int .i64 ((a - b : Nat) : Int)) H) : Step (.bin .sub x y) l H K :=
  S_pure (by simp only [pev, hx, hy, binV, intBin, if_true]; rw [wrap_i64 (by omega) (by omega)]; congr 2; omega) k
theorem S_mulN {x y : Opd} {a b : Nat} (hx : x.lv l = some (.int .i64 (a : Int))) (hy : y.lv l = some (.int .i64 (b : Int))) (hb : a * b < 9223372036854775808) (k : K (.int .i64 ((a * b : Nat) : Int)) H) : Step (.bin .mul x y) l H K :=
  S_pureE (v := .int .i64 (IntKind.wrap .i64 ((a : Int) * (b : Int)))) (by simp only [pev, hx, hy, binV, intBin, if_true]) (by rw [← Int.natCast_mul, wrap_i64 (by omega) (by omega)]) k
theorem S_toU {x : Opd} {a : Nat} {kd : IntKind} (hx : x.lv l = some (.int kd (a : Int))) (hb : a < 18446744073709551616) (k : K (.int .u64 (a : Int)) H) : Step (.conv .u64 x) l H K :=
  S_pureE (v := .int .u64 (IntKind.wrap .u64 (a : Int))) (by simp only [pev, hx]) (by rw [wrap_u64 (by omega) (by omega)]) k
theorem S_toI {x : Opd} {a : Nat} {kd : IntKind} (hx : x.lv l = some (.int kd (a : Int))) (hb : a < 9223372036854775808) (k : K (.int .i64 (a : Int)) H) : Step (.conv .i64 x) l H K :=
  S_pureE (v := .int .i64 (IntKind.wrap .i64 (a : Int))) (by simp only [pev, hx]) (by rw [wrap_i64 (by omega) (by omega)]) k
theorem S_half {x : Opd} {a : Nat} (hx : x.lv l = some (.int .u64 (a : Int))) (hb : a < 18446744073709551616) (k : K (.int .u64 ((a / 2 : Nat) : Int)) H) : Step (.bin .shr x (.const (.int .u64 1))) l H K :=
  S_pureE (v := .int .u64 ((a : Int).fdiv (2 ^ min (Int.toNat 1) IntKind.u64.bits))) (by
    have h2 : (Opd.const (.int .u64 1)).lv l = some (.int .u64 1) := rfl
    simp only [pev, hx, h2, binV]; rfl) (by
    have e : (2 ^ min (Int.toNat 1) IntKind.u64.bits : Int) = 2 := rfl
    have e2 : (a : Int).fdiv 2 = ((a / 2 : Nat) : Int) := by rw [Int.fdiv_eq_ediv_of_nonneg _ (by omega)]; omega
    rw [e, e2]) k
theorem S_loadF {agg : Bool} {n es j off : Nat} {a : Opd} {s v : Value} {T : Ty α} {xs : List α} {x : α} (ha : a.lv l = some (padd (elemPtr s es j) off)) (hr : RD H s T xs) (he : es = T.es) (hx : xs[j]? = some x) (hb0 : Nat.ble (off + n) T.es = true) (hv : mkV agg (((T.enc x).drop off).take n) = some v) (k : K v H) : Step (.load agg n a) l H K :=
  fun e h hA hH => by
    subst he
    have hb := Nat.le_of_ble_eq_true hb0
    obtain ⟨hlt, _⟩ := List.getElem?_eq_some_iff.1 hx
    have hm : j * T.es + T.es ≤ xs.length * T.es := by rw [← Nat.succ_mul]; exact Nat.mul_le_mul_right _ hlt
    obtain ⟨i, o, ro, t, c, rfl, h1, h2, h3, h4⟩ := (hr.2 h hH).at hlt
    refine ⟨_, h, H, ?_, hH, k⟩
    simp only [ev, Opd.lv_ev hA ha, h4, padd, h1]
    rw [if_pos (by omega), Nat.add_assoc, win_at h3 (by omega), T.cells_at hx hb, hv]; rfl
theorem S_lenS {x : Opd} {s : Value} {T : Ty α} {xs : List α} (hx : x.lv l = some s) (hr : RD H s T xs) (k : K (.int .i64 xs.length) H) : Step (.len 1 x) l H K :=
  fun e h hA hH => by
    rcases hr.2 h hH with ⟨ro, t, h0, h1⟩ | ⟨h1, _, i, o, rfl, _⟩
    · rcases h1 with ⟨rfl, h1⟩ | ⟨i, o, c, rfl, _⟩
      · rw [h1] at k; exact ⟨_, h, H, by simp only [ev, Opd.lv_ev hA hx], hH, k⟩
      · exact ⟨_, h, H, by simp only [ev, Opd.lv_ev hA hx], hH, k⟩
    · rw [h1] at k; exact ⟨_, h, H, by simp only [ev, Opd.lv_ev hA hx], hH, k⟩
/-- A bound of a cut. -/
def LB (l : SE) (x : Option Opd) (d a : Nat) : Prop := ∀ e, Ag l e → bound e x d = some a
theorem LB.dflt {d : Nat} : LB l none d d := fun _ _ => rfl
theorem LB.mk {x : Opd} {d a : Nat} {k : IntKind} {J : Int} (hx : x.lv l = some (.int k J)) (hJ : J = (a : Int)) : LB l (some x) d a := fun e hA => by
  subst hJ
  simp only [bound, Opd.lv_ev hA hx, asN]
  rw [if_pos (Int.natCast_nonneg _), Int.toNat_natCast]
theorem S_cutV {es a b m : Nat} {x : Opd} {lo hi mx : Option Opd} {s : Value} {T : Ty α} {xs : List α} (hx : x.lv l = some s) (hr : RD H s T xs) (he : es = T.es) (h1 : LB l lo 0 a) (h2 : LB l hi xs.length b) (h3 : LB l mx xs.length m) (hab : a ≤ b) (hbm : b ≤ m) (hb : m ≤ xs.length)
    (k : K (subSl s es a (b - a)) H) : Step (.cut es x lo hi mx) l H K :=
  fun e h hA hH => by
    subst he
    rcases hr.2 h hH with ⟨ro, t, h0, hw⟩ | ⟨h0, _, i, o, rfl, _⟩
    rotate_left
    · rw [h0] at h2 h3 hb
      exact ⟨_, h, H, by simp only [ev, Opd.lv_ev hA hx, h1 e hA, h2 e hA, h3 e hA]; rw [if_pos ⟨trivial, hab, hbm, hb⟩]; rfl, hH, k⟩
    rcases hw with ⟨rfl, hn⟩ | ⟨i, o, c, rfl, _⟩
    · have hm : m = 0 := by omega
      have hb' : b = 0 := by omega
      have ha' : a = 0 := by omega
      subst hm hb' ha'
      rw [hn] at h2 h3
      exact ⟨_, h, H, by simp only [ev, Opd.lv_ev hA hx, h1 e hA, h2 e hA, h3 e hA]; rfl, hH, k⟩
    · exact ⟨_, h, H, by simp only [ev, Opd.lv_ev hA hx, h1 e hA, h2 e hA, h3 e hA]; rw [if_pos ⟨trivial, hab, hbm, hb⟩]; rfl, hH, k⟩
theorem S_cut {es a b m : Nat} {x : Opd} {lo hi mx : Option Opd} {s : SV} {T : Ty α} {xs : List α} (hx : x.lv l = some s.toV) (hr : RD H s.toV T xs) (he : es = T.es) (h1 : LB l lo 0 a) (h2 : LB l hi xs.length b) (h3 : LB l mx xs.length m) (hab : a ≤ b) (hbm : b ≤ m) (hb : m ≤ xs.length)
    (k : K (s.sub es a (b - a)).toV H) : Step (.cut es x lo hi mx) l H K := S_cutV hx hr he h1 h2 h3 hab hbm hb (by rw [← SV.sub_toV]; exact k)
theorem S_cutS {x : Opd} {lo hi : Option Opd} {s : ByteArray} {a b : Nat} (hx : x.lv l = some (.string s)) (h1 : LB l lo 0 a) (h2 : LB l hi s.size b) (hab : a ≤ b) (hb : b ≤ s.size) (k : K (.string (s.extract a b)) H) : Step (.cutS x lo hi) l H K :=
  fun e h hA hH => ⟨_, h, H, by simp only [ev, Opd.lv_ev hA hx, h1 e hA, h2 e hA]; rw [if_pos ⟨hab, hb⟩], hH, k⟩
theorem RD.sub' {s : SV} {T : Ty α} {xs : List α} (h : RD H s.toV T xs) {es lo n : Nat} (he : es = T.es) (hl : lo + n ≤ xs.length) : RD H (s.sub es lo n).toV T ((xs.drop lo).take n) := by
  rw [SV.sub_toV]; exact h.subSl he hl
end
end Go.Proofs.YtpgidiompdabdaaGreat.AM
