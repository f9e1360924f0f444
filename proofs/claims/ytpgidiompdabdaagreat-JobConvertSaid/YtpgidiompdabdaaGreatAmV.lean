/- Reasoning about the abstract machine: symbolic slots, resources that are apart, and rules by which its code is walked. -/
import Derived.Test.YtpgidiompdabdaaGreatAmA
namespace Go.Proofs.YtpgidiompdabdaaGreat.AM
open Go
set_option linter.unusedSimpArgs false
set_option linter.unusedVariables false

/-! ### Slots -/
abbrev SE := List (Nat × Value)
def lk : SE → Nat → Option Value
  | [], _ => none
  | (k, v) :: l, t => bif Nat.beq k t then some v else lk l t
def Ag (l : SE) (e : Env) : Prop := ∀ t v, lk l t = some v → e.get t = some v
def putL (l : SE) : Option Nat → Value → SE
  | some t, v => (t, v) :: l
  | none, _ => l
theorem lk_cons (k : Nat) (v : Value) (l : SE) (t : Nat) : lk ((k, v) :: l) t = if k = t then some v else lk l t := by
  simp only [lk]
  by_cases h : k = t
  · subst h; simp
  · have : Nat.beq k t = false := by
      cases hb : Nat.beq k t with
      | false => rfl
      | true => exact absurd (Nat.eq_of_beq_eq_true hb) h
    rw [this, if_neg h]; rfl
theorem Ag.put {l : SE} {e : Env} (h : Ag l e) (d : Option Nat) (v : Value) : Ag (putL l d v) (putD e d v) := by
  cases d with
  | none => exact h
  | some k =>
    intro t u ht
    simp only [putL] at ht
    rw [lk_cons] at ht
    show (e.put k v).get t = some u
    rw [Env.get_put]
    by_cases hk : k = t
    · rw [if_pos hk] at ht ⊢; exact ht
    · rw [if_neg hk] at ht ⊢; exact h _ _ ht
def Opd.lv (l : SE) : Opd → Option Value
  | .tmp t => lk l t
  | .const v => some v
  | .fn f => some (.func (.func f) #[] #[])
theorem Opd.lv_ev {l : SE} {e : Env} (h : Ag l e) {x : Opd} {v : Value} (hx : x.lv l = some v) : x.ev e = some v := by
  cases x with
  | tmp t => exact h _ _ hx
  | const u => exact hx
  | fn f => exact hx
def lvs (l : SE) : List Opd → Option (List Value)
  | [] => some []
  | x :: xs => match x.lv l, lvs l xs with
    | some v, some vs => some (v :: vs)
    | _, _ => none
theorem lvs_ev {l : SE} {e : Env} (h : Ag l e) : ∀ {xs : List Opd} {vs : List Value}, lvs l xs = some vs → evs e xs = some vs
  | [], vs, hx => hx
  | x :: xs, vs, hx => by
    simp only [lvs] at hx
    split at hx
    · rename_i v vs' h1 h2
      simp only [Option.some.injEq] at hx; subst hx
      simp only [evs, Opd.lv_ev h h1, lvs_ev h h2]
    · cases hx
def lfill (l : SE) : List Value → List (Nat × Nat × Opd) → Option (List Value)
  | zs, [] => some zs
  | zs, (off, n, x) :: ps => match x.lv l with
    | some v => if (cells v).length = n ∧ off + n ≤ zs.length then lfill l (splice zs off (cells v)) ps else none
    | none => none
theorem lfill_ev {l : SE} {e : Env} (h : Ag l e) : ∀ {ps : List (Nat × Nat × Opd)} {zs vs : List Value}, lfill l zs ps = some vs → fill e zs ps = some vs
  | [], zs, vs, hx => hx
  | (off, n, x) :: ps, zs, vs, hx => by
    simp only [lfill] at hx
    split at hx
    · rename_i v h1
      simp only [fill, Opd.lv_ev h h1]
      split at hx
      · rename_i hc; rw [if_pos hc]; exact lfill_ev h hx
      · cases hx
    · cases hx
def lbound (l : SE) (x : Option Opd) (dflt : Nat) : Option Nat :=
  match x with
  | none => some dflt
  | some o => match o.lv l with
    | some v => asN v
    | none => none
theorem lbound_ev {l : SE} {e : Env} (h : Ag l e) {x : Option Opd} {d n : Nat} (hx : lbound l x d = some n) : bound e x d = some n := by
  cases x with
  | none => exact hx
  | some o =>
    simp only [lbound] at hx
    split at hx
    · rename_i v h1; simp only [bound, Opd.lv_ev h h1]; exact hx
    · cases hx
/-- Is the guard of an operation on? -/
def wantsL (g : Option (Nat × Bool)) (l : SE) : Option Bool :=
  match g with
  | none => some true
  | some (t, b) => match lk l t with
    | some (.bool x) => some (x == b)
    | some (.tuple _) => some false
    | _ => none
theorem wantsL_ev {l : SE} {e : Env} (h : Ag l e) {g : Option (Nat × Bool)} {b : Bool} (hx : wantsL g l = some b) : wants g e = some b := by
  cases g with
  | none => exact hx
  | some p =>
    obtain ⟨t, c⟩ := p
    simp only [wantsL] at hx
    split at hx
    · rename_i x h1; simp only [wants, h _ _ h1]; exact hx
    · rename_i x h1; simp only [wants, h _ _ h1]; exact hx
    · cases hx
/-- What an operation without memory gives. -/
def pev (l : SE) : ROp → Option Value
  | .move x => x.lv l
  | .pick c a b => match c.lv l with
    | some (.bool true) => a.lv l
    | some (.bool false) => b.lv l
    | _ => none
  | .build zs ps => match lfill l zs ps with
    | some vs => some (.agg vs.toArray)
    | none => none
  | .nilCheck x => match x.lv l with
    | some (.pointer (some a)) => some (.pointer (some a))
    | _ => none
  | .bin op x y => match x.lv l, y.lv l with
    | some a, some b => binV op a b
    | _, _ => none
  | .eqB neg x y => match x.lv l, y.lv l with
    | some (.bool a), some (.bool b) => some (.bool (if neg then !(a == b) else a == b))
    | _, _ => none
  | .eqN neg kd x y => match x.lv l, y.lv l with
    | some a, some b => match eqNil kd a b with
      | some r => some (.bool (if neg then !r else r))
      | none => none
    | _, _ => none
  | .eqA neg ks x y => match x.lv l, y.lv l with
    | some (.agg a), some (.agg b) => if a.size = ks.length ∧ b.size = ks.length then (match kEq ks a.toList b.toList with
      | some r => some (.bool (if neg then !r else r))
      | none => none) else none
    | _, _ => none
  | .un op x => match x.lv l with
    | some a => unV op a
    | none => none
  | .conv k x => match x.lv l with
    | some (.int _ n) => some (.int k (k.wrap n))
    | _ => none
  | .iface t x => match x.lv l with
    | some v => some (.iface t v)
    | none => none
  | .assert t zero x => match x.lv l with
    | some (.iface u v) => some (.tuple (if u = t then #[v, .bool true] else #[zero, .bool false]))
    | some .nilIface => some (.tuple #[zero, .bool false])
    | _ => none
  | .mkFunc f cs => match lvs l cs with
    | some vs => some (.func (.func f) #[] vs.toArray)
    | none => none
  | .cutS x lo hi => match x.lv l with
    | some (.string s) => match lbound l lo 0, lbound l hi s.size with
      | some a, some b => if a ≤ b ∧ b ≤ s.size then some (.string (s.extract a b)) else none
      | _, _ => none
    | _ => none
  | .fld off x => match x.lv l with
    | some (.pointer (some ⟨i, o, none⟩)) => some (.pointer (some ⟨i, o + off, none⟩))
    | _ => none
  | .part agg off n x => match x.lv l with
    | some (.agg cs) => if off + n ≤ cs.size then mkV agg ((cs.toList.drop off).take n) else none
    | _ => none
  | .ext x i => match x.lv l with
    | some (.tuple vs) => vs.toList[i]?
    | _ => none
  | .len kd x => match kd, x.lv l with
    | 0, some (.string s) => some (.int .i64 s.size)
    | 1, some (.slice _ n _) => some (.int .i64 n)
    | 2, some (.map none) => some (.int .i64 0)
    | _, _ => none
  | .mm mx xs => match lvs l xs with
    | some (v :: vs) => mmV mx v vs
    | _ => none
  | .capN x => match x.lv l with
    | some (.slice none 0 0) => some (.int .i64 0)
    | _ => none
  | _ => none
theorem pev_ev {l : SE} {e : Env} (H : Ag l e) {op : ROp} {v : Value} (hp : pev l op = some v) (h : AH) : ev op e h = some (v, h) := by
  cases op <;> simp only [pev] at hp <;> first | (cases hp; done) | skip
  case move x => simp only [ev, Opd.lv_ev H hp]; rfl
  case pick c a b =>
    split at hp
    · rename_i h1; simp only [ev, Opd.lv_ev H h1, Opd.lv_ev H hp]; rfl
    · rename_i h1; simp only [ev, Opd.lv_ev H h1, Opd.lv_ev H hp]; rfl
    · cases hp
  case build zs ps =>
    split at hp
    · rename_i vs h1; cases hp; simp only [ev, lfill_ev H h1]; rfl
    · cases hp
  case nilCheck x =>
    split at hp
    · rename_i a h1; cases hp; simp only [ev, Opd.lv_ev H h1]
    · cases hp
  case bin o x y =>
    split at hp
    · rename_i a b h1 h2; simp only [ev, Opd.lv_ev H h1, Opd.lv_ev H h2, hp]; rfl
    · cases hp
  case eqB neg x y =>
    split at hp
    · rename_i a b h1 h2; cases hp; simp only [ev, Opd.lv_ev H h1, Opd.lv_ev H h2]
    · cases hp
  case eqN neg kd x y =>
    split at hp
    · rename_i a b h1 h2
      split at hp
      · rename_i r hr; cases hp; simp only [ev, Opd.lv_ev H h1, Opd.lv_ev H h2, hr]; rfl
      · cases hp
    · cases hp
  case eqA neg ks x y =>
    split at hp
    · rename_i a b h1 h2
      split at hp
      · rename_i hs
        split at hp
        · rename_i r hr; cases hp; simp only [ev, Opd.lv_ev H h1, Opd.lv_ev H h2, hr]; rw [if_pos hs]; rfl
        · cases hp
      · cases hp
    · cases hp
  case un o x =>
    split at hp
    · rename_i a h1; simp only [ev, Opd.lv_ev H h1, hp]; rfl
    · cases hp
  case conv k x =>
    split at hp
    · rename_i a n h1; cases hp; simp only [ev, Opd.lv_ev H h1]
    · cases hp
  case iface t x =>
    split at hp
    · rename_i a h1; cases hp; simp only [ev, Opd.lv_ev H h1]; rfl
    · cases hp
  case assert t z x =>
    split at hp
    · rename_i u a h1; cases hp; simp only [ev, Opd.lv_ev H h1]
    · rename_i h1; cases hp; simp only [ev, Opd.lv_ev H h1]
    · cases hp
  case mkFunc f cs =>
    split at hp
    · rename_i vs h1; cases hp; simp only [ev, lvs_ev H h1]; rfl
    · cases hp
  case cutS x lo hi =>
    split at hp
    · rename_i s h1
      split at hp
      · rename_i a b h2 h3
        split at hp
        · rename_i hc; cases hp; simp only [ev, Opd.lv_ev H h1, lbound_ev H h2, lbound_ev H h3]; rw [if_pos hc]
        · cases hp
      · cases hp
    · cases hp
  case fld off x =>
    split at hp
    · rename_i i o h1; cases hp; simp only [ev, Opd.lv_ev H h1]
    · cases hp
  case part agg off n x =>
    split at hp
    · rename_i cs h1
      split at hp
      · rename_i hc; simp only [ev, Opd.lv_ev H h1]; rw [if_pos hc, hp]; rfl
      · cases hp
    · cases hp
  case ext x i =>
    split at hp
    · rename_i vs h1; simp only [ev, Opd.lv_ev H h1, hp]; rfl
    · cases hp
  case len kd x =>
    split at hp
    · rename_i s h1; cases hp; simp only [ev, Opd.lv_ev H h1]
    · rename_i s n c h1; cases hp; simp only [ev, Opd.lv_ev H h1]
    · rename_i h1; cases hp; simp only [ev, Opd.lv_ev H h1]
    · cases hp
  case mm mx xs =>
    split at hp
    · rename_i v vs h1; simp only [ev, lvs_ev H h1, hp]; rfl
    · cases hp
  case capN x =>
    split at hp
    · rename_i h1; cases hp; simp only [ev, Opd.lv_ev H h1]
    · cases hp

/-- Slice values. -/
inductive SV where
  | nil
  | mk (i o n es : Nat)
def SV.toV : SV → Value
  | .nil => .slice none 0 0
  | .mk i o n es => .slice (some ⟨i, o, none⟩) n es
theorem SV.one (w : SV) : AM.one w.toV = true := by cases w <;> rfl
theorem SV.cells (w : SV) : AM.cells w.toV = [w.toV] := by cases w <;> rfl
theorem SV.ones (w : SV) : (AM.cells w.toV).all AM.one = true := by cases w <;> rfl
theorem SV.cells1 (w : SV) : (AM.cells w.toV).length = 1 := by cases w <;> rfl
/-! ### Resources -/
inductive Res where
  | obj (i : Nat) (o : AObj)
  | ro (i : Nat) (t : TypeId) (c : List Value)
  | gone (i : Nat)
  | sl (v : Value) (t : TypeId) (es n : Nat) (cs : List Value)
abbrev SH := List Res
def idOf : Value → List Nat
  | .slice (some ⟨i, _, _⟩) _ _ => [i]
  | _ => []
def Res.foot : Res → List Nat
  | .obj i _ => [i]
  | .ro _ _ _ => []
  | .gone _ => []
  | .sl v _ _ _ _ => idOf v
def Window (h : AH) (ro : Bool) (t : TypeId) (v : Value) (es n : Nat) (cs : List Value) : Prop :=
  cs.length = n * es ∧ ((v = .slice none 0 0 ∧ n = 0) ∨ ∃ i o c, v = .slice (some ⟨i, o, none⟩) n es ∧ i < h.next ∧ h.get i = some (.row ro t c) ∧ o + n * es ≤ c.length ∧ (c.drop o).take (n * es) = cs)
def rw? : AObj → Bool
  | .row ro _ _ => !ro
  | .dead => false
  | _ => true
def Res.holds (h : AH) : Res → Prop
  | .obj i o => i < h.next ∧ h.get i = some o ∧ rw? o = true
  | .ro i t c => i < h.next ∧ h.get i = some (.row true t c)
  | .gone i => i < h.next ∧ h.get i = some .dead
  | .sl v t es n cs => Window h false t v es n cs
def HAg (H : SH) (h : AH) : Prop := (∀ r ∈ H, r.holds h) ∧ (H.flatMap Res.foot).Nodup
theorem HAg.perm {H H' : SH} {h : AH} (hp : H.Perm H') (hh : HAg H h) : HAg H' h :=
  ⟨fun r hr => hh.1 r (hp.mem_iff.2 hr), (hp.flatMap_right Res.foot).nodup_iff.1 hh.2⟩
theorem HAg.tail {r : Res} {H : SH} {h : AH} (hh : HAg (r :: H) h) : HAg H h :=
  ⟨fun q hq => hh.1 q (List.mem_cons_of_mem _ hq), by
    have := hh.2
    rw [List.flatMap_cons] at this
    exact (List.nodup_append.1 this).2.1⟩
theorem HAg.left {H R : SH} {h : AH} (hh : HAg (H ++ R) h) : HAg H h :=
  ⟨fun q hq => hh.1 q (List.mem_append_left _ hq), by
    have := hh.2
    rw [List.flatMap_append] at this
    exact (List.nodup_append.1 this).1⟩
theorem HAg.nil (h : AH) : HAg [] h := ⟨fun r hr => (by simp at hr), by simp⟩
/-- A resource of a list, and the others. -/
inductive Pick : Res → SH → SH → Prop
  | head {a : Res} {H : SH} : Pick a (a :: H) H
  | tail {a b : Res} {H H0 : SH} : Pick a H H0 → Pick a (b :: H) (b :: H0)
theorem Pick.perm {a : Res} {H H0 : SH} (h : Pick a H H0) : H.Perm (a :: H0) := by
  induction h with
  | head => exact List.Perm.refl _
  | tail _ ih => exact (ih.cons _).trans (List.Perm.swap _ _ _)
theorem Pick.mem {a : Res} {H H0 : SH} (h : Pick a H H0) : a ∈ H := h.perm.mem_iff.2 (List.mem_cons_self ..)
theorem Pick.of_mem {a : Res} {H : SH} (h : a ∈ H) : ∃ H0, Pick a H H0 := by
  induction H with
  | nil => simp at h
  | cons b H ih =>
    rcases List.mem_cons.1 h with rfl | h
    · exact ⟨_, .head⟩
    · obtain ⟨H0, hp⟩ := ih h; exact ⟨_, .tail hp⟩
/-- Some resources of a list. -/
def HSub (H H' : SH) : Prop := ∃ R, H.Perm (H' ++ R)
theorem HSub.refl {H : SH} : HSub H H := ⟨[], by simp⟩
theorem HSub.nil {H : SH} : HSub H [] := ⟨H, by simp⟩
theorem HSub.drop {r : Res} {H H' : SH} (h : HSub H H') : HSub (r :: H) H' := by
  obtain ⟨R, hp⟩ := h
  exact ⟨r :: R, (hp.cons r).trans (List.perm_middle.symm)⟩
theorem HSub.pick {a : Res} {H H0 H' : SH} (hp : Pick a H H0) (h : HSub H0 H') : HSub H (a :: H') := by
  obtain ⟨R, hr⟩ := h
  exact ⟨R, hp.perm.trans (by simpa using hr.cons a)⟩
theorem HSub.pickEq {a b : Res} {H H0 H' : SH} (hp : Pick a H H0) (e : a = b) (h : HSub H0 H') : HSub H (b :: H') := e ▸ h.pick hp
theorem HSub.trans {A B C : SH} (h : HSub A B) (k : HSub B C) : HSub A C := by
  obtain ⟨R, hr⟩ := h; obtain ⟨S, hs⟩ := k
  exact ⟨S ++ R, by simpa using hr.trans (hs.append_right R)⟩
theorem HSub.app {L H : SH} : HSub (L ++ H) H := ⟨L, List.perm_append_comm⟩
theorem HSub.hag {H H' : SH} {h : AH} (hs : HSub H H') (hh : HAg H h) : HAg H' h := by
  obtain ⟨R, hp⟩ := hs
  exact (hh.perm hp).left
/-- What a slice tells. -/
def ReadsAt (h : AH) (v : Value) (es n : Nat) (cs : List Value) : Prop := (∃ ro t, Window h ro t v es n cs) ∨ (n = 0 ∧ cs = [] ∧ ∃ i o, v = .slice (some ⟨i, o, none⟩) 0 es ∧ i < h.next ∧ h.get i = some .dead)
def Rd (H : SH) (v : Value) (es n : Nat) (cs : List Value) : Prop := cs.length = n * es ∧ ∀ h, HAg H h → ReadsAt h v es n cs
theorem Rd.sub {H H' : SH} {v : Value} {es n : Nat} {cs : List Value} (hs : HSub H' H) (h : Rd H v es n cs) : Rd H' v es n cs := ⟨h.1, fun a ha => h.2 a (hs.hag ha)⟩
theorem Rd.tail {r : Res} {H : SH} {v : Value} {es n : Nat} {cs : List Value} (h : Rd H v es n cs) : Rd (r :: H) v es n cs := h.sub HSub.refl.drop
theorem Rd.app {L H : SH} {v : Value} {es n : Nat} {cs : List Value} (h : Rd H v es n cs) : Rd (L ++ H) v es n cs := h.sub HSub.app
theorem Rd.nil {H : SH} {es : Nat} : Rd H (.slice none 0 0) es 0 [] := ⟨by simp, fun _ _ => .inl ⟨false, 0, by simp, .inl ⟨rfl, rfl⟩⟩⟩
theorem Rd.gone {H : SH} {i o es : Nat} (h : Res.gone i ∈ H) : Rd H (.slice (some ⟨i, o, none⟩) 0 es) es 0 [] := ⟨by simp, fun a ha => .inr ⟨rfl, rfl, i, o, rfl, (ha.1 _ h).1, (ha.1 _ h).2⟩⟩
theorem Rd.ro {H : SH} {i t n es : Nat} {c : List Value} (h : Res.ro i t c ∈ H) (hc : c.length = n * es) : Rd H (.slice (some ⟨i, 0, none⟩) n es) es n c := ⟨hc, fun a ha => .inl ⟨true, t, hc, .inr ⟨i, 0, c, rfl, (ha.1 _ h).1, (ha.1 _ h).2, by omega, by rw [List.drop_zero, ← hc, List.take_length]⟩⟩⟩
theorem Rd.sl {H : SH} {v : Value} {t : TypeId} {es n : Nat} {cs : List Value} (hl : cs.length = n * es) (h : Res.sl v t es n cs ∈ H) : Rd H v es n cs := ⟨hl, fun a ha => .inl ⟨false, t, ha.1 _ h⟩⟩
/-- The address of a slice's element; a pointer moved on; a part of a slice. -/
def elemPtr (v : Value) (es j : Nat) : Value := match v with
  | .slice (some ⟨i, o, none⟩) _ _ => .pointer (some ⟨i, o + j * es, none⟩)
  | _ => undef
def padd (p : Value) (off : Nat) : Value := match p with
  | .pointer (some ⟨i, o, none⟩) => .pointer (some ⟨i, o + off, none⟩)
  | _ => undef
def subSl (v : Value) (es lo n : Nat) : Value := match v with
  | .slice (some ⟨i, o, none⟩) _ s => .slice (some ⟨i, o + lo * es, none⟩) n s
  | v => v
def SV.sub : SV → Nat → Nat → Nat → SV
  | .nil, _, _, _ => .nil
  | .mk i o _ s, es, lo, n => .mk i (o + lo * es) n s
theorem SV.sub_toV (w : SV) (es lo n : Nat) : (w.sub es lo n).toV = AM.subSl w.toV es lo n := by cases w <;> rfl
theorem take_drop_sub {c cs : List Value} {o m es lo n : Nat} (hb : o + m * es ≤ c.length) (hw : (c.drop o).take (m * es) = cs) (hl : lo + n ≤ m) :
    o + lo * es + n * es ≤ c.length ∧ (c.drop (o + lo * es)).take (n * es) = (cs.drop (lo * es)).take (n * es) := by
  have h1 : lo * es + n * es ≤ m * es := by rw [← Nat.add_mul]; exact Nat.mul_le_mul_right _ hl
  refine ⟨by omega, ?_⟩
  subst hw
  rw [List.drop_take, List.take_take, List.drop_drop]
  congr 1
  omega
theorem Window.sub {h : AH} {ro : Bool} {t : TypeId} {v : Value} {es m : Nat} {cs : List Value} (hw : Window h ro t v es m cs) {lo n : Nat} (hl : lo + n ≤ m) :
    Window h ro t (subSl v es lo n) es n ((cs.drop (lo * es)).take (n * es)) := by
  obtain ⟨hlen, hw⟩ := hw
  have h1 : lo * es + n * es ≤ m * es := by rw [← Nat.add_mul]; exact Nat.mul_le_mul_right _ hl
  refine ⟨by rw [List.length_take, List.length_drop]; omega, ?_⟩
  rcases hw with ⟨rfl, rfl⟩ | ⟨i, o, c, rfl, hi, hg, hb, hc⟩
  · exact .inl ⟨rfl, by omega⟩
  · refine .inr ⟨i, o + lo * es, c, rfl, hi, hg, (take_drop_sub hb hc hl).1, (take_drop_sub hb hc hl).2⟩
theorem Rd.subSl {H : SH} {v : Value} {es m : Nat} {cs : List Value} (h : Rd H v es m cs) {lo n : Nat} (hl : lo + n ≤ m) : Rd H (subSl v es lo n) es n ((cs.drop (lo * es)).take (n * es)) := by
  refine ⟨?_, fun a ha => ?_⟩
  · have h1 : lo * es + n * es ≤ m * es := by rw [← Nat.add_mul]; exact Nat.mul_le_mul_right _ hl
    have := h.1
    rw [List.length_take, List.length_drop]; omega
  · rcases h.2 a ha with ⟨ro, t, hw⟩ | ⟨rfl, rfl, i, o, rfl, h1, h2⟩
    · exact .inl ⟨ro, t, hw.sub hl⟩
    · have hn : n = 0 := by omega
      subst hn
      exact .inr ⟨rfl, by simp, i, o + lo * es, rfl, h1, h2⟩
theorem HAg.recut {H : SH} {v : Value} {t : TypeId} {es m : Nat} {cs : List Value} {lo n : Nat} (hl : lo + n ≤ m) {h : AH} (hh : HAg (.sl v t es m cs :: H) h) :
    HAg (.sl (subSl v es lo n) t es n ((cs.drop (lo * es)).take (n * es)) :: H) h := by
  have hw : Window h false t v es m cs := hh.1 _ (List.mem_cons_self ..)
  refine ⟨fun r hr => ?_, ?_⟩
  · rcases List.mem_cons.1 hr with rfl | hr
    · exact hw.sub hl
    · exact hh.1 r (List.mem_cons_of_mem _ hr)
  · have := hh.2
    rw [List.flatMap_cons] at this ⊢
    have e : Res.foot (.sl (AM.subSl v es lo n) t es n ((cs.drop (lo * es)).take (n * es))) = Res.foot (.sl v t es m cs) := by
      rcases hw.2 with ⟨rfl, rfl⟩ | ⟨i, o, c, rfl, _⟩ <;> rfl
    rw [e]; exact this
end Go.Proofs.YtpgidiompdabdaaGreat.AM
