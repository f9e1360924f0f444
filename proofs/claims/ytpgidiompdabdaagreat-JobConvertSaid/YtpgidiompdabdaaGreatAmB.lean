/- The abstract machine, second part: how the model's operations are resolved, and how abstract values and heaps stand for the model's. -/
import Derived.Test.YtpgidiompdabdaaGreatAmA
import Derived.Test.YtpgidiompdabdaaGreatAmGd
import Derived.Laws.Sem
import Derived.Laws.CopyRow
import Derived.Laws.Cells
import Derived.Laws.Entries
import Derived.Laws.NewBlocks
import Derived.MapKept
namespace Go.Proofs.YtpgidiompdabdaaGreat.AM
open Go Go.RowKit

/-! ### Resolution -/
def rOpd : Operand → Option Opd
  | .tmp t => some (.tmp t)
  | .const v => if g0 v = true then some (.const v) else none
  | .func f => some (.fn f)
  | .global _ => none
def rOpds : List Operand → Option (List Opd)
  | [] => some []
  | x :: xs => match rOpd x, rOpds xs with
    | some o, some os => some (o :: os)
    | _, _ => none
def rOpt : Option Operand → Option (Option Opd)
  | none => some none
  | some x => (rOpd x).map some
def szOf (P : Program) (t : TypeId) : Option Nat := (P.info? t).map (·.size)
def bytesOfT (P : Program) (t : TypeId) : Option Nat := (P.info? t).map (·.bytes)
def zeroOf (P : Program) (t : TypeId) : Option Value := (P.info? t).bind (·.zero)
def isAggD : TypeDesc → Bool
  | .struct _ | .array _ _ => true
  | _ => false
def isAggP (P : Program) (t : TypeId) : Option Bool := (P.underlying t).map isAggD
/-- An element's size and how it is read: as an aggregate, or as one cell. -/
def form (P : Program) (t : TypeId) : Option (Bool × Nat) :=
  match isAggP P t, szOf P t with
  | some true, some n => some (true, n)
  | some false, some 1 => some (false, 1)
  | _, _ => none
def rParts (place : Nat → Option (Nat × Nat)) : List (Nat × Operand) → Option (List (Nat × Nat × Opd))
  | [] => some []
  | (i, x) :: ps => match place i, rOpd x, rParts place ps with
    | some (off, n), some o, some r => some ((off, n, o) :: r)
    | _, _, _ => none
def zrow (z : Value) (n : Nat) : List Value := ((Array.range n).map (z.cells[· % z.cells.size]!)).toList
def flatF (f : TypeId → Option (List SK)) (sz : TypeId → Option Nat) : List Field → Nat → Option (List SK)
  | [], _ => some []
  | fl :: r, off => if fl.name ≠ "_" ∧ fl.offset = off then match f fl.type with
      | some ks => if sz fl.type = some ks.length then (flatF f sz r (off + ks.length)).map (ks ++ ·) else none
      | none => none
    else none
/-- The kinds of a type's cells, where all of them are whole numbers, strings, bools. -/
def flat (P : Program) : Nat → TypeId → Option (List SK)
  | 0, _ => none
  | d + 1, t => match P.underlying t with
    | some (.int _) => some [.i]
    | some .string => some [.s]
    | some .bool => some [.b]
    | some (.struct fs) => if P.stoodInHeld t then none else flatF (flat P d) (szOf P) fs.toList 0
    | _ => none
def skOf (P : Program) (t : TypeId) : Option SK :=
  match P.underlying t with
  | some (.int _) => some .i
  | some .string => some .s
  | some .bool => some .b
  | _ => none
def rBin (P : Program) (op : BinOp) (t : TypeId) (x y : Opd) : Option ROp :=
  match op with
  | .eql | .neq => match P.underlying t with
    | some (.int _) | some .string => some (.bin op x y)
    | some .bool => some (.eqB (match op with | .neq => true | _ => false) x y)
    | some (.pointer _) => some (.eqN (match op with | .neq => true | _ => false) 0 x y)
    | some (.slice _) => some (.eqN (match op with | .neq => true | _ => false) 1 x y)
    | some (.map _ _) => some (.eqN (match op with | .neq => true | _ => false) 2 x y)
    | some (.func _ _ _) => some (.eqN (match op with | .neq => true | _ => false) 3 x y)
    | some (.struct _) => if P.eqGuardType P.depth t then none else (flat P 12 t).map fun ks => .eqA (match op with | .neq => true | _ => false) ks x y
    | _ => none
  | _ => some (.bin op x y)
def rCall (P : Program) (c : Call) : Option ROp :=
  match c.callee with
  | .value f => match rOpd f, rOpds c.args.toList with
    | some g, some l => some (.call g l)
    | _, _ => none
  | .builtin .len => match rOpds c.args.toList, (c.argTypes[0]?).bind P.underlying with
    | some [x], some .string => some (.len 0 x)
    | some [x], some (.slice _) => some (.len 1 x)
    | some [x], some (.map _ _) => some (.len 2 x)
    | _, _ => none
  | .builtin .append => match rOpds c.args.toList, c.argTypes[0]?, c.argTypes[1]? with
    | some [x, y], some t, some u => match P.underlying t, P.underlying u with
      | some (.slice e), some d => match szOf P e, bytesOfT P e, zeroOf P e with
        | some n, some b, some z => if n = 0 ∨ b = 0 ∨ (cells z).length ≠ n then none else match d with
          | .slice _ => some (.app e n b x y)
          | .string => some (.app e n b x y)
          | .int _ => some (.appZ e n b x y)
          | _ => none
        | _, _, _ => none
      | _, _ => none
    | _, _, _ => none
  | .builtin .copy => match rOpds c.args.toList, (c.argTypes[0]?).bind P.underlying with
    | some [x, y], some (.slice e) => (szOf P e).bind fun n => if n = 0 then none else some (.copy n x y)
    | _, _ => none
  | .builtin .max => (rOpds c.args.toList).map (.mm true)
  | .builtin .min => (rOpds c.args.toList).map (.mm false)
  | .builtin .cap => match rOpds c.args.toList, (c.argTypes[0]?).bind P.underlying with
    | some [x], some (.slice _) => some (.capN x)
    | _, _ => none
  | .builtin .clear => match rOpds c.args.toList, (c.argTypes[0]?).bind P.underlying with
    | some [x], some (.slice e) => match zeroOf P e with
      | some z => if (cells z).all g0 = true ∧ (cells z).length ≠ 0 then some (.clear (cells z) x) else none
      | none => none
    | _, _ => none
  | _ => none
def resolve (P : Program) (op : Op) : Option ROp :=
  match op with
  | .move x => (rOpd x).map .move
  | .assign x => (rOpd x).map .move
  | .pick c a b => match rOpd c, rOpd a, rOpd b with
    | some c, some a, some b => some (.pick c a b)
    | _, _, _ => none
  | .alloc t => (zeroOf P t).bind fun z => if (cells z).all g0 = true then some (.new t (cells z)) else none
  | .box t x => (rOpd x).map (.box t)
  | .build t parts => match zeroOf P t, P.underlying t with
    | some z, some (.struct fs) =>
      if (cells z).all g0 = true ∧ fs.toList.all (fun f => (szOf P f.type).isSome) = true then
        (rParts (fun i => (fs[i]?).bind fun f => (szOf P f.type).map fun n => (f.offset, n)) parts.toList).map (.build (cells z))
      else none
    | some z, some (.array _ e) => (szOf P e).bind fun n =>
      if (cells z).all g0 = true then (rParts (fun i => some (i * n, n)) parts.toList).map (.build (cells z)) else none
    | _, _ => none
  | .buildSlice t len parts => match P.underlying t with
    | some (.slice e) => match szOf P e, zeroOf P e with
      | some n, some z => if (cells z).all g0 = true ∧ len * n ≤ 16777216 ∧ 0 < n ∧ (zrow z (len * n)).all g0 = true then
          (rParts (fun i => some (i * n, n)) parts.toList).map (.lit e n len (zrow z (len * n)))
        else none
      | _, _ => none
    | _ => none
  | .load t a => match form P t, rOpd a with
    | some (agg, n), some a => some (.load agg n a)
    | _, _ => none
  | .store t a x => match szOf P t, rOpd a, rOpd x with
    | some n, some a, some x => some (.store n a x)
    | _, _, _ => none
  | .nilCheck x => (rOpd x).map .nilCheck
  | .binOp op t x y _ => match rOpd x, rOpd y with
    | some x, some y => rBin P op t x y
    | _, _ => none
  | .unOp op _ x => (rOpd x).map (.un op)
  | .convert s d x => match P.underlying s, P.underlying d, rOpd x with
    | some (.int _), some (.int k), some x => some (.conv k x)
    | some .string, some .string, some x => some (.bin .add x (.const (.string .empty)))
    | some (.slice e), some .string, some x => match P.underlying e with
      | some (.int .u8) => some (.strOf x)
      | _ => none
    | _, _, _ => none
  | .makeInterface t x => match P.underlying t, rOpd x with
    | some (.interface _), _ => none
    | some _, some x => some (.iface t x)
    | _, _ => none
  | .typeAssert x _ u true => match P.underlying u, zeroOf P u, rOpd x with
    | some (.interface _), _, _ => none
    | some _, some z, some x => if g1 z = true then some (.assert u z x) else none
    | _, _, _ => none
  | .makeFunc (.func f) first cs => if first.size = 0 then (rOpds cs.toList).map (.mkFunc f) else none
  | .makeMap _ none => some .mkMap
  | .makeSlice t l c => match P.underlying t, rOpd l, rOpd c with
    | some (.slice e), some l, some c => match szOf P e, bytesOfT P e, zeroOf P e with
      | some n, some b, some z => if n = 0 ∨ b = 0 ∨ (cells z).length ≠ n ∨ (cells z).all g0 = false then none else some (.mkSlice e n b (cells z) l c)
      | _, _, _ => none
    | _, _, _ => none
  | .slice t x lo hi mx => match P.underlying t, rOpd x, rOpt lo, rOpt hi, rOpt mx with
    | some .string, some x, some lo, some hi, some none => some (.cutS x lo hi)
    | some (.slice e), some x, some lo, some hi, some mx => match mx, hi with
      | some _, none => none
      | mx, hi => (szOf P e).bind fun n => if n = 0 then none else some (.cut n x lo hi mx)
    | some (.array k e), some x, some lo, some hi, some mx => match mx, hi with
      | some _, none => none
      | mx, hi => (szOf P e).bind fun n => if n = 0 then none else some (.cutA k n x lo hi mx)
    | _, _, _, _, _ => none
  | .fieldAddr s x f => match P.underlying s, rOpd x with
    | some (.struct fs), some x => (fs[f]?).bind fun fl => (szOf P fl.type).bind fun n => if n = 0 then none else some (.fld fl.offset x)
    | _, _ => none
  | .field s x f => match P.underlying s, rOpd x with
    | some (.struct fs), some x => (fs[f]?).bind fun fl => (form P fl.type).map fun r => .part r.1 fl.offset r.2 x
    | _, _ => none
  | .indexAddr t x i => match P.underlying t, rOpd x, rOpd i with
    | some (.slice e), some x, some i => (szOf P e).map fun n => .idx n x i
    | some (.array k e), some x, some i => (szOf P e).map fun n => .idxA k n x i
    | _, _, _ => none
  | .index t x i => match P.underlying t, rOpd x, rOpd i with
    | some .string, some x, some i => some (.idxS x i)
    | some (.array k e), some x, some i => (form P e).map fun r => .idxV k r.1 r.2 x i
    | _, _, _ => none
  | .range t x => match P.underlying t, rOpd x with
    | some .string, some x => some (.iter x)
    | _, _ => none
  | .next x true => (rOpd x).map .next
  | .lookup t x i ok => match P.underlying t, rOpd x, rOpd i with
    | some (.map k el), some x, some i => match skOf P k, zeroOf P el with
      | some kd, some z => if g1 z = true then some (.look kd z ok x i) else none
      | _, _ => none
    | _, _, _ => none
  | .mapUpdate t m k x => match P.underlying t, rOpd m, rOpd k, rOpd x with
    | some (.map kt _), some m, some k, some x => (skOf P kt).map fun kd => .upd kd m k x
    | _, _, _, _ => none
  | .extract x i => (rOpd x).map fun x => .ext x i
  | .call c => rCall P c
  | _ => none
/-- What is not resolved stops the machine. -/
def resolveS (P : Program) (op : Op) : ROp :=
  match resolve P op with
  | some r => r
  | none => .stop
def rGuard (ops : Array Oper) : Option (Nat × Bool) → Option (Option (Nat × Bool))
  | none => some none
  | some (j, b) => ((ops[j]?).bind (·.dst)).map fun d => some (d, b)
def rOper (P : Program) (n : Nat) (ops : Array Oper) (o : Oper) : Option RO :=
  match rGuard ops o.guard, o.dst with
  | some g, none => some ⟨none, resolveS P o.op, g⟩
  | some g, some d => if d < n then some ⟨some d, resolveS P o.op, g⟩ else none
  | _, _ => none
def rOps (P : Program) (n : Nat) (ops : Array Oper) : List Oper → Option (List RO)
  | [] => some []
  | o :: os => match rOper P n ops o, rOps P n ops os with
    | some r, some rs => some (r :: rs)
    | _, _ => none

/-! ### Values -/
abbrev Bt := List (Nat × Nat)
abbrev Sh := Nat → Option (TypeId × Nat)
/-- An abstract value stands for one of the model's: b tells of each object its block and where it begins there, S the blocks' sizes. In an abstract slice the place of the capacity has its elements' size in cells. -/
inductive VR (b : Bt) (S : Sh) : Value → Value → Prop where
  | scal {v : Value} (h : g0 v = true) : VR b S v v
  | ptr {i off k s : Nat} (h : b[i]? = some (k, s)) : VR b S (.pointer (some ⟨i, off, none⟩)) (.pointer (some ⟨k, s + off, none⟩))
  | slice {i off len es k s cap n : Nat} {t : TypeId} (h : b[i]? = some (k, s)) (hl : len ≤ cap) (hS : S k = some (t, n)) (hc : s + off + cap * es ≤ n) :
      VR b S (.slice (some ⟨i, off, none⟩) len es) (.slice (some ⟨k, s + off, none⟩) len cap)
  | slice0 {a a' : Addr} {es : Nat} : VR b S (.slice (some a) 0 es) (.slice (some a') 0 0)
  | map {i k s : Nat} (h : b[i]? = some (k, s)) : VR b S (.map (some i)) (.map (some k))
  | func {f : FuncId} {c c' : Array Value} (hs : c.size = c'.size) (h : ∀ (i : Nat) (v v' : Value), c[i]? = some v → c'[i]? = some v' → VR b S v v') : VR b S (.func (.func f) #[] c) (.func (.func f) #[] c')
  | iface {t : TypeId} {v v' : Value} (h : VR b S v v') : VR b S (.iface t v) (.iface t v')
  | agg {c c' : Array Value} (hs : c.size = c'.size) (h : ∀ (i : Nat) (v v' : Value), c[i]? = some v → c'[i]? = some v' → VR b S v v') : VR b S (.agg c) (.agg c')
  | tuple {c c' : Array Value} (hs : c.size = c'.size) (h : ∀ (i : Nat) (v v' : Value), c[i]? = some v → c'[i]? = some v' → VR b S v v') : VR b S (.tuple c) (.tuple c')
def LR (R : Value → Value → Prop) (l l' : List Value) : Prop := l.length = l'.length ∧ ∀ (i : Nat) (v v' : Value), l[i]? = some v → l'[i]? = some v' → R v v'
def SLe (S S' : Sh) : Prop := ∀ k x, S k = some x → S' k = some x
theorem SLe.refl (S : Sh) : SLe S S := fun _ _ h => h
theorem SLe.trans {a b c : Sh} (h : SLe a b) (k : SLe b c) : SLe a c := fun i x e => k i x (h i x e)

section
variable {R : Value → Value → Prop}
theorem LR.nil : LR R [] [] := ⟨rfl, fun i v v' h => by simp at h⟩
theorem LR.cons {x x' : Value} {l l' : List Value} (hx : R x x') (h : LR R l l') : LR R (x :: l) (x' :: l') := by
  refine ⟨by simp [h.1], fun i v v' h1 h2 => ?_⟩
  cases i with
  | zero => simp at h1 h2; subst h1; subst h2; exact hx
  | succ i => simp at h1 h2; exact h.2 i v v' h1 h2
theorem LR.uncons {x : Value} {l l' : List Value} (h : LR R (x :: l) l') : ∃ x' r, l' = x' :: r ∧ R x x' ∧ LR R l r := by
  cases l' with
  | nil => exact absurd h.1 (by simp)
  | cons x' r => exact ⟨x', r, rfl, h.2 0 _ _ rfl rfl, by have := h.1; simpa using this, fun i v v' h1 h2 => h.2 (i + 1) v v' (by simpa using h1) (by simpa using h2)⟩
theorem LR.unnil {l' : List Value} (h : LR R [] l') : l' = [] := by have := h.1; exact List.length_eq_zero_iff.1 this.symm
theorem LR.append {a a' c c' : List Value} (h : LR R a a') (k : LR R c c') : LR R (a ++ c) (a' ++ c') := by
  refine ⟨by simp [h.1, k.1], fun i v v' h1 h2 => ?_⟩
  rw [List.getElem?_append] at h1 h2
  rw [← h.1] at h2
  split at h1
  · rename_i hi; rw [if_pos hi] at h2; exact h.2 _ _ _ h1 h2
  · rename_i hi; rw [if_neg hi] at h2; exact k.2 _ _ _ h1 h2
theorem LR.take {a a' : List Value} (h : LR R a a') (n : Nat) : LR R (a.take n) (a'.take n) := by
  refine ⟨by simp [h.1], fun i v v' h1 h2 => ?_⟩
  rw [List.getElem?_take] at h1 h2
  split at h1
  · rename_i hi; rw [if_pos hi] at h2; exact h.2 _ _ _ h1 h2
  · exact absurd h1 (by simp)
theorem LR.drop {a a' : List Value} (h : LR R a a') (n : Nat) : LR R (a.drop n) (a'.drop n) := by
  refine ⟨by simp [h.1], fun i v v' h1 h2 => ?_⟩
  rw [List.getElem?_drop] at h1 h2
  exact h.2 _ _ _ h1 h2
theorem LR.splice {a a' c c' : List Value} (h : LR R a a') (k : LR R c c') (n : Nat) : LR R (splice a n c) (splice a' n c') := by
  unfold AM.splice
  rw [k.1]
  exact ((h.take n).append k).append (h.drop _)
theorem LR.mono {R' : Value → Value → Prop} {a a' : List Value} (h : LR R a a') (hR : ∀ v v', R v v' → R' v v') : LR R' a a' := ⟨h.1, fun i v v' h1 h2 => hR _ _ (h.2 i v v' h1 h2)⟩
theorem LR.get {a a' : List Value} (h : LR R a a') {i : Nat} {v : Value} (hi : a[i]? = some v) : ∃ v', a'[i]? = some v' ∧ R v v' := by
  have hl : i < a'.length := by have := (List.getElem?_eq_some_iff.1 hi).1; rw [← h.1]; exact this
  exact ⟨_, List.getElem?_eq_getElem hl, h.2 _ _ _ hi (List.getElem?_eq_getElem hl)⟩
theorem LR.same {a : List Value} (h : ∀ v ∈ a, R v v) : LR R a a := ⟨rfl, fun i v v' h1 h2 => by rw [h1] at h2; cases h2; exact h _ (List.mem_of_getElem? h1)⟩
end

section
variable {b : Bt} {S : Sh}
theorem VR.of_lr_agg {l l' : List Value} (h : LR (VR b S) l l') : VR b S (.agg l.toArray) (.agg l'.toArray) :=
  .agg (by simpa using h.1) (fun i v v' h1 h2 => h.2 i v v' (by simpa using h1) (by simpa using h2))
theorem VR.of_lr_tuple {l l' : List Value} (h : LR (VR b S) l l') : VR b S (.tuple l.toArray) (.tuple l'.toArray) :=
  .tuple (by simpa using h.1) (fun i v v' h1 h2 => h.2 i v v' (by simpa using h1) (by simpa using h2))
theorem VR.of_lr_func {f : FuncId} {l l' : List Value} (h : LR (VR b S) l l') : VR b S (.func (.func f) #[] l.toArray) (.func (.func f) #[] l'.toArray) :=
  .func (by simpa using h.1) (fun i v v' h1 h2 => h.2 i v v' (by simpa using h1) (by simpa using h2))
theorem VR.agg_inv {c : Array Value} {v' : Value} (h : VR b S (.agg c) v') : ∃ c', v' = .agg c' ∧ LR (VR b S) c.toList c'.toList := by
  cases h with
  | scal h => simp [g0] at h
  | agg hs h => exact ⟨_, rfl, by simpa using hs, fun i v v' h1 h2 => h i v v' (by simpa using h1) (by simpa using h2)⟩
theorem VR.tuple_inv {c : Array Value} {v' : Value} (h : VR b S (.tuple c) v') : ∃ c', v' = .tuple c' ∧ LR (VR b S) c.toList c'.toList := by
  cases h with
  | scal h => simp [g0] at h
  | tuple hs h => exact ⟨_, rfl, by simpa using hs, fun i v v' h1 h2 => h i v v' (by simpa using h1) (by simpa using h2)⟩
theorem VR.func_inv {f : FuncId} {c : Array Value} {v' : Value} (h : VR b S (.func (.func f) #[] c) v') : ∃ c', v' = .func (.func f) #[] c' ∧ LR (VR b S) c.toList c'.toList := by
  cases h with
  | scal h => simp [g0] at h
  | func hs h => exact ⟨_, rfl, by simpa using hs, fun i v v' h1 h2 => h i v v' (by simpa using h1) (by simpa using h2)⟩
theorem VR.int_inv {k : IntKind} {n : Int} {v' : Value} (h : VR b S (.int k n) v') : v' = .int k n := by cases h; rfl
theorem VR.bool_inv {n : Bool} {v' : Value} (h : VR b S (.bool n) v') : v' = .bool n := by cases h; rfl
theorem VR.string_inv {n : ByteArray} {v' : Value} (h : VR b S (.string n) v') : v' = .string n := by cases h; rfl
theorem VR.ptr_inv {i off : Nat} {v' : Value} (h : VR b S (.pointer (some ⟨i, off, none⟩)) v') : ∃ k s, b[i]? = some (k, s) ∧ v' = .pointer (some ⟨k, s + off, none⟩) := by
  cases h with
  | scal h => simp [g0] at h
  | ptr h => exact ⟨_, _, h, rfl⟩
theorem VR.map_inv {i : Nat} {v' : Value} (h : VR b S (.map (some i)) v') : ∃ k s, b[i]? = some (k, s) ∧ v' = .map (some k) := by
  cases h with
  | scal h => simp [g0] at h
  | map h => exact ⟨_, _, h, rfl⟩
theorem VR.iface_inv {t : TypeId} {v v' : Value} (h : VR b S (.iface t v) v') : ∃ u, v' = .iface t u ∧ VR b S v u := by
  cases h with
  | scal h => simp [g0] at h
  | iface h => exact ⟨_, rfl, h⟩
theorem VR.slice_inv {i off len es : Nat} {v' : Value} (h : VR b S (.slice (some ⟨i, off, none⟩) len es) v') :
    (∃ k s cap t n, b[i]? = some (k, s) ∧ len ≤ cap ∧ S k = some (t, n) ∧ s + off + cap * es ≤ n ∧ v' = .slice (some ⟨k, s + off, none⟩) len cap) ∨ (len = 0 ∧ ∃ a', v' = .slice (some a') 0 0) := by
  cases h with
  | scal h => simp [g0] at h
  | slice h hl hS hc => exact .inl ⟨_, _, _, _, _, h, hl, hS, hc, rfl⟩
  | slice0 => exact .inr ⟨rfl, _, rfl⟩
theorem VR.nilslice_inv {v' : Value} (h : VR b S (.slice none 0 0) v') : v' = .slice none 0 0 := by cases h; rfl
theorem VR.g0_inv {v v' : Value} (hg : g0 v = true) (h : VR b S v v') : v' = v := by
  cases h <;> first | rfl | (simp [g0] at hg)
theorem VR.mono {b' : Bt} {S' : Sh} (hb : ∀ (i : Nat) x, b[i]? = some x → b'[i]? = some x) (hS : SLe S S') {v v' : Value} (h : VR b S v v') : VR b' S' v v' := by
  induction h with
  | scal h => exact .scal h
  | ptr h => exact .ptr (hb _ _ h)
  | slice h hl hs hc => exact .slice (hb _ _ h) hl (hS _ _ hs) hc
  | slice0 => exact .slice0
  | map h => exact .map (hb _ _ h)
  | func hs _ ih => exact .func hs ih
  | iface _ ih => exact .iface ih
  | agg hs _ ih => exact .agg hs ih
  | tuple hs _ ih => exact .tuple hs ih
theorem getElem?_pre {b c : Bt} (i : Nat) (x : Nat × Nat) (h : b[i]? = some x) : (b ++ c)[i]? = some x := by
  rw [List.getElem?_append, if_pos (List.getElem?_eq_some_iff.1 h).1]; exact h
theorem VR.ext {c : Bt} {S' : Sh} (hS : SLe S S') {v v' : Value} (h : VR b S v v') : VR (b ++ c) S' v v' := h.mono getElem?_pre hS
theorem VR.g1 {v : Value} (h : AM.g1 v = true) : VR b S v v := by
  cases v <;> simp only [AM.g1] at h <;> first | exact .scal h | skip
  rename_i cs
  exact .agg rfl fun i v v' h1 h2 => by
    rw [h1] at h2; cases h2
    exact .scal (List.all_eq_true.1 h _ (by have := (Array.getElem?_eq_some_iff.1 h1); rw [← this.2]; simp))
/-- The cells of a value that stands for another one. -/
theorem VR.cells {v v' : Value} (h : VR b S v v') : LR (VR b S) (AM.cells v) (AM.cells v') := by
  have one_ : ∀ u u' : Value, VR b S u u' → LR (VR b S) [u] [u'] := fun u u' h => LR.cons h .nil
  have H := h
  cases h with
  | agg hs h => exact (VR.agg_inv H).elim fun c' hc => by obtain ⟨e, hl⟩ := hc; cases e; exact hl
  | scal h =>
    unfold AM.cells
    cases v <;> first | exact one_ _ _ H | (simp [g0] at h)
  | _ => exact one_ _ _ H
theorem VR.ones {v v' : Value} (h : VR b S v v') : one v = one v' := by cases h <;> rfl
end

/-! ### Heaps -/
def live : AObj → Bool
  | .row ro _ _ => !ro
  | .map _ => true
  | .iter _ _ => true
  | .seq _ => true
  | .dead => false
/-- An object stands for a block from s on. -/
def OR (b : Bt) (w : World) (base k s : Nat) : AObj → Prop
  | .row ro t c => c.all one = true ∧ ∃ cs t' fr, w.heap[k]? = some (.cells cs t' fr) ∧ s + c.length ≤ cs.size ∧ (∀ j v, c[j]? = some v → ∃ v', cs[s + j]? = some v' ∧ VR b w.shape? v v') ∧
      (if ro then k < base else base ≤ k ∧ t' = t ∧ fr = (0, 0))
  | .map es => base ≤ k ∧ ∃ es' clock, w.heap[k]? = some (.map es' clock) ∧ LR (VR b w.shape?) (es.map (·.1)) (es'.toList.map (·.key)) ∧ LR (VR b w.shape?) (es.map (·.2)) (es'.toList.map (·.val)) ∧ MapKept.Stamped es' clock
  | .seq m => (base ≤ k ∧ s = 0) ∧ ∃ T fr m', w.heap[k]? = some (.cells #[m'] T fr) ∧ VR b w.shape? (.map m) m'
  | .iter str pos => (base ≤ k ∧ s = 0) ∧ w.heap[k]? = some (.stringIter str pos)
  | .dead => True
structure Sim (b : Bt) (h : AH) (base : Nat) (w0 w : World) : Prop where
  len : b.length = h.next
  out : ∀ i, h.next ≤ i → h.get i = none
  bel : Below base w0 w
  le : base ≤ w.heap.size
  obj : ∀ i o, h.get i = some o → ∃ k s, b[i]? = some (k, s) ∧ OR b w base k s o
  inj : ∀ i j o o' k s s', i ≠ j → h.get i = some o → h.get j = some o' → live o = true → live o' = true → b[i]? = some (k, s) → b[j]? = some (k, s') → False
  gd : Gd base w0
structure Rl (b : Bt) (e : Env) (w : World) (a : Act) (n : Nat) : Prop where
  get : ∀ t v, e.get t = some v → ∃ v', a.tmps[t]? = some v' ∧ VR b w.shape? v v'
  size : n ≤ a.tmps.size

theorem Sim.row {b : Bt} {h : AH} {base : Nat} {w0 w : World} (H : Sim b h base w0 w) {i k s : Nat} {ro : Bool} {t : TypeId} {c : List Value} (hi : rowAt h i = some (ro, t, c)) (hb : b[i]? = some (k, s)) :
    OR b w base k s (.row ro t c) := by
  have hg : h.get i = some (.row ro t c) := by
    unfold rowAt at hi
    split at hi
    · split at hi
      · rename_i e; simp only [Option.some.injEq, Prod.mk.injEq] at hi; obtain ⟨rfl, rfl, rfl⟩ := hi; exact e
      · exact absurd hi (by simp)
    · exact absurd hi (by simp)
  obtain ⟨k', s', hb', ho⟩ := H.obj i _ hg
  rw [hb] at hb'; cases hb'
  exact ho
theorem rowAt_get {h : AH} {i : Nat} {ro : Bool} {t : TypeId} {c : List Value} (hi : rowAt h i = some (ro, t, c)) : h.get i = some (.row ro t c) := by
  unfold rowAt at hi
  split at hi
  · split at hi
    · rename_i e; simp only [Option.some.injEq, Prod.mk.injEq] at hi; obtain ⟨rfl, rfl, rfl⟩ := hi; exact e
    · exact absurd hi (by simp)
  · exact absurd hi (by simp)
theorem mapAt_get {h : AH} {i : Nat} {es : List (Value × Value)} (hi : mapAt h i = some es) : h.get i = some (.map es) := by
  unfold mapAt at hi
  split at hi
  · split at hi
    · rename_i e; simp only [Option.some.injEq] at hi; subst hi; exact e
    · exact absurd hi (by simp)
  · exact absurd hi (by simp)
theorem rowAt_push {h : AH} {i : Nat} {o : AObj} {x : Bool × TypeId × List Value} (hi : rowAt h i = some x) : rowAt (h.push o) i = some x := by
  unfold rowAt at *
  split at hi
  · rename_i hlt
    have h2 : i < (h.push o).next := Nat.lt_succ_of_lt hlt
    rw [if_pos h2, AH.get_push_ne _ _ (by omega)]; exact hi
  · exact absurd hi (by simp)
theorem mapAt_push {h : AH} {i : Nat} {o : AObj} {x : List (Value × Value)} (hi : mapAt h i = some x) : mapAt (h.push o) i = some x := by
  unfold mapAt at *
  split at hi
  · rename_i hlt
    have h2 : i < (h.push o).next := Nat.lt_succ_of_lt hlt
    rw [if_pos h2, AH.get_push_ne _ _ (by omega)]; exact hi
  · exact absurd hi (by simp)

/-- The block of an object is there. -/
theorem OR.lt {b : Bt} {w : World} {base k s : Nat} {o : AObj} (h : OR b w base k s o) (ho : live o = true) : base ≤ k ∧ k < w.heap.size := by
  cases o with
  | row ro t c =>
    obtain ⟨_, cs, t', fr, hk, _, _, hr⟩ := h
    cases ro with
    | true => simp [live] at ho
    | false => exact ⟨hr.1, (Array.getElem?_eq_some_iff.1 hk).1⟩
  | map es => obtain ⟨hb, _, _, hk, _⟩ := h; exact ⟨hb, (Array.getElem?_eq_some_iff.1 hk).1⟩
  | iter s p => exact ⟨h.1.1, (Array.getElem?_eq_some_iff.1 h.2).1⟩
  | seq m => obtain ⟨hb, _, _, _, hk, _⟩ := h; exact ⟨hb.1, (Array.getElem?_eq_some_iff.1 hk).1⟩
  | dead => simp [live] at ho
/-- An object is as it was where its block is as it was. -/
theorem OR.move {b b' : Bt} {w w' : World} {base k s : Nat} {o : AObj} (h : OR b w base k s o) (hb : ∀ (i : Nat) x, b[i]? = some x → b'[i]? = some x) (hS : SLe w.shape? w'.shape?)
    (hk : o ≠ .dead → w'.heap[k]? = w.heap[k]?) : OR b' w' base k s o := by
  cases o with
  | row ro t c =>
    obtain ⟨h0, cs, t', fr, h1, h2, h3, h4⟩ := h
    exact ⟨h0, cs, t', fr, (hk (by simp)).trans h1, h2, fun j v hj => let ⟨v', a, r⟩ := h3 j v hj; ⟨v', a, r.mono hb hS⟩, h4⟩
  | map es =>
    obtain ⟨h0, es', clock, h1, h2, h3, h4⟩ := h
    exact ⟨h0, es', clock, (hk (by simp)).trans h1, h2.mono fun _ _ r => r.mono hb hS, h3.mono fun _ _ r => r.mono hb hS, h4⟩
  | iter str p => exact ⟨h.1, (hk (by simp)).trans h.2⟩
  | seq m =>
    obtain ⟨h0, T, fr, m', h1, h2⟩ := h
    exact ⟨h0, T, fr, m', (hk (by simp)).trans h1, h2.mono hb hS⟩
  | dead => trivial

theorem shape_push (w : World) (o : Obj) : SLe w.shape? (w.alloc o).shape? := by
  intro k x h
  unfold World.shape? at *
  have : (w.alloc o).heap[k]? = w.heap[k]? := by
    refine Below.heap_alloc _ _ _ ?_
    cases hk : w.heap[k]? with
    | none => rw [hk] at h; cases h
    | some o => exact (Array.getElem?_eq_some_iff.1 hk).1
  rw [this]; exact h

/-- A new object. -/
theorem Sim.push {b : Bt} {h : AH} {base : Nat} {w0 w : World} (H : Sim b h base w0 w) (o : AObj) (ob : Obj)
    (ho : OR (b ++ [(w.heap.size, 0)]) (w.alloc ob) base w.heap.size 0 o) : Sim (b ++ [(w.heap.size, 0)]) (h.push o) base w0 (w.alloc ob) := by
  have hlen := H.len
  refine ⟨by simp [AH.push, H.len], fun i hi => ?_, H.bel.alloc H.le _, by have := H.le; simp; omega, fun i o' hi => ?_, ?_, H.gd⟩
  · have hi' : h.next + 1 ≤ i := hi
    rw [AH.get_push_ne _ _ (by omega)]; exact H.out i (by omega)
  · by_cases e : h.next = i
    · subst e
      rw [AH.get_push_same] at hi; cases hi
      exact ⟨w.heap.size, 0, by rw [List.getElem?_append_right (by omega)]; simp [hlen], ho⟩
    · rw [AH.get_push_ne _ _ e] at hi
      obtain ⟨k, s, hb, hr⟩ := H.obj i o' hi
      refine ⟨k, s, getElem?_pre _ _ hb, hr.move getElem?_pre (shape_push _ _) fun hd => Below.heap_alloc _ _ _ ?_⟩
      cases o' with
      | row ro t c => obtain ⟨_, cs, t', fr, h1, _⟩ := hr; exact (Array.getElem?_eq_some_iff.1 h1).1
      | map es => obtain ⟨_, _, _, h1, _⟩ := hr; exact (Array.getElem?_eq_some_iff.1 h1).1
      | iter s p => exact (Array.getElem?_eq_some_iff.1 hr.2).1
      | seq m => obtain ⟨_, _, _, _, h1, _⟩ := hr; exact (Array.getElem?_eq_some_iff.1 h1).1
      | dead => exact absurd rfl hd
  · intro i j o1 o2 k s s' hij h1 h2 m1 m2 b1 b2
    have old : ∀ i o, h.next ≠ i → (h.push o).get i = h.get i := fun i o e => AH.get_push_ne _ _ e
    have olt : ∀ i o' k s, h.next ≠ i → h.get i = some o' → live o' = true → (b ++ [(w.heap.size, 0)])[i]? = some (k, s) → k < w.heap.size ∧ b[i]? = some (k, s) := by
      intro i o' k s _ hg hm hb
      obtain ⟨k', s', hb', hr⟩ := H.obj i o' hg
      have := getElem?_pre (c := [(w.heap.size, 0)]) _ _ hb'
      rw [hb] at this; cases this
      exact ⟨(hr.lt hm).2, hb'⟩
    have new : (b ++ [(w.heap.size, 0)])[h.next]? = some (w.heap.size, 0) := by rw [List.getElem?_append_right (by omega)]; simp [hlen]
    by_cases e1 : h.next = i
    · subst e1
      rw [new] at b1; cases b1
      have e2 : h.next ≠ j := hij
      rw [old j o e2] at h2
      exact absurd (olt j o2 _ _ e2 h2 m2 b2).1 (Nat.lt_irrefl _)
    · by_cases e2 : h.next = j
      · subst e2
        rw [new] at b2; cases b2
        rw [old i o e1] at h1
        exact absurd (olt i o1 _ _ e1 h1 m1 b1).1 (Nat.lt_irrefl _)
      · rw [old i o e1] at h1; rw [old j o e2] at h2
        exact H.inj i j o1 o2 k s s' hij h1 h2 m1 m2 (olt i o1 _ _ e1 h1 m1 b1).2 (olt j o2 _ _ e2 h2 m2 b2).2

/-- The world with another object in a block's place. -/
def wset (w : World) (k : Nat) (o : Obj) : World := { w with heap := w.heap.setIfInBounds k o }
theorem wset_same (w : World) (k : Nat) (o : Obj) (hk : k < w.heap.size) : (wset w k o).heap[k]? = some o := by simp [wset, hk]
theorem wset_ne (w : World) {k j : Nat} (o : Obj) (h : k ≠ j) : (wset w k o).heap[j]? = w.heap[j]? := by simp [wset, h]
theorem wset_shape (w : World) (k : Nat) (cs cs' : Array Value) (t : TypeId) (fr fr' : Nat × Nat) (hk : w.heap[k]? = some (.cells cs t fr)) (hs : cs'.size = cs.size) : (wset w k (.cells cs' t fr')).shape? = w.shape? := by
  funext j
  unfold World.shape?
  by_cases e : k = j
  · subst e; rw [wset_same _ _ _ (Array.getElem?_eq_some_iff.1 hk).1, hk]; simp [hs]
  · rw [wset_ne _ _ e]
theorem wset_below {base : Nat} {w0 w : World} (h : Below base w0 w) (k : Nat) (o : Obj) (hk : base ≤ k) : Below base w0 (wset w k o) :=
  h.trans ⟨rfl, rfl, rfl, by simp [wset], fun j hj => wset_ne _ _ (by omega)⟩

/-- An object's block is written; the object is another one. The blocks' sizes stay. -/
theorem Sim.put {b : Bt} {h : AH} {base : Nat} {w0 w : World} (H : Sim b h base w0 w) {i k s : Nat} {o0 o : AObj} {ob : Obj} (hi : h.get i = some o0) (hm : live o0 = true) (hb : b[i]? = some (k, s))
    (hS : SLe w.shape? (wset w k ob).shape?) (ho : OR b (wset w k ob) base k s o) : Sim b (h.put i o) base w0 (wset w k ob) := by
  obtain ⟨k', s', hb', hr⟩ := H.obj i o0 hi
  rw [hb] at hb'; cases hb'
  have hlt := hr.lt hm
  have hne : ∀ j o', j ≠ i → h.get j = some o' → ∀ k' s', b[j]? = some (k', s') → o' ≠ .dead → OR b w base k' s' o' → k ≠ k' := by
    intro j o' hj hg k' s' hb2 hd hor hk; subst hk
    cases hmo : live o' with
    | true => exact H.inj i j o0 o' k s s' (Ne.symm hj) hi hg hm hmo hb hb2
    | false =>
      cases o' with
      | row ro t c =>
        cases ro with
        | true => obtain ⟨_, _, _, _, _, _, _, hx⟩ := hor; exact absurd hx (by have := hlt.1; simp; omega)
        | false => simp [live] at hmo
      | map es => simp [live] at hmo
      | iter s p => simp [live] at hmo
      | seq m => simp [live] at hmo
      | dead => exact hd rfl
  refine ⟨by simpa [AH.put] using H.len, fun j hj => ?_, wset_below H.bel k ob hlt.1, by have := H.le; simp [wset]; exact this, fun j o' hj => ?_, ?_, H.gd⟩
  · have hj' : h.next ≤ j := hj
    by_cases e : i = j
    · subst e; rw [H.out i hj'] at hi; cases hi
    · rw [AH.get_put_ne _ _ e]; exact H.out j hj'
  · by_cases e : i = j
    · subst e; rw [AH.get_put_same] at hj; cases hj; exact ⟨k, s, hb, ho⟩
    · rw [AH.get_put_ne _ _ e] at hj
      obtain ⟨k', s', hb2, hor⟩ := H.obj j o' hj
      exact ⟨k', s', hb2, hor.move (fun _ _ x => x) hS fun hd => wset_ne _ _ (hne j o' (Ne.symm e) hj k' s' hb2 hd hor)⟩
  · intro x y o1 o2 k1 s1 s2 hxy h1 h2 m1 m2 b1 b2
    have key : ∀ y o2 s2, y ≠ i → (h.put i o).get y = some o2 → live o2 = true → b[y]? = some (k, s2) → False := by
      intro y o2 s2 hy hg hm2 hb2
      rw [AH.get_put_ne _ _ (Ne.symm hy)] at hg
      exact H.inj i y o0 o2 k s s2 (Ne.symm hy) hi hg hm hm2 hb hb2
    by_cases e1 : i = x
    · subst e1; rw [hb] at b1; cases b1; exact key y o2 s2 (Ne.symm hxy) h2 m2 b2
    · by_cases e2 : i = y
      · subst e2; rw [hb] at b2; cases b2; exact key x o1 s1 hxy h1 m1 b1
      · rw [AH.get_put_ne _ _ e1] at h1; rw [AH.get_put_ne _ _ e2] at h2
        exact H.inj x y o1 o2 k1 s1 s2 hxy h1 h2 m1 m2 b1 b2
end Go.Proofs.YtpgidiompdabdaaGreat.AM
