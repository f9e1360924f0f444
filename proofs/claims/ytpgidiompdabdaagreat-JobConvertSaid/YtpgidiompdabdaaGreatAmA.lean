/- The abstract machine: a deterministic reading of the model's code (resolved: sizes and offsets in place of types), over a heap of abstract objects; text order, no capacities, no tape. Definitions alone. -/
import Derived.Orders
import Derived.Below
namespace Go.Proofs.YtpgidiompdabdaaGreat.AM
open Go

/-! ### Trees by bits -/
inductive Tr (α : Type) where
  | lf
  | nd (l : Tr α) (o : Option α) (r : Tr α)
def Tr.getB {α : Type} : Tr α → List Bool → Option α
  | .lf, _ => none
  | .nd _ o _, [] => o
  | .nd l _ r, b :: bs => match b with | true => r.getB bs | false => l.getB bs
def Tr.setB {α : Type} : Tr α → List Bool → α → Tr α
  | .lf, [], a => .nd .lf (some a) .lf
  | .nd l _ r, [], a => .nd l (some a) r
  | .lf, b :: bs, a => match b with | true => .nd .lf none (Tr.setB .lf bs a) | false => .nd (Tr.setB .lf bs a) none .lf
  | .nd l o r, b :: bs, a => match b with | true => .nd l o (r.setB bs a) | false => .nd (l.setB bs a) o r
def bitsF : Nat → Nat → List Bool
  | 0, _ => []
  | f + 1, n => match n with | 0 => [] | m + 1 => ((m + 1) % 2 == 1) :: bitsF f ((m + 1) / 2)
def bits (n : Nat) : List Bool := bitsF n n

theorem Tr.get_setB_same {α : Type} (a : α) : ∀ (t : Tr α) (bs : List Bool), (t.setB bs a).getB bs = some a
  | .lf, [] => rfl
  | .nd _ _ _, [] => rfl
  | .lf, true :: bs => Tr.get_setB_same a .lf bs
  | .lf, false :: bs => Tr.get_setB_same a .lf bs
  | .nd _ _ r, true :: bs => Tr.get_setB_same a r bs
  | .nd l _ _, false :: bs => Tr.get_setB_same a l bs
theorem Tr.get_lf {α : Type} (bs : List Bool) : (Tr.lf : Tr α).getB bs = none := by cases bs <;> rfl
theorem Tr.get_setB_ne {α : Type} (a : α) : ∀ (bs cs : List Bool) (t : Tr α), bs ≠ cs → (t.setB bs a).getB cs = t.getB cs
  | [], [], _, h => absurd rfl h
  | [], true :: cs, .lf, _ => by rw [Tr.get_lf]; exact Tr.get_lf cs
  | [], false :: cs, .lf, _ => by rw [Tr.get_lf]; exact Tr.get_lf cs
  | [], true :: _, .nd _ _ _, _ => rfl
  | [], false :: _, .nd _ _ _, _ => rfl
  | true :: _, [], .lf, _ => rfl
  | false :: _, [], .lf, _ => rfl
  | true :: _, [], .nd _ _ _, _ => rfl
  | false :: _, [], .nd _ _ _, _ => rfl
  | true :: bs, true :: cs, .lf, h => by rw [Tr.get_lf]; exact (Tr.get_setB_ne a bs cs .lf (fun e => h (by rw [e]))).trans (Tr.get_lf cs)
  | false :: bs, false :: cs, .lf, h => by rw [Tr.get_lf]; exact (Tr.get_setB_ne a bs cs .lf (fun e => h (by rw [e]))).trans (Tr.get_lf cs)
  | true :: _, false :: cs, .lf, _ => by rw [Tr.get_lf]; exact Tr.get_lf cs
  | false :: _, true :: cs, .lf, _ => by rw [Tr.get_lf]; exact Tr.get_lf cs
  | true :: bs, true :: cs, .nd _ _ r, h => Tr.get_setB_ne a bs cs r (fun e => h (by rw [e]))
  | false :: bs, false :: cs, .nd l _ _, h => Tr.get_setB_ne a bs cs l (fun e => h (by rw [e]))
  | true :: _, false :: _, .nd _ _ _, _ => rfl
  | false :: _, true :: _, .nd _ _ _, _ => rfl

def unbits : List Bool → Nat
  | [] => 0
  | b :: bs => (if b then 1 else 0) + 2 * unbits bs
theorem unbits_bitsF : ∀ (f n : Nat), n ≤ f → unbits (bitsF f n) = n
  | 0, n, h => by have : n = 0 := by omega
                  subst this; rfl
  | f + 1, 0, _ => rfl
  | f + 1, m + 1, h => by
    show (if ((m + 1) % 2 == 1) = true then 1 else 0) + 2 * unbits (bitsF f ((m + 1) / 2)) = m + 1
    rw [unbits_bitsF f _ (by omega)]
    by_cases e : (m + 1) % 2 = 1
    · simp [e]; omega
    · simp [e]; omega
theorem bits_inj {n m : Nat} (h : bits n = bits m) : n = m := by
  have := congrArg unbits h
  rwa [bits, bits, unbits_bitsF _ _ (Nat.le_refl _), unbits_bitsF _ _ (Nat.le_refl _)] at this

/-! ### The heap, the slots -/
inductive AObj where
  | row (ro : Bool) (t : TypeId) (c : List Value)
  | map (es : List (Value × Value))
  | iter (s : ByteArray) (pos : Nat)
  | seq (m : Option Nat)
  | dead
structure AH where
  next : Nat
  tr : Tr AObj
def AH.get (h : AH) (i : Nat) : Option AObj := h.tr.getB (bits i)
def AH.put (h : AH) (i : Nat) (o : AObj) : AH := ⟨h.next, h.tr.setB (bits i) o⟩
def AH.push (h : AH) (o : AObj) : AH := ⟨h.next + 1, h.tr.setB (bits h.next) o⟩
def AH.empty : AH := ⟨0, .lf⟩
theorem AH.get_put_same (h : AH) (i : Nat) (o : AObj) : (h.put i o).get i = some o := Tr.get_setB_same _ _ _
theorem AH.get_put_ne (h : AH) {i j : Nat} (o : AObj) (e : i ≠ j) : (h.put i o).get j = h.get j := Tr.get_setB_ne _ _ _ _ (fun x => e (bits_inj x))
theorem AH.get_push_same (h : AH) (o : AObj) : (h.push o).get h.next = some o := Tr.get_setB_same _ _ _
theorem AH.get_push_ne (h : AH) {j : Nat} (o : AObj) (e : h.next ≠ j) : (h.push o).get j = h.get j := Tr.get_setB_ne _ _ _ _ (fun x => e (bits_inj x))

structure Env where
  tr : Tr Value
def Env.get (e : Env) (t : Nat) : Option Value := e.tr.getB (bits t)
def Env.put (e : Env) (t : Nat) (v : Value) : Env := ⟨e.tr.setB (bits t) v⟩
def Env.empty : Env := ⟨.lf⟩
def Env.putAll (e : Env) : Nat → List Value → Env
  | _, [] => e
  | i, v :: vs => (e.put i v).putAll (i + 1) vs
theorem Env.get_put (e : Env) (d t : Nat) (v : Value) : (e.put d v).get t = if d = t then some v else e.get t := by
  by_cases h : d = t
  · subst h; rw [if_pos rfl]; exact Tr.get_setB_same _ _ _
  · rw [if_neg h]; exact Tr.get_setB_ne _ _ _ _ (fun x => h (bits_inj x))

/-! ### Operations -/
inductive Opd where
  | tmp (t : Nat)
  | const (v : Value)
  | fn (f : FuncId)
/-- Kinds of cells that are compared. -/
inductive SK where
  | i
  | s
  | b
inductive ROp where
  | move (x : Opd)
  | pick (c a b : Opd)
  | new (t : TypeId) (zs : List Value)
  | box (t : TypeId) (x : Opd)
  | build (zs : List Value) (ps : List (Nat × Nat × Opd))
  | lit (t : TypeId) (es len : Nat) (zs : List Value) (ps : List (Nat × Nat × Opd))
  | load (agg : Bool) (n : Nat) (a : Opd)
  | store (n : Nat) (a x : Opd)
  | nilCheck (x : Opd)
  | bin (op : BinOp) (x y : Opd)
  | eqB (neg : Bool) (x y : Opd)
  | eqN (neg : Bool) (kd : Nat) (x y : Opd)
  | eqA (neg : Bool) (ks : List SK) (x y : Opd)
  | un (op : UnOp) (x : Opd)
  | conv (k : IntKind) (x : Opd)
  | strOf (x : Opd)
  | iface (t : TypeId) (x : Opd)
  | assert (t : TypeId) (zero : Value) (x : Opd)
  | mkFunc (f : FuncId) (cs : List Opd)
  | mkMap
  | mkSlice (t : TypeId) (es bytes : Nat) (zs : List Value) (len cap : Opd)
  | cutS (x : Opd) (lo hi : Option Opd)
  | cut (es : Nat) (x : Opd) (lo hi mx : Option Opd)
  | cutA (n es : Nat) (x : Opd) (lo hi mx : Option Opd)
  | fld (off : Nat) (x : Opd)
  | part (agg : Bool) (off n : Nat) (x : Opd)
  | idx (es : Nat) (x i : Opd)
  | idxA (len es : Nat) (x i : Opd)
  | idxS (x i : Opd)
  | idxV (len : Nat) (agg : Bool) (es : Nat) (x i : Opd)
  | look (kd : SK) (zero : Value) (ok : Bool) (m k : Opd)
  | upd (kd : SK) (m k x : Opd)
  | del (kd : SK) (m k : Opd)
  | iter (x : Opd)
  | next (x : Opd)
  | ext (x : Opd) (i : Nat)
  | len (kd : Nat) (x : Opd)
  | app (t : TypeId) (es bytes : Nat) (x y : Opd)
  | copy (es : Nat) (x y : Opd)
  | clear (zs : List Value) (x : Opd)
  | mm (mx : Bool) (xs : List Opd)
  | capN (x : Opd)
  | appZ (t : TypeId) (es bytes : Nat) (x n : Opd)
  | stop
  | call (f : Opd) (args : List Opd)
structure RO where
  dst : Option Nat
  op : ROp
  guard : Option (Nat × Bool)
/-- In which orders a region's operations are looked at: quiet ones (q: no memory; r: they read) as soon as they can come; of the others (m, with all those that come before) each that can come next. -/
inductive RTree where
  | leaf
  | q (i : Nat) (t : RTree)
  | r (i : Nat) (t : RTree)
  | m (i : Nat) (dp : List Nat) (t : RTree)
  | alt (a b : RTree)
def inL : List Nat → Nat → Bool
  | [], _ => false
  | k :: l, t => bif Nat.beq k t then true else inL l t
inductive RCode where
  | skip
  | region (ops : List RO)
  | drawn (ops : List RO) (chk : List (Nat × Nat × Bool))
  | many (ops : List RO) (t : RTree)
  | seq (a b : RCode)
  | cond (c : Opd) (a b : RCode)
  | block (id : Nat) (c : RCode)
  | loop (c : RCode)
  | exit (id : Nat)
  | ret
  | stop
structure RFunc where
  n : Nat
  results : List (Nat × Option (Bool × Nat))
  code : RCode

/-- No address at all, one cell. -/
def g0 : Value → Bool
  | .bool _ | .int _ _ | .string _ | .pointer none | .slice none 0 0 | .map none | .nilFunc | .nilIface => true
  | _ => false
/-- One cell, or cells; no address. -/
def g1 : Value → Bool
  | .agg cs => cs.toList.all g0
  | v => g0 v
def g2 : Value → Bool
  | .tuple vs => vs.toList.all g1
  | v => g1 v
def one : Value → Bool
  | .agg _ | .tuple _ => false
  | _ => true
def cells (v : Value) : List Value := v.cells.toList
def splice (l : List Value) (off : Nat) (vs : List Value) : List Value := l.take off ++ vs ++ l.drop (off + vs.length)
def mkV (agg : Bool) (vs : List Value) : Option Value :=
  match agg, vs with
  | true, vs => some (.agg vs.toArray)
  | false, [v] => some v
  | false, _ => none

section
variable (e : Env) (h : AH)
def Opd.ev : Opd → Option Value
  | .tmp t => e.get t
  | .const v => some v
  | .fn f => some (.func (.func f) #[] #[])
def evs : List Opd → Option (List Value)
  | [] => some []
  | x :: xs => match x.ev e, evs xs with
    | some v, some vs => some (v :: vs)
    | _, _ => none
def fill : List Value → List (Nat × Nat × Opd) → Option (List Value)
  | zs, [] => some zs
  | zs, (off, n, x) :: ps => match x.ev e with
    | some v => if (cells v).length = n ∧ off + n ≤ zs.length then fill (splice zs off (cells v)) ps else none
    | none => none
end
def intBin (op : BinOp) (k : IntKind) (a b : Int) : Option Value :=
  match op with
  | .add => some (.int k (k.wrap (a + b)))
  | .sub => some (.int k (k.wrap (a - b)))
  | .mul => some (.int k (k.wrap (a * b)))
  | .quo => if b = 0 then none else some (.int k (k.wrap (a.tdiv b)))
  | .rem => if b = 0 then none else some (.int k (a.tmod b))
  | .and => some (.int k (k.wrap (BitVec.ofInt k.bits a &&& BitVec.ofInt k.bits b).toNat))
  | .or => some (.int k (k.wrap (BitVec.ofInt k.bits a ||| BitVec.ofInt k.bits b).toNat))
  | .xor => some (.int k (k.wrap (BitVec.ofInt k.bits a ^^^ BitVec.ofInt k.bits b).toNat))
  | .andNot => some (.int k (k.wrap (BitVec.ofInt k.bits a &&& ~~~ BitVec.ofInt k.bits b).toNat))
  | .eql => some (.bool (a == b))
  | .neq => some (.bool (a != b))
  | .lss => some (.bool (a < b))
  | .leq => some (.bool (a ≤ b))
  | .gtr => some (.bool (a > b))
  | .geq => some (.bool (a ≥ b))
  | _ => none
def strBin (op : BinOp) (x y : ByteArray) : Option Value :=
  match op with
  | .add => if x.size + y.size ≤ 9223372036854775807 then some (.string (x ++ y)) else none
  | .eql => some (.bool (x.toList == y.toList))
  | .neq => some (.bool (!(x.toList == y.toList)))
  | .lss => some (.bool (Op.bytesLess x.toList y.toList))
  | .leq => some (.bool (Op.bytesLess x.toList y.toList || x.toList == y.toList))
  | .gtr => some (.bool (!(Op.bytesLess x.toList y.toList || x.toList == y.toList)))
  | .geq => some (.bool (!Op.bytesLess x.toList y.toList))
  | _ => none
def binV (op : BinOp) (x y : Value) : Option Value :=
  match x, y with
  | .int k a, .int k' b =>
    match op with
    | .shl => if b < 0 then none else some (.int k (k.wrap (a * 2 ^ min b.toNat k.bits)))
    | .shr => if b < 0 then none else some (.int k (a.fdiv (2 ^ min b.toNat k.bits)))
    | _ => if k = k' then intBin op k a b else none
  | .string a, .string b => strBin op a b
  | _, _ => none
/-- Is a value the nil of its kind (0: pointers, 1: slices, 2: maps, 3: functions)? -/
def isNil : Nat → Value → Option Bool
  | 0, .pointer a => some a.isNone
  | 1, .slice a _ _ => some a.isNone
  | 2, .map a => some a.isNone
  | 3, .nilFunc => some true
  | 3, .func _ _ _ => some false
  | _, _ => none
def eqNil (kd : Nat) (x y : Value) : Option Bool :=
  match isNil kd x, isNil kd y with
  | some true, some b => some b
  | some b, some true => some b
  | _, _ => none
def sEq : Value → Value → Option Bool
  | .int k a, .int k' b => if k = k' then some (a == b) else none
  | .string a, .string b => some (a == b)
  | .bool a, .bool b => some (a == b)
  | _, _ => none
def kEq1 : SK → Value → Value → Option Bool
  | .i, .int k a, .int k' b => if k = k' then some (a == b) else none
  | .s, .string a, .string b => some (a == b)
  | .b, .bool a, .bool b => some (a == b)
  | _, _, _ => none
def kEq : List SK → List Value → List Value → Option Bool
  | [], [], [] => some true
  | k :: ks, x :: xs, y :: ys => match kEq1 k x y with
    | some true => kEq ks xs ys
    | some false => some false
    | none => none
  | _, _, _ => none
def unV (op : UnOp) (x : Value) : Option Value :=
  match op, x with
  | .neg, .int k n => some (.int k (k.wrap (0 - n)))
  | .xor, .int k n => some (.int k (k.wrap (BitVec.ofInt k.bits (if k.signed then -1 else k.max) ^^^ BitVec.ofInt k.bits n).toNat))
  | .not, .bool b => some (.bool (!b))
  | _, _ => none
def asN : Value → Option Nat
  | .int _ n => if 0 ≤ n then some n.toNat else none
  | _ => none
def rowAt (h : AH) (i : Nat) : Option (Bool × TypeId × List Value) :=
  if i < h.next then (match h.get i with
    | some (.row ro t c) => some (ro, t, c)
    | _ => none) else none
def mapAt (h : AH) (i : Nat) : Option (List (Value × Value)) :=
  if i < h.next then (match h.get i with
    | some (.map es) => some es
    | _ => none) else none
def bytesIn : List Value → Option (List UInt8)
  | [] => some []
  | .int .u8 n :: vs => (bytesIn vs).map (UInt8.ofNat n.toNat :: ·)
  | _ => none
/-- The cells of the first n elements of a slice, of a string's bytes. -/
def firstOf (h : AH) (es n : Nat) : Value → Option (List Value)
  | .slice none 0 0 => if n = 0 then some [] else none
  | .slice (some ⟨i, off, none⟩) len s =>
    if s = es ∧ n ≤ len then
      match rowAt h i with
      | some (_, _, c) => if off + n * es ≤ c.length then some ((c.drop off).take (n * es)) else none
      | none => if n = 0 ∧ i < h.next then some [] else none
    else none
  | .string s => if es = 1 ∧ n ≤ s.size then some ((s.data.toList.take n).map fun b => .int .u8 b.toNat) else none
  | _ => none
def lenV : Value → Option Nat
  | .slice _ n _ => some n
  | .string s => some s.size
  | _ => none
def bound (e : Env) (x : Option Opd) (dflt : Nat) : Option Nat :=
  match x with
  | none => some dflt
  | some o => match o.ev e with
    | some v => asN v
    | none => none
def mmV (mx : Bool) : Value → List Value → Option Value
  | v, [] => some v
  | .int k x, .int _ y :: vs => mmV mx (.int k (if mx then (if y > x then y else x) else (if y < x then y else x))) vs
  | _, _ => none
def mFind (kd : SK) (k : Value) : List (Value × Value) → Option (Option Value)
  | [] => some none
  | (k', v) :: es => match kEq1 kd k k' with
    | some true => some (some v)
    | some false => mFind kd k es
    | none => none
def mSet (kd : SK) (k v : Value) : List (Value × Value) → List (Value × Value)
  | [] => [(k, v)]
  | (k', v') :: es => match kEq1 kd k k' with
    | some true => (k, v) :: es
    | _ => (k', v') :: mSet kd k v es
def mDel (kd : SK) (k : Value) : List (Value × Value) → List (Value × Value)
  | [] => []
  | (k', v') :: es => match kEq1 kd k k' with
    | some true => es
    | _ => (k', v') :: mDel kd k es

/-- What an operation that is no call gives. -/
def ev (op : ROp) (e : Env) (h : AH) : Option (Value × AH) :=
  match op with
  | .move x => (x.ev e).map (·, h)
  | .pick c a b => match c.ev e with
    | some (.bool true) => (a.ev e).map (·, h)
    | some (.bool false) => (b.ev e).map (·, h)
    | _ => none
  | .new t zs => some (.pointer (some ⟨h.next, 0, none⟩), h.push (.row false t zs))
  | .box t x => match x.ev e with
    | some v => if (cells v).all one = true then some (.pointer (some ⟨h.next, 0, none⟩), h.push (.row false t (cells v))) else none
    | none => none
  | .build zs ps => (fill e zs ps).map fun vs => (.agg vs.toArray, h)
  | .lit t es len zs ps => match fill e zs ps with
    | some vs => if vs.all one = true then some (.slice (some ⟨h.next, 0, none⟩) len es, h.push (.row false t vs)) else none
    | none => none
  | .load agg n a => match a.ev e with
    | some (.pointer (some ⟨i, off, none⟩)) => match rowAt h i with
      | some (_, _, c) => if off + n ≤ c.length then (mkV agg ((c.drop off).take n)).map (·, h) else none
      | none => none
    | _ => none
  | .store n a x => match a.ev e, x.ev e with
    | some (.pointer (some ⟨i, off, none⟩)), some v => match rowAt h i with
      | some (false, t, c) => if (cells v).length = n ∧ off + n ≤ c.length ∧ (cells v).all one = true then some (undef, h.put i (.row false t (splice c off (cells v)))) else none
      | _ => none
    | _, _ => none
  | .nilCheck x => match x.ev e with
    | some (.pointer (some a)) => some (.pointer (some a), h)
    | _ => none
  | .bin op x y => match x.ev e, y.ev e with
    | some a, some b => (binV op a b).map (·, h)
    | _, _ => none
  | .eqB neg x y => match x.ev e, y.ev e with
    | some (.bool a), some (.bool b) => some (.bool (if neg then !(a == b) else a == b), h)
    | _, _ => none
  | .eqN neg kd x y => match x.ev e, y.ev e with
    | some a, some b => (eqNil kd a b).map fun r => (.bool (if neg then !r else r), h)
    | _, _ => none
  | .eqA neg ks x y => match x.ev e, y.ev e with
    | some (.agg a), some (.agg b) => if a.size = ks.length ∧ b.size = ks.length then (kEq ks a.toList b.toList).map fun r => (.bool (if neg then !r else r), h) else none
    | _, _ => none
  | .un op x => match x.ev e with
    | some a => (unV op a).map (·, h)
    | none => none
  | .conv k x => match x.ev e with
    | some (.int _ n) => some (.int k (k.wrap n), h)
    | _ => none
  | .strOf x => match x.ev e with
    | some (.slice a len s) => match firstOf h 1 len (.slice a len s) with
      | some vs => (bytesIn vs).map fun l => (.string ⟨l.toArray⟩, h)
      | none => none
    | _ => none
  | .iface t x => (x.ev e).map fun v => (.iface t v, h)
  | .assert t zero x => match x.ev e with
    | some (.iface u v) => some (.tuple (if u = t then #[v, .bool true] else #[zero, .bool false]), h)
    | some .nilIface => some (.tuple #[zero, .bool false], h)
    | _ => none
  | .mkFunc f cs => (evs e cs).map fun vs => (.func (.func f) #[] vs.toArray, h)
  | .mkMap => some (.map (some h.next), h.push (.map []))
  | .mkSlice t es bytes zs len cap => match len.ev e, cap.ev e with
    | some (.int .i64 l), some (.int .i64 c) =>
      if 0 ≤ l ∧ l ≤ c ∧ c * bytes ≤ 140737488355328 then some (.slice (some ⟨h.next, 0, none⟩) l.toNat es, h.push (.row false t (List.replicate l.toNat zs).flatten)) else none
    | _, _ => none
  | .cutS x lo hi => match x.ev e with
    | some (.string s) => match bound e lo 0, bound e hi s.size with
      | some l, some r => if l ≤ r ∧ r ≤ s.size then some (.string (s.extract l r), h) else none
      | _, _ => none
    | _ => none
  | .cut es x lo hi mx => match x.ev e with
    | some (.slice none 0 0) => match bound e lo 0, bound e hi 0, bound e mx 0 with
      | some 0, some 0, some 0 => some (.slice none 0 0, h)
      | _, _, _ => none
    | some (.slice (some ⟨i, off, none⟩) len s) => match bound e lo 0, bound e hi len, bound e mx len with
      | some l, some r, some m => if s = es ∧ l ≤ r ∧ r ≤ m ∧ m ≤ len then some (.slice (some ⟨i, off + l * es, none⟩) (r - l) es, h) else none
      | _, _, _ => none
    | _ => none
  | .cutA n es x lo hi mx => match x.ev e with
    | some (.pointer (some ⟨i, off, none⟩)) => match rowAt h i, bound e lo 0, bound e hi n, bound e mx n with
      | some (_, _, c), some l, some r, some m => if off + n * es ≤ c.length ∧ l ≤ r ∧ r ≤ m ∧ m ≤ n then some (.slice (some ⟨i, off + l * es, none⟩) (r - l) es, h) else none
      | _, _, _, _ => none
    | _ => none
  | .fld off x => match x.ev e with
    | some (.pointer (some ⟨i, o, none⟩)) => some (.pointer (some ⟨i, o + off, none⟩), h)
    | _ => none
  | .part agg off n x => match x.ev e with
    | some (.agg cs) => if off + n ≤ cs.size then (mkV agg ((cs.toList.drop off).take n)).map (·, h) else none
    | _ => none
  | .idx es x i => match x.ev e, i.ev e with
    | some (.slice (some ⟨b, off, none⟩) len _), some (.int _ j) => if 0 ≤ j ∧ j < len then some (.pointer (some ⟨b, off + j.toNat * es, none⟩), h) else none
    | _, _ => none
  | .idxA len es x i => match x.ev e, i.ev e with
    | some (.pointer (some ⟨b, off, none⟩)), some (.int _ j) => if 0 ≤ j ∧ j < len then some (.pointer (some ⟨b, off + j.toNat * es, none⟩), h) else none
    | _, _ => none
  | .idxS x i => match x.ev e, i.ev e with
    | some (.string s), some (.int _ j) => if 0 ≤ j then (s.data.toList[j.toNat]?).map fun b => (.int .u8 b.toNat, h) else none
    | _, _ => none
  | .idxV len agg es x i => match x.ev e, i.ev e with
    | some (.agg cs), some (.int _ j) => if 0 ≤ j ∧ j < len ∧ j.toNat * es + es ≤ cs.size then (mkV agg ((cs.toList.drop (j.toNat * es)).take es)).map (·, h) else none
    | _, _ => none
  | .look kd zero ok m k => match m.ev e, k.ev e with
    | some (.map none), some kv => (kEq1 kd kv kv).map fun _ => (if ok then .tuple #[zero, .bool false] else zero, h)
    | some (.map (some i)), some kv => match mapAt h i with
      | some es => match kEq1 kd kv kv, mFind kd kv es with
        | some _, some (some v) => some (if ok then .tuple #[v, .bool true] else v, h)
        | some _, some none => some (if ok then .tuple #[zero, .bool false] else zero, h)
        | _, _ => none
      | none => none
    | _, _ => none
  | .upd kd m k x => match m.ev e, k.ev e, x.ev e with
    | some (.map (some i)), some kv, some v => match mapAt h i with
      | some es => match kEq1 kd kv kv, mFind kd kv es with
        | some _, some _ => some (undef, h.put i (.map (mSet kd kv v es)))
        | _, _ => none
      | none => none
    | _, _, _ => none
  | .del kd m k => match m.ev e, k.ev e with
    | some (.map (some i)), some kv => match mapAt h i with
      | some es => match kEq1 kd kv kv, mFind kd kv es with
        | some _, some _ => some (.tuple #[], h.put i (.map (mDel kd kv es)))
        | _, _ => none
      | none => none
    | _, _ => none
  | .iter x => match x.ev e with
    | some (.string s) => some (.pointer (some ⟨h.next, 0, none⟩), h.push (.iter s 0))
    | _ => none
  | .next x => match x.ev e with
    | some (.pointer (some ⟨i, 0, none⟩)) => match h.get i with
      | some (.iter s pos) =>
        if pos < s.size then some (.tuple #[.bool true, .int .i64 pos, .int .i32 (Utf8.decode s pos).1], h.put i (.iter s (pos + (Utf8.decode s pos).2)))
        else some (.tuple #[.bool false], h)
      | _ => none
    | _ => none
  | .ext x i => match x.ev e with
    | some (.tuple vs) => (vs.toList[i]?).map (·, h)
    | _ => none
  | .len kd x => match kd, x.ev e with
    | 0, some (.string s) => some (.int .i64 s.size, h)
    | 1, some (.slice _ n _) => some (.int .i64 n, h)
    | 2, some (.map none) => some (.int .i64 0, h)
    | 2, some (.map (some i)) => (mapAt h i).map fun es => (.int .i64 es.length, h)
    | _, _ => none
  | .app t es bytes x y => match x.ev e, y.ev e with
    | some s, some v => match lenV v with
      | some n =>
        if n = 0 then (match s with | .slice none 0 0 | .slice (some _) _ _ => some (s, h) | _ => none) else
        match firstOf h es n v with
        | none => none
        | some new => match s with
          | .slice none 0 0 => if n * bytes ≤ 140737488355328 then some (.slice (some ⟨h.next, 0, none⟩) n es, h.push (.row false t new)) else none
          | .slice (some ⟨i, off, none⟩) len s' => match rowAt h i with
            | some (false, t', c) =>
              if s' = es ∧ t' = t ∧ off + len * es ≤ c.length ∧ (len + n) * bytes ≤ 140737488355328 then
                some (.slice (some ⟨h.next, 0, none⟩) (len + n) es, (h.put i .dead).push (.row false t ((c.drop off).take (len * es) ++ new)))
              else none
            | _ => none
          | _ => none
      | none => none
    | _, _ => none
  | .copy es x y => match x.ev e, y.ev e with
    | some (.slice none 0 0), some v => (lenV v).map fun _ => (.int .i64 0, h)
    | some (.slice (some ⟨i, off, none⟩) len s'), some v => match lenV v with
      | some m => if min m len = 0 then some (.int .i64 0, h) else
        match firstOf h es (min m len) v, rowAt h i with
        | some new, some (false, t, c) =>
          if s' = es ∧ off + min m len * es ≤ c.length then some (.int .i64 (min m len : Nat), h.put i (.row false t (splice c off new))) else none
        | _, _ => none
      | none => none
    | _, _ => none
  | .clear zs x => match x.ev e with
    | some (.slice none 0 0) => some (.tuple #[], h)
    | some (.slice (some ⟨i, off, none⟩) len s') => if len = 0 then some (.tuple #[], h) else
      match rowAt h i with
      | some (false, t, c) => if s' = zs.length ∧ off + len * zs.length ≤ c.length then some (.tuple #[], h.put i (.row false t (splice c off (List.replicate len zs).flatten))) else none
      | _ => none
    | _ => none
  | .mm mx xs => match evs e xs with
    | some (v :: vs) => (mmV mx v vs).map (·, h)
    | _ => none
  | .capN x => match x.ev e with
    | some (.slice none 0 0) => some (.int .i64 0, h)
    | _ => none
  | .appZ t es bytes x n => match x.ev e, n.ev e with
    | some (.slice none 0 0), some (.int .i64 k) => if 0 < k ∧ k * bytes ≤ 140737488355328 then some (.slice (some ⟨h.next, 0, none⟩) k.toNat es, h.push (.row false t [])) else none
    | _, _ => none
  | .stop => none
  | .call _ _ => none

/-! ### Runs, as a function with fuel, and as judgements -/
inductive Ex where
  | normal
  | exit (id : Nat)
  | ret
def putD (e : Env) (d : Option Nat) (v : Value) : Env :=
  match d with
  | some t => e.put t v
  | none => e
/-- Is an operation wanted? None: its guard's value is no bool. -/
def wants (g : Option (Nat × Bool)) (e : Env) : Option Bool :=
  match g with
  | none => some true
  | some (t, b) => match e.get t with
    | some (.bool x) => some (x == b)
    | some (.tuple _) => some false
    | _ => none
/-- The function and all its arguments at a call. -/
def callee (f : Opd) (args : List Opd) (e : Env) : Option (FuncId × List Value) :=
  match f.ev e, evs e args with
  | some (.func (.func g) first cs), some vs => if first.size = 0 then some (g, vs ++ cs.toList) else none
  | _, _ => none
def resOne (e : Env) (h : AH) : Nat × Option (Bool × Nat) → Option Value
  | (t, none) => e.get t
  | (t, some (agg, n)) => (ev (.load agg n (.tmp t)) e h).map (·.1)
def resAll (e : Env) (h : AH) : List (Nat × Option (Bool × Nat)) → Option (List Value)
  | [] => some []
  | r :: rs => match resOne e h r, resAll e h rs with
    | some v, some vs => some (v :: vs)
    | _, _ => none
def resV (l : List Value) : Value :=
  match l with
  | [v] => v
  | l => .tuple l.toArray
/-- What an operation of a region did: the slots ahead, the heap ahead, its value, the heap behind. -/
structure Tr1 where
  env : Env
  hb : AH
  v : Value
  ha : AH
def eqV0 : Value → Value → Bool
  | .bool a, .bool b => a == b
  | .int k a, .int k' b => decide (k = k') && a == b
  | .string a, .string b => decide (a.data.toList = b.data.toList)
  | .pointer none, .pointer none => true
  | .pointer (some ⟨i, o, none⟩), .pointer (some ⟨j, p, none⟩) => decide (i = j) && decide (o = p)
  | .slice none n c, .slice none m d => decide (n = m) && decide (c = d)
  | .slice (some ⟨i, o, none⟩) n c, .slice (some ⟨j, p, none⟩) m d => decide (i = j) && decide (o = p) && decide (n = m) && decide (c = d)
  | .map a, .map b => decide (a = b)
  | _, _ => false
def eqVs : List Value → List Value → Bool
  | [], [] => true
  | a :: as, b :: bs => eqV0 a b && eqVs as bs
  | _, _ => false
def eqV : Value → Value → Bool
  | .agg a, .agg b => eqVs a.toList b.toList
  | .tuple a, .tuple b => eqVs a.toList b.toList
  | a, b => eqV0 a b
theorem eqV0_eq {a b : Value} (h : eqV0 a b = true) : a = b := by
  unfold eqV0 at h
  split at h <;> simp_all
  exact ByteArray.ext h
theorem eqVs_eq : ∀ {a b : List Value}, eqVs a b = true → a = b
  | [], [], _ => rfl
  | a :: as, b :: bs, h => by
    simp only [eqVs, Bool.and_eq_true] at h
    rw [eqV0_eq h.1, eqVs_eq h.2]
  | [], _ :: _, h => by simp [eqVs] at h
  | _ :: _, [], h => by simp [eqVs] at h
theorem eqV_eq {a b : Value} (h : eqV a b = true) : a = b := by
  unfold eqV at h
  split at h
  · rename_i x y; rw [Array.ext' (eqVs_eq h)]
  · rename_i x y; rw [Array.ext' (eqVs_eq h)]
  · exact eqV0_eq h
/-- Does an operation tell the same over another heap? -/
def reread (o : RO) (t : Tr1) (h : AH) : Bool :=
  match wants o.guard t.env with
  | some false => true
  | some true => (match ev o.op t.env h with
    | some (v, _) => eqV v t.v
    | none => false)
  | none => false
def frame1 (l : List RO) (tr : List Tr1) (p : Nat × Nat × Bool) : Bool :=
  match l[p.1]?, tr[p.1]?, l[p.2.1]?, tr[p.2.1]? with
  | some q, some tq, some r, some t => if p.2.2 = true then reread r t tq.hb else reread q tq t.ha
  | _, _, _, _ => false
section
variable (call : FuncId → List Value → AH → Option (Value × AH))
def runT : List RO → Env → AH → Option (List Tr1 × Env × AH)
  | [], e, h => some ([], e, h)
  | o :: os, e, h => match wants o.guard e with
    | some false => (runT os (putD e o.dst undef) h).map fun r => (⟨e, h, undef, h⟩ :: r.1, r.2)
    | some true => match o.op with
      | .call f args => match callee f args e with
        | some (g, vs) => match call g vs h with
          | some (v, h') => (runT os (putD e o.dst v) h').map fun r => (⟨e, h, v, h'⟩ :: r.1, r.2)
          | none => none
        | none => none
      | op => match ev op e h with
        | some (v, h') => (runT os (putD e o.dst v) h').map fun r => (⟨e, h, v, h'⟩ :: r.1, r.2)
        | none => none
    | none => none
def runOps : List RO → Env → AH → Option (Env × AH)
  | [], e, h => some (e, h)
  | o :: os, e, h => match wants o.guard e with
    | some false => runOps os (putD e o.dst undef) h
    | some true => match o.op with
      | .call f args => match callee f args e with
        | some (g, vs) => match call g vs h with
          | some (v, h') => runOps os (putD e o.dst v) h'
          | none => none
        | none => none
      | op => match ev op e h with
        | some (v, h') => runOps os (putD e o.dst v) h'
        | none => none
    | none => none
def exec : Nat → RCode → Env → AH → Option (Ex × Env × AH)
  | 0, _, _, _ => none
  | n + 1, c, e, h => match c with
    | .skip => some (.normal, e, h)
    | .region ops => (runOps call ops e h).map fun r => (.normal, r.1, r.2)
    | .drawn ops chk => match runT call ops e h with
      | some (tr, e', h') => if chk.all (frame1 ops tr) = true then some (.normal, e', h') else none
      | none => none
    | .seq a b => match exec n a e h with
      | some (.normal, e', h') => exec n b e' h'
      | r => r
    | .cond c a b => match c.ev e with
      | some (.bool true) => exec n a e h
      | some (.bool false) => exec n b e h
      | _ => none
    | .block id c => match exec n c e h with
      | some (.exit j, e', h') => if j = id then some (.normal, e', h') else some (.exit j, e', h')
      | r => r
    | .loop c => match exec n c e h with
      | some (.normal, e', h') => exec n (.loop c) e' h'
      | r => r
    | .exit id => some (.exit id, e, h)
    | .ret => some (.ret, e, h)
    | .stop => none
    | .many _ _ => none
end
abbrev Funs := FuncId → Option RFunc
abbrev Exts := FuncId → List Value → AH → Option (Value × AH)
def runF (F : Funs) (X : Exts) : Nat → FuncId → List Value → AH → Option (Value × AH)
  | 0, _, _, _ => none
  | k + 1, f, args, h =>
    match X f args h with
    | some r => some r
    | none => match F f with
      | none => none
      | some r => match exec (runF F X k) k r.code (Env.empty.putAll 0 args) h with
        | some (.exit _, _, _) => none
        | some (_, e, h') => (resAll e h' r.results).map fun vs => (resV vs, h')
        | none => none

inductive J where
  | code (c : RCode) (e : Env) (h : AH) (x : Ex) (e' : Env) (h' : AH)
  | ops (l : List RO) (e : Env) (h : AH) (e' : Env) (h' : AH)
  | tops (l : List RO) (e : Env) (h : AH) (tr : List Tr1) (e' : Env) (h' : AH)
  | fn (f : FuncId) (args : List Value) (h : AH) (v : Value) (h' : AH)
def ROp.isCall : ROp → Bool
  | .call _ _ => true
  | _ => false
/-- The judgements: a piece of code, operations one behind the other, a call. -/
inductive Ok (F : Funs) (X : Exts) : J → Prop where
  | skip {e h} : Ok F X (.code .skip e h .normal e h)
  | ret {e h} : Ok F X (.code .ret e h .ret e h)
  | exit {id e h} : Ok F X (.code (.exit id) e h (.exit id) e h)
  | region {l e h e' h'} : Ok F X (.ops l e h e' h') → Ok F X (.code (.region l) e h .normal e' h')
  | drawn {l chk e h tr e' h'} : Ok F X (.tops l e h tr e' h') → chk.all (frame1 l tr) = true → Ok F X (.code (.drawn l chk) e h .normal e' h')
  | tnil {e h} : Ok F X (.tops [] e h [] e h)
  | toff {o os e h tr e' h'} : wants o.guard e = some false → Ok F X (.tops os (putD e o.dst undef) h tr e' h') → Ok F X (.tops (o :: os) e h (⟨e, h, undef, h⟩ :: tr) e' h')
  | top {o os e h v h1 tr e' h'} : wants o.guard e = some true → ev o.op e h = some (v, h1) → Ok F X (.tops os (putD e o.dst v) h1 tr e' h') → Ok F X (.tops (o :: os) e h (⟨e, h, v, h1⟩ :: tr) e' h')
  | tcall {o os e h f args g vs v h1 tr e' h'} : wants o.guard e = some true → o.op = .call f args → callee f args e = some (g, vs) →
      Ok F X (.fn g vs h v h1) → Ok F X (.tops os (putD e o.dst v) h1 tr e' h') → Ok F X (.tops (o :: os) e h (⟨e, h, v, h1⟩ :: tr) e' h')
  | seq {a b e h e1 h1 x e2 h2} : Ok F X (.code a e h .normal e1 h1) → Ok F X (.code b e1 h1 x e2 h2) → Ok F X (.code (.seq a b) e h x e2 h2)
  | seqOut {a b e h x e1 h1} : Ok F X (.code a e h x e1 h1) → x ≠ .normal → Ok F X (.code (.seq a b) e h x e1 h1)
  | condT {c a b e h x e1 h1} : c.ev e = some (.bool true) → Ok F X (.code a e h x e1 h1) → Ok F X (.code (.cond c a b) e h x e1 h1)
  | condF {c a b e h x e1 h1} : c.ev e = some (.bool false) → Ok F X (.code b e h x e1 h1) → Ok F X (.code (.cond c a b) e h x e1 h1)
  | block {id c e h e1 h1} : Ok F X (.code c e h (.exit id) e1 h1) → Ok F X (.code (.block id c) e h .normal e1 h1)
  | blockOut {id c e h x e1 h1} : Ok F X (.code c e h x e1 h1) → x ≠ .exit id → Ok F X (.code (.block id c) e h x e1 h1)
  | loop {c e h e1 h1 x e2 h2} : Ok F X (.code c e h .normal e1 h1) → Ok F X (.code (.loop c) e1 h1 x e2 h2) → Ok F X (.code (.loop c) e h x e2 h2)
  | loopOut {c e h x e1 h1} : Ok F X (.code c e h x e1 h1) → x ≠ .normal → Ok F X (.code (.loop c) e h x e1 h1)
  | nil {e h} : Ok F X (.ops [] e h e h)
  | off {o os e h e' h'} : wants o.guard e = some false → Ok F X (.ops os (putD e o.dst undef) h e' h') → Ok F X (.ops (o :: os) e h e' h')
  | op {o os e h v h1 e' h'} : wants o.guard e = some true → ev o.op e h = some (v, h1) → Ok F X (.ops os (putD e o.dst v) h1 e' h') → Ok F X (.ops (o :: os) e h e' h')
  | call {o os e h f args g vs v h1 e' h'} : wants o.guard e = some true → o.op = .call f args → callee f args e = some (g, vs) →
      Ok F X (.fn g vs h v h1) → Ok F X (.ops os (putD e o.dst v) h1 e' h') → Ok F X (.ops (o :: os) e h e' h')
  | ext {f args v h h'} : X f args h = some (v, h') → Ok F X (.fn f args h v h')
  | fn {f args h r x e' h' vs} : F f = some r → Ok F X (.code r.code (Env.empty.putAll 0 args) h x e' h') → (∀ id, x ≠ .exit id) →
      resAll e' h' r.results = some vs → Ok F X (.fn f args h (resV vs) h')

theorem ok_runOps {F : Funs} {X : Exts} {k : Nat} (ih : ∀ f args h v h', runF F X k f args h = some (v, h') → Ok F X (.fn f args h v h')) :
    ∀ (l : List RO) (e : Env) (h : AH) (e' : Env) (h' : AH), runOps (runF F X k) l e h = some (e', h') → Ok F X (.ops l e h e' h')
  | [], e, h, e', h', hr => by simp only [runOps, Option.some.injEq, Prod.mk.injEq] at hr; obtain ⟨rfl, rfl⟩ := hr; exact .nil
  | o :: os, e, h, e', h', hr => by
    simp only [runOps] at hr
    split at hr
    · rename_i hw; exact .off hw (ok_runOps ih os _ _ _ _ hr)
    · rename_i hw
      split at hr
      · rename_i f args ho
        split at hr
        · rename_i g vs hc
          split at hr
          · rename_i v h1 hg
            exact .call hw ho hc (ih _ _ _ _ _ hg) (ok_runOps ih os _ _ _ _ hr)
          · exact absurd hr (by simp)
        · exact absurd hr (by simp)
      · split at hr
        · rename_i v h1 hv
          exact .op hw hv (ok_runOps ih os _ _ _ _ hr)
        · exact absurd hr (by simp)
    · exact absurd hr (by simp)

theorem ok_runT {F : Funs} {X : Exts} {k : Nat} (ih : ∀ f args h v h', runF F X k f args h = some (v, h') → Ok F X (.fn f args h v h')) :
    ∀ (l : List RO) (e : Env) (h : AH) (tr : List Tr1) (e' : Env) (h' : AH), runT (runF F X k) l e h = some (tr, e', h') → Ok F X (.tops l e h tr e' h')
  | [], e, h, tr, e', h', hr => by simp only [runT, Option.some.injEq, Prod.mk.injEq] at hr; obtain ⟨rfl, rfl, rfl⟩ := hr; exact .tnil
  | o :: os, e, h, tr, e', h', hr => by
    simp only [runT] at hr
    split at hr
    · rename_i hw
      simp only [Option.map_eq_some_iff, Prod.mk.injEq] at hr
      obtain ⟨⟨tr', e1, h1⟩, hr, rfl, rfl, rfl⟩ := hr
      exact .toff hw (ok_runT ih os _ _ _ _ _ hr)
    · rename_i hw
      split at hr
      · rename_i f args ho
        split at hr
        · rename_i g vs hc
          split at hr
          · rename_i v h1 hg
            simp only [Option.map_eq_some_iff, Prod.mk.injEq] at hr
            obtain ⟨⟨tr', e1, h2⟩, hr, rfl, rfl, rfl⟩ := hr
            exact .tcall hw ho hc (ih _ _ _ _ _ hg) (ok_runT ih os _ _ _ _ _ hr)
          · exact absurd hr (by simp)
        · exact absurd hr (by simp)
      · split at hr
        · rename_i v h1 hv
          simp only [Option.map_eq_some_iff, Prod.mk.injEq] at hr
          obtain ⟨⟨tr', e1, h2⟩, hr, rfl, rfl, rfl⟩ := hr
          exact .top hw hv (ok_runT ih os _ _ _ _ _ hr)
        · exact absurd hr (by simp)
    · exact absurd hr (by simp)
theorem ok_exec {F : Funs} {X : Exts} {k : Nat} (ih : ∀ f args h v h', runF F X k f args h = some (v, h') → Ok F X (.fn f args h v h')) :
    ∀ (n : Nat) (c : RCode) (e : Env) (h : AH) (x : Ex) (e' : Env) (h' : AH), exec (runF F X k) n c e h = some (x, e', h') → Ok F X (.code c e h x e' h')
  | 0, _, _, _, _, _, _, hr => absurd hr (by simp [exec])
  | n + 1, c, e, h, x, e', h', hr => by
    have IH := ok_exec ih n
    cases c with
    | skip => simp only [exec, Option.some.injEq, Prod.mk.injEq] at hr; obtain ⟨rfl, rfl, rfl⟩ := hr; exact .skip
    | ret => simp only [exec, Option.some.injEq, Prod.mk.injEq] at hr; obtain ⟨rfl, rfl, rfl⟩ := hr; exact .ret
    | exit id => simp only [exec, Option.some.injEq, Prod.mk.injEq] at hr; obtain ⟨rfl, rfl, rfl⟩ := hr; exact .exit
    | stop => simp only [exec] at hr; cases hr
    | many ops t => simp only [exec] at hr; cases hr
    | region ops =>
      simp only [exec, Option.map_eq_some_iff, Prod.mk.injEq] at hr
      obtain ⟨⟨e1, h1⟩, hr, rfl, rfl, rfl⟩ := hr
      exact .region (ok_runOps ih _ _ _ _ _ hr)
    | drawn ops chk =>
      simp only [exec] at hr
      split at hr
      · rename_i tr e1 h1 ht
        split at hr
        · rename_i hf
          simp only [Option.some.injEq, Prod.mk.injEq] at hr; obtain ⟨rfl, rfl, rfl⟩ := hr
          exact .drawn (ok_runT ih _ _ _ _ _ _ ht) hf
        · exact absurd hr (by simp)
      · exact absurd hr (by simp)
    | seq a b =>
      simp only [exec] at hr
      split at hr
      · rename_i e1 h1 ha; exact .seq (IH _ _ _ _ _ _ ha) (IH _ _ _ _ _ _ hr)
      · rename_i hne
        refine .seqOut (IH _ _ _ _ _ _ hr) ?_
        rintro rfl; exact hne _ _ hr
    | cond c a b =>
      simp only [exec] at hr
      split at hr
      · rename_i hc; exact .condT hc (IH _ _ _ _ _ _ hr)
      · rename_i hc; exact .condF hc (IH _ _ _ _ _ _ hr)
      · exact absurd hr (by simp)
    | block id c =>
      simp only [exec] at hr
      split at hr
      · rename_i j e1 h1 hc
        split at hr
        · rename_i hj
          simp only [Option.some.injEq, Prod.mk.injEq] at hr; obtain ⟨rfl, rfl, rfl⟩ := hr
          subst hj; exact .block (IH _ _ _ _ _ _ hc)
        · rename_i hj
          simp only [Option.some.injEq, Prod.mk.injEq] at hr; obtain ⟨rfl, rfl, rfl⟩ := hr
          exact .blockOut (IH _ _ _ _ _ _ hc) (by intro hx; injection hx with hx; exact hj hx)
      · rename_i hne
        refine .blockOut (IH _ _ _ _ _ _ hr) ?_
        rintro rfl; exact hne _ _ _ hr
    | loop c =>
      simp only [exec] at hr
      split at hr
      · rename_i e1 h1 ha; exact .loop (IH _ _ _ _ _ _ ha) (IH _ _ _ _ _ _ hr)
      · rename_i hne
        refine .loopOut (IH _ _ _ _ _ _ hr) ?_
        rintro rfl; exact hne _ _ hr

/-- What the function with fuel tells is a judgement that holds. -/
theorem ok_runF {F : Funs} {X : Exts} : ∀ (k : Nat) (f : FuncId) (args : List Value) (h : AH) (v : Value) (h' : AH), runF F X k f args h = some (v, h') → Ok F X (.fn f args h v h')
  | 0, _, _, _, _, _, hr => absurd hr (by simp [runF])
  | k + 1, f, args, h, v, h', hr => by
    have ih := ok_runF (F := F) (X := X) k
    simp only [runF] at hr
    split at hr
    · rename_i u hX; simp only [Option.some.injEq] at hr; subst hr; exact .ext hX
    · split at hr
      · exact absurd hr (by simp)
      · rename_i r hF
        split at hr
        · exact absurd hr (by simp)
        · rename_i x e' h1 hne hx
          simp only [Option.map_eq_some_iff, Prod.mk.injEq] at hr
          obtain ⟨vs, hv, rfl, rfl⟩ := hr
          exact .fn hF (ok_exec ih _ _ _ _ _ _ _ hx) (fun id hid => hne id hid) hv
        · exact absurd hr (by simp)
end Go.Proofs.YtpgidiompdabdaaGreat.AM
