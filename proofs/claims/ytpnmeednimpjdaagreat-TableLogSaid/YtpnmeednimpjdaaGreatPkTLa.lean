/- Texts of this repo, laid together. -/
import Derived.Orders
import Derived.Below
import Derived.Laws.Sem
import Derived.Laws.CopyRow
import Derived.Laws.Cells
import Derived.Laws.Entries
import Derived.Laws.NewBlocks
import Derived.MapKept
import Derived.Laws.BytesString
import Derived.Laws.AppendOwn
import Derived.Laws.StructEq
namespace Go.Proofs.YtpnmeednimpjdaaGreat.AM
open Go
inductive Tr (α : Type) where
  | lf
  | nd (l : Tr α) (o : Option α) (r : Tr α)
def Tr.getB {α : Type} : Tr α → List Bool → Option α
  | .lf, _ => none
  | .nd _ o _, [] => o
  | .nd l _ r, b :: bs => match b with | true => r.getB bs | false => l.getB bs
def Tr.setB {α : Type} : Tr α → List Bool → α → Tr α
  | .lf, [], a => .nd .lf (some a) .lf
  | .nd l _ r, [], a => .nd l (some a) r
  | .lf, b :: bs, a => match b with | true => .nd .lf none (Tr.setB .lf bs a) | false => .nd (Tr.setB .lf bs a) none .lf
  | .nd l o r, b :: bs, a => match b with | true => .nd l o (r.setB bs a) | false => .nd (l.setB bs a) o r
def bitsF : Nat → Nat → List Bool
  | 0, _ => []
  | f + 1, n => match n with | 0 => [] | m + 1 => ((m + 1) % 2 == 1) :: bitsF f ((m + 1) / 2)
def bits (n : Nat) : List Bool := bitsF n n
theorem Tr.get_setB_same {α : Type} (a : α) : ∀ (t : Tr α) (bs : List Bool), (t.setB bs a).getB bs = some a
  | .lf, [] => rfl
  | .nd _ _ _, [] => rfl
  | .lf, true :: bs => Tr.get_setB_same a .lf bs
  | .lf, false :: bs => Tr.get_setB_same a .lf bs
  | .nd _ _ r, true :: bs => Tr.get_setB_same a r bs
  | .nd l _ _, false :: bs => Tr.get_setB_same a l bs
theorem Tr.get_lf {α : Type} (bs : List Bool) : (Tr.lf : Tr α).getB bs = none := by cases bs <;> rfl
theorem Tr.get_setB_ne {α : Type} (a : α) : ∀ (bs cs : List Bool) (t : Tr α), bs ≠ cs → (t.setB bs a).getB cs = t.getB cs
  | [], [], _, h => absurd rfl h
  | [], true :: cs, .lf, _ => by rw [Tr.get_lf]; exact Tr.get_lf cs
  | [], false :: cs, .lf, _ => by rw [Tr.get_lf]; exact Tr.get_lf cs
  | [], true :: _, .nd _ _ _, _ => rfl
  | [], false :: _, .nd _ _ _, _ => rfl
  | true :: _, [], .lf, _ => rfl
  | false :: _, [], .lf, _ => rfl
  | true :: _, [], .nd _ _ _, _ => rfl
  | false :: _, [], .nd _ _ _, _ => rfl
  | true :: bs, true :: cs, .lf, h => by rw [Tr.get_lf]; exact (Tr.get_setB_ne a bs cs .lf (fun e => h (by rw [e]))).trans (Tr.get_lf cs)
  | false :: bs, false :: cs, .lf, h => by rw [Tr.get_lf]; exact (Tr.get_setB_ne a bs cs .lf (fun e => h (by rw [e]))).trans (Tr.get_lf cs)
  | true :: _, false :: cs, .lf, _ => by rw [Tr.get_lf]; exact Tr.get_lf cs
  | false :: _, true :: cs, .lf, _ => by rw [Tr.get_lf]; exact Tr.get_lf cs
  | true :: bs, true :: cs, .nd _ _ r, h => Tr.get_setB_ne a bs cs r (fun e => h (by rw [e]))
  | false :: bs, false :: cs, .nd l _ _, h => Tr.get_setB_ne a bs cs l (fun e => h (by rw [e]))
  | true :: _, false :: _, .nd _ _ _, _ => rfl
  | false :: _, true :: _, .nd _ _ _, _ => rfl
def unbits : List Bool → Nat
  | [] => 0
  | b :: bs => (if b then 1 else 0) + 2 * unbits bs
theorem unbits_bitsF : ∀ (f n : Nat), n ≤ f → unbits (bitsF f n) = n
  | 0, n, h => by have : n = 0 := by omega
                  subst this; rfl
  | f + 1, 0, _ => rfl
  | f + 1, m + 1, h => by
    show (if ((m + 1) % 2 == 1) = true then 1 else 0) + 2 * unbits (bitsF f ((m + 1) / 2)) = m + 1
    rw [unbits_bitsF f _ (by omega)]
    by_cases e : (m + 1) % 2 = 1
    · simp [e]; omega
    · simp [e]; omega
theorem bits_inj {n m : Nat} (h : bits n = bits m) : n = m := by
  have := congrArg unbits h
  rwa [bits, bits, unbits_bitsF _ _ (Nat.le_refl _), unbits_bitsF _ _ (Nat.le_refl _)] at this
inductive AObj where
  | row (ro : Bool) (t : TypeId) (c : List Value)
  | map (es : List (Value × Value))
  | iter (s : ByteArray) (pos : Nat)
  | seq (m : Option Nat)
  | dead
structure AH where
  next : Nat
  tr : Tr AObj
def AH.get (h : AH) (i : Nat) : Option AObj := h.tr.getB (bits i)
def AH.put (h : AH) (i : Nat) (o : AObj) : AH := ⟨h.next, h.tr.setB (bits i) o⟩
def AH.push (h : AH) (o : AObj) : AH := ⟨h.next + 1, h.tr.setB (bits h.next) o⟩
def AH.empty : AH := ⟨0, .lf⟩
theorem AH.get_put_same (h : AH) (i : Nat) (o : AObj) : (h.put i o).get i = some o := Tr.get_setB_same _ _ _
theorem AH.get_put_ne (h : AH) {i j : Nat} (o : AObj) (e : i ≠ j) : (h.put i o).get j = h.get j := Tr.get_setB_ne _ _ _ _ (fun x => e (bits_inj x))
theorem AH.get_push_same (h : AH) (o : AObj) : (h.push o).get h.next = some o := Tr.get_setB_same _ _ _
theorem AH.get_push_ne (h : AH) {j : Nat} (o : AObj) (e : h.next ≠ j) : (h.push o).get j = h.get j := Tr.get_setB_ne _ _ _ _ (fun x => e (bits_inj x))
structure Env where
  tr : Tr Value
def Env.get (e : Env) (t : Nat) : Option Value := e.tr.getB (bits t)
def Env.put (e : Env) (t : Nat) (v : Value) : Env := ⟨e.tr.setB (bits t) v⟩
def Env.empty : Env := ⟨.lf⟩
def Env.putAll (e : Env) : Nat → List Value → Env
  | _, [] => e
  | i, v :: vs => (e.put i v).putAll (i + 1) vs
theorem Env.get_put (e : Env) (d t : Nat) (v : Value) : (e.put d v).get t = if d = t then some v else e.get t := by
  by_cases h : d = t
  · subst h; rw [if_pos rfl]; exact Tr.get_setB_same _ _ _
  · rw [if_neg h]; exact Tr.get_setB_ne _ _ _ _ (fun x => h (bits_inj x))
inductive Opd where
  | tmp (t : Nat)
  | const (v : Value)
  | fn (f : FuncId)
inductive SK where
  | i
  | s
  | b
inductive ROp where
  | move (x : Opd)
  | pick (c a b : Opd)
  | new (t : TypeId) (zs : List Value)
  | box (t : TypeId) (x : Opd)
  | build (zs : List Value) (ps : List (Nat × Nat × Opd))
  | lit (t : TypeId) (es len : Nat) (zs : List Value) (ps : List (Nat × Nat × Opd))
  | load (agg : Bool) (n : Nat) (a : Opd)
  | store (n : Nat) (a x : Opd)
  | nilCheck (x : Opd)
  | bin (op : BinOp) (x y : Opd)
  | eqB (neg : Bool) (x y : Opd)
  | eqN (neg : Bool) (kd : Nat) (x y : Opd)
  | eqA (neg : Bool) (ks : List SK) (x y : Opd)
  | un (op : UnOp) (x : Opd)
  | conv (k : IntKind) (x : Opd)
  | strOf (x : Opd)
  | iface (t : TypeId) (x : Opd)
  | assert (t : TypeId) (zero : Value) (x : Opd)
  | mkFunc (f : FuncId) (cs : List Opd)
  | mkMap
  | mkSlice (t : TypeId) (es bytes : Nat) (zs : List Value) (len cap : Opd)
  | cutS (x : Opd) (lo hi : Option Opd)
  | cut (es : Nat) (x : Opd) (lo hi mx : Option Opd)
  | cutA (n es : Nat) (x : Opd) (lo hi mx : Option Opd)
  | fld (off : Nat) (x : Opd)
  | part (agg : Bool) (off n : Nat) (x : Opd)
  | idx (es : Nat) (x i : Opd)
  | idxA (len es : Nat) (x i : Opd)
  | idxS (x i : Opd)
  | idxV (len : Nat) (agg : Bool) (es : Nat) (x i : Opd)
  | look (kd : SK) (zero : Value) (ok : Bool) (m k : Opd)
  | upd (kd : SK) (m k x : Opd)
  | del (kd : SK) (m k : Opd)
  | iter (x : Opd)
  | next (x : Opd)
  | ext (x : Opd) (i : Nat)
  | len (kd : Nat) (x : Opd)
  | app (t : TypeId) (es bytes : Nat) (x y : Opd)
  | copy (es : Nat) (x y : Opd)
  | clear (zs : List Value) (x : Opd)
  | mm (mx : Bool) (xs : List Opd)
  | capN (x : Opd)
  | appZ (t : TypeId) (es bytes : Nat) (x n : Opd)
  | stop
  | call (f : Opd) (args : List Opd)
structure RO where
  dst : Option Nat
  op : ROp
  guard : Option (Nat × Bool)
inductive RTree where
  | leaf
  | q (i : Nat) (t : RTree)
  | r (i : Nat) (t : RTree)
  | m (i : Nat) (dp : List Nat) (t : RTree)
  | alt (a b : RTree)
def inL : List Nat → Nat → Bool
  | [], _ => false
  | k :: l, t => bif Nat.beq k t then true else inL l t
inductive RCode where
  | skip
  | region (ops : List RO)
  | drawn (ops : List RO) (chk : List (Nat × Nat × Bool))
  | many (ops : List RO) (t : RTree)
  | seq (a b : RCode)
  | cond (c : Opd) (a b : RCode)
  | block (id : Nat) (c : RCode)
  | loop (c : RCode)
  | exit (id : Nat)
  | ret
  | stop
structure RFunc where
  n : Nat
  results : List (Nat × Option (Bool × Nat))
  code : RCode
def g0 : Value → Bool
  | .bool _ | .int _ _ | .string _ | .pointer none | .slice none 0 0 | .map none | .nilFunc | .nilIface => true
  | _ => false
def g1 : Value → Bool
  | .agg cs => cs.toList.all g0
  | v => g0 v
def g2 : Value → Bool
  | .tuple vs => vs.toList.all g1
  | v => g1 v
def one : Value → Bool
  | .agg _ | .tuple _ => false
  | _ => true
def cells (v : Value) : List Value := v.cells.toList
def splice (l : List Value) (off : Nat) (vs : List Value) : List Value := l.take off ++ vs ++ l.drop (off + vs.length)
def mkV (agg : Bool) (vs : List Value) : Option Value :=
  match agg, vs with
  | true, vs => some (.agg vs.toArray)
  | false, [v] => some v
  | false, _ => none
section
variable (e : Env) (h : AH)
def Opd.ev : Opd → Option Value
  | .tmp t => e.get t
  | .const v => some v
  | .fn f => some (.func (.func f) #[] #[])
def evs : List Opd → Option (List Value)
  | [] => some []
  | x :: xs => match x.ev e, evs xs with
    | some v, some vs => some (v :: vs)
    | _, _ => none
def fill : List Value → List (Nat × Nat × Opd) → Option (List Value)
  | zs, [] => some zs
  | zs, (off, n, x) :: ps => match x.ev e with
    | some v => if (cells v).length = n ∧ off + n ≤ zs.length then fill (splice zs off (cells v)) ps else none
    | none => none
end
def intBin (op : BinOp) (k : IntKind) (a b : Int) : Option Value :=
  match op with
  | .add => some (.int k (k.wrap (a + b)))
  | .sub => some (.int k (k.wrap (a - b)))
  | .mul => some (.int k (k.wrap (a * b)))
  | .quo => if b = 0 then none else some (.int k (k.wrap (a.tdiv b)))
  | .rem => if b = 0 then none else some (.int k (a.tmod b))
  | .and => some (.int k (k.wrap (BitVec.ofInt k.bits a &&& BitVec.ofInt k.bits b).toNat))
  | .or => some (.int k (k.wrap (BitVec.ofInt k.bits a ||| BitVec.ofInt k.bits b).toNat))
  | .xor => some (.int k (k.wrap (BitVec.ofInt k.bits a ^^^ BitVec.ofInt k.bits b).toNat))
  | .andNot => some (.int k (k.wrap (BitVec.ofInt k.bits a &&& ~~~ BitVec.ofInt k.bits b).toNat))
  | .eql => some (.bool (a == b))
  | .neq => some (.bool (a != b))
  | .lss => some (.bool (a < b))
  | .leq => some (.bool (a ≤ b))
  | .gtr => some (.bool (a > b))
  | .geq => some (.bool (a ≥ b))
  | _ => none
def strBin (op : BinOp) (x y : ByteArray) : Option Value :=
  match op with
  | .add => if x.size + y.size ≤ 9223372036854775807 then some (.string (x ++ y)) else none
  | .eql => some (.bool (x.toList == y.toList))
  | .neq => some (.bool (!(x.toList == y.toList)))
  | .lss => some (.bool (Op.bytesLess x.toList y.toList))
  | .leq => some (.bool (Op.bytesLess x.toList y.toList || x.toList == y.toList))
  | .gtr => some (.bool (!(Op.bytesLess x.toList y.toList || x.toList == y.toList)))
  | .geq => some (.bool (!Op.bytesLess x.toList y.toList))
  | _ => none
def binV (op : BinOp) (x y : Value) : Option Value :=
  match x, y with
  | .int k a, .int k' b =>
    match op with
    | .shl => if b < 0 then none else some (.int k (k.wrap (a * 2 ^ min b.toNat k.bits)))
    | .shr => if b < 0 then none else some (.int k (a.fdiv (2 ^ min b.toNat k.bits)))
    | _ => if k = k' then intBin op k a b else none
  | .string a, .string b => strBin op a b
  | _, _ => none
def isNil : Nat → Value → Option Bool
  | 0, .pointer a => some a.isNone
  | 1, .slice a _ _ => some a.isNone
  | 2, .map a => some a.isNone
  | 3, .nilFunc => some true
  | 3, .func _ _ _ => some false
  | _, _ => none
def eqNil (kd : Nat) (x y : Value) : Option Bool :=
  match isNil kd x, isNil kd y with
  | some true, some b => some b
  | some b, some true => some b
  | _, _ => none
def kEq1 : SK → Value → Value → Option Bool
  | .i, .int k a, .int k' b => if k = k' then some (a == b) else none
  | .s, .string a, .string b => some (a == b)
  | .b, .bool a, .bool b => some (a == b)
  | _, _, _ => none
def kEq : List SK → List Value → List Value → Option Bool
  | [], [], [] => some true
  | k :: ks, x :: xs, y :: ys => match kEq1 k x y with
    | some true => kEq ks xs ys
    | some false => some false
    | none => none
  | _, _, _ => none
def unV (op : UnOp) (x : Value) : Option Value :=
  match op, x with
  | .neg, .int k n => some (.int k (k.wrap (0 - n)))
  | .xor, .int k n => some (.int k (k.wrap (BitVec.ofInt k.bits (if k.signed then -1 else k.max) ^^^ BitVec.ofInt k.bits n).toNat))
  | .not, .bool b => some (.bool (!b))
  | _, _ => none
def asN : Value → Option Nat
  | .int _ n => if 0 ≤ n then some n.toNat else none
  | _ => none
def rowAt (h : AH) (i : Nat) : Option (Bool × TypeId × List Value) :=
  if i < h.next then (match h.get i with
    | some (.row ro t c) => some (ro, t, c)
    | _ => none) else none
def mapAt (h : AH) (i : Nat) : Option (List (Value × Value)) :=
  if i < h.next then (match h.get i with
    | some (.map es) => some es
    | _ => none) else none
def bytesIn : List Value → Option (List UInt8)
  | [] => some []
  | .int .u8 n :: vs => (bytesIn vs).map (UInt8.ofNat n.toNat :: ·)
  | _ => none
def firstOf (h : AH) (es n : Nat) : Value → Option (List Value)
  | .slice none 0 0 => if n = 0 then some [] else none
  | .slice (some ⟨i, off, none⟩) len s =>
    if s = es ∧ n ≤ len then
      match rowAt h i with
      | some (_, _, c) => if off + n * es ≤ c.length then some ((c.drop off).take (n * es)) else none
      | none => if n = 0 ∧ i < h.next then some [] else none
    else none
  | .string s => if es = 1 ∧ n ≤ s.size then some ((s.data.toList.take n).map fun b => .int .u8 b.toNat) else none
  | _ => none
def lenV : Value → Option Nat
  | .slice _ n _ => some n
  | .string s => some s.size
  | _ => none
def bound (e : Env) (x : Option Opd) (dflt : Nat) : Option Nat :=
  match x with
  | none => some dflt
  | some o => match o.ev e with
    | some v => asN v
    | none => none
def mmV (mx : Bool) : Value → List Value → Option Value
  | v, [] => some v
  | .int k x, .int _ y :: vs => mmV mx (.int k (if mx then (if y > x then y else x) else (if y < x then y else x))) vs
  | _, _ => none
def mFind (kd : SK) (k : Value) : List (Value × Value) → Option (Option Value)
  | [] => some none
  | (k', v) :: es => match kEq1 kd k k' with
    | some true => some (some v)
    | some false => mFind kd k es
    | none => none
def mSet (kd : SK) (k v : Value) : List (Value × Value) → List (Value × Value)
  | [] => [(k, v)]
  | (k', v') :: es => match kEq1 kd k k' with
    | some true => (k, v) :: es
    | _ => (k', v') :: mSet kd k v es
def mDel (kd : SK) (k : Value) : List (Value × Value) → List (Value × Value)
  | [] => []
  | (k', v') :: es => match kEq1 kd k k' with
    | some true => es
    | _ => (k', v') :: mDel kd k es
def ev (op : ROp) (e : Env) (h : AH) : Option (Value × AH) :=
  match op with
  | .move x => (x.ev e).map (·, h)
  | .pick c a b => match c.ev e with
    | some (.bool true) => (a.ev e).map (·, h)
    | some (.bool false) => (b.ev e).map (·, h)
    | _ => none
  | .new t zs => some (.pointer (some ⟨h.next, 0, none⟩), h.push (.row false t zs))
  | .box t x => match x.ev e with
    | some v => if (cells v).all one = true then some (.pointer (some ⟨h.next, 0, none⟩), h.push (.row false t (cells v))) else none
    | none => none
  | .build zs ps => (fill e zs ps).map fun vs => (.agg vs.toArray, h)
  | .lit t es len zs ps => match fill e zs ps with
    | some vs => if vs.all one = true then some (.slice (some ⟨h.next, 0, none⟩) len es, h.push (.row false t vs)) else none
    | none => none
  | .load agg n a => match a.ev e with
    | some (.pointer (some ⟨i, off, none⟩)) => match rowAt h i with
      | some (_, _, c) => if off + n ≤ c.length then (mkV agg ((c.drop off).take n)).map (·, h) else none
      | none => none
    | _ => none
  | .store n a x => match a.ev e, x.ev e with
    | some (.pointer (some ⟨i, off, none⟩)), some v => match rowAt h i with
      | some (false, t, c) => if (cells v).length = n ∧ off + n ≤ c.length ∧ (cells v).all one = true then some (undef, h.put i (.row false t (splice c off (cells v)))) else none
      | _ => none
    | _, _ => none
  | .nilCheck x => match x.ev e with
    | some (.pointer (some a)) => some (.pointer (some a), h)
    | _ => none
  | .bin op x y => match x.ev e, y.ev e with
    | some a, some b => (binV op a b).map (·, h)
    | _, _ => none
  | .eqB neg x y => match x.ev e, y.ev e with
    | some (.bool a), some (.bool b) => some (.bool (if neg then !(a == b) else a == b), h)
    | _, _ => none
  | .eqN neg kd x y => match x.ev e, y.ev e with
    | some a, some b => (eqNil kd a b).map fun r => (.bool (if neg then !r else r), h)
    | _, _ => none
  | .eqA neg ks x y => match x.ev e, y.ev e with
    | some (.agg a), some (.agg b) => if a.size = ks.length ∧ b.size = ks.length then (kEq ks a.toList b.toList).map fun r => (.bool (if neg then !r else r), h) else none
    | _, _ => none
  | .un op x => match x.ev e with
    | some a => (unV op a).map (·, h)
    | none => none
  | .conv k x => match x.ev e with
    | some (.int _ n) => some (.int k (k.wrap n), h)
    | _ => none
  | .strOf x => match x.ev e with
    | some (.slice a len s) => match firstOf h 1 len (.slice a len s) with
      | some vs => (bytesIn vs).map fun l => (.string ⟨l.toArray⟩, h)
      | none => none
    | _ => none
  | .iface t x => (x.ev e).map fun v => (.iface t v, h)
  | .assert t zero x => match x.ev e with
    | some (.iface u v) => some (.tuple (if u = t then #[v, .bool true] else #[zero, .bool false]), h)
    | some .nilIface => some (.tuple #[zero, .bool false], h)
    | _ => none
  | .mkFunc f cs => (evs e cs).map fun vs => (.func (.func f) #[] vs.toArray, h)
  | .mkMap => some (.map (some h.next), h.push (.map []))
  | .mkSlice t es bytes zs len cap => match len.ev e, cap.ev e with
    | some (.int .i64 l), some (.int .i64 c) =>
      if 0 ≤ l ∧ l ≤ c ∧ c * bytes ≤ 140737488355328 then some (.slice (some ⟨h.next, 0, none⟩) l.toNat es, h.push (.row false t (List.replicate l.toNat zs).flatten)) else none
    | _, _ => none
  | .cutS x lo hi => match x.ev e with
    | some (.string s) => match bound e lo 0, bound e hi s.size with
      | some l, some r => if l ≤ r ∧ r ≤ s.size then some (.string (s.extract l r), h) else none
      | _, _ => none
    | _ => none
  | .cut es x lo hi mx => match x.ev e with
    | some (.slice none 0 0) => match bound e lo 0, bound e hi 0, bound e mx 0 with
      | some 0, some 0, some 0 => some (.slice none 0 0, h)
      | _, _, _ => none
    | some (.slice (some ⟨i, off, none⟩) len s) => match bound e lo 0, bound e hi len, bound e mx len with
      | some l, some r, some m => if s = es ∧ l ≤ r ∧ r ≤ m ∧ m ≤ len then some (.slice (some ⟨i, off + l * es, none⟩) (r - l) es, h) else none
      | _, _, _ => none
    | _ => none
  | .cutA n es x lo hi mx => match x.ev e with
    | some (.pointer (some ⟨i, off, none⟩)) => match rowAt h i, bound e lo 0, bound e hi n, bound e mx n with
      | some (_, _, c), some l, some r, some m => if off + n * es ≤ c.length ∧ l ≤ r ∧ r ≤ m ∧ m ≤ n then some (.slice (some ⟨i, off + l * es, none⟩) (r - l) es, h) else none
      | _, _, _, _ => none
    | _ => none
  | .fld off x => match x.ev e with
    | some (.pointer (some ⟨i, o, none⟩)) => some (.pointer (some ⟨i, o + off, none⟩), h)
    | _ => none
  | .part agg off n x => match x.ev e with
    | some (.agg cs) => if off + n ≤ cs.size then (mkV agg ((cs.toList.drop off).take n)).map (·, h) else none
    | _ => none
  | .idx es x i => match x.ev e, i.ev e with
    | some (.slice (some ⟨b, off, none⟩) len _), some (.int _ j) => if 0 ≤ j ∧ j < len then some (.pointer (some ⟨b, off + j.toNat * es, none⟩), h) else none
    | _, _ => none
  | .idxA len es x i => match x.ev e, i.ev e with
    | some (.pointer (some ⟨b, off, none⟩)), some (.int _ j) => if 0 ≤ j ∧ j < len then some (.pointer (some ⟨b, off + j.toNat * es, none⟩), h) else none
    | _, _ => none
  | .idxS x i => match x.ev e, i.ev e with
    | some (.string s), some (.int _ j) => if 0 ≤ j then (s.data.toList[j.toNat]?).map fun b => (.int .u8 b.toNat, h) else none
    | _, _ => none
  | .idxV len agg es x i => match x.ev e, i.ev e with
    | some (.agg cs), some (.int _ j) => if 0 ≤ j ∧ j < len ∧ j.toNat * es + es ≤ cs.size then (mkV agg ((cs.toList.drop (j.toNat * es)).take es)).map (·, h) else none
    | _, _ => none
  | .look kd zero ok m k => match m.ev e, k.ev e with
    | some (.map none), some kv => (kEq1 kd kv kv).map fun _ => (if ok then .tuple #[zero, .bool false] else zero, h)
    | some (.map (some i)), some kv => match mapAt h i with
      | some es => match kEq1 kd kv kv, mFind kd kv es with
        | some _, some (some v) => some (if ok then .tuple #[v, .bool true] else v, h)
        | some _, some none => some (if ok then .tuple #[zero, .bool false] else zero, h)
        | _, _ => none
      | none => none
    | _, _ => none
  | .upd kd m k x => match m.ev e, k.ev e, x.ev e with
    | some (.map (some i)), some kv, some v => match mapAt h i with
      | some es => match kEq1 kd kv kv, mFind kd kv es with
        | some _, some _ => some (undef, h.put i (.map (mSet kd kv v es)))
        | _, _ => none
      | none => none
    | _, _, _ => none
  | .del kd m k => match m.ev e, k.ev e with
    | some (.map (some i)), some kv => match mapAt h i with
      | some es => match kEq1 kd kv kv, mFind kd kv es with
        | some _, some _ => some (.tuple #[], h.put i (.map (mDel kd kv es)))
        | _, _ => none
      | none => none
    | _, _ => none
  | .iter x => match x.ev e with
    | some (.string s) => some (.pointer (some ⟨h.next, 0, none⟩), h.push (.iter s 0))
    | _ => none
  | .next x => match x.ev e with
    | some (.pointer (some ⟨i, 0, none⟩)) => match h.get i with
      | some (.iter s pos) =>
        if pos < s.size then some (.tuple #[.bool true, .int .i64 pos, .int .i32 (Utf8.decode s pos).1], h.put i (.iter s (pos + (Utf8.decode s pos).2)))
        else some (.tuple #[.bool false], h)
      | _ => none
    | _ => none
  | .ext x i => match x.ev e with
    | some (.tuple vs) => (vs.toList[i]?).map (·, h)
    | _ => none
  | .len kd x => match kd, x.ev e with
    | 0, some (.string s) => some (.int .i64 s.size, h)
    | 1, some (.slice _ n _) => some (.int .i64 n, h)
    | 2, some (.map none) => some (.int .i64 0, h)
    | 2, some (.map (some i)) => (mapAt h i).map fun es => (.int .i64 es.length, h)
    | _, _ => none
  | .app t es bytes x y => match x.ev e, y.ev e with
    | some s, some v => match lenV v with
      | some n =>
        if n = 0 then (match s with | .slice none 0 0 | .slice (some _) _ _ => some (s, h) | _ => none) else
        match firstOf h es n v with
        | none => none
        | some new => match s with
          | .slice none 0 0 => if n * bytes ≤ 140737488355328 then some (.slice (some ⟨h.next, 0, none⟩) n es, h.push (.row false t new)) else none
          | .slice (some ⟨i, off, none⟩) len s' => match rowAt h i with
            | some (false, t', c) =>
              if s' = es ∧ t' = t ∧ off + len * es ≤ c.length ∧ (len + n) * bytes ≤ 140737488355328 then
                some (.slice (some ⟨h.next, 0, none⟩) (len + n) es, (h.put i .dead).push (.row false t ((c.drop off).take (len * es) ++ new)))
              else none
            | _ => none
          | _ => none
      | none => none
    | _, _ => none
  | .copy es x y => match x.ev e, y.ev e with
    | some (.slice none 0 0), some v => (lenV v).map fun _ => (.int .i64 0, h)
    | some (.slice (some ⟨i, off, none⟩) len s'), some v => match lenV v with
      | some m => if min m len = 0 then some (.int .i64 0, h) else
        match firstOf h es (min m len) v, rowAt h i with
        | some new, some (false, t, c) =>
          if s' = es ∧ off + min m len * es ≤ c.length then some (.int .i64 (min m len : Nat), h.put i (.row false t (splice c off new))) else none
        | _, _ => none
      | none => none
    | _, _ => none
  | .clear zs x => match x.ev e with
    | some (.slice none 0 0) => some (.tuple #[], h)
    | some (.slice (some ⟨i, off, none⟩) len s') => if len = 0 then some (.tuple #[], h) else
      match rowAt h i with
      | some (false, t, c) => if s' = zs.length ∧ off + len * zs.length ≤ c.length then some (.tuple #[], h.put i (.row false t (splice c off (List.replicate len zs).flatten))) else none
      | _ => none
    | _ => none
  | .mm mx xs => match evs e xs with
    | some (v :: vs) => (mmV mx v vs).map (·, h)
    | _ => none
  | .capN x => match x.ev e with
    | some (.slice none 0 0) => some (.int .i64 0, h)
    | _ => none
  | .appZ t es bytes x n => match x.ev e, n.ev e with
    | some (.slice none 0 0), some (.int .i64 k) => if 0 < k ∧ k * bytes ≤ 140737488355328 then some (.slice (some ⟨h.next, 0, none⟩) k.toNat es, h.push (.row false t [])) else none
    | _, _ => none
  | .stop => none
  | .call _ _ => none
inductive Ex where
  | normal
  | exit (id : Nat)
  | ret
def putD (e : Env) (d : Option Nat) (v : Value) : Env :=
  match d with
  | some t => e.put t v
  | none => e
def wants (g : Option (Nat × Bool)) (e : Env) : Option Bool :=
  match g with
  | none => some true
  | some (t, b) => match e.get t with
    | some (.bool x) => some (x == b)
    | some (.tuple _) => some false
    | _ => none
def callee (f : Opd) (args : List Opd) (e : Env) : Option (FuncId × List Value) :=
  match f.ev e, evs e args with
  | some (.func (.func g) first cs), some vs => if first.size = 0 then some (g, vs ++ cs.toList) else none
  | _, _ => none
def resOne (e : Env) (h : AH) : Nat × Option (Bool × Nat) → Option Value
  | (t, none) => e.get t
  | (t, some (agg, n)) => (ev (.load agg n (.tmp t)) e h).map (·.1)
def resAll (e : Env) (h : AH) : List (Nat × Option (Bool × Nat)) → Option (List Value)
  | [] => some []
  | r :: rs => match resOne e h r, resAll e h rs with
    | some v, some vs => some (v :: vs)
    | _, _ => none
def resV (l : List Value) : Value :=
  match l with
  | [v] => v
  | l => .tuple l.toArray
structure Tr1 where
  env : Env
  hb : AH
  v : Value
  ha : AH
def eqV0 : Value → Value → Bool
  | .bool a, .bool b => a == b
  | .int k a, .int k' b => decide (k = k') && a == b
  | .string a, .string b => decide (a.data.toList = b.data.toList)
  | .pointer none, .pointer none => true
  | .pointer (some ⟨i, o, none⟩), .pointer (some ⟨j, p, none⟩) => decide (i = j) && decide (o = p)
  | .slice none n c, .slice none m d => decide (n = m) && decide (c = d)
  | .slice (some ⟨i, o, none⟩) n c, .slice (some ⟨j, p, none⟩) m d => decide (i = j) && decide (o = p) && decide (n = m) && decide (c = d)
  | .map a, .map b => decide (a = b)
  | _, _ => false
def eqVs : List Value → List Value → Bool
  | [], [] => true
  | a :: as, b :: bs => eqV0 a b && eqVs as bs
  | _, _ => false
def eqV : Value → Value → Bool
  | .agg a, .agg b => eqVs a.toList b.toList
  | .tuple a, .tuple b => eqVs a.toList b.toList
  | a, b => eqV0 a b
theorem eqV0_eq {a b : Value} (h : eqV0 a b = true) : a = b := by
  unfold eqV0 at h
  split at h <;> simp_all
  exact ByteArray.ext h
theorem eqVs_eq : ∀ {a b : List Value}, eqVs a b = true → a = b
  | [], [], _ => rfl
  | a :: as, b :: bs, h => by
    simp only [eqVs, Bool.and_eq_true] at h
    rw [eqV0_eq h.1, eqVs_eq h.2]
  | [], _ :: _, h => by simp [eqVs] at h
  | _ :: _, [], h => by simp [eqVs] at h
theorem eqV_eq {a b : Value} (h : eqV a b = true) : a = b := by
  unfold eqV at h
  split at h
  · rename_i x y; rw [Array.ext' (eqVs_eq h)]
  · rename_i x y; rw [Array.ext' (eqVs_eq h)]
  · exact eqV0_eq h
def reread (o : RO) (t : Tr1) (h : AH) : Bool :=
  match wants o.guard t.env with
  | some false => true
  | some true => (match ev o.op t.env h with
    | some (v, _) => eqV v t.v
    | none => false)
  | none => false
def frame1 (l : List RO) (tr : List Tr1) (p : Nat × Nat × Bool) : Bool :=
  match l[p.1]?, tr[p.1]?, l[p.2.1]?, tr[p.2.1]? with
  | some q, some tq, some r, some t => if p.2.2 = true then reread r t tq.hb else reread q tq t.ha
  | _, _, _, _ => false
section
variable (call : FuncId → List Value → AH → Option (Value × AH))
def runT : List RO → Env → AH → Option (List Tr1 × Env × AH)
  | [], e, h => some ([], e, h)
  | o :: os, e, h => match wants o.guard e with
    | some false => (runT os (putD e o.dst undef) h).map fun r => (⟨e, h, undef, h⟩ :: r.1, r.2)
    | some true => match o.op with
      | .call f args => match callee f args e with
        | some (g, vs) => match call g vs h with
          | some (v, h') => (runT os (putD e o.dst v) h').map fun r => (⟨e, h, v, h'⟩ :: r.1, r.2)
          | none => none
        | none => none
      | op => match ev op e h with
        | some (v, h') => (runT os (putD e o.dst v) h').map fun r => (⟨e, h, v, h'⟩ :: r.1, r.2)
        | none => none
    | none => none
def runOps : List RO → Env → AH → Option (Env × AH)
  | [], e, h => some (e, h)
  | o :: os, e, h => match wants o.guard e with
    | some false => runOps os (putD e o.dst undef) h
    | some true => match o.op with
      | .call f args => match callee f args e with
        | some (g, vs) => match call g vs h with
          | some (v, h') => runOps os (putD e o.dst v) h'
          | none => none
        | none => none
      | op => match ev op e h with
        | some (v, h') => runOps os (putD e o.dst v) h'
        | none => none
    | none => none
def exec : Nat → RCode → Env → AH → Option (Ex × Env × AH)
  | 0, _, _, _ => none
  | n + 1, c, e, h => match c with
    | .skip => some (.normal, e, h)
    | .region ops => (runOps call ops e h).map fun r => (.normal, r.1, r.2)
    | .drawn ops chk => match runT call ops e h with
      | some (tr, e', h') => if chk.all (frame1 ops tr) = true then some (.normal, e', h') else none
      | none => none
    | .seq a b => match exec n a e h with
      | some (.normal, e', h') => exec n b e' h'
      | r => r
    | .cond c a b => match c.ev e with
      | some (.bool true) => exec n a e h
      | some (.bool false) => exec n b e h
      | _ => none
    | .block id c => match exec n c e h with
      | some (.exit j, e', h') => if j = id then some (.normal, e', h') else some (.exit j, e', h')
      | r => r
    | .loop c => match exec n c e h with
      | some (.normal, e', h') => exec n (.loop c) e' h'
      | r => r
    | .exit id => some (.exit id, e, h)
    | .ret => some (.ret, e, h)
    | .stop => none
    | .many _ _ => none
end
abbrev Funs := FuncId → Option RFunc
abbrev Exts := FuncId → List Value → AH → Option (Value × AH)
def runF (F : Funs) (X : Exts) : Nat → FuncId → List Value → AH → Option (Value × AH)
  | 0, _, _, _ => none
  | k + 1, f, args, h =>
    match X f args h with
    | some r => some r
    | none => match F f with
      | none => none
      | some r => match exec (runF F X k) k r.code (Env.empty.putAll 0 args) h with
        | some (.exit _, _, _) => none
        | some (_, e, h') => (resAll e h' r.results).map fun vs => (resV vs, h')
        | none => none
inductive J where
  | code (c : RCode) (e : Env) (h : AH) (x : Ex) (e' : Env) (h' : AH)
  | ops (l : List RO) (e : Env) (h : AH) (e' : Env) (h' : AH)
  | tops (l : List RO) (e : Env) (h : AH) (tr : List Tr1) (e' : Env) (h' : AH)
  | fn (f : FuncId) (args : List Value) (h : AH) (v : Value) (h' : AH)
def ROp.isCall : ROp → Bool
  | .call _ _ => true
  | _ => false
inductive Ok (F : Funs) (X : Exts) : J → Prop where
  | skip {e h} : Ok F X (.code .skip e h .normal e h)
  | ret {e h} : Ok F X (.code .ret e h .ret e h)
  | exit {id e h} : Ok F X (.code (.exit id) e h (.exit id) e h)
  | region {l e h e' h'} : Ok F X (.ops l e h e' h') → Ok F X (.code (.region l) e h .normal e' h')
  | drawn {l chk e h tr e' h'} : Ok F X (.tops l e h tr e' h') → chk.all (frame1 l tr) = true → Ok F X (.code (.drawn l chk) e h .normal e' h')
  | tnil {e h} : Ok F X (.tops [] e h [] e h)
  | toff {o os e h tr e' h'} : wants o.guard e = some false → Ok F X (.tops os (putD e o.dst undef) h tr e' h') → Ok F X (.tops (o :: os) e h (⟨e, h, undef, h⟩ :: tr) e' h')
  | top {o os e h v h1 tr e' h'} : wants o.guard e = some true → ev o.op e h = some (v, h1) → Ok F X (.tops os (putD e o.dst v) h1 tr e' h') → Ok F X (.tops (o :: os) e h (⟨e, h, v, h1⟩ :: tr) e' h')
  | tcall {o os e h f args g vs v h1 tr e' h'} : wants o.guard e = some true → o.op = .call f args → callee f args e = some (g, vs) →
      Ok F X (.fn g vs h v h1) → Ok F X (.tops os (putD e o.dst v) h1 tr e' h') → Ok F X (.tops (o :: os) e h (⟨e, h, v, h1⟩ :: tr) e' h')
  | seq {a b e h e1 h1 x e2 h2} : Ok F X (.code a e h .normal e1 h1) → Ok F X (.code b e1 h1 x e2 h2) → Ok F X (.code (.seq a b) e h x e2 h2)
  | seqOut {a b e h x e1 h1} : Ok F X (.code a e h x e1 h1) → x ≠ .normal → Ok F X (.code (.seq a b) e h x e1 h1)
  | condT {c a b e h x e1 h1} : c.ev e = some (.bool true) → Ok F X (.code a e h x e1 h1) → Ok F X (.code (.cond c a b) e h x e1 h1)
  | condF {c a b e h x e1 h1} : c.ev e = some (.bool false) → Ok F X (.code b e h x e1 h1) → Ok F X (.code (.cond c a b) e h x e1 h1)
  | block {id c e h e1 h1} : Ok F X (.code c e h (.exit id) e1 h1) → Ok F X (.code (.block id c) e h .normal e1 h1)
  | blockOut {id c e h x e1 h1} : Ok F X (.code c e h x e1 h1) → x ≠ .exit id → Ok F X (.code (.block id c) e h x e1 h1)
  | loop {c e h e1 h1 x e2 h2} : Ok F X (.code c e h .normal e1 h1) → Ok F X (.code (.loop c) e1 h1 x e2 h2) → Ok F X (.code (.loop c) e h x e2 h2)
  | loopOut {c e h x e1 h1} : Ok F X (.code c e h x e1 h1) → x ≠ .normal → Ok F X (.code (.loop c) e h x e1 h1)
  | nil {e h} : Ok F X (.ops [] e h e h)
  | off {o os e h e' h'} : wants o.guard e = some false → Ok F X (.ops os (putD e o.dst undef) h e' h') → Ok F X (.ops (o :: os) e h e' h')
  | op {o os e h v h1 e' h'} : wants o.guard e = some true → ev o.op e h = some (v, h1) → Ok F X (.ops os (putD e o.dst v) h1 e' h') → Ok F X (.ops (o :: os) e h e' h')
  | call {o os e h f args g vs v h1 e' h'} : wants o.guard e = some true → o.op = .call f args → callee f args e = some (g, vs) →
      Ok F X (.fn g vs h v h1) → Ok F X (.ops os (putD e o.dst v) h1 e' h') → Ok F X (.ops (o :: os) e h e' h')
  | ext {f args v h h'} : X f args h = some (v, h') → Ok F X (.fn f args h v h')
  | fn {f args h r x e' h' vs} : F f = some r → Ok F X (.code r.code (Env.empty.putAll 0 args) h x e' h') → (∀ id, x ≠ .exit id) →
      resAll e' h' r.results = some vs → Ok F X (.fn f args h (resV vs) h')
theorem ok_runOps {F : Funs} {X : Exts} {k : Nat} (ih : ∀ f args h v h', runF F X k f args h = some (v, h') → Ok F X (.fn f args h v h')) :
    ∀ (l : List RO) (e : Env) (h : AH) (e' : Env) (h' : AH), runOps (runF F X k) l e h = some (e', h') → Ok F X (.ops l e h e' h')
  | [], e, h, e', h', hr => by simp only [runOps, Option.some.injEq, Prod.mk.injEq] at hr; obtain ⟨rfl, rfl⟩ := hr; exact .nil
  | o :: os, e, h, e', h', hr => by
    simp only [runOps] at hr
    split at hr
    · rename_i hw; exact .off hw (ok_runOps ih os _ _ _ _ hr)
    · rename_i hw
      split at hr
      · rename_i f args ho
        split at hr
        · rename_i g vs hc
          split at hr
          · rename_i v h1 hg
            exact .call hw ho hc (ih _ _ _ _ _ hg) (ok_runOps ih os _ _ _ _ hr)
          · exact absurd hr (by simp)
        · exact absurd hr (by simp)
      · split at hr
        · rename_i v h1 hv
          exact .op hw hv (ok_runOps ih os _ _ _ _ hr)
        · exact absurd hr (by simp)
    · exact absurd hr (by simp)
theorem ok_runT {F : Funs} {X : Exts} {k : Nat} (ih : ∀ f args h v h', runF F X k f args h = some (v, h') → Ok F X (.fn f args h v h')) :
    ∀ (l : List RO) (e : Env) (h : AH) (tr : List Tr1) (e' : Env) (h' : AH), runT (runF F X k) l e h = some (tr, e', h') → Ok F X (.tops l e h tr e' h')
  | [], e, h, tr, e', h', hr => by simp only [runT, Option.some.injEq, Prod.mk.injEq] at hr; obtain ⟨rfl, rfl, rfl⟩ := hr; exact .tnil
  | o :: os, e, h, tr, e', h', hr => by
    simp only [runT] at hr
    split at hr
    · rename_i hw
      simp only [Option.map_eq_some_iff, Prod.mk.injEq] at hr
      obtain ⟨⟨tr', e1, h1⟩, hr, rfl, rfl, rfl⟩ := hr
      exact .toff hw (ok_runT ih os _ _ _ _ _ hr)
    · rename_i hw
      split at hr
      · rename_i f args ho
        split at hr
        · rename_i g vs hc
          split at hr
          · rename_i v h1 hg
            simp only [Option.map_eq_some_iff, Prod.mk.injEq] at hr
            obtain ⟨⟨tr', e1, h2⟩, hr, rfl, rfl, rfl⟩ := hr
            exact .tcall hw ho hc (ih _ _ _ _ _ hg) (ok_runT ih os _ _ _ _ _ hr)
          · exact absurd hr (by simp)
        · exact absurd hr (by simp)
      · split at hr
        · rename_i v h1 hv
          simp only [Option.map_eq_some_iff, Prod.mk.injEq] at hr
          obtain ⟨⟨tr', e1, h2⟩, hr, rfl, rfl, rfl⟩ := hr
          exact .top hw hv (ok_runT ih os _ _ _ _ _ hr)
        · exact absurd hr (by simp)
    · exact absurd hr (by simp)
theorem ok_exec {F : Funs} {X : Exts} {k : Nat} (ih : ∀ f args h v h', runF F X k f args h = some (v, h') → Ok F X (.fn f args h v h')) :
    ∀ (n : Nat) (c : RCode) (e : Env) (h : AH) (x : Ex) (e' : Env) (h' : AH), exec (runF F X k) n c e h = some (x, e', h') → Ok F X (.code c e h x e' h')
  | 0, _, _, _, _, _, _, hr => absurd hr (by simp [exec])
  | n + 1, c, e, h, x, e', h', hr => by
    have IH := ok_exec ih n
    cases c with
    | skip => simp only [exec, Option.some.injEq, Prod.mk.injEq] at hr; obtain ⟨rfl, rfl, rfl⟩ := hr; exact .skip
    | ret => simp only [exec, Option.some.injEq, Prod.mk.injEq] at hr; obtain ⟨rfl, rfl, rfl⟩ := hr; exact .ret
    | exit id => simp only [exec, Option.some.injEq, Prod.mk.injEq] at hr; obtain ⟨rfl, rfl, rfl⟩ := hr; exact .exit
    | stop => simp only [exec] at hr; cases hr
    | many ops t => simp only [exec] at hr; cases hr
    | region ops =>
      simp only [exec, Option.map_eq_some_iff, Prod.mk.injEq] at hr
      obtain ⟨⟨e1, h1⟩, hr, rfl, rfl, rfl⟩ := hr
      exact .region (ok_runOps ih _ _ _ _ _ hr)
    | drawn ops chk =>
      simp only [exec] at hr
      split at hr
      · rename_i tr e1 h1 ht
        split at hr
        · rename_i hf
          simp only [Option.some.injEq, Prod.mk.injEq] at hr; obtain ⟨rfl, rfl, rfl⟩ := hr
          exact .drawn (ok_runT ih _ _ _ _ _ _ ht) hf
        · exact absurd hr (by simp)
      · exact absurd hr (by simp)
    | seq a b =>
      simp only [exec] at hr
      split at hr
      · rename_i e1 h1 ha; exact .seq (IH _ _ _ _ _ _ ha) (IH _ _ _ _ _ _ hr)
      · rename_i hne
        refine .seqOut (IH _ _ _ _ _ _ hr) ?_
        rintro rfl; exact hne _ _ hr
    | cond c a b =>
      simp only [exec] at hr
      split at hr
      · rename_i hc; exact .condT hc (IH _ _ _ _ _ _ hr)
      · rename_i hc; exact .condF hc (IH _ _ _ _ _ _ hr)
      · exact absurd hr (by simp)
    | block id c =>
      simp only [exec] at hr
      split at hr
      · rename_i j e1 h1 hc
        split at hr
        · rename_i hj
          simp only [Option.some.injEq, Prod.mk.injEq] at hr; obtain ⟨rfl, rfl, rfl⟩ := hr
          subst hj; exact .block (IH _ _ _ _ _ _ hc)
        · rename_i hj
          simp only [Option.some.injEq, Prod.mk.injEq] at hr; obtain ⟨rfl, rfl, rfl⟩ := hr
          exact .blockOut (IH _ _ _ _ _ _ hc) (by intro hx; injection hx with hx; exact hj hx)
      · rename_i hne
        refine .blockOut (IH _ _ _ _ _ _ hr) ?_
        rintro rfl; exact hne _ _ _ hr
    | loop c =>
      simp only [exec] at hr
      split at hr
      · rename_i e1 h1 ha; exact .loop (IH _ _ _ _ _ _ ha) (IH _ _ _ _ _ _ hr)
      · rename_i hne
        refine .loopOut (IH _ _ _ _ _ _ hr) ?_
        rintro rfl; exact hne _ _ hr
theorem ok_runF {F : Funs} {X : Exts} : ∀ (k : Nat) (f : FuncId) (args : List Value) (h : AH) (v : Value) (h' : AH), runF F X k f args h = some (v, h') → Ok F X (.fn f args h v h')
  | 0, _, _, _, _, _, hr => absurd hr (by simp [runF])
  | k + 1, f, args, h, v, h', hr => by
    have ih := ok_runF (F := F) (X := X) k
    simp only [runF] at hr
    split at hr
    · rename_i u hX; simp only [Option.some.injEq] at hr; subst hr; exact .ext hX
    · split at hr
      · exact absurd hr (by simp)
      · rename_i r hF
        split at hr
        · exact absurd hr (by simp)
        · rename_i x e' h1 hne hx
          simp only [Option.map_eq_some_iff, Prod.mk.injEq] at hr
          obtain ⟨vs, hv, rfl, rfl⟩ := hr
          exact .fn hF (ok_exec ih _ _ _ _ _ _ _ hx) (fun id hid => hne id hid) hv
        · exact absurd hr (by simp)
end Go.Proofs.YtpnmeednimpjdaaGreat.AM
namespace Go.Proofs.YtpnmeednimpjdaaGreat.AM
open Go Go.RowKit
def Gd (base : Nat) (w0 : World) : Prop := True
theorem Gd.here {base : Nat} {w0 w : World} (h : Gd base w0) (hb : Below base w0 w) : Gd w.heap.size w := trivial
end Go.Proofs.YtpnmeednimpjdaaGreat.AM
namespace Go.Proofs.YtpnmeednimpjdaaGreat.AM
open Go Go.RowKit
def rOpd : Operand → Option Opd
  | .tmp t => some (.tmp t)
  | .const v => if g0 v = true then some (.const v) else none
  | .func f => some (.fn f)
  | .global _ => none
def rOpds : List Operand → Option (List Opd)
  | [] => some []
  | x :: xs => match rOpd x, rOpds xs with
    | some o, some os => some (o :: os)
    | _, _ => none
def rOpt : Option Operand → Option (Option Opd)
  | none => some none
  | some x => (rOpd x).map some
def szOf (P : Program) (t : TypeId) : Option Nat := (P.info? t).map (·.size)
def bytesOfT (P : Program) (t : TypeId) : Option Nat := (P.info? t).map (·.bytes)
def zeroOf (P : Program) (t : TypeId) : Option Value := (P.info? t).bind (·.zero)
def isAggD : TypeDesc → Bool
  | .struct _ | .array _ _ => true
  | _ => false
def isAggP (P : Program) (t : TypeId) : Option Bool := (P.underlying t).map isAggD
def form (P : Program) (t : TypeId) : Option (Bool × Nat) :=
  match isAggP P t, szOf P t with
  | some true, some n => some (true, n)
  | some false, some 1 => some (false, 1)
  | _, _ => none
def rParts (place : Nat → Option (Nat × Nat)) : List (Nat × Operand) → Option (List (Nat × Nat × Opd))
  | [] => some []
  | (i, x) :: ps => match place i, rOpd x, rParts place ps with
    | some (off, n), some o, some r => some ((off, n, o) :: r)
    | _, _, _ => none
def zrow (z : Value) (n : Nat) : List Value := ((Array.range n).map (z.cells[· % z.cells.size]!)).toList
def flatF (f : TypeId → Option (List SK)) (sz : TypeId → Option Nat) : List Field → Nat → Option (List SK)
  | [], _ => some []
  | fl :: r, off => if fl.name ≠ "_" ∧ fl.offset = off then match f fl.type with
      | some ks => if sz fl.type = some ks.length then (flatF f sz r (off + ks.length)).map (ks ++ ·) else none
      | none => none
    else none
def flat (P : Program) : Nat → TypeId → Option (List SK)
  | 0, _ => none
  | d + 1, t => match P.underlying t with
    | some (.int _) => some [.i]
    | some .string => some [.s]
    | some .bool => some [.b]
    | some (.struct fs) => if P.stoodInHeld t then none else flatF (flat P d) (szOf P) fs.toList 0
    | _ => none
def skOf (P : Program) (t : TypeId) : Option SK :=
  match P.underlying t with
  | some (.int _) => some .i
  | some .string => some .s
  | some .bool => some .b
  | _ => none
def rBin (P : Program) (op : BinOp) (t : TypeId) (x y : Opd) : Option ROp :=
  match op with
  | .eql | .neq => match P.underlying t with
    | some (.int _) | some .string => some (.bin op x y)
    | some .bool => some (.eqB (match op with | .neq => true | _ => false) x y)
    | some (.pointer _) => some (.eqN (match op with | .neq => true | _ => false) 0 x y)
    | some (.slice _) => some (.eqN (match op with | .neq => true | _ => false) 1 x y)
    | some (.map _ _) => some (.eqN (match op with | .neq => true | _ => false) 2 x y)
    | some (.func _ _ _) => some (.eqN (match op with | .neq => true | _ => false) 3 x y)
    | some (.struct _) => if P.eqGuardType P.depth t then none else (flat P 12 t).map fun ks => .eqA (match op with | .neq => true | _ => false) ks x y
    | _ => none
  | _ => some (.bin op x y)
def rCall (P : Program) (c : Call) : Option ROp :=
  match c.callee with
  | .value f => match rOpd f, rOpds c.args.toList with
    | some g, some l => some (.call g l)
    | _, _ => none
  | .builtin .len => match rOpds c.args.toList, (c.argTypes[0]?).bind P.underlying with
    | some [x], some .string => some (.len 0 x)
    | some [x], some (.slice _) => some (.len 1 x)
    | some [x], some (.map _ _) => some (.len 2 x)
    | _, _ => none
  | .builtin .append => match rOpds c.args.toList, c.argTypes[0]?, c.argTypes[1]? with
    | some [x, y], some t, some u => match P.underlying t, P.underlying u with
      | some (.slice e), some d => match szOf P e, bytesOfT P e, zeroOf P e with
        | some n, some b, some z => if n = 0 ∨ b = 0 ∨ (cells z).length ≠ n then none else match d with
          | .slice _ => some (.app e n b x y)
          | .string => some (.app e n b x y)
          | .int _ => some (.appZ e n b x y)
          | _ => none
        | _, _, _ => none
      | _, _ => none
    | _, _, _ => none
  | .builtin .copy => match rOpds c.args.toList, (c.argTypes[0]?).bind P.underlying with
    | some [x, y], some (.slice e) => (szOf P e).bind fun n => if n = 0 then none else some (.copy n x y)
    | _, _ => none
  | .builtin .max => (rOpds c.args.toList).map (.mm true)
  | .builtin .min => (rOpds c.args.toList).map (.mm false)
  | .builtin .cap => match rOpds c.args.toList, (c.argTypes[0]?).bind P.underlying with
    | some [x], some (.slice _) => some (.capN x)
    | _, _ => none
  | .builtin .clear => match rOpds c.args.toList, (c.argTypes[0]?).bind P.underlying with
    | some [x], some (.slice e) => match zeroOf P e with
      | some z => if (cells z).all g0 = true ∧ (cells z).length ≠ 0 then some (.clear (cells z) x) else none
      | none => none
    | _, _ => none
  | _ => none
def resolve (P : Program) (op : Op) : Option ROp :=
  match op with
  | .move x => (rOpd x).map .move
  | .assign x => (rOpd x).map .move
  | .pick c a b => match rOpd c, rOpd a, rOpd b with
    | some c, some a, some b => some (.pick c a b)
    | _, _, _ => none
  | .alloc t => (zeroOf P t).bind fun z => if (cells z).all g0 = true then some (.new t (cells z)) else none
  | .box t x => (rOpd x).map (.box t)
  | .build t parts => match zeroOf P t, P.underlying t with
    | some z, some (.struct fs) =>
      if (cells z).all g0 = true ∧ fs.toList.all (fun f => (szOf P f.type).isSome) = true then
        (rParts (fun i => (fs[i]?).bind fun f => (szOf P f.type).map fun n => (f.offset, n)) parts.toList).map (.build (cells z))
      else none
    | some z, some (.array _ e) => (szOf P e).bind fun n =>
      if (cells z).all g0 = true then (rParts (fun i => some (i * n, n)) parts.toList).map (.build (cells z)) else none
    | _, _ => none
  | .buildSlice t len parts => match P.underlying t with
    | some (.slice e) => match szOf P e, zeroOf P e with
      | some n, some z => if (cells z).all g0 = true ∧ len * n ≤ 16777216 ∧ 0 < n ∧ (zrow z (len * n)).all g0 = true then
          (rParts (fun i => some (i * n, n)) parts.toList).map (.lit e n len (zrow z (len * n)))
        else none
      | _, _ => none
    | _ => none
  | .load t a => match form P t, rOpd a with
    | some (agg, n), some a => some (.load agg n a)
    | _, _ => none
  | .store t a x => match szOf P t, rOpd a, rOpd x with
    | some n, some a, some x => some (.store n a x)
    | _, _, _ => none
  | .nilCheck x => (rOpd x).map .nilCheck
  | .binOp op t x y _ => match rOpd x, rOpd y with
    | some x, some y => rBin P op t x y
    | _, _ => none
  | .unOp op _ x => (rOpd x).map (.un op)
  | .convert s d x => match P.underlying s, P.underlying d, rOpd x with
    | some (.int _), some (.int k), some x => some (.conv k x)
    | some .string, some .string, some x => some (.bin .add x (.const (.string .empty)))
    | some (.slice e), some .string, some x => match P.underlying e with
      | some (.int .u8) => some (.strOf x)
      | _ => none
    | _, _, _ => none
  | .makeInterface t x => match P.underlying t, rOpd x with
    | some (.interface _), _ => none
    | some _, some x => some (.iface t x)
    | _, _ => none
  | .typeAssert x _ u true => match P.underlying u, zeroOf P u, rOpd x with
    | some (.interface _), _, _ => none
    | some _, some z, some x => if g1 z = true then some (.assert u z x) else none
    | _, _, _ => none
  | .makeFunc (.func f) first cs => if first.size = 0 then (rOpds cs.toList).map (.mkFunc f) else none
  | .makeMap _ none => some .mkMap
  | .makeSlice t l c => match P.underlying t, rOpd l, rOpd c with
    | some (.slice e), some l, some c => match szOf P e, bytesOfT P e, zeroOf P e with
      | some n, some b, some z => if n = 0 ∨ b = 0 ∨ (cells z).length ≠ n ∨ (cells z).all g0 = false then none else some (.mkSlice e n b (cells z) l c)
      | _, _, _ => none
    | _, _, _ => none
  | .slice t x lo hi mx => match P.underlying t, rOpd x, rOpt lo, rOpt hi, rOpt mx with
    | some .string, some x, some lo, some hi, some none => some (.cutS x lo hi)
    | some (.slice e), some x, some lo, some hi, some mx => match mx, hi with
      | some _, none => none
      | mx, hi => (szOf P e).bind fun n => if n = 0 then none else some (.cut n x lo hi mx)
    | some (.array k e), some x, some lo, some hi, some mx => match mx, hi with
      | some _, none => none
      | mx, hi => (szOf P e).bind fun n => if n = 0 then none else some (.cutA k n x lo hi mx)
    | _, _, _, _, _ => none
  | .fieldAddr s x f => match P.underlying s, rOpd x with
    | some (.struct fs), some x => (fs[f]?).bind fun fl => (szOf P fl.type).bind fun n => if n = 0 then none else some (.fld fl.offset x)
    | _, _ => none
  | .field s x f => match P.underlying s, rOpd x with
    | some (.struct fs), some x => (fs[f]?).bind fun fl => (form P fl.type).map fun r => .part r.1 fl.offset r.2 x
    | _, _ => none
  | .indexAddr t x i => match P.underlying t, rOpd x, rOpd i with
    | some (.slice e), some x, some i => (szOf P e).map fun n => .idx n x i
    | some (.array k e), some x, some i => (szOf P e).map fun n => .idxA k n x i
    | _, _, _ => none
  | .index t x i => match P.underlying t, rOpd x, rOpd i with
    | some .string, some x, some i => some (.idxS x i)
    | some (.array k e), some x, some i => (form P e).map fun r => .idxV k r.1 r.2 x i
    | _, _, _ => none
  | .range t x => match P.underlying t, rOpd x with
    | some .string, some x => some (.iter x)
    | _, _ => none
  | .next x true => (rOpd x).map .next
  | .lookup t x i ok => match P.underlying t, rOpd x, rOpd i with
    | some (.map k el), some x, some i => match skOf P k, zeroOf P el with
      | some kd, some z => if g1 z = true then some (.look kd z ok x i) else none
      | _, _ => none
    | _, _, _ => none
  | .mapUpdate t m k x => match P.underlying t, rOpd m, rOpd k, rOpd x with
    | some (.map kt _), some m, some k, some x => (skOf P kt).map fun kd => .upd kd m k x
    | _, _, _, _ => none
  | .extract x i => (rOpd x).map fun x => .ext x i
  | .call c => rCall P c
  | _ => none
def resolveS (P : Program) (op : Op) : ROp :=
  match resolve P op with
  | some r => r
  | none => .stop
def rGuard (ops : Array Oper) : Option (Nat × Bool) → Option (Option (Nat × Bool))
  | none => some none
  | some (j, b) => ((ops[j]?).bind (·.dst)).map fun d => some (d, b)
def rOper (P : Program) (n : Nat) (ops : Array Oper) (o : Oper) : Option RO :=
  match rGuard ops o.guard, o.dst with
  | some g, none => some ⟨none, resolveS P o.op, g⟩
  | some g, some d => if d < n then some ⟨some d, resolveS P o.op, g⟩ else none
  | _, _ => none
def rOps (P : Program) (n : Nat) (ops : Array Oper) : List Oper → Option (List RO)
  | [] => some []
  | o :: os => match rOper P n ops o, rOps P n ops os with
    | some r, some rs => some (r :: rs)
    | _, _ => none
abbrev Bt := List (Nat × Nat)
abbrev Sh := Nat → Option (TypeId × Nat)
inductive VR (b : Bt) (S : Sh) : Value → Value → Prop where
  | scal {v : Value} (h : g0 v = true) : VR b S v v
  | ptr {i off k s : Nat} (h : b[i]? = some (k, s)) : VR b S (.pointer (some ⟨i, off, none⟩)) (.pointer (some ⟨k, s + off, none⟩))
  | slice {i off len es k s cap n : Nat} {t : TypeId} (h : b[i]? = some (k, s)) (hl : len ≤ cap) (hS : S k = some (t, n)) (hc : s + off + cap * es ≤ n) :
      VR b S (.slice (some ⟨i, off, none⟩) len es) (.slice (some ⟨k, s + off, none⟩) len cap)
  | slice0 {a a' : Addr} {es : Nat} : VR b S (.slice (some a) 0 es) (.slice (some a') 0 0)
  | map {i k s : Nat} (h : b[i]? = some (k, s)) : VR b S (.map (some i)) (.map (some k))
  | func {f : FuncId} {c c' : Array Value} (hs : c.size = c'.size) (h : ∀ (i : Nat) (v v' : Value), c[i]? = some v → c'[i]? = some v' → VR b S v v') : VR b S (.func (.func f) #[] c) (.func (.func f) #[] c')
  | iface {t : TypeId} {v v' : Value} (h : VR b S v v') : VR b S (.iface t v) (.iface t v')
  | agg {c c' : Array Value} (hs : c.size = c'.size) (h : ∀ (i : Nat) (v v' : Value), c[i]? = some v → c'[i]? = some v' → VR b S v v') : VR b S (.agg c) (.agg c')
  | tuple {c c' : Array Value} (hs : c.size = c'.size) (h : ∀ (i : Nat) (v v' : Value), c[i]? = some v → c'[i]? = some v' → VR b S v v') : VR b S (.tuple c) (.tuple c')
def LR (R : Value → Value → Prop) (l l' : List Value) : Prop := l.length = l'.length ∧ ∀ (i : Nat) (v v' : Value), l[i]? = some v → l'[i]? = some v' → R v v'
def SLe (S S' : Sh) : Prop := ∀ k x, S k = some x → S' k = some x
theorem SLe.refl (S : Sh) : SLe S S := fun _ _ h => h
theorem SLe.trans {a b c : Sh} (h : SLe a b) (k : SLe b c) : SLe a c := fun i x e => k i x (h i x e)
section
variable {R : Value → Value → Prop}
theorem LR.nil : LR R [] [] := ⟨rfl, fun i v v' h => by simp at h⟩
theorem LR.cons {x x' : Value} {l l' : List Value} (hx : R x x') (h : LR R l l') : LR R (x :: l) (x' :: l') := by
  refine ⟨by simp [h.1], fun i v v' h1 h2 => ?_⟩
  cases i with
  | zero => simp at h1 h2; subst h1; subst h2; exact hx
  | succ i => simp at h1 h2; exact h.2 i v v' h1 h2
theorem LR.uncons {x : Value} {l l' : List Value} (h : LR R (x :: l) l') : ∃ x' r, l' = x' :: r ∧ R x x' ∧ LR R l r := by
  cases l' with
  | nil => exact absurd h.1 (by simp)
  | cons x' r => exact ⟨x', r, rfl, h.2 0 _ _ rfl rfl, by have := h.1; simpa using this, fun i v v' h1 h2 => h.2 (i + 1) v v' (by simpa using h1) (by simpa using h2)⟩
theorem LR.unnil {l' : List Value} (h : LR R [] l') : l' = [] := by have := h.1; exact List.length_eq_zero_iff.1 this.symm
theorem LR.append {a a' c c' : List Value} (h : LR R a a') (k : LR R c c') : LR R (a ++ c) (a' ++ c') := by
  refine ⟨by simp [h.1, k.1], fun i v v' h1 h2 => ?_⟩
  rw [List.getElem?_append] at h1 h2
  rw [← h.1] at h2
  split at h1
  · rename_i hi; rw [if_pos hi] at h2; exact h.2 _ _ _ h1 h2
  · rename_i hi; rw [if_neg hi] at h2; exact k.2 _ _ _ h1 h2
theorem LR.take {a a' : List Value} (h : LR R a a') (n : Nat) : LR R (a.take n) (a'.take n) := by
  refine ⟨by simp [h.1], fun i v v' h1 h2 => ?_⟩
  rw [List.getElem?_take] at h1 h2
  split at h1
  · rename_i hi; rw [if_pos hi] at h2; exact h.2 _ _ _ h1 h2
  · exact absurd h1 (by simp)
theorem LR.drop {a a' : List Value} (h : LR R a a') (n : Nat) : LR R (a.drop n) (a'.drop n) := by
  refine ⟨by simp [h.1], fun i v v' h1 h2 => ?_⟩
  rw [List.getElem?_drop] at h1 h2
  exact h.2 _ _ _ h1 h2
theorem LR.splice {a a' c c' : List Value} (h : LR R a a') (k : LR R c c') (n : Nat) : LR R (splice a n c) (splice a' n c') := by
  unfold AM.splice
  rw [k.1]
  exact ((h.take n).append k).append (h.drop _)
theorem LR.mono {R' : Value → Value → Prop} {a a' : List Value} (h : LR R a a') (hR : ∀ v v', R v v' → R' v v') : LR R' a a' := ⟨h.1, fun i v v' h1 h2 => hR _ _ (h.2 i v v' h1 h2)⟩
theorem LR.get {a a' : List Value} (h : LR R a a') {i : Nat} {v : Value} (hi : a[i]? = some v) : ∃ v', a'[i]? = some v' ∧ R v v' := by
  have hl : i < a'.length := by have := (List.getElem?_eq_some_iff.1 hi).1; rw [← h.1]; exact this
  exact ⟨_, List.getElem?_eq_getElem hl, h.2 _ _ _ hi (List.getElem?_eq_getElem hl)⟩
theorem LR.same {a : List Value} (h : ∀ v ∈ a, R v v) : LR R a a := ⟨rfl, fun i v v' h1 h2 => by rw [h1] at h2; cases h2; exact h _ (List.mem_of_getElem? h1)⟩
end
section
variable {b : Bt} {S : Sh}
theorem VR.of_lr_agg {l l' : List Value} (h : LR (VR b S) l l') : VR b S (.agg l.toArray) (.agg l'.toArray) :=
  .agg (by simpa using h.1) (fun i v v' h1 h2 => h.2 i v v' (by simpa using h1) (by simpa using h2))
theorem VR.of_lr_tuple {l l' : List Value} (h : LR (VR b S) l l') : VR b S (.tuple l.toArray) (.tuple l'.toArray) :=
  .tuple (by simpa using h.1) (fun i v v' h1 h2 => h.2 i v v' (by simpa using h1) (by simpa using h2))
theorem VR.of_lr_func {f : FuncId} {l l' : List Value} (h : LR (VR b S) l l') : VR b S (.func (.func f) #[] l.toArray) (.func (.func f) #[] l'.toArray) :=
  .func (by simpa using h.1) (fun i v v' h1 h2 => h.2 i v v' (by simpa using h1) (by simpa using h2))
theorem VR.agg_inv {c : Array Value} {v' : Value} (h : VR b S (.agg c) v') : ∃ c', v' = .agg c' ∧ LR (VR b S) c.toList c'.toList := by
  cases h with
  | scal h => simp [g0] at h
  | agg hs h => exact ⟨_, rfl, by simpa using hs, fun i v v' h1 h2 => h i v v' (by simpa using h1) (by simpa using h2)⟩
theorem VR.tuple_inv {c : Array Value} {v' : Value} (h : VR b S (.tuple c) v') : ∃ c', v' = .tuple c' ∧ LR (VR b S) c.toList c'.toList := by
  cases h with
  | scal h => simp [g0] at h
  | tuple hs h => exact ⟨_, rfl, by simpa using hs, fun i v v' h1 h2 => h i v v' (by simpa using h1) (by simpa using h2)⟩
theorem VR.func_inv {f : FuncId} {c : Array Value} {v' : Value} (h : VR b S (.func (.func f) #[] c) v') : ∃ c', v' = .func (.func f) #[] c' ∧ LR (VR b S) c.toList c'.toList := by
  cases h with
  | scal h => simp [g0] at h
  | func hs h => exact ⟨_, rfl, by simpa using hs, fun i v v' h1 h2 => h i v v' (by simpa using h1) (by simpa using h2)⟩
theorem VR.int_inv {k : IntKind} {n : Int} {v' : Value} (h : VR b S (.int k n) v') : v' = .int k n := by cases h; rfl
theorem VR.bool_inv {n : Bool} {v' : Value} (h : VR b S (.bool n) v') : v' = .bool n := by cases h; rfl
theorem VR.string_inv {n : ByteArray} {v' : Value} (h : VR b S (.string n) v') : v' = .string n := by cases h; rfl
theorem VR.ptr_inv {i off : Nat} {v' : Value} (h : VR b S (.pointer (some ⟨i, off, none⟩)) v') : ∃ k s, b[i]? = some (k, s) ∧ v' = .pointer (some ⟨k, s + off, none⟩) := by
  cases h with
  | scal h => simp [g0] at h
  | ptr h => exact ⟨_, _, h, rfl⟩
theorem VR.map_inv {i : Nat} {v' : Value} (h : VR b S (.map (some i)) v') : ∃ k s, b[i]? = some (k, s) ∧ v' = .map (some k) := by
  cases h with
  | scal h => simp [g0] at h
  | map h => exact ⟨_, _, h, rfl⟩
theorem VR.iface_inv {t : TypeId} {v v' : Value} (h : VR b S (.iface t v) v') : ∃ u, v' = .iface t u ∧ VR b S v u := by
  cases h with
  | scal h => simp [g0] at h
  | iface h => exact ⟨_, rfl, h⟩
theorem VR.slice_inv {i off len es : Nat} {v' : Value} (h : VR b S (.slice (some ⟨i, off, none⟩) len es) v') :
    (∃ k s cap t n, b[i]? = some (k, s) ∧ len ≤ cap ∧ S k = some (t, n) ∧ s + off + cap * es ≤ n ∧ v' = .slice (some ⟨k, s + off, none⟩) len cap) ∨ (len = 0 ∧ ∃ a', v' = .slice (some a') 0 0) := by
  cases h with
  | scal h => simp [g0] at h
  | slice h hl hS hc => exact .inl ⟨_, _, _, _, _, h, hl, hS, hc, rfl⟩
  | slice0 => exact .inr ⟨rfl, _, rfl⟩
theorem VR.nilslice_inv {v' : Value} (h : VR b S (.slice none 0 0) v') : v' = .slice none 0 0 := by cases h; rfl
theorem VR.g0_inv {v v' : Value} (hg : g0 v = true) (h : VR b S v v') : v' = v := by
  cases h <;> first | rfl | (simp [g0] at hg)
theorem VR.mono {b' : Bt} {S' : Sh} (hb : ∀ (i : Nat) x, b[i]? = some x → b'[i]? = some x) (hS : SLe S S') {v v' : Value} (h : VR b S v v') : VR b' S' v v' := by
  induction h with
  | scal h => exact .scal h
  | ptr h => exact .ptr (hb _ _ h)
  | slice h hl hs hc => exact .slice (hb _ _ h) hl (hS _ _ hs) hc
  | slice0 => exact .slice0
  | map h => exact .map (hb _ _ h)
  | func hs _ ih => exact .func hs ih
  | iface _ ih => exact .iface ih
  | agg hs _ ih => exact .agg hs ih
  | tuple hs _ ih => exact .tuple hs ih
theorem getElem?_pre {b c : Bt} (i : Nat) (x : Nat × Nat) (h : b[i]? = some x) : (b ++ c)[i]? = some x := by
  rw [List.getElem?_append, if_pos (List.getElem?_eq_some_iff.1 h).1]; exact h
theorem VR.ext {c : Bt} {S' : Sh} (hS : SLe S S') {v v' : Value} (h : VR b S v v') : VR (b ++ c) S' v v' := h.mono getElem?_pre hS
theorem VR.g1 {v : Value} (h : AM.g1 v = true) : VR b S v v := by
  cases v <;> simp only [AM.g1] at h <;> first | exact .scal h | skip
  rename_i cs
  exact .agg rfl fun i v v' h1 h2 => by
    rw [h1] at h2; cases h2
    exact .scal (List.all_eq_true.1 h _ (by have := (Array.getElem?_eq_some_iff.1 h1); rw [← this.2]; simp))
theorem VR.cells {v v' : Value} (h : VR b S v v') : LR (VR b S) (AM.cells v) (AM.cells v') := by
  have one_ : ∀ u u' : Value, VR b S u u' → LR (VR b S) [u] [u'] := fun u u' h => LR.cons h .nil
  have H := h
  cases h with
  | agg hs h => exact (VR.agg_inv H).elim fun c' hc => by obtain ⟨e, hl⟩ := hc; cases e; exact hl
  | scal h =>
    unfold AM.cells
    cases v <;> first | exact one_ _ _ H | (simp [g0] at h)
  | _ => exact one_ _ _ H
theorem VR.ones {v v' : Value} (h : VR b S v v') : one v = one v' := by cases h <;> rfl
end
def live : AObj → Bool
  | .row ro _ _ => !ro
  | .map _ => true
  | .iter _ _ => true
  | .seq _ => true
  | .dead => false
def OR (b : Bt) (w : World) (base k s : Nat) : AObj → Prop
  | .row ro t c => c.all one = true ∧ ∃ cs t' fr, w.heap[k]? = some (.cells cs t' fr) ∧ s + c.length ≤ cs.size ∧ (∀ j v, c[j]? = some v → ∃ v', cs[s + j]? = some v' ∧ VR b w.shape? v v') ∧
      (if ro then k < base else base ≤ k ∧ t' = t ∧ fr = (0, 0))
  | .map es => base ≤ k ∧ ∃ es' clock, w.heap[k]? = some (.map es' clock) ∧ LR (VR b w.shape?) (es.map (·.1)) (es'.toList.map (·.key)) ∧ LR (VR b w.shape?) (es.map (·.2)) (es'.toList.map (·.val)) ∧ MapKept.Stamped es' clock
  | .seq m => (base ≤ k ∧ s = 0) ∧ ∃ T fr m', w.heap[k]? = some (.cells #[m'] T fr) ∧ VR b w.shape? (.map m) m'
  | .iter str pos => (base ≤ k ∧ s = 0) ∧ w.heap[k]? = some (.stringIter str pos)
  | .dead => True
structure Sim (b : Bt) (h : AH) (base : Nat) (w0 w : World) : Prop where
  len : b.length = h.next
  out : ∀ i, h.next ≤ i → h.get i = none
  bel : Below base w0 w
  le : base ≤ w.heap.size
  obj : ∀ i o, h.get i = some o → ∃ k s, b[i]? = some (k, s) ∧ OR b w base k s o
  inj : ∀ i j o o' k s s', i ≠ j → h.get i = some o → h.get j = some o' → live o = true → live o' = true → b[i]? = some (k, s) → b[j]? = some (k, s') → False
  gd : Gd base w0
structure Rl (b : Bt) (e : Env) (w : World) (a : Act) (n : Nat) : Prop where
  get : ∀ t v, e.get t = some v → ∃ v', a.tmps[t]? = some v' ∧ VR b w.shape? v v'
  size : n ≤ a.tmps.size
theorem Sim.row {b : Bt} {h : AH} {base : Nat} {w0 w : World} (H : Sim b h base w0 w) {i k s : Nat} {ro : Bool} {t : TypeId} {c : List Value} (hi : rowAt h i = some (ro, t, c)) (hb : b[i]? = some (k, s)) :
    OR b w base k s (.row ro t c) := by
  have hg : h.get i = some (.row ro t c) := by
    unfold rowAt at hi
    split at hi
    · split at hi
      · rename_i e; simp only [Option.some.injEq, Prod.mk.injEq] at hi; obtain ⟨rfl, rfl, rfl⟩ := hi; exact e
      · exact absurd hi (by simp)
    · exact absurd hi (by simp)
  obtain ⟨k', s', hb', ho⟩ := H.obj i _ hg
  rw [hb] at hb'; cases hb'
  exact ho
theorem rowAt_get {h : AH} {i : Nat} {ro : Bool} {t : TypeId} {c : List Value} (hi : rowAt h i = some (ro, t, c)) : h.get i = some (.row ro t c) := by
  unfold rowAt at hi
  split at hi
  · split at hi
    · rename_i e; simp only [Option.some.injEq, Prod.mk.injEq] at hi; obtain ⟨rfl, rfl, rfl⟩ := hi; exact e
    · exact absurd hi (by simp)
  · exact absurd hi (by simp)
theorem mapAt_get {h : AH} {i : Nat} {es : List (Value × Value)} (hi : mapAt h i = some es) : h.get i = some (.map es) := by
  unfold mapAt at hi
  split at hi
  · split at hi
    · rename_i e; simp only [Option.some.injEq] at hi; subst hi; exact e
    · exact absurd hi (by simp)
  · exact absurd hi (by simp)
theorem rowAt_push {h : AH} {i : Nat} {o : AObj} {x : Bool × TypeId × List Value} (hi : rowAt h i = some x) : rowAt (h.push o) i = some x := by
  unfold rowAt at *
  split at hi
  · rename_i hlt
    have h2 : i < (h.push o).next := Nat.lt_succ_of_lt hlt
    rw [if_pos h2, AH.get_push_ne _ _ (by omega)]; exact hi
  · exact absurd hi (by simp)
theorem mapAt_push {h : AH} {i : Nat} {o : AObj} {x : List (Value × Value)} (hi : mapAt h i = some x) : mapAt (h.push o) i = some x := by
  unfold mapAt at *
  split at hi
  · rename_i hlt
    have h2 : i < (h.push o).next := Nat.lt_succ_of_lt hlt
    rw [if_pos h2, AH.get_push_ne _ _ (by omega)]; exact hi
  · exact absurd hi (by simp)
theorem OR.lt {b : Bt} {w : World} {base k s : Nat} {o : AObj} (h : OR b w base k s o) (ho : live o = true) : base ≤ k ∧ k < w.heap.size := by
  cases o with
  | row ro t c =>
    obtain ⟨_, cs, t', fr, hk, _, _, hr⟩ := h
    cases ro with
    | true => simp [live] at ho
    | false => exact ⟨hr.1, (Array.getElem?_eq_some_iff.1 hk).1⟩
  | map es => obtain ⟨hb, _, _, hk, _⟩ := h; exact ⟨hb, (Array.getElem?_eq_some_iff.1 hk).1⟩
  | iter s p => exact ⟨h.1.1, (Array.getElem?_eq_some_iff.1 h.2).1⟩
  | seq m => obtain ⟨hb, _, _, _, hk, _⟩ := h; exact ⟨hb.1, (Array.getElem?_eq_some_iff.1 hk).1⟩
  | dead => simp [live] at ho
theorem OR.move {b b' : Bt} {w w' : World} {base k s : Nat} {o : AObj} (h : OR b w base k s o) (hb : ∀ (i : Nat) x, b[i]? = some x → b'[i]? = some x) (hS : SLe w.shape? w'.shape?)
    (hk : o ≠ .dead → w'.heap[k]? = w.heap[k]?) : OR b' w' base k s o := by
  cases o with
  | row ro t c =>
    obtain ⟨h0, cs, t', fr, h1, h2, h3, h4⟩ := h
    exact ⟨h0, cs, t', fr, (hk (by simp)).trans h1, h2, fun j v hj => let ⟨v', a, r⟩ := h3 j v hj; ⟨v', a, r.mono hb hS⟩, h4⟩
  | map es =>
    obtain ⟨h0, es', clock, h1, h2, h3, h4⟩ := h
    exact ⟨h0, es', clock, (hk (by simp)).trans h1, h2.mono fun _ _ r => r.mono hb hS, h3.mono fun _ _ r => r.mono hb hS, h4⟩
  | iter str p => exact ⟨h.1, (hk (by simp)).trans h.2⟩
  | seq m =>
    obtain ⟨h0, T, fr, m', h1, h2⟩ := h
    exact ⟨h0, T, fr, m', (hk (by simp)).trans h1, h2.mono hb hS⟩
  | dead => trivial
theorem shape_push (w : World) (o : Obj) : SLe w.shape? (w.alloc o).shape? := by
  intro k x h
  unfold World.shape? at *
  have : (w.alloc o).heap[k]? = w.heap[k]? := by
    refine Below.heap_alloc _ _ _ ?_
    cases hk : w.heap[k]? with
    | none => rw [hk] at h; cases h
    | some o => exact (Array.getElem?_eq_some_iff.1 hk).1
  rw [this]; exact h
theorem Sim.push {b : Bt} {h : AH} {base : Nat} {w0 w : World} (H : Sim b h base w0 w) (o : AObj) (ob : Obj)
    (ho : OR (b ++ [(w.heap.size, 0)]) (w.alloc ob) base w.heap.size 0 o) : Sim (b ++ [(w.heap.size, 0)]) (h.push o) base w0 (w.alloc ob) := by
  have hlen := H.len
  refine ⟨by simp [AH.push, H.len], fun i hi => ?_, H.bel.alloc H.le _, by have := H.le; simp; omega, fun i o' hi => ?_, ?_, H.gd⟩
  · have hi' : h.next + 1 ≤ i := hi
    rw [AH.get_push_ne _ _ (by omega)]; exact H.out i (by omega)
  · by_cases e : h.next = i
    · subst e
      rw [AH.get_push_same] at hi; cases hi
      exact ⟨w.heap.size, 0, by rw [List.getElem?_append_right (by omega)]; simp [hlen], ho⟩
    · rw [AH.get_push_ne _ _ e] at hi
      obtain ⟨k, s, hb, hr⟩ := H.obj i o' hi
      refine ⟨k, s, getElem?_pre _ _ hb, hr.move getElem?_pre (shape_push _ _) fun hd => Below.heap_alloc _ _ _ ?_⟩
      cases o' with
      | row ro t c => obtain ⟨_, cs, t', fr, h1, _⟩ := hr; exact (Array.getElem?_eq_some_iff.1 h1).1
      | map es => obtain ⟨_, _, _, h1, _⟩ := hr; exact (Array.getElem?_eq_some_iff.1 h1).1
      | iter s p => exact (Array.getElem?_eq_some_iff.1 hr.2).1
      | seq m => obtain ⟨_, _, _, _, h1, _⟩ := hr; exact (Array.getElem?_eq_some_iff.1 h1).1
      | dead => exact absurd rfl hd
  · intro i j o1 o2 k s s' hij h1 h2 m1 m2 b1 b2
    have old : ∀ i o, h.next ≠ i → (h.push o).get i = h.get i := fun i o e => AH.get_push_ne _ _ e
    have olt : ∀ i o' k s, h.next ≠ i → h.get i = some o' → live o' = true → (b ++ [(w.heap.size, 0)])[i]? = some (k, s) → k < w.heap.size ∧ b[i]? = some (k, s) := by
      intro i o' k s _ hg hm hb
      obtain ⟨k', s', hb', hr⟩ := H.obj i o' hg
      have := getElem?_pre (c := [(w.heap.size, 0)]) _ _ hb'
      rw [hb] at this; cases this
      exact ⟨(hr.lt hm).2, hb'⟩
    have new : (b ++ [(w.heap.size, 0)])[h.next]? = some (w.heap.size, 0) := by rw [List.getElem?_append_right (by omega)]; simp [hlen]
    by_cases e1 : h.next = i
    · subst e1
      rw [new] at b1; cases b1
      have e2 : h.next ≠ j := hij
      rw [old j o e2] at h2
      exact absurd (olt j o2 _ _ e2 h2 m2 b2).1 (Nat.lt_irrefl _)
    · by_cases e2 : h.next = j
      · subst e2
        rw [new] at b2; cases b2
        rw [old i o e1] at h1
        exact absurd (olt i o1 _ _ e1 h1 m1 b1).1 (Nat.lt_irrefl _)
      · rw [old i o e1] at h1; rw [old j o e2] at h2
        exact H.inj i j o1 o2 k s s' hij h1 h2 m1 m2 (olt i o1 _ _ e1 h1 m1 b1).2 (olt j o2 _ _ e2 h2 m2 b2).2
def wset (w : World) (k : Nat) (o : Obj) : World := { w with heap := w.heap.setIfInBounds k o }
theorem wset_same (w : World) (k : Nat) (o : Obj) (hk : k < w.heap.size) : (wset w k o).heap[k]? = some o := by simp [wset, hk]
theorem wset_ne (w : World) {k j : Nat} (o : Obj) (h : k ≠ j) : (wset w k o).heap[j]? = w.heap[j]? := by simp [wset, h]
theorem wset_shape (w : World) (k : Nat) (cs cs' : Array Value) (t : TypeId) (fr fr' : Nat × Nat) (hk : w.heap[k]? = some (.cells cs t fr)) (hs : cs'.size = cs.size) : (wset w k (.cells cs' t fr')).shape? = w.shape? := by
  funext j
  unfold World.shape?
  by_cases e : k = j
  · subst e; rw [wset_same _ _ _ (Array.getElem?_eq_some_iff.1 hk).1, hk]; simp [hs]
  · rw [wset_ne _ _ e]
theorem wset_below {base : Nat} {w0 w : World} (h : Below base w0 w) (k : Nat) (o : Obj) (hk : base ≤ k) : Below base w0 (wset w k o) :=
  h.trans ⟨rfl, rfl, rfl, by simp [wset], fun j hj => wset_ne _ _ (by omega)⟩
theorem Sim.put {b : Bt} {h : AH} {base : Nat} {w0 w : World} (H : Sim b h base w0 w) {i k s : Nat} {o0 o : AObj} {ob : Obj} (hi : h.get i = some o0) (hm : live o0 = true) (hb : b[i]? = some (k, s))
    (hS : SLe w.shape? (wset w k ob).shape?) (ho : OR b (wset w k ob) base k s o) : Sim b (h.put i o) base w0 (wset w k ob) := by
  obtain ⟨k', s', hb', hr⟩ := H.obj i o0 hi
  rw [hb] at hb'; cases hb'
  have hlt := hr.lt hm
  have hne : ∀ j o', j ≠ i → h.get j = some o' → ∀ k' s', b[j]? = some (k', s') → o' ≠ .dead → OR b w base k' s' o' → k ≠ k' := by
    intro j o' hj hg k' s' hb2 hd hor hk; subst hk
    cases hmo : live o' with
    | true => exact H.inj i j o0 o' k s s' (Ne.symm hj) hi hg hm hmo hb hb2
    | false =>
      cases o' with
      | row ro t c =>
        cases ro with
        | true => obtain ⟨_, _, _, _, _, _, _, hx⟩ := hor; exact absurd hx (by have := hlt.1; simp; omega)
        | false => simp [live] at hmo
      | map es => simp [live] at hmo
      | iter s p => simp [live] at hmo
      | seq m => simp [live] at hmo
      | dead => exact hd rfl
  refine ⟨by simpa [AH.put] using H.len, fun j hj => ?_, wset_below H.bel k ob hlt.1, by have := H.le; simp [wset]; exact this, fun j o' hj => ?_, ?_, H.gd⟩
  · have hj' : h.next ≤ j := hj
    by_cases e : i = j
    · subst e; rw [H.out i hj'] at hi; cases hi
    · rw [AH.get_put_ne _ _ e]; exact H.out j hj'
  · by_cases e : i = j
    · subst e; rw [AH.get_put_same] at hj; cases hj; exact ⟨k, s, hb, ho⟩
    · rw [AH.get_put_ne _ _ e] at hj
      obtain ⟨k', s', hb2, hor⟩ := H.obj j o' hj
      exact ⟨k', s', hb2, hor.move (fun _ _ x => x) hS fun hd => wset_ne _ _ (hne j o' (Ne.symm e) hj k' s' hb2 hd hor)⟩
  · intro x y o1 o2 k1 s1 s2 hxy h1 h2 m1 m2 b1 b2
    have key : ∀ y o2 s2, y ≠ i → (h.put i o).get y = some o2 → live o2 = true → b[y]? = some (k, s2) → False := by
      intro y o2 s2 hy hg hm2 hb2
      rw [AH.get_put_ne _ _ (Ne.symm hy)] at hg
      exact H.inj i y o0 o2 k s s2 (Ne.symm hy) hi hg hm hm2 hb hb2
    by_cases e1 : i = x
    · subst e1; rw [hb] at b1; cases b1; exact key y o2 s2 (Ne.symm hxy) h2 m2 b2
    · by_cases e2 : i = y
      · subst e2; rw [hb] at b2; cases b2; exact key x o1 s1 hxy h1 m1 b1
      · rw [AH.get_put_ne _ _ e1] at h1; rw [AH.get_put_ne _ _ e2] at h2
        exact H.inj x y o1 o2 k1 s1 s2 hxy h1 h2 m1 m2 b1 b2
end Go.Proofs.YtpnmeednimpjdaaGreat.AM
namespace Go.Proofs.YtpnmeednimpjdaaGreat.AM
open Go Go.RowKit
section
variable {P : Program} {b : Bt} {h h1 : AH} {base : Nat} {w0 w : World} {e : Env} {a : Act} {n : Nat}
theorem opd_sound (R : Rl b e w a n) {x : Operand} {o : Opd} {v : Value} (hx : rOpd x = some o) (ho : o.ev e = some v) : VR b w.shape? v (a.eval x) := by
  cases x with
  | tmp t =>
    simp only [rOpd, Option.some.injEq] at hx; subst hx
    obtain ⟨v', h1, h2⟩ := R.get t v ho
    have : a.eval (.tmp t) = v' := by simp [Act.eval, Array.getD_eq_getD_getElem?, h1]
    rw [this]; exact h2
  | const c =>
    simp only [rOpd] at hx
    split at hx
    · rename_i hg
      simp only [Option.some.injEq] at hx; subst hx
      simp only [Opd.ev, Option.some.injEq] at ho; subst ho
      exact .scal hg
    · exact absurd hx (by simp)
  | func f =>
    simp only [rOpd, Option.some.injEq] at hx; subst hx
    simp only [Opd.ev, Option.some.injEq] at ho; subst ho
    exact .func rfl (fun i v v' h => by simp at h)
  | global g => simp [rOpd] at hx
theorem opds_sound (R : Rl b e w a n) : ∀ {xs : List Operand} {os : List Opd} {vs : List Value}, rOpds xs = some os → evs e os = some vs → LR (VR b w.shape?) vs (xs.map a.eval)
  | [], os, vs, hx, hv => by
    simp only [rOpds, Option.some.injEq] at hx; subst hx
    simp only [evs, Option.some.injEq] at hv; subst hv
    exact .nil
  | x :: xs, os, vs, hx, hv => by
    simp only [rOpds] at hx
    split at hx
    · rename_i o os' h1 h2
      simp only [Option.some.injEq] at hx; subst hx
      simp only [evs] at hv
      split at hv
      · rename_i v vs' h3 h4
        simp only [Option.some.injEq] at hv; subst hv
        exact .cons (opd_sound R h1 h3) (opds_sound R h2 h4)
      · exact absurd hv (by simp)
    · exact absurd hx (by simp)
theorem run_under {t : TypeId} {d : TypeDesc} (hd : P.underlying t = some d) : (underlying t).run P w = .ok d w := run_underlying hd w
theorem run_size {t : TypeId} {k : Nat} (hz : szOf P t = some k) : (Go.sizeOf t).run P w = .ok k w := by
  unfold szOf at hz
  cases hi : P.info? t with
  | none => simp [hi] at hz
  | some i => simp [hi] at hz; simp [Go.sizeOf, typeInfo, hi, hz]
theorem run_zero {t : TypeId} {z : Value} (hz : zeroOf P t = some z) : (zeroValue t).run P w = .ok z w := by
  unfold zeroOf at hz
  cases hi : P.info? t with
  | none => simp [hi] at hz
  | some i => simp [hi] at hz; simp [zeroValue, typeInfo, hi, hz]
theorem run_agg {t : TypeId} {g : Bool} (hz : isAggP P t = some g) : (isAgg t).run P w = .ok g w := by
  unfold isAggP at hz
  cases hi : P.underlying t with
  | none => simp [hi] at hz
  | some d =>
    simp [hi] at hz; subst hz
    simp only [isAgg, Sem.run_bind, run_under hi, Result.andThen_ok]
    cases d <;> rfl
def Out (b : Bt) (h1 : AH) (base : Nat) (w0 w : World) (v : Value) (r : Result Value) : Prop :=
  ∃ c v' w1, r = .ok v' w1 ∧ VR (b ++ c) w1.shape? v v' ∧ SLe w.shape? w1.shape? ∧ Sim (b ++ c) h1 base w0 w1
theorem Out.same {v v' : Value} {r : Result Value} (H : Sim b h base w0 w) (hr : r = .ok v' w) (hv : VR b w.shape? v v') : Out b h base w0 w v r :=
  ⟨[], v', w, hr, by rw [List.append_nil]; exact hv, SLe.refl _, by rw [List.append_nil]; exact H⟩
theorem Out.scal {v : Value} {r : Result Value} (H : Sim b h base w0 w) (hr : r = .ok v w) (hv : g0 v = true) : Out b h base w0 w v r := Out.same H hr (.scal hv)
theorem add_none (k s n : Nat) : (⟨k, s, none⟩ : Addr).add n = ⟨k, s + n, none⟩ := by unfold Addr.add; split <;> simp_all
theorem setRow_wset {k : Nat} {cs cs' : Array Value} {t : TypeId} {fr : Nat × Nat} (hk : w.heap[k]? = some (.cells cs t fr)) : w.setRow k cs' = wset w k (.cells cs' t fr) := by
  have hlt : k < w.heap.size := (Array.getElem?_eq_some_iff.1 hk).1
  have hv : w.heap[k] = .cells cs t fr := (Array.getElem?_eq_some_iff.1 hk).2
  unfold World.setRow wset
  congr 1
  apply Array.ext
  · simp
  · intro j h1 h2
    have hj : j < w.heap.size := by simpa using h2
    rw [Array.getElem_modify, Array.getElem_setIfInBounds hj]
    by_cases e : k = j
    · subst e; rw [if_pos rfl, if_pos rfl, hv]
    · rw [if_neg e, if_neg e]
theorem mkV_rel {agg : Bool} {l l' : List Value} {v : Value} (hl : LR (VR b w.shape?) l l') (hv : mkV agg l = some v) : ∃ v', mkV agg l' = some v' ∧ VR b w.shape? v v' := by
  cases agg with
  | true => simp only [mkV, Option.some.injEq] at hv; subst hv; exact ⟨_, rfl, VR.of_lr_agg hl⟩
  | false =>
    match l, hv with
    | [x], hv =>
      simp only [mkV, Option.some.injEq] at hv; subst hv
      obtain ⟨x', r, rfl, hx, hr⟩ := hl.uncons
      rw [hr.unnil]
      exact ⟨x', rfl, hx⟩
    | [], hv => simp [mkV] at hv
    | _ :: _ :: _, hv => simp [mkV] at hv
theorem OR.cellsAt {k s : Nat} {ro : Bool} {t : TypeId} {c : List Value} (hO : OR b w base k s (.row ro t c)) {off m : Nat} (hm : off + m ≤ c.length) :
    ∃ l', l'.length = m ∧ LR (VR b w.shape?) ((c.drop off).take m) l' ∧ ∀ (j : Nat) (v : Value), l'[j]? = some v → w.cell? ((⟨k, s + off, none⟩ : Addr).add j) = some v := by
  obtain ⟨_, cs, t', fr, hk, hs, hc, _⟩ := hO
  refine ⟨(cs.toList.drop (s + off)).take m, by simp; omega, ⟨by simp; omega, fun i v v' h1 h2 => ?_⟩, fun j v hj => ?_⟩
  · rw [List.getElem?_take] at h1 h2
    split at h1
    · rename_i hi
      rw [if_pos hi] at h2
      rw [List.getElem?_drop] at h1 h2
      obtain ⟨u, hu, hr⟩ := hc _ _ h1
      have : cs.toList[s + off + i]? = some u := by rw [Array.getElem?_toList, Nat.add_assoc]; exact hu
      rw [this] at h2; cases h2; exact hr
    · exact absurd h1 (by simp)
  · rw [List.getElem?_take] at hj
    split at hj
    · rw [List.getElem?_drop, Array.getElem?_toList] at hj
      rw [add_none]
      simp [World.cell?, hk, hj]
    · exact absurd hj (by simp)
theorem load_run (H : Sim b h base w0 w) {t : TypeId} {agg : Bool} {m : Nat} (hf : form P t = some (agg, m)) {i off k s : Nat} {ro : Bool} {tt : TypeId} {c : List Value} {v : Value}
    (hb : b[i]? = some (k, s)) (hi : rowAt h i = some (ro, tt, c)) (hm : off + m ≤ c.length) (hv : mkV agg ((c.drop off).take m) = some v) :
    ∃ v', VR b w.shape? v v' ∧ (loadVar t ⟨k, s + off, none⟩).run P w = .ok v' w := by
  obtain ⟨l', hl, hr, hcell⟩ := (H.row hi hb).cellsAt hm
  obtain ⟨v', hv', hrv⟩ := mkV_rel hr hv
  refine ⟨v', hrv, ?_⟩
  unfold form at hf
  split at hf
  · rename_i k' h1 h2
    simp only [Option.some.injEq, Prod.mk.injEq] at hf; obtain ⟨rfl, rfl⟩ := hf
    simp only [mkV, Option.some.injEq] at hv'; subst hv'
    have := run_loadCells_list (P := P) w ⟨k, s + off, none⟩ l' hcell
    rw [hl] at this
    simp [loadVar, run_agg h1, run_size h2, this]
  · rename_i h1 h2
    simp only [Option.some.injEq, Prod.mk.injEq] at hf; obtain ⟨rfl, rfl⟩ := hf
    match l', hl with
    | [x], _ =>
      simp only [mkV, Option.some.injEq] at hv'; subst hv'
      have := hcell 0 x rfl
      rw [add_none, Nat.add_zero] at this
      simp [loadVar, run_agg h1, this]
  · exact absurd hf (by simp)
theorem load_sound (H : Sim b h base w0 w) {t : TypeId} {agg : Bool} {m : Nat} (hf : form P t = some (agg, m)) {i off k s : Nat} {ro : Bool} {tt : TypeId} {c : List Value} {v : Value}
    (hb : b[i]? = some (k, s)) (hi : rowAt h i = some (ro, tt, c)) (hm : off + m ≤ c.length) (hv : mkV agg ((c.drop off).take m) = some v) :
    Out b h base w0 w v ((loadVar t ⟨k, s + off, none⟩).run P w) :=
  let ⟨_, hr, hrun⟩ := load_run (P := P) H hf hb hi hm hv
  Out.same H hrun hr
theorem one_iff (v : Value) : one v = v.oneCell' := by cases v <;> rfl
theorem LR.ones {l l' : List Value} (hl : LR (VR b w.shape?) l l') (ho : l.all one = true) : ∀ v ∈ l', v.oneCell' = true := by
  intro v hv
  obtain ⟨i, hi⟩ := List.getElem?_of_mem hv
  have hlt : i < l.length := by rw [hl.1]; exact (List.getElem?_eq_some_iff.1 hi).1
  have h1 := List.getElem?_eq_getElem hlt
  rw [← one_iff, ← (hl.2 i _ _ h1 hi).ones]
  exact List.all_eq_true.1 ho _ (List.mem_of_getElem? h1)
theorem splice_ones {c vs : List Value} (h1 : c.all one = true) (h2 : vs.all one = true) (off : Nat) : (splice c off vs).all one = true := by
  rw [List.all_eq_true] at *
  intro x hx
  unfold splice at hx
  rcases List.mem_append.1 hx with hx | hx
  · rcases List.mem_append.1 hx with hx | hx
    · exact h1 x (List.mem_of_mem_take hx)
    · exact h2 x hx
  · exact h1 x (List.mem_of_mem_drop hx)
theorem g0_one {v : Value} (h : g0 v = true) : one v = true := by cases v <;> first | rfl | simp [g0] at h
theorem g0_ones {l : List Value} (h : l.all g0 = true) : l.all one = true := List.all_eq_true.2 fun x hx => g0_one (List.all_eq_true.1 h x hx)
theorem Sim.write (H : Sim b h base w0 w) {i k s off : Nat} {t : TypeId} {c vs vs' : List Value} (hb : b[i]? = some (k, s)) (hi : rowAt h i = some (false, t, c)) (hr : LR (VR b w.shape?) vs vs')
    (hm : off + vs.length ≤ c.length) (ho : vs.all one = true) :
    ∃ w1, (storeCells ⟨k, s + off, none⟩ vs' 0).run P w = .ok () w1 ∧ w1.shape? = w.shape? ∧ Sim b (h.put i (.row false t (splice c off vs))) base w0 w1 := by
  obtain ⟨hone, cs, t', fr, hk, hs, hc, hx⟩ := H.row hi hb
  simp only [Bool.false_eq_true, if_false] at hx
  obtain ⟨hbase, rfl, rfl⟩ := hx
  have hlen := hr.1
  have hst := run_storeCells_at P k (s + off) t' vs' 0 cs w hk (by omega) (hr.ones ho)
  rw [Nat.add_zero, setRow_wset hk] at hst
  have hsz : (cs.toList.take (s + off) ++ vs' ++ cs.toList.drop (s + off + vs'.length)).toArray.size = cs.size := by simp; omega
  have hshape := wset_shape w k cs _ t' (0, 0) (0, 0) hk hsz
  refine ⟨_, hst, hshape, ?_⟩
  refine H.put (rowAt_get hi) rfl hb (by rw [hshape]; exact SLe.refl _) ?_
  refine ⟨splice_ones hone ho off, _, t', (0, 0), wset_same _ _ _ (Array.getElem?_eq_some_iff.1 hk).1, by rw [hsz]; unfold splice; simp; omega, fun j v hj => ?_, by simp [hbase]⟩
  rw [hshape]
  unfold splice at hj
  have key : ∀ j, (cs.toList.take (s + off) ++ vs' ++ cs.toList.drop (s + off + vs'.length)).toArray[j]? = if j < s + off then cs[j]? else if j < s + off + vs'.length then vs'[j - (s + off)]? else cs[j]? := by
    intro j
    simp only [List.getElem?_toArray, List.getElem?_append, List.getElem?_take, List.getElem?_drop, List.length_append, List.length_take, Array.length_toList, Array.getElem?_toList]
    have : min (s + off) cs.size = s + off := by omega
    rw [this]
    by_cases h1 : j < s + off
    · rw [if_pos (by omega), if_pos h1, if_pos h1, if_pos h1]
    · by_cases h2 : j < s + off + vs'.length
      · rw [if_pos (by omega), if_neg h1, if_neg h1, if_pos h2]
      · rw [if_neg (by omega), if_neg h1, if_neg h2]
        congr 1; omega
  rw [key]
  have hj2 : (c.take off ++ vs ++ c.drop (off + vs.length))[j]? = if j < off then c[j]? else if j < off + vs.length then vs[j - off]? else c[j]? := by
    simp only [List.getElem?_append, List.getElem?_take, List.getElem?_drop, List.length_append, List.length_take]
    have : min off c.length = off := by omega
    rw [this]
    by_cases h1 : j < off
    · rw [if_pos (by omega), if_pos h1, if_pos h1, if_pos h1]
    · by_cases h2 : j < off + vs.length
      · rw [if_pos (by omega), if_neg h1, if_neg h1, if_pos h2]
      · rw [if_neg (by omega), if_neg h1, if_neg h2]
        congr 1; omega
  rw [hj2] at hj
  by_cases e1 : j < off
  · rw [if_pos e1] at hj; rw [if_pos (by omega)]; exact hc j v hj
  · rw [if_neg e1] at hj; rw [if_neg (by omega)]
    by_cases e2 : j < off + vs.length
    · rw [if_pos e2] at hj; rw [if_pos (by omega)]
      obtain ⟨v', h1, h2⟩ := hr.get hj
      exact ⟨v', by rw [show s + j - (s + off) = j - off by omega]; exact h1, h2⟩
    · rw [if_neg e2] at hj; rw [if_neg (by omega)]; exact hc j v hj
theorem push_sound (H : Sim b h base w0 w) {t : TypeId} {vs : List Value} {cs : Array Value} (h1 : vs.all one = true) (hs : vs.length ≤ cs.size) (hr : ∀ (j : Nat) (v : Value), vs[j]? = some v → ∃ v', cs[j]? = some v' ∧ VR b w.shape? v v') :
    Sim (b ++ [(w.heap.size, 0)]) (h.push (.row false t vs)) base w0 (w.alloc (.cells cs t)) :=
  H.push _ _ ⟨h1, cs, t, (0, 0), heap_alloc_new w _, by omega, fun j v hj => let ⟨v', a, r⟩ := hr j v hj; ⟨v', by rw [Nat.zero_add]; exact a, r.ext (shape_push _ _)⟩, by simp [H.le]⟩
theorem new_at (H : Sim b h base w0 w) : (b ++ [(w.heap.size, 0)])[h.next]? = some (w.heap.size, 0) := by
  have := H.len
  rw [List.getElem?_append_right (by omega)]; simp [this]
theorem new_ptr (H : Sim b h base w0 w) (S : Sh) : VR (b ++ [(w.heap.size, 0)]) S (.pointer (some ⟨h.next, 0, none⟩)) (.pointer (some ⟨w.heap.size, 0, none⟩)) := by
  have := VR.ptr (S := S) (off := 0) (new_at H)
  simpa using this
theorem shape_new (cs : Array Value) (t : TypeId) : (w.alloc (.cells cs t)).shape? w.heap.size = some (t, cs.size) := by simp only [World.shape?, heap_alloc_new w _]
theorem new_slice (H : Sim b h base w0 w) {t : TypeId} {cs : Array Value} {len es cap : Nat} (hl : len ≤ cap) (hc : cap * es ≤ cs.size) :
    VR (b ++ [(w.heap.size, 0)]) (w.alloc (.cells cs t)).shape? (.slice (some ⟨h.next, 0, none⟩) len es) (.slice (some ⟨w.heap.size, 0, none⟩) len cap) := by
  have := VR.slice (S := (w.alloc (.cells cs t)).shape?) (off := 0) (es := es) (new_at H) hl (shape_new cs t) (by omega)
  simpa using this
end
end Go.Proofs.YtpnmeednimpjdaaGreat.AM
namespace Go.Proofs.YtpnmeednimpjdaaGreat.AM
open Go Go.RowKit
set_option linter.unusedSimpArgs false
set_option linter.unusedVariables false
section
variable {P : Program} {b : Bt} {h h1 : AH} {base : Nat} {w0 w : World} {e : Env} {a : Act} {n : Nat}
theorem binV_sound {op : BinOp} {t : TypeId} {x y : Operand} {u v r : Value} (hr : binV op u v = some r) :
    (do eqGuard op t x y u v; binOp op t u v : Sem Value).run P w = .ok r w ∧ g0 r = true := by
  unfold binV at hr
  split at hr
  · rename_i k a k' b
    have hg : (eqGuard op t x y (.int k a) (.int k' b)).run P w = .ok () w := by cases op <;> simp [eqGuard]
    simp only [Sem.run_bind, hg, Result.andThen_ok]
    split at hr
    · split at hr
      · exact absurd hr (by simp)
      · rename_i hb; simp only [Option.some.injEq] at hr; subst hr
        exact ⟨by simp [binOp, Op.shift, hb], rfl⟩
    · split at hr
      · exact absurd hr (by simp)
      · rename_i hb; simp only [Option.some.injEq] at hr; subst hr
        exact ⟨by simp [binOp, Op.shift, hb], rfl⟩
    · rename_i hn1 hn2
      split at hr
      · rename_i hk; subst hk
        unfold intBin at hr
        cases op <;> simp only [] at hr <;>
          first
          | exact absurd rfl (hn1)
          | exact absurd rfl (hn2)
          | (cases hr; done)
          | (split at hr
             · cases hr
             · rename_i hz; simp only [Option.some.injEq] at hr; subst hr; exact ⟨by simp [binOp, Op.intDiv, hz], rfl⟩)
          | (simp only [Option.some.injEq] at hr; subst hr; exact ⟨by simp [binOp, Op.intArith, Op.intBits, Op.intCmp], rfl⟩)
      · exact absurd hr (by simp)
  · rename_i a b
    have hg : (eqGuard op t x y (.string a) (.string b)).run P w = .ok () w := by cases op <;> simp [eqGuard]
    simp only [Sem.run_bind, hg, Result.andThen_ok]
    unfold strBin at hr
    cases op <;> simp only [] at hr <;>
      first
      | (cases hr; done)
      | (split at hr
         · rename_i hz; simp only [Option.some.injEq] at hr; subst hr
           refine ⟨?_, rfl⟩
           have : ¬ (((a.size + b.size : Nat) : Int) > IntKind.i64.max) := by
             have : IntKind.i64.max = 9223372036854775807 := by decide
             rw [this]; omega
           simp only [binOp, Op.stringOp]; rw [if_neg this]; rfl
         · cases hr)
      | (simp only [Option.some.injEq] at hr; subst hr; exact ⟨by simp [binOp, Op.stringOp], rfl⟩)
  · exact absurd hr (by simp)
theorem binV_rel {b : Bt} {S : Sh} {op : BinOp} {u v u' v' r : Value} (hr : binV op u v = some r) (hu : VR b S u u') (hv : VR b S v v') : u' = u ∧ v' = v := by
  unfold binV at hr
  split at hr
  · exact ⟨hu.int_inv, hv.int_inv⟩
  · exact ⟨hu.string_inv, hv.string_inv⟩
  · exact absurd hr (by simp)
theorem unV_sound {op : UnOp} {u r : Value} (hr : unV op u = some r) : (Op.unary op u).run P w = .ok r w ∧ g0 r = true ∧ g0 u = true := by
  unfold unV at hr
  split at hr
  · simp only [Option.some.injEq] at hr; subst hr; exact ⟨by simp [Op.unary, Op.intArith], rfl, rfl⟩
  · simp only [Option.some.injEq] at hr; subst hr; exact ⟨by simp [Op.unary, Op.intBits], rfl, rfl⟩
  · simp only [Option.some.injEq] at hr; subst hr; exact ⟨by simp [Op.unary], rfl, rfl⟩
  · exact absurd hr (by simp)
theorem isNil_rel {S : Sh} {kd : Nat} {u u' : Value} {r : Bool} (hr : isNil kd u = some r) (hu : VR b S u u') : isNil kd u' = some r := by
  rcases kd with _ | _ | _ | _ | kd <;> cases hu <;> simp_all [isNil]
theorem eqNil_rel {S : Sh} {kd : Nat} {u u' v v' : Value} {r : Bool} (hr : eqNil kd u v = some r) (hu : VR b S u u') (hv : VR b S v v') : eqNil kd u' v' = some r := by
  unfold eqNil at hr ⊢
  cases h1 : isNil kd u with
  | none => simp [h1] at hr
  | some x =>
    cases h2 : isNil kd v with
    | none => cases x <;> simp [h1, h2] at hr
    | some y => rw [isNil_rel h1 hu, isNil_rel h2 hv]; rw [h1, h2] at hr; exact hr
def kindIs (kd : Nat) : TypeDesc → Prop
  | .pointer _ => kd = 0
  | .slice _ => kd = 1
  | .map _ _ => kd = 2
  | .func _ _ _ => kd = 3
  | _ => False
theorem eqNil_both {kd : Nat} {u v : Value} {r : Bool} (hr : eqNil kd u v = some r) : ∃ x y, isNil kd u = some x ∧ isNil kd v = some y ∧ (x = true ∧ r = y ∨ y = true ∧ r = x) := by
  unfold eqNil at hr
  cases h1 : isNil kd u with
  | none => simp [h1] at hr
  | some x =>
    cases h2 : isNil kd v with
    | none => cases x <;> simp [h1, h2] at hr
    | some y => cases x <;> cases y <;> simp [h1, h2] at hr <;> exact ⟨_, _, rfl, rfl, by simp [hr]⟩
theorem isNil0 {u : Value} {x : Bool} (h : isNil 0 u = some x) : ∃ p, u = .pointer p ∧ x = p.isNone := by cases u <;> simp [isNil] at h; exact ⟨_, rfl, h.symm⟩
theorem isNil1 {u : Value} {x : Bool} (h : isNil 1 u = some x) : ∃ p l c, u = .slice p l c ∧ x = p.isNone := by cases u <;> simp [isNil] at h; exact ⟨_, _, _, rfl, h.symm⟩
theorem isNil2 {u : Value} {x : Bool} (h : isNil 2 u = some x) : ∃ p, u = .map p ∧ x = p.isNone := by cases u <;> simp [isNil] at h; exact ⟨_, rfl, h.symm⟩
theorem isNil3 {u : Value} {x : Bool} (h : isNil 3 u = some x) : (u = .nilFunc ∧ x = true) ∨ ∃ f c d, u = .func f c d ∧ x = false := by
  cases u <;> simp [isNil] at h
  · exact .inr ⟨_, _, _, rfl, h⟩
  · exact .inl ⟨rfl, h⟩
theorem equal_nil {t : TypeId} {d : TypeDesc} (hd : P.underlying t = some d) {kd : Nat} (hk : kindIs kd d) {u v : Value} {r : Bool} (hr : eqNil kd u v = some r) : (Op.equal t u v).run P w = .ok r w := by
  obtain ⟨x, y, hx, hy, hxy⟩ := eqNil_both hr
  unfold Op.equal Op.maxDepth
  rw [show (10000 : Nat) = 9999 + 1 from rfl, Op.equalIn]
  simp only [Sem.run_bind, run_under hd, Result.andThen_ok]
  generalize Op.equalIn 9999 = F
  cases d <;> simp only [kindIs] at hk <;> subst hk
  · obtain ⟨p, rfl, rfl⟩ := isNil0 hx; obtain ⟨q, rfl, rfl⟩ := isNil0 hy
    cases p <;> cases q <;> simp_all
  · obtain ⟨p, _, _, rfl, rfl⟩ := isNil1 hx; obtain ⟨q, _, _, rfl, rfl⟩ := isNil1 hy
    cases p <;> cases q <;> simp_all
  · obtain ⟨p, rfl, rfl⟩ := isNil2 hx; obtain ⟨q, rfl, rfl⟩ := isNil2 hy
    cases p <;> cases q <;> simp_all
  · rcases isNil3 hx with ⟨rfl, rfl⟩ | ⟨_, _, _, rfl, rfl⟩ <;> rcases isNil3 hy with ⟨rfl, rfl⟩ | ⟨_, _, _, rfl, rfl⟩ <;> simp_all
theorem eqGuard_nil {op : BinOp} {t : TypeId} {x y : Operand} {kd : Nat} {u v : Value} {r : Bool} (hr : eqNil kd u v = some r) : (eqGuard op t x y u v).run P w = .ok () w := by
  obtain ⟨p, q, hx, hy, _⟩ := eqNil_both hr
  have hu : u ≠ .nilIface ∧ ∀ c, u ≠ .agg c := by rcases kd with _ | _ | _ | _ | kd <;> cases u <;> simp_all [isNil]
  unfold eqGuard
  cases op <;> simp only [Sem.run_bind, Sem.run_pure, Result.andThen_ok] <;> first | rfl | (cases u <;> cases v <;> simp_all)
end
end Go.Proofs.YtpnmeednimpjdaaGreat.AM
namespace Go.Proofs.YtpnmeednimpjdaaGreat.AM
open Go Go.RowKit
set_option linter.unusedSimpArgs false
set_option linter.unusedVariables false
section
variable {P : Program} {b : Bt} {h h1 : AH} {base : Nat} {w0 w : World} {e : Env} {a : Act} {n : Nat}
theorem foldl_set (off : Nat) : ∀ (l : List Value) (k : Nat) (cs : Array Value), off + k + l.length ≤ cs.size →
    ((l.zipIdx k).foldl (fun cs p => cs.setIfInBounds (off + p.2) p.1) cs).toList = cs.toList.take (off + k) ++ l ++ cs.toList.drop (off + k + l.length)
  | [], k, cs, _ => by simp
  | v :: l, k, cs, hl => by
    have hl' : off + k + (l.length + 1) ≤ cs.size := by simpa using hl
    simp only [List.zipIdx_cons, List.foldl_cons]
    rw [foldl_set off l (k + 1) _ (by simp; omega)]
    have := list_seg_step cs.toList (off + k) v l (by simp; omega)
    simp only [Array.toList_setIfInBounds, List.length_cons]
    rw [← Nat.add_assoc off k 1, this]
theorem fill_step (cs : Array Value) (off : Nat) (v : Value) (hl : off + v.cells.size ≤ cs.size) :
    (v.cells.zipIdx.foldl (fun cs (p : Value × Nat) => cs.setIfInBounds (off + p.2) p.1) cs).toList = splice cs.toList off (cells v) := by
  have := foldl_set off v.cells.toList 0 cs (by simpa using hl)
  rw [Nat.add_zero] at this
  unfold splice cells
  rw [← this]
  congr 1
  rw [← Array.foldl_toList, Array.toList_zipIdx]
theorem fill_rel (R : Rl b e w a n) (place place' : Nat → Option (Nat × Nat)) (hp : ∀ i x, place' i = some x → place i = some x) :
    ∀ (ps : List (Nat × Operand)) (qs : List (Nat × Nat × Opd)) (zs vs : List Value) (cs : Array Value), rParts place' ps = some qs → fill e zs qs = some vs → LR (VR b w.shape?) zs cs.toList →
      ∃ cs', Instr.fill place cs (ps.map fun p => (p.1, a.eval p.2)) = some cs' ∧ LR (VR b w.shape?) vs cs'.toList
  | [], qs, zs, vs, cs, h1, h2, hr => by
    simp only [rParts, Option.some.injEq] at h1; subst h1
    simp only [fill, Option.some.injEq] at h2; subst h2
    exact ⟨cs, rfl, hr⟩
  | (i, x) :: ps, qs, zs, vs, cs, h1, h2, hr => by
    simp only [rParts] at h1
    split at h1
    · rename_i off m o r e1 e2 e3
      simp only [Option.some.injEq] at h1; subst h1
      simp only [fill] at h2
      split at h2
      · rename_i v e4
        split at h2
        · rename_i hc
          have hv := opd_sound R e2 e4
          have hcl := hv.cells
          have hlen := hcl.1
          have hz := hr.1
          have h3 : (a.eval x).cells.size = m := by unfold cells at hlen hc; simp at hlen hc; omega
          have h4 : off + (a.eval x).cells.size ≤ cs.size := by simp at hz; omega
          obtain ⟨cs', hf, hr'⟩ := fill_rel R place place' hp ps r _ vs ((a.eval x).cells.zipIdx.foldl (fun cs (p : Value × Nat) => cs.setIfInBounds (off + p.2) p.1) cs) e3 h2 (by rw [fill_step _ _ _ h4]; exact hr.splice hcl off)
          refine ⟨cs', ?_, hr'⟩
          simp only [List.map_cons, Instr.fill, hp i _ e1]
          rw [if_neg (by simp [h3]; omega)]
          exact hf
        · exact absurd h2 (by simp)
      · exact absurd h2 (by simp)
    · exact absurd h1 (by simp)
theorem run_mapM_fields (g : Field → Nat × Nat) : ∀ (fs : List Field), (∀ f ∈ fs, (do pure (f.offset, ← Go.sizeOf f.type) : Sem (Nat × Nat)).run P w = .ok (g f) w) →
    (fs.mapM (fun f => (do pure (f.offset, ← Go.sizeOf f.type) : Sem (Nat × Nat)))).run P w = .ok (fs.map g) w
  | [], _ => rfl
  | f :: fs, hf => by
    have h1 := hf f (by simp)
    have h2 := run_mapM_fields g fs (fun x hx => hf x (by simp [hx]))
    rw [List.mapM_cons]
    simp only [Sem.run_bind, Sem.run_pure] at h1 h2 ⊢
    simp only [h1, Result.andThen_ok]
    simp only [Sem.run_bind, h2, Result.andThen_ok, List.map_cons]
theorem lr_g0 {l : List Value} {S : Sh} (hl : l.all g0 = true) : LR (VR b S) l l := LR.same fun v hv => .scal (List.all_eq_true.1 hl v hv)
theorem build_sound (H : Sim b h base w0 w) (R : Rl b e w a n) {t : TypeId} {parts : Array (Nat × Operand)} {r : ROp} (hr : resolve P (.build t parts) = some r) {v : Value} (hv : ev r e h = some (v, h1)) :
    Out b h1 base w0 w v ((Instr.build t (parts.map fun (i, x) => (i, a.eval x))).run P w) := by
  simp only [resolve] at hr
  have hl : (parts.map fun (x : Nat × Operand) => (x.1, a.eval x.2)).toList = parts.toList.map fun p => (p.1, a.eval p.2) := by simp
  split at hr
  · rename_i z fs hz hu
    split at hr
    · rename_i hg
      simp only [Option.map_eq_some_iff] at hr
      obtain ⟨qs, hq, rfl⟩ := hr
      simp only [ev, Option.map_eq_some_iff, Prod.mk.injEq] at hv
      obtain ⟨vs, hf, rfl, rfl⟩ := hv
      have hall : ∀ f ∈ fs.toList, ∃ k, szOf P f.type = some k := fun f hf => Option.isSome_iff_exists.1 (List.all_eq_true.1 hg.2 f hf)
      have hm := run_mapM_fields (P := P) (w := w) (fun f => (f.offset, (szOf P f.type).getD 0)) fs.toList (fun f hf => by
        obtain ⟨k, hk⟩ := hall f hf
        simp [run_size hk, hk])
      obtain ⟨cs', h3, h4⟩ := fill_rel R (fun i => (fs.toList.map fun f => (f.offset, (szOf P f.type).getD 0)).toArray[i]?) (fun i => (fs[i]?).bind fun f => (szOf P f.type).map fun n => (f.offset, n))
        (fun i x hx => by
          simp only [Option.bind_eq_some_iff, Option.map_eq_some_iff] at hx
          obtain ⟨f, hf, k, hk, rfl⟩ := hx
          simp [hf, hk]) parts.toList qs (cells z) vs z.cells hq hf (lr_g0 hg.1)
      refine Out.same H (v' := .agg cs') ?_ ?_
      · unfold Instr.build
        simp only [Sem.run_bind, run_zero hz, Result.andThen_ok, run_under hu]
        rw [Array.mapM_eq_mapM_toList]
        simp only [Sem.run_map, hm, Result.andThen_ok, hl, h3, Sem.run_pure]
      · have := VR.of_lr_agg h4; simpa using this
    · exact absurd hr (by simp)
  · rename_i z k el hz hu
    simp only [Option.bind_eq_some_iff] at hr
    obtain ⟨m, hm, hr⟩ := hr
    split at hr
    · rename_i hg
      simp only [Option.map_eq_some_iff] at hr
      obtain ⟨qs, hq, rfl⟩ := hr
      simp only [ev, Option.map_eq_some_iff, Prod.mk.injEq] at hv
      obtain ⟨vs, hf, rfl, rfl⟩ := hv
      obtain ⟨cs', h3, h4⟩ := fill_rel R (fun i => some (i * m, m)) (fun i => some (i * m, m)) (fun i x hx => hx) parts.toList qs (cells z) vs z.cells hq hf (lr_g0 hg)
      refine Out.same H (v' := .agg cs') ?_ ?_
      · unfold Instr.build
        simp only [Sem.run_bind, run_zero hz, Result.andThen_ok, run_under hu, run_size hm, hl, h3, Sem.run_pure]
      · have := VR.of_lr_agg h4; simpa using this
    · exact absurd hr (by simp)
  · exact absurd hr (by simp)
theorem push_list (H : Sim b h base w0 w) {t : TypeId} {vs : List Value} {cs : Array Value} (h1 : vs.all one = true) (hr : LR (VR b w.shape?) vs cs.toList) : Sim (b ++ [(w.heap.size, 0)]) (h.push (.row false t vs)) base w0 (w.alloc (.cells cs t)) :=
  push_sound H h1 (by have := hr.1; simp at this; omega) fun j v hj => by obtain ⟨v', h1, h2⟩ := hr.get hj; exact ⟨v', by rw [← Array.getElem?_toList]; exact h1, h2⟩
theorem lit_sound (H : Sim b h base w0 w) (R : Rl b e w a n) {t : TypeId} {len : Nat} {parts : Array (Nat × Operand)} {r : ROp} (hr : resolve P (.buildSlice t len parts) = some r) {v : Value} (hv : ev r e h = some (v, h1)) :
    Out b h1 base w0 w v ((Instr.buildSlice t len (parts.map fun (i, x) => (i, a.eval x))).run P w) := by
  simp only [resolve] at hr
  have hl : (parts.map fun (x : Nat × Operand) => (x.1, a.eval x.2)).toList = parts.toList.map fun p => (p.1, a.eval p.2) := by simp
  split at hr
  · rename_i el hu
    split at hr
    · rename_i m z hm hz
      split at hr
      · rename_i hg
        simp only [Option.map_eq_some_iff] at hr
        obtain ⟨qs, hq, rfl⟩ := hr
        simp only [ev] at hv
        split at hv
        case h_2 => exact absurd hv (by simp)
        rename_i vs hf
        split at hv
        case isFalse => exact absurd hv (by simp)
        rename_i hone
        simp only [Option.some.injEq, Prod.mk.injEq] at hv
        obtain ⟨rfl, rfl⟩ := hv
        have hrow : ∃ Z : Array Value, (if len * m = 0 then pure #[] else do pure (← zeroValue el).cells : Sem (Array Value)).run P w = .ok Z w ∧ ((Array.range (len * m)).map (Z[· % Z.size]!)).toList = zrow z (len * m) := by
          by_cases h0 : len * m = 0
          · exact ⟨#[], by simp [h0], by simp [h0, zrow]⟩
          · exact ⟨z.cells, by simp [h0, run_zero hz], rfl⟩
        obtain ⟨Z, hZ, hZ2⟩ := hrow
        obtain ⟨cs', h3, h4⟩ := fill_rel R (fun i => some (i * m, m)) (fun i => some (i * m, m)) (fun i x hx => hx) parts.toList qs (zrow z (len * m)) vs ((Array.range (len * m)).map (Z[· % Z.size]!)) hq hf (by rw [hZ2]; exact lr_g0 hg.2.2.2)
        have hsz : cs'.size = len * m := by
          have e1 := h4.1
          have e2 : vs.length = (zrow z (len * m)).length := by
            have : ∀ (qs : List (Nat × Nat × Opd)) (zs vs : List Value), fill e zs qs = some vs → vs.length = zs.length := by
              intro qs
              induction qs with
              | nil => intro zs vs h; simp only [fill, Option.some.injEq] at h; rw [h]
              | cons q qs ih =>
                intro zs vs h
                simp only [fill] at h
                split at h
                · split at h
                  · rename_i hc; rw [ih _ _ h]; unfold splice; simp; omega
                  · exact absurd h (by simp)
                · exact absurd h (by simp)
            exact this _ _ _ hf
          simp [zrow] at e1 e2; omega
        refine ⟨[(w.heap.size, 0)], .slice (some ⟨w.heap.size, 0, none⟩) len len, w.alloc (.cells cs' el), ?_, new_slice H (Nat.le_refl _) (by omega), shape_push _ _, push_list H hone h4⟩
        unfold Instr.buildSlice
        simp only [Sem.run_bind, run_under hu, Result.andThen_ok, run_size hm]
        rw [show (16777216 : Nat) = 2 ^ 24 from rfl] at hg
        rw [if_neg (show ¬ len * m > 2 ^ 24 by omega)]
        by_cases h0 : len * m = 0
        · rw [if_pos h0] at hZ ⊢
          obtain rfl : #[] = Z := by simpa using hZ
          simp only [Sem.run_bind, Sem.run_pure, Result.andThen_ok, hl, h3, newRow, run_newObj]
          rfl
        · rw [if_neg h0] at hZ ⊢
          obtain rfl : z.cells = Z := by simpa [run_zero hz] using hZ
          simp only [Sem.run_bind, run_zero hz, Sem.run_pure, Result.andThen_ok, hl, h3, newRow, run_newObj]
          rfl
      · exact absurd hr (by simp)
    · exact absurd hr (by simp)
  · exact absurd hr (by simp)
end
end Go.Proofs.YtpnmeednimpjdaaGreat.AM
namespace Go.Proofs.YtpnmeednimpjdaaGreat.AM
open Go Go.RowKit
set_option linter.unusedSimpArgs false
set_option linter.unusedVariables false
section
variable {P : Program} {b : Bt} {h h1 : AH} {base : Nat} {w0 w : World} {e : Env} {a : Act} {n : Nat}
theorem Sim.drew (H : Sim b h base w0 w) : Sim b h base w0 w.drew :=
  ⟨H.len, H.out, H.bel.drew, H.le, fun i o hi => let ⟨k, s, hb, ho⟩ := H.obj i o hi; ⟨k, s, hb, ho.move (w' := w.drew) (fun _ _ x => x) (SLe.refl _) (fun _ => rfl)⟩, H.inj, H.gd⟩
theorem run_firstCells0 {es : Nat} {v : Value} (hv : lenV v ≠ none) : (Builtin.firstCells es 0 v).run P w = .ok #[] w := by
  cases v <;> simp [lenV] at hv
  · simp [Builtin.firstCells]
  · rename_i x _ _; cases x <;> simp [Builtin.firstCells, loadCells, loadCellsFrom]
theorem lenV_rel {S : Sh} {v v' : Value} {k : Nat} (hv : VR b S v v') (hl : lenV v = some k) : lenV v' = some k := by
  cases hv <;> first | exact hl | simp_all [lenV]
theorem lenOf_run {v : Value} {k : Nat} (hl : lenV v = some k) : (Builtin.lenOf v).run P w = .ok k w := by
  cases v <;> simp [lenV] at hl <;> subst hl <;> simp [Builtin.lenOf]
theorem firstOf_sound (H : Sim b h base w0 w) {es m : Nat} {v v' : Value} {new : List Value} (hv : VR b w.shape? v v') (hf : firstOf h es m v = some new) :
    ∃ new', (Builtin.firstCells es m v').run P w = .ok new'.toArray w ∧ LR (VR b w.shape?) new new' := by
  unfold firstOf at hf
  split at hf
  · split at hf
    · rename_i hm; subst hm
      simp only [Option.some.injEq] at hf; subst hf
      rw [hv.nilslice_inv]
      exact ⟨[], by simp [Builtin.firstCells], .nil⟩
    · exact absurd hf (by simp)
  · rename_i i off len s
    split at hf
    · rename_i hs
      split at hf
      · rename_i ro t c hi
        split at hf
        · rename_i hc
          simp only [Option.some.injEq] at hf; subst hf
          rcases hv.slice_inv with ⟨k, s', cap, tt, nn, hb, hl, hS, hcap, rfl⟩ | ⟨h0, a', rfl⟩
          · obtain ⟨l', h1, h2, h3⟩ := (H.row hi hb).cellsAt hc
            refine ⟨l', ?_, h2⟩
            have := run_loadCells_list (P := P) w _ l' h3
            rw [h1] at this
            simp [Builtin.firstCells, this]
          · have : m = 0 := by omega
            subst this
            exact ⟨[], by rw [run_firstCells0 (by simp [lenV])], by simpa using LR.nil⟩
        · exact absurd hf (by simp)
      · split at hf
        · rename_i hm; obtain ⟨hm, _⟩ := hm; subst hm
          simp only [Option.some.injEq] at hf; subst hf
          refine ⟨[], ?_, .nil⟩
          have := lenV_rel hv (k := len) rfl
          rw [run_firstCells0 (by rw [this]; simp)]
        · exact absurd hf (by simp)
    · exact absurd hf (by simp)
  · rename_i s
    split at hf
    · rename_i hs
      simp only [Option.some.injEq] at hf; subst hf
      rw [hv.string_inv]
      refine ⟨(s.data.toList.take m).map fun b => .int .u8 b.toNat, ?_, LR.same fun v hv => ?_⟩
      · simp only [Builtin.firstCells, Sem.run_pure]
        congr 1
        apply Array.ext'
        simp [ByteArray.extract, ByteArray.copySlice]
      · obtain ⟨x, _, rfl⟩ := List.mem_map.1 hv; exact .scal rfl
    · exact absurd hf (by simp)
  · exact absurd hf (by simp)
theorem firstOf_ones (H : Sim b h base w0 w) {es m : Nat} {v : Value} {new : List Value} (hf : firstOf h es m v = some new) : new.all one = true := by
  unfold firstOf at hf
  split at hf
  · split at hf
    · simp only [Option.some.injEq] at hf; subst hf; rfl
    · exact absurd hf (by simp)
  · split at hf
    · split at hf
      · rename_i hi
        split at hf
        · simp only [Option.some.injEq] at hf; subst hf
          obtain ⟨k, s, hb, hO⟩ := H.obj _ _ (rowAt_get hi)
          exact List.all_eq_true.2 fun x hx => List.all_eq_true.1 hO.1 x (List.mem_of_mem_drop (List.mem_of_mem_take hx))
        · exact absurd hf (by simp)
      · split at hf
        · simp only [Option.some.injEq] at hf; subst hf; rfl
        · exact absurd hf (by simp)
    · exact absurd hf (by simp)
  · split at hf
    · simp only [Option.some.injEq] at hf; subst hf
      exact List.all_eq_true.2 fun x hx => by obtain ⟨y, _, rfl⟩ := List.mem_map.1 hx; rfl
    · exact absurd hf (by simp)
  · exact absurd hf (by simp)
theorem Sim.take (H : Sim b h base w0 w) {i k s s' : Nat} {o0 o : AObj} {w1 : World} (hi : h.get i = some o0) (hm : live o0 = true) (hb : b[i]? = some (k, s))
    (hw : ∃ ob, w1 = wset w k ob) (hS : w1.shape? = w.shape?) (ho : OR (b ++ [(k, s')]) w1 base k s' o) (hlo : live o = true) : Sim (b ++ [(k, s')]) ((h.put i .dead).push o) base w0 w1 := by
  obtain ⟨ob, rfl⟩ := hw
  have hlen := H.len
  obtain ⟨k', t', hb', hr⟩ := H.obj i o0 hi
  rw [hb] at hb'; cases hb'
  have hlt := hr.lt hm
  have hin : i < h.next := by
    rcases Nat.lt_or_ge i h.next with hx | hx
    · exact hx
    · rw [H.out i hx] at hi; cases hi
  have get_old : ∀ j, j ≠ i → j ≠ h.next → ((h.put i .dead).push o).get j = h.get j := by
    intro j h1 h2
    have : (h.put i .dead).next = h.next := rfl
    rw [AH.get_push_ne _ _ (by rw [this]; exact Ne.symm h2), AH.get_put_ne _ _ (Ne.symm h1)]
  have get_i : ((h.put i .dead).push o).get i = some .dead := by
    have : (h.put i .dead).next = h.next := rfl
    rw [AH.get_push_ne _ _ (by rw [this]; omega), AH.get_put_same]
  have get_new : ((h.put i .dead).push o).get h.next = some o := AH.get_push_same (h.put i .dead) o
  have new : (b ++ [(k, s')])[h.next]? = some (k, s') := by rw [List.getElem?_append_right (by omega)]; simp [hlen]
  have apart : ∀ j o', j ≠ i → h.get j = some o' → ∀ k' s'', b[j]? = some (k', s'') → o' ≠ .dead → OR b w base k' s'' o' → k ≠ k' := by
    intro j o' hj hg k' s'' hb2 hd hor hk; subst hk
    cases hmo : live o' with
    | true => exact H.inj i j o0 o' k s s'' (Ne.symm hj) hi hg hm hmo hb hb2
    | false =>
      cases o' with
      | row ro t c =>
        cases ro with
        | true => obtain ⟨_, _, _, _, _, _, _, hx⟩ := hor; exact absurd hx (by have := hlt.1; simp; omega)
        | false => simp [live] at hmo
      | map es => simp [live] at hmo
      | iter s p => simp [live] at hmo
      | seq m => simp [live] at hmo
      | dead => exact hd rfl
  refine ⟨by show _ = h.next + 1; simp [hlen], fun j hj => ?_, wset_below H.bel k ob hlt.1, by have := H.le; simp [wset]; exact this, fun j o' hj => ?_, ?_, H.gd⟩
  · have hj' : h.next + 1 ≤ j := hj
    rw [get_old j (by omega) (by omega)]; exact H.out j (by omega)
  · by_cases e1 : j = h.next
    · subst e1; rw [get_new] at hj; cases hj; exact ⟨k, s', new, ho⟩
    · by_cases e2 : j = i
      · subst e2; rw [get_i] at hj; cases hj; exact ⟨k, s, getElem?_pre _ _ hb, trivial⟩
      · rw [get_old j e2 e1] at hj
        obtain ⟨k', s'', hb2, hor⟩ := H.obj j o' hj
        exact ⟨k', s'', getElem?_pre _ _ hb2, hor.move getElem?_pre (by rw [hS]; exact SLe.refl _) fun hd => wset_ne _ _ (apart j o' e2 hj k' s'' hb2 hd hor)⟩
  · intro x y o1 o2 k1 s1 s2 hxy h1 h2 m1 m2 b1 b2
    have key : ∀ y o2 s2, y ≠ h.next → ((h.put i .dead).push o).get y = some o2 → live o2 = true → (b ++ [(k, s')])[y]? = some (k, s2) → False := by
      intro y o2 s2 hy hg hm2 hb2
      by_cases e : y = i
      · subst e; rw [get_i] at hg; cases hg; simp [live] at hm2
      · rw [get_old y e hy] at hg
        obtain ⟨k', s'', hb3, hor⟩ := H.obj y o2 hg
        have := getElem?_pre (c := [(k, s')]) _ _ hb3
        rw [hb2] at this; cases this
        exact H.inj i y o0 o2 k s s2 (Ne.symm e) hi hg hm hm2 hb hb3
    by_cases e1 : x = h.next
    · subst e1; rw [new] at b1; cases b1; exact key y o2 s2 (Ne.symm hxy) h2 m2 b2
    · by_cases e2 : y = h.next
      · subst e2; rw [new] at b2; cases b2; exact key x o1 s1 e1 h1 m1 b1
      · by_cases e3 : x = i
        · subst e3; rw [get_i] at h1; cases h1; simp [live] at m1
        · by_cases e4 : y = i
          · subst e4; rw [get_i] at h2; cases h2; simp [live] at m2
          · rw [get_old x e3 e1] at h1; rw [get_old y e4 e2] at h2
            obtain ⟨k3, s3, hb3, _⟩ := H.obj x o1 h1
            obtain ⟨k4, s4, hb4, _⟩ := H.obj y o2 h2
            have p3 := getElem?_pre (c := [(k, s')]) _ _ hb3
            have p4 := getElem?_pre (c := [(k, s')]) _ _ hb4
            rw [b1] at p3; cases p3
            rw [b2] at p4; cases p4
            exact H.inj x y o1 o2 k1 s1 s2 hxy h1 h2 m1 m2 hb3 hb4
theorem Sim.kill (H : Sim b h base w0 w) {i : Nat} {o0 : AObj} (hi : h.get i = some o0) : Sim b (h.put i .dead) base w0 w := by
  refine ⟨H.len, fun j hj => ?_, H.bel, H.le, fun j o hj => ?_, ?_, H.gd⟩
  · have hj' : h.next ≤ j := hj
    by_cases e : i = j
    · subst e; rw [H.out i hj'] at hi; cases hi
    · rw [AH.get_put_ne _ _ e]; exact H.out j hj'
  · by_cases e : i = j
    · subst e; rw [AH.get_put_same] at hj; cases hj
      obtain ⟨k, s, hb, _⟩ := H.obj i o0 hi
      exact ⟨k, s, hb, trivial⟩
    · rw [AH.get_put_ne _ _ e] at hj; exact H.obj j o hj
  · intro x y o1 o2 k1 s1 s2 hxy h1 h2 m1 m2 b1 b2
    by_cases e1 : i = x
    · subst e1; rw [AH.get_put_same] at h1; cases h1; simp [live] at m1
    · by_cases e2 : i = y
      · subst e2; rw [AH.get_put_same] at h2; cases h2; simp [live] at m2
      · rw [AH.get_put_ne _ _ e1] at h1; rw [AH.get_put_ne _ _ e2] at h2
        exact H.inj x y o1 o2 k1 s1 s2 hxy h1 h2 m1 m2 b1 b2
theorem run_app {AT : Array TypeId} {ty t u el : TypeId} {d : TypeDesc} {m by_ k sl sc : Nat} {z : Value} {args : Array Value} {B : Option Addr} {V : Value}
    (h0 : AT[0]? = some t) (h1 : AT[1]? = some u) (g0 : args[0]? = some (.slice B sl sc)) (g1 : args[1]? = some V) (ht : P.underlying t = some (.slice el)) (hu : P.underlying u = some d)
    (hd : ∀ q, d ≠ .int q) (hm : szOf P el = some m) (hb : bytesOfT P el = some by_) (hz : zeroOf P el = some z) (hz1 : (cells z).length = m) (hb0 : by_ ≠ 0) (hl : lenV V = some k)
    (hbig : (sl + k) * by_ ≤ 140737488355328) :
    (sl + k ≤ sc → ∀ new : List Value, (Builtin.firstCells m k V).run P w = .ok new.toArray w → (Builtin.append_ AT ty args).run P w = (do (if let some a := B then storeCells (a.add (sl * m)) new else pure ()); pure (.slice B (sl + k) sc) : Sem Value).run P w) ∧
    (sc < sl + k → ∀ (old : Array Value) (new : List Value), (Builtin.firstCells m sl (.slice B sl sc)).run P w.drew = .ok old w.drew → (Builtin.firstCells m k V).run P w.drew = .ok new.toArray w.drew → ∃ cap rest, sl + k ≤ cap ∧ rest = (cap - (sl + k)) * m ∧
      ∃ R : Array Value, R.size = rest ∧ (Builtin.append_ AT ty args).run P w = .ok (.slice (some ⟨w.heap.size, 0, none⟩) (sl + k) cap) (w.drew.alloc (.cells (old ++ new.toArray ++ R) el))) := by
  have hi : ∃ i, P.info? el = some i ∧ i.size = m ∧ i.bytes = by_ ∧ i.zero = some z := by
    unfold szOf at hm; unfold bytesOfT at hb; unfold zeroOf at hz
    cases hi : P.info? el with
    | none => simp [hi] at hm
    | some i => simp [hi] at hm hb hz; exact ⟨i, rfl, hm, hb, hz⟩
  obtain ⟨i, hi, i1, i2, i3⟩ := hi
  subst i1; subst i2
  have hdd : (match d with | .int _ => true | _ => false) = false := by cases d <;> first | rfl | exact absurd rfl (hd _)
  have hlo : ∀ w' : World, (Builtin.lenOf V).run P w' = .ok k w' := fun w' => lenOf_run hl
  constructor
  · intro hr new n0
    unfold Builtin.append_
    simp only [h0, h1, g0, g1, Sem.run_bind, run_under ht, run_under hu, Result.andThen_ok, run_size hm, Sem.run_pure, hdd, hlo, Bool.false_eq_true, if_false, hr, if_true, Bool.not_false, n0]
    cases B <;> simp
  · intro hr old new hold n1
    have hn' : ¬ (sl + k ≤ sc) := by omega
    have hfit := growslice_fits hr hbig
    refine ⟨grownCap w (sl + k) sc el, (grownCap w (sl + k) sc el - (sl + k)) * i.size, grownCap_ge w (sl + k) sc el, rfl, Builtin.zeroCells z.cells (grownCap w (sl + k) sc el - (sl + k)), ?_, ?_⟩
    · rw [size_zeroCells]
      have : z.cells.size = i.size := by unfold cells at hz1; simpa using hz1
      rw [this]
    · have hif : ¬ (((sl + k : Nat) : Int) > IntKind.i64.max ∧ (false = true ∨ i.bytes = 0)) := by rintro ⟨_, h | h⟩ <;> simp_all
      have hif2 : ¬ (Builtin.nextslicecap (sl + k) sc * i.bytes > 2 ^ 48) := by
        rw [show (2 : Nat) ^ 48 = 281474976710656 from by decide]; omega
      have hti : ∀ w' : World, (typeInfo el).run P w' = .ok i w' := fun w' => by simp [typeInfo, hi]
      unfold Builtin.append_
      simp only [h0, h1, g0, g1, Sem.run_bind, run_under ht, run_under hu, Result.andThen_ok, run_size hm, Sem.run_pure, hdd, hlo, Bool.false_eq_true, if_false, hn', hti, Bool.not_false]
      simp only [Bool.false_eq_true, false_or, if_true, hb0, and_false, if_false, hif2, Sem.run_bind, run_choose, Question.forced, Result.andThen_ok, run_askRoom, hti]
      have hd2 : { heap := w.heap, tape := w.tape, drawn := w.drawn + 1, os := w.os, output := w.output : World } = w.drew := rfl
      rw [hd2, hold]
      simp only [Result.andThen_ok, n1, run_zero hz, newRow, Sem.run_bind, run_newObj, Sem.run_pure]
      rfl
theorem run_appZ {AT : Array TypeId} {ty t u el : TypeId} {q : IntKind} {m by_ : Nat} {k : Int} {z : Value} {args : Array Value}
    (h0 : AT[0]? = some t) (h1 : AT[1]? = some u) (g0 : args[0]? = some (.slice none 0 0)) (g1 : args[1]? = some (.int .i64 k)) (ht : P.underlying t = some (.slice el)) (hu : P.underlying u = some (.int q))
    (hm : szOf P el = some m) (hb : bytesOfT P el = some by_) (hz : zeroOf P el = some z) (hz1 : (cells z).length = m) (hb0 : by_ ≠ 0) (hk : 0 < k) (hbig : k * by_ ≤ 140737488355328) :
    ∃ cap, k.toNat ≤ cap ∧ ∃ R : Array Value, R.size = cap * m ∧ (Builtin.append_ AT ty args).run P w = .ok (.slice (some ⟨w.heap.size, 0, none⟩) k.toNat cap) (w.drew.alloc (.cells R el)) := by
  have hi : ∃ i, P.info? el = some i ∧ i.size = m ∧ i.bytes = by_ ∧ i.zero = some z := by
    unfold szOf at hm; unfold bytesOfT at hb; unfold zeroOf at hz
    cases hi : P.info? el with
    | none => simp [hi] at hm
    | some i => simp [hi] at hm hb hz; exact ⟨i, rfl, hm, hb, hz⟩
  obtain ⟨i, hi, i1, i2, i3⟩ := hi
  subst i1; subst i2
  obtain ⟨n, rfl⟩ : ∃ n : Nat, k = n := ⟨k.toNat, by omega⟩
  have hn : 0 < n := by omega
  have hbn : n * i.bytes ≤ 140737488355328 := by
    have h2 : ((n * i.bytes : Nat) : Int) ≤ ((140737488355328 : Nat) : Int) := by rw [Int.natCast_mul]; exact hbig
    exact Int.ofNat_le.1 h2
  have hbig' : (0 + n) * i.bytes ≤ 140737488355328 := by rw [Nat.zero_add]; exact hbn
  have hnb : n ≤ 140737488355328 := by
    have h1 : n * 1 ≤ n * i.bytes := Nat.mul_le_mul_left _ (by omega)
    rw [Nat.mul_one] at h1
    exact Nat.le_trans h1 hbn
  have hfit := growslice_fits (need := 0 + n) (old := 0) (bytes := i.bytes) (by omega) hbig'
  have hzs : z.cells.size = i.size := by unfold cells at hz1; simpa using hz1
  have hge := grownCap_ge w (0 + n) 0 el
  refine ⟨grownCap w (0 + n) 0 el, by rw [Int.toNat_natCast]; omega, (#[] ++ (if n * i.size = 0 then #[] else Builtin.zeroCells z.cells n)) ++ Builtin.zeroCells z.cells (grownCap w (0 + n) 0 el - (0 + n)), ?_, ?_⟩
  · rw [Array.size_append, size_zeroCells, hzs, Array.empty_append]
    split
    · rename_i h0
      rcases Nat.mul_eq_zero.1 h0 with h | h
      · omega
      · simp [h]
    · rw [size_zeroCells, hzs, ← Nat.add_mul]
      congr 1; omega
  · have hw : IntKind.i64.wrap (n : Int) = n := by rw [IntKind.wrap_i64]; omega
    have hif : ¬ (((0 + n : Nat) : Int) > IntKind.i64.max ∧ (true = true ∨ i.bytes = 0)) := by
      rintro ⟨h, _⟩
      rw [IntKind.max_i64] at h
      omega
    have hif2 : ¬ (Builtin.nextslicecap (0 + n) 0 * i.bytes > 2 ^ 48) := by
      rw [show (2 : Nat) ^ 48 = 281474976710656 from by decide]; omega
    have hif3 : ¬ ((n : Int) * i.bytes > 2 ^ 48) := by
      have h3 : (n : Int) * i.bytes ≤ 140737488355328 := hbig
      rw [show (2 : Int) ^ 48 = 281474976710656 from by decide]
      exact Int.not_lt.2 (Int.le_trans h3 (by decide))
    have hti : ∀ w' : World, (typeInfo el).run P w' = .ok i w' := fun w' => by simp [typeInfo, hi]
    have hn0 : ¬ ((n : Int) < 0) := by omega
    have hn1 : ¬ (0 + n ≤ 0) := by omega
    have hzr : ∀ w' : World, (zeroValue el).run P w' = .ok z w' := fun w' => run_zero hz
    unfold Builtin.append_
    have hai : ∀ w' : World, (asInt (.int .i64 (n : Int))).run P w' = .ok (n : Int) w' := fun w' => by simp [asInt, asIntOf]
    have happ : ∀ w' : World, (if n * i.size = 0 then (pure #[] : Sem (Array Value)) else do pure (Builtin.zeroCells (← zeroValue el).cells n)).run P w' = .ok (if n * i.size = 0 then #[] else Builtin.zeroCells z.cells n) w' := by
      intro w'
      split
      · rfl
      · simp only [Sem.run_bind, hzr, Result.andThen_ok, Sem.run_pure]
    simp only [h0, h1, g0, g1, Sem.run_bind, run_under ht, run_under hu, Result.andThen_ok, run_size hm, Sem.run_pure, hai, if_true, hti, hw, hn0, if_false, hif3, Int.toNat_natCast, hn1]
    simp only [hif, hif2, if_false, Sem.run_bind, Sem.run_pure, Result.andThen_ok, run_choose, Question.forced, run_askRoom, hti, Builtin.firstCells, Bool.not_true, Bool.false_eq_true, hif3, hw, hn0, hn1, Int.toNat_natCast, true_or, and_true]
    have hifa : ¬ (((0 + n : Nat) : Int) > IntKind.i64.max) := by
      rw [IntKind.max_i64]
      omega
    simp only [hifa, hif2, if_false, Sem.run_bind, Sem.run_pure, Result.andThen_ok, run_choose, Question.forced, run_askRoom, hti, happ, hzr, newRow, run_newObj]
    rw [Nat.zero_add]
    rfl
theorem appZ_sound (H : Sim b h base w0 w) {AT : Array TypeId} {ty t u el : TypeId} {q : IntKind} {m by_ : Nat} {z : Value} {args : Array Value} {xo yo : Opd} {s v s' v' r : Value}
    (h0 : AT[0]? = some t) (h1_ : AT[1]? = some u) (ha0 : args[0]? = some s') (ha1 : args[1]? = some v') (ht : P.underlying t = some (.slice el)) (hu : P.underlying u = some (.int q))
    (hm : szOf P el = some m) (hb : bytesOfT P el = some by_) (hz : zeroOf P el = some z) (hz1 : (cells z).length = m) (hb0 : by_ ≠ 0)
    (hx : xo.ev e = some s) (hy : yo.ev e = some v) (hrs : VR b w.shape? s s') (hrv : VR b w.shape? v v') (hv : ev (.appZ el m by_ xo yo) e h = some (r, h1)) :
    Out b h1 base w0 w r ((Builtin.append_ AT ty args).run P w) := by
  simp only [ev, hx, hy] at hv
  split at hv
  · rename_i k e1 e2
    simp only [Option.some.injEq] at e1 e2
    subst e1; subst e2
    split at hv
    · rename_i hk
      simp only [Option.some.injEq, Prod.mk.injEq] at hv; obtain ⟨rfl, rfl⟩ := hv
      have e3 := hrs.nilslice_inv; subst e3
      have e4 := hrv.int_inv; subst e4
      obtain ⟨cap, hc, R, hR, hrun⟩ := run_appZ (P := P) (w := w) (ty := ty) h0 h1_ ha0 ha1 ht hu hm hb hz hz1 hb0 hk.1 hk.2
      refine ⟨[(w.heap.size, 0)], _, _, hrun, ?_, ?_, ?_⟩
      · exact new_slice (w := w.drew) H.drew hc (by rw [hR]; exact Nat.le_refl _)
      · exact shape_push w.drew _
      · exact push_sound (w := w.drew) H.drew rfl (by simp) fun j x hj => by simp at hj
    · exact absurd hv (by simp)
  · exact absurd hv (by simp)
theorem app_sound (H : Sim b h base w0 w) {AT : Array TypeId} {ty t u el : TypeId} {d : TypeDesc} {m by_ : Nat} {z : Value} {args : Array Value} {xo yo : Opd} {s v s' v' r : Value}
    (h0 : AT[0]? = some t) (h1_ : AT[1]? = some u) (ha0 : args[0]? = some s') (ha1 : args[1]? = some v') (ht : P.underlying t = some (.slice el)) (hu : P.underlying u = some d)
    (hd : ∀ q, d ≠ .int q) (hm : szOf P el = some m) (hb : bytesOfT P el = some by_) (hz : zeroOf P el = some z) (hz1 : (cells z).length = m) (hb0 : by_ ≠ 0)
    (hx : xo.ev e = some s) (hy : yo.ev e = some v) (hrs : VR b w.shape? s s') (hrv : VR b w.shape? v v') (hv : ev (.app el m by_ xo yo) e h = some (r, h1)) :
    Out b h1 base w0 w r ((Builtin.append_ AT ty args).run P w) := by
  simp only [ev, hx, hy] at hv
  split at hv
  · rename_i k hk
    have hk' := lenV_rel hrv hk
    split at hv
    · -- nothing is appended
      rename_i hk0
      subst hk0
      have fc := run_firstCells0 (P := P) (w := w) (es := m) (v := v') (by rw [hk']; simp)
      have fcd := run_firstCells0 (P := P) (w := w.drew) (es := m) (v := v') (by rw [hk']; simp)
      split at hv
      · simp only [Option.some.injEq, Prod.mk.injEq] at hv; obtain ⟨rfl, rfl⟩ := hv
        have := hrs.nilslice_inv; subst this
        have R := (run_app (P := P) (w := w) (ty := ty) h0 h1_ ha0 ha1 ht hu hd hm hb hz hz1 hb0 hk' (by simp)).1 (by simp) [] fc
        exact Out.same H (v' := .slice none 0 0) (by rw [R]; simp) (.scal rfl)
      · simp only [Option.some.injEq, Prod.mk.injEq] at hv; obtain ⟨rfl, rfl⟩ := hv
        have key : ∀ (a' : Addr) (l c : Nat), s' = .slice (some a') l c → l ≤ c → Out b h base w0 w _ ((Builtin.append_ AT ty args).run P w) := fun a' l c hs hl => by
          subst hs
          have hun : (Builtin.append_ AT ty args).run P w = .ok (.slice (some a') l c) w := by
            unfold Builtin.append_
            have hdd : (match d with | .int _ => true | _ => false) = false := by cases d <;> first | rfl | exact absurd rfl (hd _)
            simp only [h0, h1_, ha0, ha1, Sem.run_bind, run_under ht, run_under hu, Result.andThen_ok, run_size hm, Sem.run_pure, hdd, lenOf_run hk', Bool.false_eq_true, if_false, Nat.add_zero, hl, if_true, Bool.not_false, fc]
            simp [storeCells]
          exact Out.same H hun hrs
        cases hrs with
        | scal hg => simp [g0] at hg
        | slice _ hl _ _ => exact key _ _ _ rfl hl
        | slice0 => exact key _ _ _ rfl (Nat.le_refl _)
      · exact absurd hv (by simp)
    · rename_i hk0
      obtain ⟨new, hfirst⟩ : ∃ new, firstOf h m k v = some new := by
        cases hf : firstOf h m k v with
        | none => simp [hf] at hv
        | some new => exact ⟨new, rfl⟩
      simp only [hfirst] at hv
      obtain ⟨new', fc, hlr⟩ := firstOf_sound (P := P) H hrv hfirst
      obtain ⟨new2, fcd, hlr2⟩ := firstOf_sound (P := P) H.drew hrv hfirst
      have hnone := firstOf_ones H hfirst
      have hnl : new.length = k * m := by
        unfold firstOf at hfirst
        split at hfirst
        · split at hfirst
          · rename_i hx; exact absurd hx hk0
          · exact absurd hfirst (by simp)
        · split at hfirst
          · split at hfirst
            · split at hfirst
              · simp only [Option.some.injEq] at hfirst; subst hfirst; simp; omega
              · exact absurd hfirst (by simp)
            · simp [hk0] at hfirst
          · exact absurd hfirst (by simp)
        · split at hfirst
          · rename_i hx; simp only [Option.some.injEq] at hfirst; subst hfirst; rw [hx.1]; simp; exact Nat.min_eq_left hx.2
          · exact absurd hfirst (by simp)
        · exact absurd hfirst (by simp)
      split at hv
      · -- onto nil
        split at hv
        · rename_i hbig
          simp only [Option.some.injEq, Prod.mk.injEq] at hv; obtain ⟨rfl, rfl⟩ := hv
          have := hrs.nilslice_inv; subst this
          obtain ⟨cap, rest, hc1, hc2, Rr, hR, hrun⟩ := (run_app (P := P) (w := w) (ty := ty) h0 h1_ ha0 ha1 ht hu hd hm hb hz hz1 hb0 hk' (by simpa using hbig)).2 (by omega) #[] new2 (by simp [Builtin.firstCells]) fcd
          rw [Nat.zero_add] at hc1 hc2 hrun
          have hlen2 := hlr2.1
          have hsz : (#[] ++ new2.toArray ++ Rr).size = cap * m := by
            have : (#[] ++ new2.toArray ++ Rr).size = new2.length + Rr.size := by simp
            rw [this, hR, hc2, ← hlen2, hnl, ← Nat.add_mul]
            congr 1; omega
          refine ⟨[(w.heap.size, 0)], _, _, hrun, ?_, ?_, ?_⟩
          · exact new_slice (w := w.drew) H.drew hc1 (by rw [hsz]; exact Nat.le_refl _)
          · exact shape_push w.drew _
          · refine push_sound (w := w.drew) H.drew hnone (by rw [hsz, hnl]; exact Nat.mul_le_mul_right _ hc1) fun j x hj => ?_
            obtain ⟨x', hx1, hx2⟩ := hlr2.get hj
            refine ⟨x', ?_, hx2⟩
            have hlt : j < new2.length := (List.getElem?_eq_some_iff.1 hx1).1
            rw [Array.getElem?_append, if_pos (by simp; exact hlt), Array.getElem?_append, if_neg (by simp)]
            simpa using hx1
        · exact absurd hv (by simp)
      · rename_i i off len s2
        split at hv
        · rename_i t' c hi
          split at hv
          · rename_i hcond
            obtain ⟨rfl, rfl, hoff, hbig⟩ := hcond
            simp only [Option.some.injEq, Prod.mk.injEq] at hv; obtain ⟨rfl, rfl⟩ := hv
            have hget := rowAt_get hi
            obtain ⟨kb, sb, hbi, hO⟩ := H.obj i _ hget
            have hO' := hO
            obtain ⟨hone, cs, t2, fr, hkb, hs, hc, hx3⟩ := hO
            simp only [Bool.false_eq_true, if_false] at hx3
            obtain ⟨hbase, rfl, rfl⟩ := hx3
            have hlen1 := hlr.1
            have hlen2 := hlr2.1
            have hcut : ((c.drop off).take (len * s2)).all one = true := List.all_eq_true.2 fun x hx => List.all_eq_true.1 hone x (List.mem_of_mem_drop (List.mem_of_mem_take hx))
            have hsl : ∃ a' cap, s' = .slice (some a') len cap ∧ len ≤ cap ∧ (cap < len + k ∨ (a' = ⟨kb, sb + off, none⟩ ∧ sb + off + cap * s2 ≤ cs.size)) ∧
                (∃ old : List Value, (Builtin.firstCells s2 len (.slice (some a') len cap)).run P w.drew = .ok old.toArray w.drew ∧ LR (VR b w.shape?) ((c.drop off).take (len * s2)) old) := by
              have hfo : firstOf h s2 len (.slice (some ⟨i, off, none⟩) len s2) = some ((c.drop off).take (len * s2)) := by
                simp [firstOf, hi, hoff]
              obtain ⟨old, ho1, ho2⟩ := firstOf_sound (P := P) H.drew hrs hfo
              rcases hrs.slice_inv with ⟨k2, s3, cap, tt, nn, hb2, hl2, hS2, hcap2, rfl⟩ | ⟨hz0, a', rfl⟩
              · rw [hbi] at hb2; cases hb2
                have : w.shape? kb = some (t2, cs.size) := by simp [World.shape?, hkb]
                rw [this] at hS2; cases hS2
                exact ⟨_, cap, rfl, hl2, .inr ⟨rfl, hcap2⟩, old, ho1, ho2⟩
              · subst hz0
                exact ⟨a', 0, rfl, Nat.le_refl _, .inl (by omega), old, ho1, ho2⟩
            obtain ⟨a', cap, rfl, hlc, hroom, old, hold, hlo⟩ := hsl
            by_cases hfit : len + k ≤ cap
            · -- within the capacity
              rcases hroom with hroom | ⟨rfl, hroom⟩
              · omega
              have R := (run_app (P := P) (w := w) (ty := ty) h0 h1_ ha0 ha1 ht hu hd hm hb hz hz1 hb0 hk' hbig).1 hfit new' fc
              have hspace : sb + off + len * s2 + new'.length ≤ cs.size := by
                rw [← hlen1, hnl]
                have : (len + k) * s2 ≤ cap * s2 := Nat.mul_le_mul_right _ hfit
                rw [Nat.add_mul] at this; omega
              have hones : ∀ x ∈ new', x.oneCell' = true := hlr.ones hnone
              have hst := run_storeCells_at P kb (sb + off + len * s2) t2 new' 0 cs w hkb (by omega) hones
              rw [Nat.add_zero, setRow_wset hkb] at hst
              simp only [add_none, Sem.run_bind, hst, Result.andThen_ok, Sem.run_pure] at R
              have hsz : (cs.toList.take (sb + off + len * s2) ++ new' ++ cs.toList.drop (sb + off + len * s2 + new'.length)).toArray.size = cs.size := by simp; omega
              have hshape := wset_shape w kb cs _ t2 (0, 0) (0, 0) hkb hsz
              have hnew : (b ++ [(kb, sb + off)])[h.next]? = some (kb, sb + off) := by
                have := H.len
                rw [List.getElem?_append_right (by omega)]; simp [this]
              refine ⟨[(kb, sb + off)], _, _, R, ?_, by rw [hshape]; exact SLe.refl _, ?_⟩
              · have hSS : (wset w kb (.cells (cs.toList.take (sb + off + len * s2) ++ new' ++ cs.toList.drop (sb + off + len * s2 + new'.length)).toArray t2 (0, 0))).shape? kb = some (t2, cs.size) := by
                  rw [hshape]; simp [World.shape?, hkb]
                have := VR.slice (off := 0) (es := s2) hnew hfit hSS (by omega)
                simpa using this
              · refine H.take hget rfl hbi ⟨_, rfl⟩ hshape ?_ rfl
                refine ⟨by rw [List.all_append, hcut, hnone]; rfl, _, t2, (0, 0), wset_same _ _ _ (Array.getElem?_eq_some_iff.1 hkb).1, ?_, fun j x hj => ?_, by simp [hbase]⟩
                · rw [hsz]; simp only [List.length_append, List.length_take, List.length_drop, hnl]
                  have h1' := hspace
                  rw [← hlen1, hnl] at h1'
                  omega
                · rw [hshape]
                  have e1 : ((c.drop off).take (len * s2)).length = len * s2 := by simp; omega
                  rw [List.getElem?_append, e1] at hj
                  by_cases hj1 : j < len * s2
                  · rw [if_pos hj1, List.getElem?_take, if_pos hj1, List.getElem?_drop] at hj
                    obtain ⟨x', h1', h2'⟩ := hc _ _ hj
                    refine ⟨x', ?_, h2'.mono getElem?_pre (SLe.refl _)⟩
                    simp only [List.getElem?_toArray, List.getElem?_append, List.length_append, List.length_take, Array.length_toList]
                    rw [if_pos (by omega), if_pos (by omega), List.getElem?_take, if_pos (by omega), Array.getElem?_toList, ← h1']
                    congr 1; omega
                  · rw [if_neg hj1] at hj
                    obtain ⟨x', h1', h2'⟩ := hlr.get hj
                    have hlt := (List.getElem?_eq_some_iff.1 h1').1
                    refine ⟨x', ?_, h2'.mono getElem?_pre (SLe.refl _)⟩
                    simp only [List.getElem?_toArray, List.getElem?_append, List.length_append, List.length_take, Array.length_toList]
                    rw [if_pos (by omega), if_neg (by omega), ← h1']
                    congr 1; omega
            · -- a new row
              obtain ⟨cap2, rest, hc1, hc2, Rr, hR, hrun⟩ := (run_app (P := P) (w := w) (ty := ty) h0 h1_ ha0 ha1 ht hu hd hm hb hz hz1 hb0 hk' hbig).2 (by omega) old.toArray new2 hold fcd
              have hlo1 := hlo.1
              have eo : ((c.drop off).take (len * s2)).length = len * s2 := by simp; omega
              have hsz : (old.toArray ++ new2.toArray ++ Rr).size = cap2 * s2 := by
                have : (old.toArray ++ new2.toArray ++ Rr).size = old.length + new2.length + Rr.size := by simp
                rw [this, hR, hc2, ← hlen2, ← hlo1, eo, hnl, ← Nat.add_mul, ← Nat.add_mul]
                congr 1; omega
              have HK := H.kill hget
              refine ⟨[(w.heap.size, 0)], _, _, hrun, ?_, ?_, ?_⟩
              · exact new_slice (w := w.drew) H.drew hc1 (by rw [hsz]; exact Nat.le_refl _)
              · exact shape_push w.drew _
              · refine push_sound (w := w.drew) HK.drew (by rw [List.all_append, hcut, hnone]; rfl) ?_ fun j x hj => ?_
                · rw [hsz, List.length_append, eo, hnl, ← Nat.add_mul]; exact Nat.mul_le_mul_right _ hc1
                · rw [List.getElem?_append, eo] at hj
                  by_cases hj1 : j < len * s2
                  · rw [if_pos hj1] at hj
                    obtain ⟨x', h1', h2'⟩ := hlo.get hj
                    have hlt := (List.getElem?_eq_some_iff.1 h1').1
                    refine ⟨x', ?_, h2'⟩
                    rw [Array.getElem?_append, if_pos (by simp; omega), Array.getElem?_append, if_pos (by simpa using hlt)]
                    simpa using h1'
                  · rw [if_neg hj1] at hj
                    obtain ⟨x', h1', h2'⟩ := hlr2.get hj
                    have hlt := (List.getElem?_eq_some_iff.1 h1').1
                    refine ⟨x', ?_, h2'⟩
                    rw [Array.getElem?_append, if_pos (by simp; omega), Array.getElem?_append, if_neg (by simp; omega)]
                    rw [← h1']
                    simp only [List.size_toArray, List.getElem?_toArray]
                    congr 1; omega
          · exact absurd hv (by simp)
        · exact absurd hv (by simp)
      · exact absurd hv (by simp)
  · exact absurd hv (by simp)
end
end Go.Proofs.YtpnmeednimpjdaaGreat.AM
namespace Go.Proofs.YtpnmeednimpjdaaGreat.AM
open Go Go.RowKit
set_option linter.unusedSimpArgs false
set_option linter.unusedVariables false
section
variable {P : Program} {b : Bt} {h h1 : AH} {base : Nat} {w0 w : World} {e : Env} {a : Act} {n : Nat}
theorem kEq_append : ∀ (k1 k2 : List SK) (x1 x2 y1 y2 : List Value), x1.length = k1.length → y1.length = k1.length →
    kEq (k1 ++ k2) (x1 ++ x2) (y1 ++ y2) = (match kEq k1 x1 y1 with | some true => kEq k2 x2 y2 | some false => some false | none => none)
  | [], k2, [], x2, [], y2, _, _ => rfl
  | k :: k1, k2, x :: x1, x2, y :: y1, y2, h1, h2 => by
    simp only [List.cons_append, kEq]
    cases kEq1 k x y with
    | none => rfl
    | some q => cases q
                · rfl
                · exact kEq_append k1 k2 x1 x2 y1 y2 (by simpa using h1) (by simpa using h2)
  | [], _, _ :: _, _, _, _, h1, _ => by simp at h1
  | [], _, [], _, _ :: _, _, _, h2 => by simp at h2
  | _ :: _, _, [], _, _, _, h1, _ => by simp at h1
  | _ :: _, _, _ :: _, _, [], _, _, h2 => by simp at h2
def mkT (P : Program) (t : TypeId) (xs : List Value) (u : Value) : Prop :=
  match isAggP P t with
  | some true => u = .agg xs.toArray
  | some false => xs = [u]
  | none => False
theorem part_T {t : TypeId} {cs : List Value} {off m : Nat} (hm : szOf P t = some m) (hl : off + m ≤ cs.length) (hA : ∃ g, isAggP P t = some g) (h1 : isAggP P t = some false → m = 1) :
    ∃ u, (part t cs.toArray off).run P w = .ok u w ∧ mkT P t ((cs.drop off).take m) u := by
  obtain ⟨g, hg⟩ := hA
  unfold mkT
  cases g with
  | true =>
    rw [hg]
    refine ⟨_, ?_, rfl⟩
    simp only [part, Sem.run_bind, run_agg hg, Result.andThen_ok, if_true, run_size hm, Sem.run_pure]
    congr 2
    apply Array.ext'
    simp [List.drop_take]
  | false =>
    rw [hg]
    have := h1 hg; subst this
    have hlt : off < cs.length := by omega
    refine ⟨cs[off], ?_, ?_⟩
    · simp only [part, Sem.run_bind, run_agg hg, Result.andThen_ok, Bool.false_eq_true, if_false]
      simp [hlt]
    · show (cs.drop off).take 1 = [cs[off]]
      rw [List.drop_eq_getElem_cons hlt]; rfl
theorem flat_agg {d : Nat} {t : TypeId} {ks : List SK} (hf : flat P d t = some ks) : (∃ g, isAggP P t = some g) ∧ (isAggP P t = some false → ks.length = 1) := by
  cases d with
  | zero => simp [flat] at hf
  | succ d =>
    simp only [flat] at hf
    unfold isAggP
    split at hf <;> rename_i hu <;> first | (simp only [Option.some.injEq] at hf; subst hf; rw [hu]; exact ⟨⟨_, rfl⟩, fun _ => rfl⟩) | (rw [hu]; exact ⟨⟨_, rfl⟩, fun hx => by simp [isAggD] at hx⟩) | (exact absurd hf (by simp))
theorem equal_flat : ∀ (d : Nat) (t : TypeId) (ks : List SK), flat P d t = some ks → ∀ (xs ys : List Value) (u v : Value) (r : Bool), xs.length = ks.length → ys.length = ks.length → mkT P t xs u → mkT P t ys v →
    kEq ks xs ys = some r → ∀ D, d ≤ D → (Op.equalIn D t u v).run P w = .ok r w
  | 0, t, ks, hf, _, _, _, _, _, _, _, _, _, _, _, _ => absurd hf (by simp [flat])
  | d + 1, t, ks, hf, xs, ys, u, v, r, hx, hy, hu, hv, hk, D, hD => by
    obtain ⟨D, rfl⟩ : ∃ D', D = D' + 1 := ⟨D - 1, by omega⟩
    simp only [flat] at hf
    unfold mkT isAggP at hu hv
    split at hf
    · rename_i q hq
      simp only [Option.some.injEq] at hf; subst hf
      simp only [hq, Option.map_some, isAggD] at hu hv
      subst hu; subst hv
      simp only [kEq] at hk
      cases u <;> cases v <;> simp only [kEq1] at hk <;> try (exact absurd hk (by simp))
      rename_i k1 a1 k2 a2
      by_cases e : k1 = k2
      · subst e
        rw [run_equalIn_int w D t k1 q a1 a2 hq]
        rw [if_pos rfl] at hk
        congr 1
        cases hb : (a1 == a2) <;> simp_all
      · simp [e] at hk
    · rename_i hq
      simp only [Option.some.injEq] at hf; subst hf
      simp only [hq, Option.map_some, isAggD] at hu hv
      subst hu; subst hv
      simp only [kEq] at hk
      cases u <;> cases v <;> simp only [kEq1] at hk <;> try (exact absurd hk (by simp))
      rename_i a1 a2
      rw [run_equalIn_string w D t a1 a2 hq, ← beq_toListBytes]
      congr 1
      cases hb : (a1 == a2) <;> simp_all
    · rename_i hq
      simp only [Option.some.injEq] at hf; subst hf
      simp only [hq, Option.map_some, isAggD] at hu hv
      subst hu; subst hv
      simp only [kEq] at hk
      cases u <;> cases v <;> simp only [kEq1] at hk <;> try (exact absurd hk (by simp))
      rename_i a1 a2
      rw [run_equalIn_bool' w D t a1 a2 hq]
      congr 1
      cases hb : (a1 == a2) <;> simp_all
    · rename_i fs hq
      split at hf
      · exact absurd hf (by simp)
      · rename_i hst
        simp only [hq, Option.map_some, isAggD] at hu hv
        subst hu; subst hv
        have hfo : P.fieldsOf t = fs := by simp [Program.fieldsOf, hq]
        rw [run_equalIn_struct w D t _ _ (by rw [hfo]; exact hq) (by simpa using hst), hfo]
        have key : ∀ (fl : List Field) (off : Nat) (k2 : List SK), flatF (flat P d) (szOf P) fl off = some k2 → off + k2.length ≤ xs.length → off + k2.length ≤ ys.length →
            ∀ r, kEq k2 ((xs.drop off).take k2.length) ((ys.drop off).take k2.length) = some r → (Op.eqFields D xs.toArray ys.toArray fl).run P w = .ok r w := by
          intro fl
          induction fl with
          | nil =>
            intro off k2 h1 _ _ r h2
            simp only [flatF, Option.some.injEq] at h1; subst h1
            simp [kEq] at h2; subst h2
            simp [Op.eqFields]
          | cons f fl ih =>
            intro off k2 h1 hlx hly r h2
            simp only [flatF] at h1
            split at h1
            · rename_i hc
              obtain ⟨hname, hoff⟩ := hc
              split at h1
              · rename_i ks1 hf1
                split at h1
                · rename_i hsz
                  simp only [Option.map_eq_some_iff] at h1
                  obtain ⟨k3, hf3, rfl⟩ := h1
                  rw [List.length_append] at hlx hly
                  obtain ⟨hag, hag1⟩ := flat_agg hf1
                  obtain ⟨u1, hu1, hu2⟩ := part_T (w := w) hsz (cs := xs) (off := off) (by omega) hag hag1
                  obtain ⟨v1, hv1, hv2⟩ := part_T (w := w) hsz (cs := ys) (off := off) (by omega) hag hag1
                  have sx : (xs.drop off).take (ks1 ++ k3).length = (xs.drop off).take ks1.length ++ (xs.drop (off + ks1.length)).take k3.length := by
                    rw [List.length_append, List.take_add, List.drop_drop]
                  have sy : (ys.drop off).take (ks1 ++ k3).length = (ys.drop off).take ks1.length ++ (ys.drop (off + ks1.length)).take k3.length := by
                    rw [List.length_append, List.take_add, List.drop_drop]
                  have lx : ((xs.drop off).take ks1.length).length = ks1.length := by simp; omega
                  have ly : ((ys.drop off).take ks1.length).length = ks1.length := by simp; omega
                  rw [sx, sy, kEq_append _ _ _ _ _ _ lx ly] at h2
                  simp only [Op.eqFields, hname, ne_eq, not_false_eq_true, if_true, Sem.run_bind, hoff, hu1, hv1, Result.andThen_ok]
                  cases hk1 : kEq ks1 ((xs.drop off).take ks1.length) ((ys.drop off).take ks1.length) with
                  | none => rw [hk1] at h2; exact absurd h2 (by simp)
                  | some q =>
                    rw [hk1] at h2
                    rw [equal_flat d f.type ks1 hf1 _ _ u1 v1 q lx ly hu2 hv2 hk1 D (by omega)]
                    cases q with
                    | false => simp only [Option.some.injEq] at h2; subst h2; simp
                    | true =>
                      simp only [Result.andThen_ok, Bool.not_true, Bool.false_eq_true, if_false]
                      exact ih (off + ks1.length) k3 hf3 (by omega) (by omega) r h2
                · exact absurd h1 (by simp)
              · exact absurd h1 (by simp)
            · exact absurd h1 (by simp)
        refine key fs.toList 0 ks hf (by omega) (by omega) r ?_
        rw [List.drop_zero, List.drop_zero, ← hx, List.take_length, hx, ← hy, List.take_length]; exact hk
    · exact absurd hf (by simp)
end
end Go.Proofs.YtpnmeednimpjdaaGreat.AM
namespace Go.Proofs.YtpnmeednimpjdaaGreat.AM
open Go Go.RowKit
set_option linter.unusedSimpArgs false
set_option linter.unusedVariables false
section
variable {P : Program} {b : Bt} {h h1 : AH} {base : Nat} {w0 w : World} {e : Env} {a : Act} {n : Nat}
theorem asN_rel {S : Sh} {v v' : Value} {k : Nat} (hk : asN v = some k) (hv : VR b S v v') : ∃ kk i, v' = .int kk i ∧ 0 ≤ i ∧ i.toNat = k := by
  cases v <;> simp only [asN] at hk <;> try (cases hk; done)
  rename_i kk i
  split at hk
  · rename_i h0; simp only [Option.some.injEq] at hk; exact ⟨kk, i, hv.int_inv, h0, hk⟩
  · exact absurd hk (by simp)
theorem bound_rel (R : Rl b e w a n) {x : Option Operand} {xo : Option Opd} {d k : Nat} (hx : rOpt x = some xo) (hk : bound e xo d = some k) :
    (x = none ∧ k = d) ∨ ∃ o kk i, x = some o ∧ a.eval o = .int kk i ∧ 0 ≤ i ∧ i.toNat = k := by
  cases x with
  | none => simp only [rOpt, Option.some.injEq] at hx; subst hx; simp only [bound, Option.some.injEq] at hk; exact .inl ⟨rfl, hk.symm⟩
  | some o =>
    simp only [rOpt, Option.map_eq_some_iff] at hx
    obtain ⟨od, ho, rfl⟩ := hx
    simp only [bound] at hk
    split at hk
    · rename_i v hv
      obtain ⟨kk, i, h1, h2, h3⟩ := asN_rel hk (opd_sound R ho hv)
      exact .inr ⟨o, kk, i, rfl, h1, h2, h3⟩
    · exact absurd hk (by simp)
theorem run_bound {kk : IntKind} {i : Int} {y : Nat} {c : BoundsCode} (h0 : 0 ≤ i) (hy : i.toNat ≤ y) : (Instr.sliceBound (.int kk i) y c).run P w = .ok i.toNat w := by
  have : 0 ≤ i ∧ i ≤ (y : Int) := ⟨h0, by omega⟩
  simp [Instr.sliceBound, asIntOf, this]
theorem run_bounds (R : Rl b e w a n) {isS : Bool} {len cap : Nat} {lo hi mx : Option Operand} {lo' hi' mx' : Option Opd} {d2 d3 l r m : Nat} (e1 : rOpt lo = some lo') (e2 : rOpt hi = some hi') (e3 : rOpt mx = some mx')
    (hmh : mx' ≠ none → hi' ≠ none) (k1 : bound e lo' 0 = some l) (k2 : bound e hi' d2 = some r) (k3 : bound e mx' d3 = some m) (hlr : l ≤ r) (hrm : mx ≠ none → r ≤ m) (hm : mx ≠ none → m ≤ cap) (hd2 : hi = none → d2 = len) (hrc : mx = none → r ≤ cap) :
    (Instr.sliceBounds isS len cap (lo.map a.eval) (hi.map a.eval) (mx.map a.eval)).run P w = .ok (l, r, if mx = none then cap else m) w := by
  unfold Instr.sliceBounds
  have hhi : hi = none ↔ hi' = none := by cases hi <;> simp [rOpt] at e2 <;> first | (subst e2; simp) | (obtain ⟨_, _, rfl⟩ := e2; simp)
  have hmx : mx = none ↔ mx' = none := by cases mx <;> simp [rOpt] at e3 <;> first | (subst e3; simp) | (obtain ⟨_, _, rfl⟩ := e3; simp)
  rcases bound_rel R e1 k1 with ⟨rfl, rfl⟩ | ⟨o1, q1, i1, rfl, v1, z1, t1⟩ <;> rcases bound_rel R e2 k2 with ⟨rfl, rfl⟩ | ⟨o2, q2, i2, rfl, v2, z2, t2⟩ <;> rcases bound_rel R e3 k3 with ⟨rfl, rfl⟩ | ⟨o3, q3, i3, rfl, v3, z3, t3⟩
  · have := hd2 rfl; subst this; simp
  · exact absurd (hhi.1 rfl) (hmh (fun x => by have := hmx.2 x; simp at this))
  · subst t2
    simp [v2, run_bound z2 (hrc rfl)]
  · subst t2; subst t3
    simp [v2, v3, run_bound z3 (hm (by simp)), run_bound z2 (hrm (by simp))]
  · have := hd2 rfl; subst this; subst t1
    simp [v1, run_bound z1 hlr]
  · exact absurd (hhi.1 rfl) (hmh (fun x => by have := hmx.2 x; simp at this))
  · subst t1; subst t2
    simp [v1, v2, run_bound z2 (hrc rfl), run_bound z1 hlr]
  · subst t1; subst t2; subst t3
    simp [v1, v2, v3, run_bound z3 (hm (by simp)), run_bound z2 (hrm (by simp)), run_bound z1 hlr]
theorem cut_sound (H : Sim b h base w0 w) (R : Rl b e w a n) {t : TypeId} {x : Operand} {lo hi mx : Option Operand} {r : ROp} (hr : resolve P (.slice t x lo hi mx) = some r) {v : Value} (hv : ev r e h = some (v, h1)) :
    Out b h1 base w0 w v ((Instr.sliceAt t (a.eval x) (lo.map a.eval) (hi.map a.eval) (mx.map a.eval)).run P w) := by
  simp only [resolve] at hr
  split at hr
  · rename_i xo lo' hi' hu hx e1 e2 e3
    simp only [Option.some.injEq] at hr; subst hr
    have : mx = none := by cases mx <;> simp [rOpt] at e3 <;> rfl
    subst this
    simp only [ev] at hv
    split at hv
    · rename_i s hs
      split at hv
      · rename_i l r k1 k2
        split at hv
        · rename_i hc
          simp only [Option.some.injEq, Prod.mk.injEq] at hv; obtain ⟨rfl, rfl⟩ := hv
          have hxv := (opd_sound R hx hs).string_inv
          have hb := run_bounds (P := P) (isS := false) (len := s.size) (cap := s.size) R e1 e2 (mx := none) (mx' := none) rfl (by simp) k1 k2 (d3 := 0) (m := 0) rfl hc.1 (by simp) (by simp) (fun hh => by
            subst hh; simp [rOpt] at e2; subst e2; simp [bound] at k2; rfl) (fun _ => hc.2)
          refine Out.scal H (v := .string (s.extract l r)) ?_ rfl
          simp only [Option.map_none] at hb
          simp only [Instr.sliceAt, Instr.slice, Sem.run_bind, run_under hu, Result.andThen_ok, hxv, Option.map_none, Option.isSome_none, Bool.false_eq_true, if_false, hb, Sem.run_pure]
        · exact absurd hv (by simp)
      · exact absurd hv (by simp)
    · exact absurd hv (by simp)
  · rename_i el xo lo' hi' mx' hu hx e1 e2 e3
    split at hr
    · exact absurd hr (by simp)
    · rename_i hmh
      simp only [Option.bind_eq_some_iff] at hr
      obtain ⟨es, hes, hr⟩ := hr
      split at hr
      · exact absurd hr (by simp)
      · rename_i hes0
        simp only [Option.some.injEq] at hr; subst hr
        simp only [ev] at hv
        split at hv
        · rename_i hs
          have hxv := (opd_sound R hx hs).nilslice_inv
          split at hv
          · rename_i k1 k2 k3
            simp only [Option.some.injEq, Prod.mk.injEq] at hv; obtain ⟨rfl, rfl⟩ := hv
            have hb := run_bounds (P := P) (isS := true) (len := 0) (cap := 0) R e1 e2 e3 (fun q1 q2 => by cases mx' <;> simp_all) k1 k2 k3 (Nat.le_refl _) (by simp) (by simp) (fun _ => rfl) (fun _ => Nat.le_refl _)
            refine Out.scal H (v := .slice none 0 0) ?_ rfl
            simp only [Instr.sliceAt, Instr.slice, Sem.run_bind, run_under hu, Result.andThen_ok, hxv, hb, run_size hes, Sem.run_pure]
            simp
          · exact absurd hv (by simp)
        · rename_i i off len s hs
          split at hv
          · rename_i l r m k1 k2 k3
            split at hv
            · rename_i hc
              obtain ⟨rfl, hlr, hrm, hml⟩ := hc
              simp only [Option.some.injEq, Prod.mk.injEq] at hv; obtain ⟨rfl, rfl⟩ := hv
              rcases (opd_sound R hx hs).slice_inv with ⟨k, sb, cap, tt, nn, hb2, hl2, hS2, hcap2, hxv⟩ | ⟨rfl, a', hxv⟩
              · have hb := run_bounds (P := P) (isS := true) (len := len) (cap := cap) R e1 e2 e3 (fun q1 q2 => by cases mx' <;> simp_all) k1 k2 k3 hlr (fun _ => hrm) (fun _ => by omega) (fun _ => rfl) (fun _ => by omega)
                by_cases hml2 : (if mx = none then cap else m) = l
                · have h0 : r - l = 0 := by
                    split at hml2 <;> omega
                  refine Out.same H (v' := .slice (some ⟨k, sb + off, none⟩) 0 0) ?_ (by rw [h0]; exact .slice0)
                  simp only [Instr.sliceAt, Instr.slice, Sem.run_bind, run_under hu, Result.andThen_ok, hxv, hb, run_size hes, Sem.run_pure]
                  rw [if_pos hml2, h0, hml2]; simp
                · refine Out.same H (v' := .slice (some ⟨k, sb + (off + l * s), none⟩) (r - l) ((if mx = none then cap else m) - l)) ?_ (.slice hb2 (by split <;> omega) hS2 ?_)
                  · simp only [Instr.sliceAt, Instr.slice, Sem.run_bind, run_under hu, Result.andThen_ok, hxv, hb, run_size hes, Sem.run_pure]
                    rw [if_neg hml2]; simp [add_none, Nat.add_assoc]
                  · have hle : l + ((if mx = none then cap else m) - l) ≤ cap := by split <;> omega
                    have := Nat.mul_le_mul_right s hle
                    rw [Nat.add_mul] at this; omega
              · have hb := run_bounds (P := P) (isS := true) (len := 0) (cap := 0) R e1 e2 e3 (fun q1 q2 => by cases mx' <;> simp_all) k1 k2 k3 hlr (fun _ => hrm) (fun _ => hml) (fun _ => rfl) (fun _ => by omega)
                have hr0 : r = 0 := by omega
                have hl0 : l = 0 := by omega
                have hm0 : m = 0 := by omega
                subst hr0; subst hl0; subst hm0
                refine Out.same H (v' := .slice (some a') 0 0) ?_ .slice0
                simp only [Instr.sliceAt, Instr.slice, Sem.run_bind, run_under hu, Result.andThen_ok, hxv, hb, run_size hes, Sem.run_pure]
                simp
            · exact absurd hv (by simp)
          · exact absurd hv (by simp)
        · exact absurd hv (by simp)
  · rename_i kk el xo lo' hi' mx' hu hx e1 e2 e3
    split at hr
    · exact absurd hr (by simp)
    · rename_i hmh
      simp only [Option.bind_eq_some_iff] at hr
      obtain ⟨es, hes, hr⟩ := hr
      split at hr
      · exact absurd hr (by simp)
      · rename_i hes0
        simp only [Option.some.injEq] at hr; subst hr
        simp only [ev] at hv
        split at hv
        · rename_i i off hs
          obtain ⟨k, sb, hb2, hxv⟩ := (opd_sound R hx hs).ptr_inv
          split at hv
          · rename_i ro tt c l r m hi2 k1 k2 k3
            split at hv
            · rename_i hc
              obtain ⟨hoff, hlr, hrm, hml⟩ := hc
              simp only [Option.some.injEq, Prod.mk.injEq] at hv; obtain ⟨rfl, rfl⟩ := hv
              have hb := run_bounds (P := P) (isS := false) (len := kk) (cap := kk) R e1 e2 e3 (fun q1 q2 => by cases mx' <;> simp_all) k1 k2 k3 hlr (fun _ => hrm) (fun _ => by omega) (fun _ => rfl) (fun _ => by omega)
              obtain ⟨_, cs, t', fr, hk, hsz, _, _⟩ := H.row hi2 hb2
              have hS2 : w.shape? k = some (t', cs.size) := by simp [World.shape?, hk]
              have hle : l + ((if mx = none then kk else m) - l) ≤ kk := by split <;> omega
              have hmul := Nat.mul_le_mul_right es hle
              rw [Nat.add_mul] at hmul
              by_cases hml2 : (if mx = none then kk else m) = l
              · have h0 : r - l = 0 := by split at hml2 <;> omega
                refine Out.same H (v' := .slice (some ⟨k, sb + off, none⟩) 0 0) ?_ (by rw [h0]; exact .slice0)
                simp only [Instr.sliceAt, Sem.run_bind, run_under hu, Result.andThen_ok, hxv, hb, run_size hes, Sem.run_pure, Instr.sureAddr]
                rw [if_pos hml2, h0, hml2]; simp
              · refine Out.same H (v' := .slice (some ⟨k, sb + (off + l * es), none⟩) (r - l) ((if mx = none then kk else m) - l)) ?_ (.slice hb2 (by split <;> omega) hS2 (by omega))
                simp only [Instr.sliceAt, Sem.run_bind, run_under hu, Result.andThen_ok, hxv, hb, run_size hes, Sem.run_pure, Instr.sureAddr]
                rw [if_neg hml2]; simp [add_none, Nat.add_assoc]
            · exact absurd hv (by simp)
          · exact absurd hv (by simp)
        · exact absurd hv (by simp)
  · exact absurd hr (by simp)
end
end Go.Proofs.YtpnmeednimpjdaaGreat.AM
namespace Go.Proofs.YtpnmeednimpjdaaGreat.AM
open Go Go.RowKit
theorem rep_get {α : Type} (l : List α) : ∀ (n i : Nat), i < n * l.length → (List.replicate n l).flatten[i]? = l[i % l.length]?
  | 0, i, h => by simp at h
  | n + 1, i, h => by
    rw [List.replicate_succ, List.flatten_cons, List.getElem?_append]
    split
    · rename_i hi; rw [Nat.mod_eq_of_lt hi]
    · rename_i hi
      rw [rep_get l n (i - l.length) (by rw [Nat.add_mul, Nat.one_mul] at h; omega)]
      congr 1
      exact (Nat.mod_eq_sub_mod (by omega)).symm
theorem rep_len {α : Type} (l : List α) (n : Nat) : (List.replicate n l).flatten.length = n * l.length := by
  induction n with
  | zero => simp
  | succ n ih => rw [List.replicate_succ, List.flatten_cons, List.length_append, ih, Nat.add_mul, Nat.one_mul, Nat.add_comm]
theorem zeroCells_rep (z : Array Value) (n : Nat) : (Builtin.zeroCells z n).toList = (List.replicate n z.toList).flatten := by
  apply List.ext_getElem?
  intro i
  by_cases h : i < n * z.size
  · rw [rep_get z.toList n i (by simpa using h)]
    have hz : 0 < z.size := by
      rcases Nat.eq_zero_or_pos z.size with h0 | h0
      · rw [h0] at h; simp at h
      · exact h0
    have hm : i % z.size < z.size := Nat.mod_lt _ hz
    simp [Builtin.zeroCells, h, hm]
  · rw [List.getElem?_eq_none (by simp [Builtin.zeroCells]; omega), List.getElem?_eq_none (by rw [rep_len]; simpa using h)]
section
variable {P : Program} {b : Bt} {h h1 : AH} {base : Nat} {w0 w : World} {e : Env} {a : Act} {n : Nat}
theorem mk_sound (H : Sim b h base w0 w) (R : Rl b e w a n) {t : TypeId} {l c : Operand} {r : ROp} (hr : resolve P (.makeSlice t l c) = some r) {v : Value} (hv : ev r e h = some (v, h1)) :
    Out b h1 base w0 w v ((Instr.makeSlice t (a.eval l) (a.eval c)).run P w) := by
  simp only [resolve] at hr
  split at hr
  · rename_i el lo co ht hl hc
    split at hr
    · rename_i m by_ z hm hb hz
      split at hr
      · exact absurd hr (by simp)
      · rename_i hne
        simp only [not_or, Decidable.not_not, ne_eq, Bool.not_eq_false] at hne
        obtain ⟨hm0, hb0, hzl, hzg⟩ := hne
        simp only [Option.some.injEq] at hr; subst hr
        simp only [ev] at hv
        split at hv
        · rename_i ln cp hlv hcv
          split at hv
          · rename_i hcond
            obtain ⟨h0, hlc, hbig⟩ := hcond
            simp only [Option.some.injEq, Prod.mk.injEq] at hv; obtain ⟨rfl, rfl⟩ := hv
            rw [(opd_sound R hl hlv).int_inv, (opd_sound R hc hcv).int_inv]
            have hi : ∃ i, P.info? el = some i ∧ i.size = m ∧ i.bytes = by_ ∧ i.zero = some z := by
              unfold szOf at hm; unfold bytesOfT at hb; unfold zeroOf at hz
              cases hi : P.info? el with
              | none => simp [hi] at hm
              | some i => simp [hi] at hm hb hz; exact ⟨i, rfl, hm, hb, hz⟩
            obtain ⟨i, hi, i1, i2, i3⟩ := hi
            subst i1; subst i2
            have hti : ∀ w' : World, (typeInfo el).run P w' = .ok i w' := fun w' => by simp [typeInfo, hi]
            obtain ⟨L, rfl⟩ : ∃ L : Nat, ln = L := ⟨ln.toNat, by omega⟩
            obtain ⟨C, rfl⟩ : ∃ C : Nat, cp = C := ⟨cp.toNat, by omega⟩
            have hLC : L ≤ C := by omega
            have hCb : C * i.bytes ≤ 140737488355328 := by
              have h2 : ((C * i.bytes : Nat) : Int) ≤ ((140737488355328 : Nat) : Int) := by rw [Int.natCast_mul]; exact hbig
              exact Int.ofNat_le.1 h2
            have hC : C ≤ 140737488355328 := by
              have h2 : C * 1 ≤ C * i.bytes := Nat.mul_le_mul_left _ (by omega)
              rw [Nat.mul_one] at h2
              exact Nat.le_trans h2 hCb
            have hwC : IntKind.i64.wrap (C : Int) = C := by rw [IntKind.wrap_i64]; omega
            have hwL : IntKind.i64.wrap (L : Int) = L := by rw [IntKind.wrap_i64]; omega
            have hzs : z.cells.size = i.size := by unfold cells at hzl; simpa using hzl
            have hbig2 : ¬ ((i.bytes : Int) * (C : Int) > 2 ^ 48) := by
              rw [show (2 : Int) ^ 48 = 281474976710656 from by decide, Int.mul_comm]
              exact Int.not_lt.2 (Int.le_trans hbig (by decide))
            have hai : ∀ (n : Nat) (w' : World), (asInt (.int .i64 (n : Int))).run P w' = .ok (n : Int) w' := fun n w' => by simp [asInt, asIntOf]
            have hrow : ∃ row : Array Value, row = Builtin.zeroCells z.cells C ∧ (Instr.makeSlice t (.int .i64 (L : Int)) (.int .i64 (C : Int))).run P w = .ok (.slice (some ⟨w.heap.size, 0, none⟩) L C) (w.alloc (.cells row el)) := by
              refine ⟨_, rfl, ?_⟩
              have g1 : ¬ ((C : Int) < 0) := by omega
              have g2 : ¬ ((L : Int) < 0) := by omega
              have g3 : ¬ ((L : Int) > (C : Int)) := by omega
              have hdec : (decide ((C : Int) < 0) || decide ((i.bytes : Int) * (C : Int) > 2 ^ 48)) = false := by simp only [g1, hbig2, decide_false, Bool.or_self]
              simp only [Instr.makeSlice, Sem.run_bind, run_under ht, Result.andThen_ok, hai, hti, hwC, hwL]
              simp only [g1, g2, g3, hbig2, decide_false, Bool.or_self, Bool.false_eq_true, if_false, Sem.run_bind, run_askRoom, Result.andThen_ok, Int.toNat_natCast, run_size hm]
              by_cases hn : C * i.size = 0
              · have hC0 : C = 0 := by rcases Nat.mul_eq_zero.1 hn with h | h
                                       · exact h
                                       · exact absurd h hm0
                subst hC0
                have e0 : Array.range 0 = #[] := rfl
                simp [newRow, run_newObj, Builtin.zeroCells, e0]
              · simp only [hn, if_false, Sem.run_bind, run_zero hz, Result.andThen_ok, Sem.run_pure, newRow, run_newObj]
                simp only [Builtin.zeroCells, hzs]
                rfl
            obtain ⟨row, hrw, hrun⟩ := hrow
            rw [Int.toNat_natCast]
            refine ⟨[(w.heap.size, 0)], _, _, hrun, ?_, shape_push w _, ?_⟩
            · exact new_slice (w := w) H hLC (by rw [hrw, size_zeroCells, hzs]; exact Nat.le_refl _)
            · have hcl : (cells z).length = z.cells.size := by unfold cells; simp
              refine push_sound H ?_ ?_ fun j u hj => ?_
              · refine List.all_eq_true.2 fun x hx => ?_
                obtain ⟨y, hy, hxy⟩ := List.mem_flatten.1 hx
                rw [List.eq_of_mem_replicate hy] at hxy
                exact List.all_eq_true.1 (g0_ones hzg) x hxy
              · rw [rep_len, hrw, size_zeroCells, hcl]; exact Nat.mul_le_mul_right _ hLC
              · have hjl : j < L * (cells z).length := by
                  have := (List.getElem?_eq_some_iff.1 hj).1
                  rwa [rep_len] at this
                rw [rep_get _ _ _ hjl] at hj
                refine ⟨u, ?_, .scal (List.all_eq_true.1 hzg u (List.mem_of_getElem? hj))⟩
                rw [← Array.getElem?_toList, hrw, zeroCells_rep]
                have hjc : j < C * (cells z).length := Nat.lt_of_lt_of_le hjl (Nat.mul_le_mul_right _ hLC)
                show (List.replicate C (cells z)).flatten[j]? = some u
                rw [rep_get _ _ _ hjc]; exact hj
          · exact absurd hv (by simp)
        · exact absurd hv (by simp)
    · exact absurd hr (by simp)
  · exact absurd hr (by simp)
end
end Go.Proofs.YtpnmeednimpjdaaGreat.AM
namespace Go.Proofs.YtpnmeednimpjdaaGreat.AM
open Go Go.RowKit
set_option linter.unusedSimpArgs false
set_option linter.unusedVariables false
section
variable {P : Program} {b : Bt} {h h1 : AH} {base : Nat} {w0 w : World} {e : Env} {a : Act} {n : Nat}
def skIs : SK → TypeDesc → Prop
  | .i, .int _ => True
  | .s, .string => True
  | .b, .bool => True
  | _, _ => False
theorem skOf_spec {t : TypeId} {kd : SK} (h : skOf P t = some kd) : ∃ d, P.underlying t = some d ∧ skIs kd d := by
  unfold skOf at h
  split at h <;> first | (cases h; done) | (rename_i q; cases h; exact ⟨_, q, trivial⟩)
theorem kEq1_g0 {kd : SK} {x y : Value} {r : Bool} (h : kEq1 kd x y = some r) : g0 x = true ∧ g0 y = true := by
  cases kd <;> cases x <;> cases y <;> simp [kEq1, g0] at h ⊢
theorem kEq1_now {kd : SK} {d : TypeDesc} {x y : Value} {r : Bool} (hd : skIs kd d) (h : kEq1 kd x y = some r) : Instr.sameNow d x y = some r := by
  cases kd <;> cases d <;> simp only [skIs] at hd <;> cases x <;> cases y <;> simp_all [kEq1, Instr.sameNow]
theorem bbeq (x y : ByteArray) : (x == y) = true ↔ x = y := by
  rw [beq_toListBytes]
  constructor
  · intro h
    have h2 : x.data.toList = y.data.toList := by simpa [ByteArray.toList_eq] using h
    cases x; cases y
    congr 1
    exact Array.ext' h2
  · rintro rfl; simp
theorem kEq1_eq {kd : SK} {x y : Value} (h : kEq1 kd x y = some true) : x = y := by
  cases kd <;> cases x <;> cases y <;> simp_all [kEq1, bbeq]
theorem sameBits_refl {kd : SK} {x : Value} {r : Bool} (h : kEq1 kd x x = some r) : Instr.sameBits 10000 x x = true := by
  cases kd <;> cases x <;> simp_all [kEq1, Instr.sameBits, (bbeq _ _).2 rfl]
theorem checkKey_ok {kd : SK} {d : TypeDesc} {t : TypeId} {v : Value} {em : Bool} (hd : skIs kd d) (ht : P.underlying t = some d) : (Instr.checkKey em 10000 t v).run P w = .ok () w := by
  have key : ∀ n, (Instr.checkKey em (n + 1) t v).run P w = .ok () w := by
    intro n
    cases kd <;> cases d <;> simp only [skIs] at hd <;> simp [Instr.checkKey, run_under ht]
  exact key 9999
theorem find_rel {kd : SK} {d : TypeDesc} (hd : skIs kd d) {S : Sh} (k nv : Value) : ∀ (es : List (Value × Value)) (es' : List MapEntry) (i : Nat) (r : Option Value), LR (VR b S) (es.map (·.1)) (es'.map (·.key)) → LR (VR b S) (es.map (·.2)) (es'.map (·.val)) → mFind kd k es = some r →
    (r = none ∧ Instr.findNow d k es' i = some none ∧ mSet kd k nv es = es ++ [(k, nv)]) ∨
    ∃ v j v' en, r = some v ∧ Instr.findNow d k es' i = some (some (i + j, v')) ∧ VR b S v v' ∧ es'[j]? = some en ∧ en.key = k ∧ (mSet kd k nv es).map (·.1) = es.map (·.1) ∧ (mSet kd k nv es).map (·.2) = (es.map (·.2)).set j nv
  | [], es', i, r, h1, h2, hf => by
    simp only [mFind, Option.some.injEq] at hf; subst hf
    have : es' = [] := by simpa using h1.unnil
    subst this
    exact .inl ⟨rfl, rfl, rfl⟩
  | (k0, v0) :: es, es', i, r, h1, h2, hf => by
    cases es' with
    | nil => exact absurd h1.1 (by simp)
    | cons en es' =>
      obtain ⟨x1, r1, e1, hx1, hr1⟩ := LR.uncons h1
      obtain ⟨x2, r2, e2, hx2, hr2⟩ := LR.uncons h2
      simp only [List.map_cons, List.cons.injEq] at e1 e2
      obtain ⟨rfl, rfl⟩ := e1
      obtain ⟨rfl, rfl⟩ := e2
      simp only [mFind] at hf
      split at hf
      · rename_i hk
        simp only [Option.some.injEq] at hf; subst hf
        have hg := kEq1_g0 hk
        have hke : en.key = k0 := hx1.g0_inv hg.2
        have hkk := kEq1_eq hk
        refine .inr ⟨v0, 0, en.val, en, rfl, ?_, hx2, rfl, by rw [hke, hkk], ?_, ?_⟩
        · simp only [Instr.findNow]
          rw [hke, kEq1_now hd hk]
          rfl
        · simp only [mSet]
          rw [hk]
          simp [hkk]
        · simp only [mSet]
          rw [hk]
          simp
      · rename_i hk
        have hg := kEq1_g0 hk
        have hke : en.key = k0 := hx1.g0_inv hg.2
        have hnow : Instr.findNow d k (en :: es') i = Instr.findNow d k es' (i + 1) := by
          simp only [Instr.findNow]
          rw [hke, kEq1_now hd hk]
        have hset : mSet kd k nv ((k0, v0) :: es) = (k0, v0) :: mSet kd k nv es := by
          simp only [mSet]; rw [hk]
        rcases find_rel hd k nv es es' (i + 1) r hr1 hr2 hf with ⟨q1, q2, q3⟩ | ⟨v, j, v', en', q1, q2, q3, q4, q5, q6, q7⟩
        · exact .inl ⟨q1, by rw [hnow]; exact q2, by rw [hset, q3]; rfl⟩
        · refine .inr ⟨v, j + 1, v', en', q1, by rw [hnow, q2]; congr 3; omega, q3, by simpa using q4, q5, ?_, ?_⟩
          · rw [hset]; simp [q6]
          · rw [hset]; simp [q7]
      · exact absurd hf (by simp)
theorem findNow_none {d : TypeDesc} {kd : SK} (hd : skIs kd d) (k : Value) : ∀ (es : List (Value × Value)) (es' : List MapEntry) (S : Sh), LR (VR b S) (es.map (·.1)) (es'.map (·.key)) → mFind kd k es = some none → kEq1 kd k k ≠ none → ∀ x ∈ es', x.key ≠ k
  | [], es', S, h1, _, _ => by
    have : es' = [] := by simpa using h1.unnil
    subst this
    intro x hx; cases hx
  | (k0, v0) :: es, es', S, h1, hf, hk0 => by
    cases es' with
    | nil => intro x hx; cases hx
    | cons en es' =>
      obtain ⟨x1, r1, e1, hx1, hr1⟩ := LR.uncons h1
      simp only [List.map_cons, List.cons.injEq] at e1
      obtain ⟨rfl, rfl⟩ := e1
      simp only [mFind] at hf
      split at hf
      · cases hf
      · rename_i hk
        have hke : en.key = k0 := hx1.g0_inv (kEq1_g0 hk).2
        intro x hx
        rcases List.mem_cons.1 hx with rfl | hx
        · intro h
          rw [← hke, h] at hk
          cases kd <;> cases k <;> simp_all [kEq1, (bbeq _ _).2 rfl]
        · exact findNow_none hd k es es' S hr1 hf hk0 x hx
      · cases hf
theorem getObj_map {r : Nat} {es : Array MapEntry} {c : Nat} (h : w.heap[r]? = some (.map es c)) : (getObj r).run P w = .ok (.map es c) w := by
  simp only [getObj, Sem.run, h]
theorem setObj_map {r : Nat} {es : Array MapEntry} {c : Nat} {o : Obj} (h : w.heap[r]? = some (.map es c)) : (setObj r o).run P w = .ok () (wset w r o) := by
  simp only [setObj, Sem.run, h]; rfl
theorem look_sound (H : Sim b h base w0 w) (R : Rl b e w a n) {t : TypeId} {x i : Operand} {ok : Bool} {r : ROp} (hr : resolve P (.lookup t x i ok) = some r) {v : Value} (hv : ev r e h = some (v, h1)) :
    Out b h1 base w0 w v ((Instr.lookup t (a.eval x) (a.eval i) ok).run P w) := by
  simp only [resolve] at hr
  split at hr
  · rename_i k el xo io ht hx hi
    split at hr
    · rename_i kd z hkd hz
      split at hr
      · rename_i hg
        simp only [Option.some.injEq] at hr; subst hr
        obtain ⟨d, hd, hsk⟩ := skOf_spec hkd
        simp only [ev] at hv
        have fin : ∀ (u u' : Value) (bb : Bool), VR b w.shape? u u' → VR b w.shape? (if ok = true then .tuple #[u, .bool bb] else u) (if ok = true then .tuple #[u', .bool bb] else u') := by
          intro u u' bb hu
          cases ok with
          | false => exact hu
          | true => exact VR.of_lr_tuple (l := [u, .bool bb]) (l' := [u', .bool bb]) (.cons hu (.cons (.scal rfl) .nil))
        split at hv
        · rename_i kv hxv hiv
          simp only [Option.map_eq_some_iff, Prod.mk.injEq] at hv
          obtain ⟨q, hq, rfl, rfl⟩ := hv
          rw [(opd_sound R hx hxv).g0_inv rfl, (opd_sound R hi hiv).g0_inv (kEq1_g0 hq).1]
          refine Out.same H ?_ (fin z z false (.g1 hg))
          simp [Instr.lookup, run_under ht, checkKey_ok hsk hd, Instr.findKey, run_under hd, Instr.findNow, run_zero hz]
        · rename_i j kv hxv hiv
          split at hv
          · rename_i es hj
            have hget := mapAt_get hj
            obtain ⟨kb, sb, hb, hp⟩ := (opd_sound R hx hxv).map_inv
            obtain ⟨k2, s2, hb2, hbase, es', clock, hkk, hl1, hl2, hst0⟩ := H.obj j _ hget
            rw [hb] at hb2; cases hb2
            split at hv
            · rename_i q u hq hf
              simp only [Option.some.injEq, Prod.mk.injEq] at hv; obtain ⟨rfl, rfl⟩ := hv
              rw [hp, (opd_sound R hi hiv).g0_inv (kEq1_g0 hq).1]
              rcases find_rel hsk kv kv es es'.toList 0 _ hl1 hl2 hf with ⟨c, _⟩ | ⟨u2, jj, v', en, e1, e2, e3, _⟩
              · cases c
              · cases e1
                refine Out.same H ?_ (fin u v' true e3)
                simp [Instr.lookup, run_under ht, getObj_map hkk, checkKey_ok hsk hd, Instr.findKey, run_under hd, e2]
            · rename_i q hq hf
              simp only [Option.some.injEq, Prod.mk.injEq] at hv; obtain ⟨rfl, rfl⟩ := hv
              rw [hp, (opd_sound R hi hiv).g0_inv (kEq1_g0 hq).1]
              rcases find_rel hsk kv kv es es'.toList 0 _ hl1 hl2 hf with ⟨_, e2, _⟩ | ⟨u2, jj, v', en, e1, _⟩
              · refine Out.same H ?_ (fin z z false (.g1 hg))
                simp [Instr.lookup, run_under ht, getObj_map hkk, checkKey_ok hsk hd, Instr.findKey, run_under hd, e2, run_zero hz]
              · cases e1
            · exact absurd hv (by simp)
          · exact absurd hv (by simp)
        · exact absurd hv (by simp)
      · exact absurd hr (by simp)
    · exact absurd hr (by simp)
  · exact absurd hr (by simp)
theorem wset_map_shape {w : World} {k : Nat} {es es' : Array MapEntry} {c c' : Nat} (hk : w.heap[k]? = some (.map es c)) : (wset w k (.map es' c')).shape? = w.shape? := by
  funext j
  unfold World.shape?
  by_cases ej : k = j
  · subst ej; rw [wset_same _ _ _ (Array.getElem?_eq_some_iff.1 hk).1, hk]
  · rw [wset_ne _ _ ej]
theorem upd_sound (H : Sim b h base w0 w) (R : Rl b e w a n) {t : TypeId} {m k x : Operand} {r : ROp} (hr : resolve P (.mapUpdate t m k x) = some r) {v : Value} (hv : ev r e h = some (v, h1)) :
    ∃ (u : Value) (w1 : World), (Instr.mapUpdate t (a.eval m) (a.eval k) (a.eval x)).run P w = .ok () w1 ∧ v = undef ∧ SLe w.shape? w1.shape? ∧ Sim b h1 base w0 w1 := by
  simp only [resolve] at hr
  split at hr
  · rename_i kt el mo ko xo ht hm hk hx
    simp only [Option.map_eq_some_iff] at hr
    obtain ⟨kd, hkd, rfl⟩ := hr
    obtain ⟨d, hd, hsk⟩ := skOf_spec hkd
    simp only [ev] at hv
    split at hv
    · rename_i j kv xv hmv hkv hxv
      split at hv
      · rename_i es hj
        have hget := mapAt_get hj
        obtain ⟨kb, sb, hb, hp⟩ := (opd_sound R hm hmv).map_inv
        obtain ⟨k2, s2, hb2, hbase, es', clock, hkk, hl1, hl2, hst0⟩ := H.obj j _ hget
        rw [hb] at hb2; cases hb2
        have hlt := (Array.getElem?_eq_some_iff.1 hkk).1
        split at hv
        · rename_i q u hq hf
          simp only [Option.some.injEq, Prod.mk.injEq] at hv; obtain ⟨rfl, rfl⟩ := hv
          have hke := (opd_sound R hk hkv).g0_inv (kEq1_g0 hq).1
          have hxr := opd_sound R hx hxv
          rw [hp, hke]
          rcases find_rel hsk kv xv es es'.toList 0 _ hl1 hl2 hf with ⟨e1, e2, e3⟩ | ⟨u2, jj, v', en, e1, e2, e3, e4, e5, e6, e7⟩
          · refine ⟨undef, wset w kb (.map (es'.push { key := kv, val := a.eval x, born := clock }) (clock + 1)), ?_, rfl, by rw [wset_map_shape hkk]; exact SLe.refl _, ?_⟩
            · simp [Instr.mapUpdate, run_under ht, getObj_map hkk, checkKey_ok hsk hd, Instr.findKey, run_under hd, e2, setObj_map hkk]
            · refine H.put hget rfl hb (by rw [wset_map_shape hkk]; exact SLe.refl _) ⟨hbase, _, _, wset_same _ _ _ hlt, ?_, ?_, ?_⟩
              · rw [wset_map_shape hkk, e3, List.map_append, Array.toList_push, List.map_append]
                exact hl1.append (.cons (.scal (kEq1_g0 hq).1) .nil)
              · rw [wset_map_shape hkk, e3, List.map_append, Array.toList_push, List.map_append]
                exact hl2.append (.cons hxr .nil)
              · obtain ⟨s1, s2, s3⟩ := hst0
                refine ⟨fun y hy => ?_, ?_, ?_⟩
                · rw [Array.toList_push] at hy
                  rcases List.mem_append.1 hy with hy | hy
                  · exact Nat.lt_succ_of_lt (s1 y hy)
                  · simp at hy; subst hy; exact Nat.lt_succ_self _
                · rw [Array.toList_push, List.map_append]
                  refine List.nodup_append.2 ⟨s2, by simp, fun a ha c hc hac => ?_⟩
                  simp at hc
                  obtain ⟨y, hy, rfl⟩ := List.mem_map.1 ha
                  have := s1 y hy
                  omega
                · rw [Array.toList_push, List.map_append]
                  refine List.nodup_append.2 ⟨s3, by simp, fun a ha c hc hac => ?_⟩
                  simp at hc
                  obtain ⟨y, hy, rfl⟩ := List.mem_map.1 ha
                  exact findNow_none hsk kv es es'.toList _ hl1 (by rw [hf, e1]) (by rw [hq]; simp) y hy (by rw [hac, hc])
          · have hen : es'[jj]? = some en := by rw [← Array.getElem?_toList]; exact e4
            have hjl := (Array.getElem?_eq_some_iff.1 hen).1
            refine ⟨undef, wset w kb (.map (es'.modify jj fun en => { en with key := kv, val := a.eval x }) clock), ?_, rfl, by rw [wset_map_shape hkk]; exact SLe.refl _, ?_⟩
            · have hst : (Instr.keyThatStays (((es'[0 + jj]?).map (·.key)).getD kv) kv).run P w = .ok kv w := by
                rw [Nat.zero_add, hen]
                simp only [Option.map_some, Option.getD_some, e5, Instr.keyThatStays, sameBits_refl hq, if_true, Sem.run_pure]
              simp only [Instr.mapUpdate, Sem.run_bind, run_under ht, Result.andThen_ok, getObj_map hkk, checkKey_ok hsk hd, Instr.findKey, run_under hd, e2, Sem.run_pure, hst, setObj_map hkk, Nat.zero_add]
              rw [Nat.zero_add] at hst
              simp only [hst, Result.andThen_ok, setObj_map hkk]
            · refine H.put hget rfl hb (by rw [wset_map_shape hkk]; exact SLe.refl _) ⟨hbase, _, _, wset_same _ _ _ hlt, ?_, ?_, ?_⟩
              · rw [wset_map_shape hkk, e6]
                refine ⟨by have := hl1.1; simpa using this, fun i v v' h1 h2 => ?_⟩
                refine hl1.2 i v v' h1 ?_
                rw [List.getElem?_map, Array.getElem?_toList, Array.getElem?_modify] at h2
                rw [List.getElem?_map, Array.getElem?_toList]
                split at h2
                · rename_i hij; subst hij
                  rw [hen] at h2 ⊢
                  simpa [e5] using h2
                · exact h2
              · rw [wset_map_shape hkk, e7]
                refine ⟨by have := hl2.1; simpa using this, fun i v v' h1 h2 => ?_⟩
                rw [List.getElem?_map, Array.getElem?_toList, Array.getElem?_modify] at h2
                rw [List.getElem?_set] at h1
                split at h2
                · rename_i hij; subst hij
                  rw [if_pos rfl] at h1
                  split at h1
                  · simp only [Option.some.injEq] at h1; subst h1
                    rw [hen] at h2
                    simp at h2; subst h2
                    exact hxr
                  · exact absurd h1 (by simp)
                · rename_i hij
                  rw [if_neg hij] at h1
                  exact hl2.2 i v v' h1 (by rw [List.getElem?_map, Array.getElem?_toList]; exact h2)
              · obtain ⟨s1, s2, s3⟩ := hst0
                have hmod : (es'.modify jj fun en => { en with key := kv, val := a.eval x }).toList = es'.toList.set jj { en with key := kv, val := a.eval x } := by
                  apply List.ext_getElem?
                  intro i
                  rw [Array.getElem?_toList, Array.getElem?_modify, List.getElem?_set]
                  split
                  · rename_i hij; subst hij
                    rw [if_pos (by simpa using hjl), hen]; rfl
                  · rw [Array.getElem?_toList]
                have hb1 : (es'.toList.set jj { en with key := kv, val := a.eval x }).map (·.born) = es'.toList.map (·.born) := by
                  rw [List.map_set]
                  refine List.ext_getElem? fun i => ?_
                  rw [List.getElem?_set]
                  split
                  · rename_i hij; subst hij
                    rw [List.getElem?_map, e4]; simp [hjl]
                  · rfl
                have hb2 : (es'.toList.set jj { en with key := kv, val := a.eval x }).map (·.key) = es'.toList.map (·.key) := by
                  rw [List.map_set]
                  refine List.ext_getElem? fun i => ?_
                  rw [List.getElem?_set]
                  split
                  · rename_i hij; subst hij
                    rw [List.getElem?_map, e4]; simp [hjl, e5]
                  · rfl
                refine ⟨fun y hy => ?_, ?_, ?_⟩
                · rw [hmod] at hy
                  rcases List.mem_or_eq_of_mem_set hy with hy | rfl
                  · exact s1 y hy
                  · exact s1 en (List.mem_of_getElem? e4)
                · rw [hmod, hb1]; exact s2
                · rw [hmod, hb2]; exact s3
        · exact absurd hv (by simp)
      · exact absurd hv (by simp)
    · exact absurd hv (by simp)
  · exact absurd hr (by simp)
end
end Go.Proofs.YtpnmeednimpjdaaGreat.AM
namespace Go.Proofs.YtpnmeednimpjdaaGreat.AM
open Go Go.RowKit
set_option linter.unusedSimpArgs false
set_option linter.unusedVariables false
section
variable {P : Program} {b : Bt} {h h1 : AH} {base : Nat} {w0 w : World} {e : Env} {a : Act} {n : Nat}
def OutN (b : Bt) (h1 : AH) (base : Nat) (w0 w : World) (v : Value) (r : Result Next) : Prop :=
  ∃ c nx v' w1, r = .ok nx w1 ∧ (nx = .value v' ∨ (nx = .skip ∧ v' = undef)) ∧ VR (b ++ c) w1.shape? v v' ∧ SLe w.shape? w1.shape? ∧ Sim (b ++ c) h1 base w0 w1
theorem OutN.of {v : Value} {s : Sem Value} (H : Out b h1 base w0 w v (s.run P w)) : OutN b h1 base w0 w v ((do pure (.value (← s)) : Sem Next).run P w) := by
  obtain ⟨c, v', w1, hr, hv, hS, HS⟩ := H
  exact ⟨c, .value v', v', w1, by simp [hr], .inl rfl, hv, hS, HS⟩
def nx (s : Sem Value) : Sem Next := do pure (.value (← s))
def opSem (op : BinOp) (t : TypeId) (x y : Operand) (u v : Value) : Sem Value := do eqGuard op t x y u v; binOp op t u v
theorem OutN.nx {v : Value} {s : Sem Value} (H : Out b h1 base w0 w v (s.run P w)) : OutN b h1 base w0 w v ((AM.nx s).run P w) := OutN.of H
theorem OutN.ofVal {v : Value} {r : Result Next} {v' : Value} (H : Sim b h base w0 w) (hr : r = .ok (.value v') w) (hv : VR b w.shape? v v') : OutN b h base w0 w v r :=
  ⟨[], .value v', v', w, hr, .inl rfl, by rw [List.append_nil]; exact hv, SLe.refl _, by rw [List.append_nil]; exact H⟩
theorem vr_undef {S : Sh} : VR b S undef undef := .tuple rfl (fun i v v' h => by simp at h)
theorem OutN.unit {s : Sem Unit} {w1 : World} (hr : s.run P w = .ok () w1) (hS : SLe w.shape? w1.shape?) (H : Sim b h1 base w0 w1) : OutN b h1 base w0 w undef ((do s; pure .skip : Sem Next).run P w) :=
  ⟨[], .skip, undef, w1, by simp [hr], .inr ⟨rfl, rfl⟩, vr_undef, hS, by rw [List.append_nil]; exact H⟩
theorem mm_sound (mx : Bool) : ∀ (v : Value) (vs : List Value) (r : Value), mmV mx v vs = some r → (vs.foldlM (if mx then Builtin.max2 else Builtin.min2) v).run P w = .ok r w ∧ (vs = [] ∧ r = v ∨ g0 r = true) ∧ ∀ x ∈ v :: vs, vs = [] ∨ g0 x = true
  | v, [], r, hr => by simp only [mmV, Option.some.injEq] at hr; subst hr; exact ⟨rfl, .inl ⟨rfl, rfl⟩, fun _ _ => .inl rfl⟩
  | v, u :: vs, r, hr => by
    cases v <;> cases u <;> (first | (simp [mmV] at hr; done) | skip)
    simp only [mmV] at hr
    rename_i k x k2 y
    obtain ⟨h1, h2, h3⟩ := mm_sound mx _ vs r hr
    refine ⟨?_, .inr ?_, ?_⟩
    · rw [List.foldlM_cons]
      have : ((if mx then Builtin.max2 else Builtin.min2) (.int k x) (.int k2 y)).run P w = .ok (.int k (if mx = true then if y > x then y else x else if y < x then y else x)) w := by
        cases mx <;> simp [Builtin.max2, Builtin.min2]
      simp only [Sem.run_bind, this, Result.andThen_ok]; exact h1
    · rcases h2 with ⟨_, rfl⟩ | h2
      · rfl
      · exact h2
    · intro z hz
      refine .inr ?_
      rcases List.mem_cons.1 hz with rfl | hz
      · rfl
      · rcases List.mem_cons.1 hz with rfl | hz
        · rfl
        · rcases h3 z (List.mem_cons_of_mem _ hz) with rfl | h
          · simp at hz
          · exact h
theorem lr_scal {l l' : List Value} {S : Sh} (hl : LR (VR b S) l l') (hg : ∀ x ∈ l, g0 x = true) : l' = l := by
  induction l generalizing l' with
  | nil => exact hl.unnil
  | cons x l ih =>
    obtain ⟨x', r, rfl, hx, hr⟩ := hl.uncons
    rw [hx.g0_inv (hg x (by simp)), ih hr (fun y hy => hg y (by simp [hy]))]
theorem toList_map_eval (args : Array Operand) : (args.map a.eval).toList = args.toList.map a.eval := by simp
theorem part_form {t : TypeId} {agg : Bool} {m off : Nat} {cs : Array Value} {u : Value} (hf : form P t = some (agg, m)) (hl : off + m ≤ cs.size) (hu : mkV agg ((cs.toList.drop off).take m) = some u) :
    (part t cs off).run P w = .ok u w := by
  unfold form at hf
  split at hf
  · rename_i k' h1 h2
    simp only [Option.some.injEq, Prod.mk.injEq] at hf; obtain ⟨rfl, rfl⟩ := hf
    simp only [mkV, Option.some.injEq] at hu; subst hu
    simp only [part, Sem.run_bind, run_agg h1, Result.andThen_ok, if_true, run_size h2, Sem.run_pure]
    congr 2
    apply Array.ext'
    simp [List.drop_take]
  · rename_i h1 h2
    simp only [Option.some.injEq, Prod.mk.injEq] at hf; obtain ⟨rfl, rfl⟩ := hf
    have hlt : off < cs.size := by omega
    rw [List.drop_eq_getElem_cons (by simpa using hlt)] at hu
    simp only [List.take_succ_cons, List.take_zero, mkV, Option.some.injEq] at hu; subst hu
    simp only [part, Sem.run_bind, run_agg h1, Result.andThen_ok, Bool.false_eq_true, if_false]
    simp [hlt]
  · exact absurd hf (by simp)
theorem rOpds_one {l : List Operand} {x : Opd} (h : rOpds l = some [x]) : ∃ X, l = [X] ∧ rOpd X = some x := by
  match l, h with
  | [], h => simp [rOpds] at h
  | X :: r, h =>
    simp only [rOpds] at h
    split at h
    · rename_i o os h1 h2
      simp only [Option.some.injEq, List.cons.injEq] at h; obtain ⟨rfl, rfl⟩ := h
      cases r with
      | nil => exact ⟨X, rfl, h1⟩
      | cons Y r =>
        simp only [rOpds] at h2
        split at h2 <;> simp at h2
    · exact absurd h (by simp)
theorem rOpds_two {l : List Operand} {x y : Opd} (h : rOpds l = some [x, y]) : ∃ X Y, l = [X, Y] ∧ rOpd X = some x ∧ rOpd Y = some y := by
  match l, h with
  | [], h => simp [rOpds] at h
  | X :: r, h =>
    simp only [rOpds] at h
    split at h
    · rename_i o os h1 h2
      simp only [Option.some.injEq, List.cons.injEq] at h; obtain ⟨rfl, rfl⟩ := h
      obtain ⟨Y, rfl, h3⟩ := rOpds_one h2
      exact ⟨X, Y, rfl, h1, h3⟩
    · exact absurd h (by simp)
theorem bi_run {c : Call} {bi : Builtin} {ty : TypeId} (hc : c.callee = .builtin bi) : ∃ K, ((do let d ← Go.resolve a.eval c ty; invoke d.target d.args) : Sem Next).run P w =
    (builtin bi c.argTypes ty K (c.args.map a.eval)).run P w := by
  apply Exists.intro
  simp only [Go.resolve, hc, Sem.run_bind, Sem.run_pure, Result.andThen_ok, invoke]
  rfl
theorem getObj_ok {r : Nat} {o : Obj} (h : w.heap[r]? = some o) (ho : ∀ c t f, o ≠ .cells c t f := by intro c t f h; cases h) : (getObj r).run P w = .ok o w := by
  simp only [getObj, Sem.run, h]
theorem setObj_ok {r : Nat} {o' o : Obj} (h : w.heap[r]? = some o') (ho : ∀ c t f, o' ≠ .cells c t f := by intro c t f h; cases h) : (setObj r o).run P w = .ok () (wset w r o) := by
  simp only [setObj, Sem.run, h]
  cases o' <;> first | rfl | exact absurd rfl (ho _ _ _)
theorem arg0 {args : Array Operand} {l : List Operand} {X : Operand} (h : args.toList = X :: l) : (args.map a.eval)[0]? = some (a.eval X) := by
  rw [Array.getElem?_map, ← Array.getElem?_toList, h]; rfl
theorem arg1 {args : Array Operand} {l : List Operand} {X Y : Operand} (h : args.toList = X :: Y :: l) : (args.map a.eval)[1]? = some (a.eval Y) := by
  rw [Array.getElem?_map, ← Array.getElem?_toList, h]; rfl
theorem at0 {T : Array TypeId} {d : TypeDesc} (h : (T[0]?).bind P.underlying = some d) : ∃ t, T[0]? = some t ∧ P.underlying t = some d := Option.bind_eq_some_iff.1 h
theorem len_sound (H : Sim b h base w0 w) (R : Rl b e w a n) {T : Array TypeId} {ty : TypeId} {args : Array Operand} {x : Opd} {X : Operand} {kd : Nat} {d : TypeDesc} {v : Value}
    (hl : args.toList = [X]) (hx : rOpd X = some x) (hd : (T[0]?).bind P.underlying = some d) (hk : (kd = 0 ∧ d = .string) ∨ (kd = 1 ∧ ∃ u, d = .slice u) ∨ (kd = 2 ∧ ∃ u u', d = .map u u'))
    (hv : ev (.len kd x) e h = some (v, h1)) : Out b h1 base w0 w v ((Builtin.len_ T ty (args.map a.eval)).run P w) := by
  obtain ⟨t, ht, hd⟩ := at0 hd
  have ha := arg0 (a := a) hl
  simp only [ev] at hv
  split at hv
  · rename_i s hxv
    have hz : d = .string := by rcases hk with ⟨_, h⟩ | ⟨h, _⟩ | ⟨h, _⟩ <;> first | exact h | cases h
    simp only [Option.some.injEq, Prod.mk.injEq] at hv; obtain ⟨rfl, rfl⟩ := hv
    rw [(opd_sound R hx hxv).string_inv] at ha
    exact Out.scal H (by simp only [Builtin.len_, ht, ha, Sem.run_bind, run_under hd, Result.andThen_ok, hz, Sem.run_pure]; rfl) rfl
  · rename_i ad m c hxv
    obtain ⟨u, hz⟩ : ∃ u, d = .slice u := by rcases hk with ⟨h, _⟩ | ⟨_, h⟩ | ⟨h, _⟩ <;> first | exact h | cases h
    simp only [Option.some.injEq, Prod.mk.injEq] at hv; obtain ⟨rfl, rfl⟩ := hv
    have hform : ∃ a' c', a.eval X = .slice a' m c' := by
      have hrel := opd_sound R hx hxv
      generalize a.eval X = u at hrel
      cases hrel with
      | scal hg => exact ⟨_, _, rfl⟩
      | slice _ _ _ _ => exact ⟨_, _, rfl⟩
      | slice0 => exact ⟨_, _, rfl⟩
    obtain ⟨a', c', hx'⟩ := hform
    rw [hx'] at ha
    exact Out.scal H (by simp only [Builtin.len_, ht, ha, Sem.run_bind, run_under hd, Result.andThen_ok, hz, Sem.run_pure]; rfl) rfl
  · rename_i hxv
    obtain ⟨u, u', hz⟩ : ∃ u u', d = .map u u' := by rcases hk with ⟨h, _⟩ | ⟨h, _⟩ | ⟨_, h⟩ <;> first | exact h | cases h
    simp only [Option.some.injEq, Prod.mk.injEq] at hv; obtain ⟨rfl, rfl⟩ := hv
    rw [(opd_sound R hx hxv).g0_inv rfl] at ha
    exact Out.scal H (by simp only [Builtin.len_, ht, ha, Sem.run_bind, run_under hd, Result.andThen_ok, hz, Sem.run_pure]; rfl) rfl
  · rename_i i hxv
    obtain ⟨u, u', hz⟩ : ∃ u u', d = .map u u' := by rcases hk with ⟨h, _⟩ | ⟨h, _⟩ | ⟨_, h⟩ <;> first | exact h | cases h
    simp only [Option.map_eq_some_iff, Prod.mk.injEq] at hv
    obtain ⟨es, hi, rfl, rfl⟩ := hv
    · obtain ⟨k, sb, hb, hp⟩ := (opd_sound R hx hxv).map_inv
      obtain ⟨k2, s2, hb2, hbase, es', clock, hkk, hlr, _⟩ := H.obj i _ (mapAt_get hi)
      rw [hb] at hb2; cases hb2
      have hsz : es'.size = es.length := by have := hlr.1; simpa using this.symm
      rw [hp] at ha
      exact Out.scal H (by simp only [Builtin.len_, ht, ha, Sem.run_bind, run_under hd, Result.andThen_ok, hz, getObj_ok hkk, Sem.run_pure, hsz]; rfl) rfl
  · exact absurd hv (by simp)
theorem copy_sound (H : Sim b h base w0 w) (R : Rl b e w a n) {T : Array TypeId} {ty el : TypeId} {args : Array Operand} {x y : Opd} {X Y : Operand} {m : Nat} {v : Value}
    (hl : args.toList = [X, Y]) (hx : rOpd X = some x) (hy : rOpd Y = some y) (hd : (T[0]?).bind P.underlying = some (.slice el)) (hm : szOf P el = some m)
    (hv : ev (.copy m x y) e h = some (v, h1)) : Out b h1 base w0 w v ((Builtin.copy_ T ty (args.map a.eval)).run P w) := by
  obtain ⟨t, ht, hd⟩ := at0 hd
  have ha := arg0 (a := a) hl
  have hb := arg1 (a := a) hl
  simp only [ev] at hv
  split at hv
  · rename_i u hxv hyv
    simp only [Option.map_eq_some_iff, Prod.mk.injEq] at hv
    obtain ⟨k, hk, rfl, rfl⟩ := hv
    have hk' := lenV_rel (opd_sound R hy hyv) hk
    rw [(opd_sound R hx hxv).nilslice_inv] at ha
    have fc := run_firstCells0 (P := P) (w := w) (es := m) (v := a.eval Y) (by rw [hk']; simp)
    refine Out.scal H ?_ rfl
    have e0 : Nat.min k 0 = 0 := Nat.min_zero k
    simp only [Builtin.copy_, ht, ha, hb, Sem.run_bind, run_under hd, Result.andThen_ok, lenOf_run hk', run_size hm, e0, fc]
    rfl
  · rename_i i off len s' u hxv hyv
    split at hv
    · rename_i k hk
      have hk' := lenV_rel (opd_sound R hy hyv) hk
      have hform : ∃ a' c', a.eval X = .slice (some a') len c' := by
        have hrel := opd_sound R hx hxv
        generalize a.eval X = u at hrel
        cases hrel with
        | scal hg => simp [g0] at hg
        | slice _ _ _ _ => exact ⟨_, _, rfl⟩
        | slice0 => exact ⟨_, _, rfl⟩
      split at hv
      · rename_i h0
        simp only [Option.some.injEq, Prod.mk.injEq] at hv; obtain ⟨rfl, rfl⟩ := hv
        obtain ⟨a', c', hx'⟩ := hform
        rw [hx'] at ha
        have fc := run_firstCells0 (P := P) (w := w) (es := m) (v := a.eval Y) (by rw [hk']; simp)
        refine Out.scal H ?_ rfl
        have h0' : Nat.min k len = 0 := h0
        simp only [Builtin.copy_, ht, ha, hb, Sem.run_bind, run_under hd, Result.andThen_ok, lenOf_run hk', run_size hm, h0', fc]
        simp [storeCells]; rfl
      · rename_i h0
        split at hv
        · rename_i new tt c hfo hi
          split at hv
          · rename_i hcond
            obtain ⟨hs', hoff⟩ := hcond
            simp only [Option.some.injEq, Prod.mk.injEq] at hv; obtain ⟨rfl, rfl⟩ := hv
            obtain ⟨new', fc, hlr⟩ := firstOf_sound (P := P) H (opd_sound R hy hyv) hfo
            have hone := firstOf_ones H hfo
            rcases (opd_sound R hx hxv).slice_inv with ⟨k2, sb, cap, t2, nn, hb2, hl2, hS2, hcap2, hp⟩ | ⟨hz, a', hp⟩
            · have hnl : new.length = min k len * m := by
                unfold firstOf at hfo
                split at hfo
                · split at hfo
                  · rename_i hx; exact absurd hx h0
                  · exact absurd hfo (by simp)
                · split at hfo
                  · split at hfo
                    · split at hfo
                      · simp only [Option.some.injEq] at hfo; subst hfo; simp; omega
                      · exact absurd hfo (by simp)
                    · simp [h0] at hfo
                  · exact absurd hfo (by simp)
                · split at hfo
                  · rename_i hx; simp only [Option.some.injEq] at hfo; subst hfo; rw [hx.1]; simp; have := hx.2; rw [← Nat.min_assoc]; exact Nat.min_eq_left this
                  · exact absurd hfo (by simp)
                · exact absurd hfo (by simp)
              obtain ⟨w1, hst, hsh, HS⟩ := H.write (P := P) hb2 hi hlr (by rw [hnl]; exact hoff) hone
              rw [hp] at ha
              refine ⟨[], goInt ((min k len : Nat) : Int), w1, ?_, .scal rfl, by rw [hsh]; exact SLe.refl _, by rw [List.append_nil]; exact HS⟩
              have e1 : Nat.min k len = min k len := rfl
              simp only [Builtin.copy_, ht, ha, hb, Sem.run_bind, run_under hd, Result.andThen_ok, lenOf_run hk', run_size hm, e1, fc, hst, Sem.run_pure]
            · subst hz; simp at h0
          · exact absurd hv (by simp)
        · exact absurd hv (by simp)
    · exact absurd hv (by simp)
  · exact absurd hv (by simp)
theorem clear_sound (H : Sim b h base w0 w) (R : Rl b e w a n) {T : Array TypeId} {ty el : TypeId} {args : Array Operand} {x : Opd} {X : Operand} {z v : Value}
    (hl : args.toList = [X]) (hx : rOpd X = some x) (hd : (T[0]?).bind P.underlying = some (.slice el)) (hz : zeroOf P el = some z) (hg : (cells z).all g0 = true) (hn : (cells z).length ≠ 0)
    (hv : ev (.clear (cells z) x) e h = some (v, h1)) : Out b h1 base w0 w v ((Builtin.clear_ T ty (args.map a.eval)).run P w) := by
  obtain ⟨t, ht, hd⟩ := at0 hd
  have ha := arg0 (a := a) hl
  simp only [ev] at hv
  split at hv
  · rename_i hxv
    simp only [Option.some.injEq, Prod.mk.injEq] at hv; obtain ⟨rfl, rfl⟩ := hv
    rw [(opd_sound R hx hxv).nilslice_inv] at ha
    exact Out.same H (v' := .tuple #[]) (by simp [Builtin.clear_, ht, ha, run_under hd]) (.tuple rfl (fun i v v' h => by simp at h))
  · rename_i i off len s' hxv
    split at hv
    · rename_i h0
      simp only [Option.some.injEq, Prod.mk.injEq] at hv; obtain ⟨rfl, rfl⟩ := hv
      subst h0
      have hform : ∃ a' c', a.eval X = .slice (some a') 0 c' := by
        have hrel := opd_sound R hx hxv
        generalize a.eval X = u at hrel
        cases hrel with
        | scal hg => simp [g0] at hg
        | slice _ _ _ _ => exact ⟨_, _, rfl⟩
        | slice0 => exact ⟨_, _, rfl⟩
      obtain ⟨a', c', hx'⟩ := hform
      rw [hx'] at ha
      exact Out.same H (v' := .tuple #[]) (by simp [Builtin.clear_, ht, ha, run_under hd]) (.tuple rfl (fun i v v' h => by simp at h))
    · rename_i h0
      split at hv
      · rename_i tt c hi
        split at hv
        · rename_i hcond
          obtain ⟨hs', hoff⟩ := hcond
          simp only [Option.some.injEq, Prod.mk.injEq] at hv; obtain ⟨rfl, rfl⟩ := hv
          rcases (opd_sound R hx hxv).slice_inv with ⟨k2, sb, cap, t2, nn, hb2, hl2, hS2, hcap2, hp⟩ | ⟨hz0, a', hp⟩
          · have hlr : LR (VR b w.shape?) (List.replicate len (cells z)).flatten (Builtin.zeroCells z.cells len).toList := by
              rw [zeroCells_rep]
              refine LR.same fun u hu => ?_
              obtain ⟨y, hy, hxy⟩ := List.mem_flatten.1 hu
              rw [List.eq_of_mem_replicate hy] at hxy
              exact .scal (List.all_eq_true.1 hg u hxy)
            have hones : (List.replicate len (cells z)).flatten.all one = true := by
              refine List.all_eq_true.2 fun u hu => ?_
              obtain ⟨y, hy, hxy⟩ := List.mem_flatten.1 hu
              rw [List.eq_of_mem_replicate hy] at hxy
              exact List.all_eq_true.1 (g0_ones hg) u hxy
            obtain ⟨w1, hst, hsh, HS⟩ := H.write (P := P) hb2 hi hlr (by rw [rep_len]; exact hoff) hones
            rw [hp] at ha
            refine ⟨[], .tuple #[], w1, ?_, .tuple rfl (fun i v v' h => by simp at h), by rw [hsh]; exact SLe.refl _, by rw [List.append_nil]; exact HS⟩
            obtain ⟨m, rfl⟩ : ∃ m, len = m + 1 := ⟨len - 1, by omega⟩
            simp only [Builtin.clear_, ht, ha, Sem.run_bind, run_under hd, Result.andThen_ok, run_zero hz, hst, Sem.run_pure]
          · exact absurd hz0 h0
        · exact absurd hv (by simp)
      · exact absurd hv (by simp)
  · exact absurd hv (by simp)
theorem mm_run (H : Sim b h base w0 w) (R : Rl b e w a n) (mx : Bool) (msg : String) {args : Array Operand} {xs : List Opd} {v : Value} (hx : rOpds args.toList = some xs) (hv : ev (.mm mx xs) e h = some (v, h1)) :
    Out b h1 base w0 w v ((match (args.map a.eval).toList with | [] => (stuck msg : Sem Value) | x :: rest => rest.foldlM (if mx then Builtin.max2 else Builtin.min2) x).run P w) := by
  simp only [ev] at hv
  split at hv
  · rename_i u us hvs
    simp only [Option.map_eq_some_iff, Prod.mk.injEq] at hv
    obtain ⟨r, hr, rfl, rfl⟩ := hv
    have hlr := opds_sound R hx hvs
    rw [← toList_map_eval] at hlr
    obtain ⟨q1, q2, q3⟩ := mm_sound (P := P) (w := w) mx u us r hr
    rcases us with _ | ⟨u2, us⟩
    · obtain ⟨u', r', e1, hu, hr'⟩ := hlr.uncons
      have := hr'.unnil
      subst this
      rw [e1]
      simp only [mmV, Option.some.injEq] at hr; subst hr
      exact Out.same H rfl hu
    · have := lr_scal hlr (fun x hx => by rcases q3 x hx with h | h; · cases h
                                          · exact h)
      rw [this]
      rcases q2 with ⟨h, _⟩ | h
      · cases h
      · exact Out.scal H q1 h
  · exact absurd hv (by simp)
theorem op_sound (H : Sim b h base w0 w) (R : Rl b e w a n) {o : Oper} {r : ROp} (hr : resolve P o.op = some r) (hc : r.isCall = false) {v : Value} (hv : ev r e h = some (v, h1)) :
    OutN b h1 base w0 w v ((execOp a.eval o).run P w) := by
  obtain ⟨dst, op, ty, pos, after, guard⟩ := o
  cases op <;> simp only [execOp] <;> simp only [resolve] at hr <;> try (cases hr; done)
  case move x =>
    simp only [Option.map_eq_some_iff] at hr
    obtain ⟨xo, hx, rfl⟩ := hr
    simp only [ev, Option.map_eq_some_iff, Prod.mk.injEq] at hv
    obtain ⟨u, hu, rfl, rfl⟩ := hv
    exact OutN.ofVal H rfl (opd_sound R hx hu)
  case assign x =>
    simp only [Option.map_eq_some_iff] at hr
    obtain ⟨xo, hx, rfl⟩ := hr
    simp only [ev, Option.map_eq_some_iff, Prod.mk.injEq] at hv
    obtain ⟨u, hu, rfl, rfl⟩ := hv
    exact OutN.ofVal H rfl (opd_sound R hx hu)
  case pick c x y =>
    split at hr
    · rename_i co xo yo e1 e2 e3
      simp only [Option.some.injEq] at hr; subst hr
      simp only [ev] at hv
      split at hv
      · rename_i hcv
        simp only [Option.map_eq_some_iff, Prod.mk.injEq] at hv
        obtain ⟨u, hu, rfl, rfl⟩ := hv
        refine OutN.ofVal H ?_ (opd_sound R e2 hu)
        simp [(opd_sound R e1 hcv).bool_inv, asBool]
      · rename_i hcv
        simp only [Option.map_eq_some_iff, Prod.mk.injEq] at hv
        obtain ⟨u, hu, rfl, rfl⟩ := hv
        refine OutN.ofVal H ?_ (opd_sound R e3 hu)
        simp [(opd_sound R e1 hcv).bool_inv, asBool]
      · exact absurd hv (by simp)
    · exact absurd hr (by simp)
  case alloc t =>
    simp only [Option.bind_eq_some_iff] at hr
    obtain ⟨z, hz, hr⟩ := hr
    split at hr
    · rename_i hg
      simp only [Option.some.injEq] at hr; subst hr
      simp only [ev, Option.some.injEq, Prod.mk.injEq] at hv; obtain ⟨rfl, rfl⟩ := hv
      refine OutN.of ⟨[(w.heap.size, 0)], _, w.alloc (.cells z.cells t), ?_, new_ptr H _, shape_push _ _, push_list H (g0_ones hg) (lr_g0 hg)⟩
      simp only [Instr.alloc, Sem.run_bind, run_zero hz, Result.andThen_ok, newVar, newRow, run_newObj, Sem.run_pure]; rfl
    · exact absurd hr (by simp)
  case box t x =>
    simp only [Option.map_eq_some_iff] at hr
    obtain ⟨xo, hx, rfl⟩ := hr
    simp only [ev] at hv
    split at hv
    · rename_i u hu
      split at hv
      · rename_i hg
        simp only [Option.some.injEq, Prod.mk.injEq] at hv; obtain ⟨rfl, rfl⟩ := hv
        refine OutN.of ⟨[(w.heap.size, 0)], _, w.alloc (.cells (a.eval x).cells t), ?_, new_ptr H _, shape_push _ _, push_list H hg (opd_sound R hx hu).cells⟩
        simp only [Instr.box, Sem.run_bind, Result.andThen_ok, newVar, newRow, run_newObj, Sem.run_pure]; rfl
      · exact absurd hv (by simp)
    · exact absurd hv (by simp)
  case build t parts => exact OutN.of (build_sound H R (by simp only [resolve]; exact hr) hv)
  case buildSlice t len parts => exact OutN.of (lit_sound H R (by simp only [resolve]; exact hr) hv)
  case load t x =>
    split at hr
    · rename_i agg m xo hf hx
      simp only [Option.some.injEq] at hr; subst hr
      simp only [ev] at hv
      split at hv
      · rename_i i off hxv
        split at hv
        · rename_i ro tt c hi
          split at hv
          · rename_i hm
            simp only [Option.map_eq_some_iff, Prod.mk.injEq] at hv
            obtain ⟨u, hu, rfl, rfl⟩ := hv
            obtain ⟨k, s, hb, hpv⟩ := (opd_sound R hx hxv).ptr_inv
            refine OutN.of ?_
            simp only [Instr.loadAt, Instr.sureAddr, hpv, Sem.run_bind, Sem.run_pure, Result.andThen_ok]
            exact load_sound H hf hb hi hm hu
          · exact absurd hv (by simp)
        · exact absurd hv (by simp)
      · exact absurd hv (by simp)
    · exact absurd hr (by simp)
  case store t x y =>
    split at hr
    · rename_i m xo yo hm hx hy
      simp only [Option.some.injEq] at hr; subst hr
      simp only [ev] at hv
      split at hv
      · rename_i i off u hxv hyv
        split at hv
        · rename_i tt c hi
          split at hv
          · rename_i hcond
            obtain ⟨hl, hoff, ho⟩ := hcond
            simp only [Option.some.injEq, Prod.mk.injEq] at hv; obtain ⟨rfl, rfl⟩ := hv
            obtain ⟨k, s, hb, hpv⟩ := (opd_sound R hx hxv).ptr_inv
            have hcl := (opd_sound R hy hyv).cells
            obtain ⟨w1, hst, hsh, HS⟩ := H.write (P := P) hb hi hcl (by rw [hl]; exact hoff) ho
            refine OutN.unit ?_ (by rw [hsh]; exact SLe.refl _) HS
            have hl2 : (a.eval y).cells.size = m := by have := hcl.1; unfold cells at this hl; simp at this hl; omega
            simp only [Instr.storeAt, Instr.sureAddr, hpv, storeVar, Sem.run_bind, Sem.run_pure, Result.andThen_ok, run_size hm]
            rw [if_neg (by simp [hl2])]
            exact hst
          · exact absurd hv (by simp)
        · exact absurd hv (by simp)
      · exact absurd hv (by simp)
    · exact absurd hr (by simp)
  case nilCheck x =>
    simp only [Option.map_eq_some_iff] at hr
    obtain ⟨xo, hx, rfl⟩ := hr
    simp only [ev] at hv
    split at hv
    · rename_i ad hxv
      simp only [Option.some.injEq, Prod.mk.injEq] at hv; obtain ⟨rfl, rfl⟩ := hv
      have hrel := opd_sound R hx hxv
      have : ∃ ad', a.eval x = .pointer (some ad') := by
        generalize a.eval x = u at hrel
        cases hrel with
        | scal hg => simp [g0] at hg
        | ptr _ => exact ⟨_, rfl⟩
      obtain ⟨ad', hp⟩ := this
      refine OutN.ofVal H (v' := a.eval x) ?_ hrel
      rw [hp]; rfl
    · exact absurd hv (by simp)
  case binOp op t x y yt =>
    change OutN b h1 base w0 w v ((AM.nx (opSem op t x y (a.eval x) (a.eval y))).run P w)
    split at hr
    · rename_i xo yo hx hy
      have binCase : ∀ r', r' = ROp.bin op xo yo → ev r' e h = some (v, h1) → OutN b h1 base w0 w v ((AM.nx (opSem op t x y (a.eval x) (a.eval y))).run P w) := by
        intro r' hr' hv
        subst hr'
        simp only [ev] at hv
        split at hv
        · rename_i u1 u2 h1' h2'
          simp only [Option.map_eq_some_iff, Prod.mk.injEq] at hv
          obtain ⟨rr, hrr, rfl, rfl⟩ := hv
          have hx' := opd_sound R hx h1'
          have hy' := opd_sound R hy h2'
          obtain ⟨ex, ey⟩ := binV_rel hrr hx' hy'
          rw [ex, ey]
          obtain ⟨q1, q2⟩ := binV_sound (P := P) (w := w) (t := t) (x := x) (y := y) hrr
          exact OutN.nx (Out.scal H q1 q2)
        · exact absurd hv (by simp)
      have eqCase : ∀ neg : Bool, op = (if neg then .neq else .eql) → ∀ r', (P.underlying t = some .bool ∧ r' = ROp.eqB neg xo yo ∨ (∃ d kd, P.underlying t = some d ∧ kindIs kd d ∧ r' = ROp.eqN neg kd xo yo) ∨ (∃ ks, P.eqGuardType P.depth t = false ∧ (∃ fs, P.underlying t = some (.struct fs)) ∧ flat P 12 t = some ks ∧ r' = ROp.eqA neg ks xo yo)) → ev r' e h = some (v, h1) →
          OutN b h1 base w0 w v ((AM.nx (opSem op t x y (a.eval x) (a.eval y))).run P w) := by
        intro neg hop r' hcases hv
        rcases hcases with ⟨hu, rfl⟩ | ⟨d, kd, hu, hk, rfl⟩ | ⟨ks, hG, ⟨fs, hu⟩, hks, rfl⟩
        · simp only [ev] at hv
          split at hv
          · rename_i p q h1' h2'
            simp only [Option.some.injEq, Prod.mk.injEq] at hv; obtain ⟨rfl, rfl⟩ := hv
            rw [(opd_sound R hx h1').bool_inv, (opd_sound R hy h2').bool_inv]
            refine OutN.nx (Out.scal H (v := .bool (if neg = true then !(p == q) else p == q)) ?_ rfl)
            have hE : (Op.equal t (.bool p) (.bool q)).run P w = .ok (p == q) w := by
              unfold Op.equal Op.maxDepth
              exact run_equalIn_bool' w 9999 t p q hu
            subst hop
            cases neg <;> simp [opSem, eqGuard, binOp, hE]
          · exact absurd hv (by simp)
        · simp only [ev] at hv
          split at hv
          · rename_i p q h1' h2'
            simp only [Option.map_eq_some_iff, Prod.mk.injEq] at hv
            obtain ⟨rr, hrr, rfl, rfl⟩ := hv
            have hrr' := eqNil_rel hrr (opd_sound R hx h1') (opd_sound R hy h2')
            have g1' := eqGuard_nil (P := P) (w := w) (op := op) (t := t) (x := x) (y := y) hrr'
            have e1' := equal_nil (w := w) hu hk hrr'
            refine OutN.nx (Out.scal H (v := .bool (if neg = true then !rr else rr)) ?_ rfl)
            obtain ⟨xx, yy, hxx, hyy, _⟩ := eqNil_both hrr'
            have hb : binOp op t (a.eval x) (a.eval y) = (if neg then (do pure (.bool (!(← Op.equal t (a.eval x) (a.eval y))))) else (do pure (.bool (← Op.equal t (a.eval x) (a.eval y))))) := by
              subst hop
              generalize a.eval x = X at hxx ⊢
              generalize a.eval y = Y at hyy ⊢
              rcases kd with _ | _ | _ | _ | kd
              · obtain ⟨_, rfl, _⟩ := isNil0 hxx; obtain ⟨_, rfl, _⟩ := isNil0 hyy; cases neg <;> rfl
              · obtain ⟨_, _, _, rfl, _⟩ := isNil1 hxx; obtain ⟨_, _, _, rfl, _⟩ := isNil1 hyy; cases neg <;> rfl
              · obtain ⟨_, rfl, _⟩ := isNil2 hxx; obtain ⟨_, rfl, _⟩ := isNil2 hyy; cases neg <;> rfl
              · rcases isNil3 hxx with ⟨rfl, _⟩ | ⟨_, _, _, rfl, _⟩ <;> rcases isNil3 hyy with ⟨rfl, _⟩ | ⟨_, _, _, rfl, _⟩ <;> cases neg <;> rfl
              · simp [isNil] at hxx
            simp only [opSem, Sem.run_bind, g1', Result.andThen_ok, hb]
            cases neg <;> simp [e1']
          · exact absurd hv (by simp)
        · simp only [ev] at hv
          split at hv
          · rename_i p q h1' h2'
            split at hv
            · rename_i hsz
              simp only [Option.map_eq_some_iff, Prod.mk.injEq] at hv
              obtain ⟨rr, hrr, rfl, rfl⟩ := hv
              obtain ⟨p', ep, lp⟩ := (opd_sound R hx h1').agg_inv
              obtain ⟨q', eq_, lq⟩ := (opd_sound R hy h2').agg_inv
              have hg : ∀ (ks : List SK) (l1 l2 m1 m2 : List Value) (r : Bool), kEq ks l1 l2 = some r → LR (VR b w.shape?) l1 m1 → LR (VR b w.shape?) l2 m2 → l1.length = ks.length → l2.length = ks.length → kEq ks m1 m2 = some r := by
                intro ks
                induction ks with
                | nil =>
                  intro l1 l2 m1 m2 r hk r1 r2 z1 z2
                  cases l1 <;> simp at z1; cases l2 <;> simp at z2
                  rw [r1.unnil, r2.unnil]; exact hk
                | cons k ks ih =>
                  intro l1 l2 m1 m2 r hk r1 r2 z1 z2
                  cases l1 with
                  | nil => simp at z1
                  | cons x1 l1 =>
                    cases l2 with
                    | nil => simp at z2
                    | cons x2 l2 =>
                      obtain ⟨y1, m1', rfl, hy1, r1'⟩ := r1.uncons
                      obtain ⟨y2, m2', rfl, hy2, r2'⟩ := r2.uncons
                      simp only [kEq] at hk ⊢
                      have hk1 : ∀ q, kEq1 k x1 x2 = some q → kEq1 k y1 y2 = some q := by
                        intro q hq
                        have gx : g0 x1 = true := by cases k <;> cases x1 <;> simp [kEq1, g0] at hq ⊢
                        have gy : g0 x2 = true := by cases k <;> cases x1 <;> cases x2 <;> simp [kEq1, g0] at hq ⊢
                        rw [hy1.g0_inv gx, hy2.g0_inv gy]; exact hq
                      cases hq : kEq1 k x1 x2 with
                      | none => rw [hq] at hk; exact absurd hk (by simp)
                      | some qq =>
                        rw [hq] at hk; rw [hk1 qq hq]
                        cases qq
                        · exact hk
                        · exact ih l1 l2 m1' m2' r hk r1' r2' (by simpa using z1) (by simpa using z2)
              have hrr2 := hg ks _ _ _ _ rr hrr lp lq (by simpa using hsz.1) (by simpa using hsz.2)
              have hagg : isAggP P t = some true := by simp [isAggP, hu, isAggD]
              have hE : (Op.equal t (.agg p') (.agg q')).run P w = .ok rr w := by
                unfold Op.equal Op.maxDepth
                refine equal_flat 12 t ks hks p'.toList q'.toList _ _ rr ?_ ?_ ?_ ?_ hrr2 10000 (by omega)
                · have := lp.1; simp at this; simp; omega
                · have := lq.1; simp at this; simp; omega
                · simp [mkT, hagg]
                · simp [mkT, hagg]
              rw [ep, eq_]
              refine OutN.nx (Out.scal H (v := .bool (if neg = true then !rr else rr)) ?_ rfl)
              subst hop
              cases neg <;> simp [opSem, eqGuard, binOp, hE, hG]
            · exact absurd hv (by simp)
          · exact absurd hv (by simp)
      unfold rBin at hr
      split at hr
      · split at hr
        · simp only [Option.some.injEq] at hr; exact binCase r hr.symm hv
        · simp only [Option.some.injEq] at hr; exact binCase r hr.symm hv
        · rename_i hu; simp only [Option.some.injEq] at hr; exact eqCase false rfl r (.inl ⟨hu, hr.symm⟩) hv
        · rename_i hu; simp only [Option.some.injEq] at hr; exact eqCase false rfl r (.inr (.inl ⟨_, 0, hu, rfl, hr.symm⟩)) hv
        · rename_i hu; simp only [Option.some.injEq] at hr; exact eqCase false rfl r (.inr (.inl ⟨_, 1, hu, rfl, hr.symm⟩)) hv
        · rename_i hu; simp only [Option.some.injEq] at hr; exact eqCase false rfl r (.inr (.inl ⟨_, 2, hu, rfl, hr.symm⟩)) hv
        · rename_i hu; simp only [Option.some.injEq] at hr; exact eqCase false rfl r (.inr (.inl ⟨_, 3, hu, rfl, hr.symm⟩)) hv
        · rename_i hu
          split at hr
          · exact absurd hr (by simp)
          · rename_i hG
            simp only [Option.map_eq_some_iff] at hr
            obtain ⟨ks, hks, rfl⟩ := hr
            exact eqCase false rfl _ (.inr (.inr ⟨ks, by simpa using hG, ⟨_, hu⟩, hks, rfl⟩)) hv
        · exact absurd hr (by simp)
      · split at hr
        · simp only [Option.some.injEq] at hr; exact binCase r hr.symm hv
        · simp only [Option.some.injEq] at hr; exact binCase r hr.symm hv
        · rename_i hu; simp only [Option.some.injEq] at hr; exact eqCase true rfl r (.inl ⟨hu, hr.symm⟩) hv
        · rename_i hu; simp only [Option.some.injEq] at hr; exact eqCase true rfl r (.inr (.inl ⟨_, 0, hu, rfl, hr.symm⟩)) hv
        · rename_i hu; simp only [Option.some.injEq] at hr; exact eqCase true rfl r (.inr (.inl ⟨_, 1, hu, rfl, hr.symm⟩)) hv
        · rename_i hu; simp only [Option.some.injEq] at hr; exact eqCase true rfl r (.inr (.inl ⟨_, 2, hu, rfl, hr.symm⟩)) hv
        · rename_i hu; simp only [Option.some.injEq] at hr; exact eqCase true rfl r (.inr (.inl ⟨_, 3, hu, rfl, hr.symm⟩)) hv
        · rename_i hu
          split at hr
          · exact absurd hr (by simp)
          · rename_i hG
            simp only [Option.map_eq_some_iff] at hr
            obtain ⟨ks, hks, rfl⟩ := hr
            exact eqCase true rfl _ (.inr (.inr ⟨ks, by simpa using hG, ⟨_, hu⟩, hks, rfl⟩)) hv
        · exact absurd hr (by simp)
      · simp only [Option.some.injEq] at hr; exact binCase r hr.symm hv
    · exact absurd hr (by simp)
  case unOp op ut x =>
    simp only [Option.map_eq_some_iff] at hr
    obtain ⟨xo, hx, rfl⟩ := hr
    simp only [ev] at hv
    split at hv
    · rename_i u hu
      simp only [Option.map_eq_some_iff, Prod.mk.injEq] at hv
      obtain ⟨rr, hrr, rfl, rfl⟩ := hv
      obtain ⟨q1, q2, q3⟩ := unV_sound (P := P) (w := w) hrr
      rw [(opd_sound R hx hu).g0_inv q3]
      exact OutN.of (Out.scal H q1 q2)
    · exact absurd hv (by simp)
  case convert s d x =>
    split at hr
    · rename_i xo hs hd hx
      simp only [Option.some.injEq] at hr; subst hr
      simp only [ev] at hv
      split at hv
      · rename_i kk nn hxv
        simp only [Option.some.injEq, Prod.mk.injEq] at hv; obtain ⟨rfl, rfl⟩ := hv
        rw [(opd_sound R hx hxv).int_inv]
        exact OutN.of (Out.scal H (by simp [convert, run_under hs, run_under hd, Conv.intToInt]) rfl)
      · exact absurd hv (by simp)
    · rename_i xo hs hd hx
      simp only [Option.some.injEq] at hr; subst hr
      simp only [ev] at hv
      split at hv
      · rename_i u1 u2 h1' h2'
        simp only [Opd.ev, Option.some.injEq] at h2'; subst h2'
        simp only [Option.map_eq_some_iff, Prod.mk.injEq] at hv
        obtain ⟨u, hu, rfl, rfl⟩ := hv
        cases u1 <;> simp [binV] at hu
        rename_i str
        simp only [strBin] at hu
        split at hu
        · simp only [Option.some.injEq] at hu; subst hu
          rw [(opd_sound R hx h1').string_inv]
          exact OutN.of (Out.scal H (by simp [convert, run_under hs, run_under hd]) rfl)
        · exact absurd hu (by simp)
      · exact absurd hv (by simp)
    · rename_i el xo hs hd hx
      split at hr
      · rename_i hel
        simp only [Option.some.injEq] at hr; subst hr
        simp only [ev] at hv
        split at hv
        · rename_i ad len sz hxv
          split at hv
          · rename_i vs hfo
            simp only [Option.map_eq_some_iff, Prod.mk.injEq] at hv
            obtain ⟨l, hl, rfl, rfl⟩ := hv
            have hrel := opd_sound R hx hxv
            obtain ⟨new, hf1, hf2⟩ := firstOf_sound (P := P) H hrel hfo
            have hbytes : ∀ (vs : List Value) (l : List UInt8), bytesIn vs = some l → (∀ x ∈ vs, g0 x = true) ∧ ∃ ns : List Int, vs = ns.map (Value.int .u8) ∧ l = ns.map fun n => UInt8.ofNat n.toNat := by
              intro vs
              induction vs with
              | nil => intro l hl; simp only [bytesIn, Option.some.injEq] at hl; subst hl; exact ⟨by simp, [], rfl, rfl⟩
              | cons v vs ih =>
                intro l hl
                cases v <;> (first | (simp [bytesIn] at hl; done) | skip)
                rename_i k nn
                cases k <;> (first | (simp [bytesIn] at hl; done) | skip)
                simp only [bytesIn, Option.map_eq_some_iff] at hl
                obtain ⟨l', hl', rfl⟩ := hl
                obtain ⟨i1, ns, i2, i3⟩ := ih l' hl'
                refine ⟨fun x hx => ?_, nn :: ns, by rw [i2]; rfl, by rw [i3]; rfl⟩
                rcases List.mem_cons.1 hx with rfl | hx
                · rfl
                · exact i1 x hx
            obtain ⟨hg, ns, hns, hlns⟩ := hbytes vs l hl
            have := lr_scal hf2 hg
            subst this
            have hfold : ∀ (ns : List Int) (s : ByteArray), ns.foldl (fun r n => r.push (UInt8.ofNat n.toNat)) s = ⟨s.data ++ (ns.map fun n => UInt8.ofNat n.toNat).toArray⟩ := by
              intro ns
              induction ns with
              | nil => intro s; simp
              | cons n ns ih => intro s; rw [List.foldl_cons, ih]; simp [ByteArray.push]
            cases ad with
            | none =>
              have hz : len = 0 ∧ sz = 0 := by
                simp only [firstOf] at hfo
                split at hfo
                · rename_i hq; simp at hq; exact hq
                · rename_i hq; simp at hq
                · rename_i hq; simp at hq
                · exact absurd hfo (by simp)
              obtain ⟨rfl, rfl⟩ := hz
              rw [hrel.nilslice_inv]
              simp only [firstOf, if_true, Option.some.injEq] at hfo; subst hfo
              simp only [bytesIn, Option.some.injEq] at hl; subst hl
              refine OutN.of (Out.scal H ?_ rfl)
              rw [run_convert_bytes_string (P := P) w s d el none 0 0 hs hel hd]
              simp [Conv.bytesToString]; rfl
            | some ad =>
              have hform : ∃ a' c', a.eval x = .slice (some a') len c' := by
                generalize a.eval x = u at hrel
                cases hrel with
                | scal hg => simp [g0] at hg
                | slice _ _ _ _ => exact ⟨_, _, rfl⟩
                | slice0 => exact ⟨_, _, rfl⟩
              obtain ⟨a', c', hx'⟩ := hform
              rw [hx'] at hf1 ⊢
              have hload : (loadCells a' (len * 1)).run P w = .ok (ns.map (Value.int .u8)).toArray w := by
                rw [← hns]; simpa [Builtin.firstCells] using hf1
              rw [Nat.mul_one] at hload
              refine OutN.of (Out.scal H ?_ rfl)
              rw [run_convert_bytes_string (P := P) w s d el (some a') len c' hs hel hd, run_bytesToString w a' len c' ns hload, hfold, hlns]
              simp [ByteArray.empty, ByteArray.emptyWithCapacity]
              rfl
          · exact absurd hv (by simp)
        · exact absurd hv (by simp)
      · exact absurd hr (by simp)
    · exact absurd hr (by simp)
  case makeInterface t x =>
    split at hr
    · exact absurd hr (by simp)
    · rename_i d xo hni hd hx
      simp only [Option.some.injEq] at hr; subst hr
      simp only [ev, Option.map_eq_some_iff, Prod.mk.injEq] at hv
      obtain ⟨u, hu, rfl, rfl⟩ := hv
      refine OutN.of (Out.same H (v' := .iface t (a.eval x)) ?_ (.iface (opd_sound R hx hu)))
      simp only [Instr.makeInterface, Sem.run_bind, run_under hd, Result.andThen_ok]
      cases d <;> first | rfl | exact absurd hd (fun hh => hni _ hh)
    · exact absurd hr (by simp)
  case typeAssert x xt u ok =>
    cases ok with
    | false => simp only [resolve] at hr; exact absurd hr (by simp)
    | true =>
      simp only [resolve] at hr
      split at hr
      · exact absurd hr (by simp)
      · rename_i d z xo hni hd hz hx
        split at hr
        · rename_i hg
          simp only [Option.some.injEq] at hr; subst hr
          simp only [ev] at hv
          have hdd : ∀ w' : World, True := fun _ => trivial
          split at hv
          · rename_i q y hxv
            simp only [Option.some.injEq, Prod.mk.injEq] at hv; obtain ⟨rfl, rfl⟩ := hv
            obtain ⟨y', hy, hry⟩ := (opd_sound R hx hxv).iface_inv
            rw [hy]
            by_cases e : q = u
            · refine OutN.of (Out.same H (v' := .tuple #[y', .bool true]) ?_ ?_)
              · simp only [Instr.typeAssert, Sem.run_bind, run_under hd, Result.andThen_ok]
                cases d <;> first | exact absurd hd (fun hh => hni _ hh) | simp [e]
              · rw [if_pos e]
                exact VR.of_lr_tuple (l := [y, .bool true]) (l' := [y', .bool true]) (.cons hry (.cons (.scal rfl) .nil))
            · refine OutN.of (Out.same H (v' := .tuple #[z, .bool false]) ?_ ?_)
              · simp only [Instr.typeAssert, Sem.run_bind, run_under hd, Result.andThen_ok]
                cases d <;> first | exact absurd hd (fun hh => hni _ hh) | simp [e, run_zero hz]
              · rw [if_neg e]
                exact VR.of_lr_tuple (l := [z, .bool false]) (l' := [z, .bool false]) (.cons (.g1 hg) (.cons (.scal rfl) .nil))
          · rename_i hxv
            simp only [Option.some.injEq, Prod.mk.injEq] at hv; obtain ⟨rfl, rfl⟩ := hv
            have hy := (opd_sound R hx hxv).g0_inv rfl
            rw [hy]
            refine OutN.of (Out.same H (v' := .tuple #[z, .bool false]) ?_ (VR.of_lr_tuple (l := [z, .bool false]) (l' := [z, .bool false]) (.cons (.g1 hg) (.cons (.scal rfl) .nil))))
            simp only [Instr.typeAssert, Sem.run_bind, run_under hd, Result.andThen_ok]
            cases d <;> first | exact absurd hd (fun hh => hni _ hh) | simp [run_zero hz]
          · exact absurd hv (by simp)
        · exact absurd hr (by simp)
      · exact absurd hr (by simp)
  case makeFunc f first cs =>
    cases f <;> simp only [resolve] at hr <;> try (cases hr; done)
    rename_i fid
    split at hr
    · rename_i hf
      simp only [Option.map_eq_some_iff] at hr
      obtain ⟨co, hco, rfl⟩ := hr
      simp only [ev, Option.map_eq_some_iff, Prod.mk.injEq] at hv
      obtain ⟨vs, hvs, rfl, rfl⟩ := hv
      have hlr := opds_sound R hco hvs
      refine OutN.of (Out.same H (v' := .func (.func fid) #[] (cs.map a.eval)) ?_ ?_)
      · have : first = #[] := Array.eq_empty_of_size_eq_zero hf
        subst this
        simp [Instr.makeFunc]
      · have := VR.of_lr_func (f := fid) hlr
        have e1 : (cs.toList.map a.eval).toArray = cs.map a.eval := Array.ext' (by simp)
        rw [e1] at this
        exact this
    · exact absurd hr (by simp)
  case makeMap t rv =>
    cases rv with
    | some _ => simp only [resolve] at hr; exact absurd hr (by simp)
    | none =>
      simp only [resolve, Option.some.injEq] at hr; subst hr
      simp only [ev, Option.some.injEq, Prod.mk.injEq] at hv; obtain ⟨rfl, rfl⟩ := hv
      refine OutN.of ⟨[(w.heap.size, 0)], .map (some w.heap.size), w.alloc (.map #[] 0), ?_, .map (new_at H), shape_push _ _, ?_⟩
      · simp [Instr.makeMap]
      · exact H.push _ _ ⟨H.le, #[], 0, heap_alloc_new w _, .nil, .nil, MapKept.stamped_empty 0⟩
  case makeSlice t l c => exact OutN.of (mk_sound H R (by simp only [resolve]; exact hr) hv)
  case slice t x lo hi mx => exact OutN.of (cut_sound H R (by simp only [resolve]; exact hr) hv)
  case fieldAddr s x f =>
    split at hr
    · rename_i fs xo hs hx
      simp only [Option.bind_eq_some_iff] at hr
      obtain ⟨fl, hfl, m, hm, hr⟩ := hr
      split at hr
      · exact absurd hr (by simp)
      · rename_i hm0
        simp only [Option.some.injEq] at hr; subst hr
        simp only [ev] at hv
        split at hv
        · rename_i i off hxv
          simp only [Option.some.injEq, Prod.mk.injEq] at hv; obtain ⟨rfl, rfl⟩ := hv
          obtain ⟨k, sb, hb, hp⟩ := (opd_sound R hx hxv).ptr_inv
          refine OutN.of (Out.same H (v' := .pointer (some ⟨k, sb + (off + fl.offset), none⟩)) ?_ (.ptr hb))
          simp only [Instr.fieldAt, Sem.run_bind, run_under hs, Result.andThen_ok, hfl, hp, Instr.sureAddr, Sem.run_pure, fieldPlace, run_size hm]
          rw [if_neg hm0]; simp [add_none, Nat.add_assoc]
        · exact absurd hv (by simp)
    · exact absurd hr (by simp)
  case field s x f =>
    split at hr
    · rename_i fs xo hs hx
      simp only [Option.bind_eq_some_iff, Option.map_eq_some_iff] at hr
      obtain ⟨fl, hfl, ⟨agg, m⟩, hf, rfl⟩ := hr
      simp only [ev] at hv
      split at hv
      · rename_i cs hxv
        split at hv
        · rename_i hl
          simp only [Option.map_eq_some_iff, Prod.mk.injEq] at hv
          obtain ⟨u, hu, rfl, rfl⟩ := hv
          obtain ⟨cs', hp, hlr⟩ := (opd_sound R hx hxv).agg_inv
          obtain ⟨u', hu', hru⟩ := mkV_rel ((hlr.drop fl.offset).take m) hu
          refine OutN.of (Out.same H (v' := u') ?_ hru)
          have hsz : cs'.size = cs.size := by have := hlr.1; simpa using this.symm
          simp only [Instr.field, Sem.run_bind, run_under hs, Result.andThen_ok, hfl, hp, asAgg, Sem.run_pure]
          exact part_form hf (by omega) hu'
        · exact absurd hv (by simp)
      · exact absurd hv (by simp)
    · exact absurd hr (by simp)
  case indexAddr t x i =>
    split at hr
    · rename_i el xo io ht hx hi
      simp only [Option.map_eq_some_iff] at hr
      obtain ⟨m, hm, rfl⟩ := hr
      simp only [ev] at hv
      split at hv
      · rename_i bb off len es kk j hxv hiv
        split at hv
        · rename_i hj
          simp only [Option.some.injEq, Prod.mk.injEq] at hv; obtain ⟨rfl, rfl⟩ := hv
          rcases (opd_sound R hx hxv).slice_inv with ⟨k, sb, cap, tt, nn, hb2, hl2, hS2, hcap2, hp⟩ | ⟨h0, a', hp⟩
          · refine OutN.of (Out.same H (v' := .pointer (some ⟨k, sb + (off + j.toNat * m), none⟩)) ?_ (.ptr hb2))
            simp only [Instr.indexAt, (opd_sound R hi hiv).int_inv, asIntOf, Sem.run_bind, Sem.run_pure, Result.andThen_ok, run_under ht, hp]
            simp [hj, run_size hm, add_none, Nat.add_assoc]
          · omega
        · exact absurd hv (by simp)
      · exact absurd hv (by simp)
    · rename_i len el xo io ht hx hi
      simp only [Option.map_eq_some_iff] at hr
      obtain ⟨m, hm, rfl⟩ := hr
      simp only [ev] at hv
      split at hv
      · rename_i bb off kk j hxv hiv
        split at hv
        · rename_i hj
          simp only [Option.some.injEq, Prod.mk.injEq] at hv; obtain ⟨rfl, rfl⟩ := hv
          obtain ⟨k, sb, hb2, hp⟩ := (opd_sound R hx hxv).ptr_inv
          refine OutN.of (Out.same H (v' := .pointer (some ⟨k, sb + (off + j.toNat * m), none⟩)) ?_ (.ptr hb2))
          simp only [Instr.indexAt, (opd_sound R hi hiv).int_inv, asIntOf, Sem.run_bind, Sem.run_pure, Result.andThen_ok, run_under ht, hp, Instr.sureAddr]
          simp [hj, run_size hm, add_none, Nat.add_assoc]
        · exact absurd hv (by simp)
      · exact absurd hv (by simp)
    · exact absurd hr (by simp)
  case index t x i =>
    split at hr
    · rename_i xo io ht hx hi
      simp only [Option.some.injEq] at hr; subst hr
      simp only [ev] at hv
      split at hv
      · rename_i s kk j hxv hiv
        split at hv
        · rename_i hj
          simp only [Option.map_eq_some_iff, Prod.mk.injEq] at hv
          obtain ⟨bb, hbb, rfl, rfl⟩ := hv
          refine OutN.of (Out.scal H (v := .int .u8 bb.toNat) ?_ rfl)
          have hs : s[j.toNat]? = some bb := by
            obtain ⟨hlt, hget⟩ := List.getElem?_eq_some_iff.1 hbb
            have hlt2 : j.toNat < s.size := by simpa using hlt
            rw [getElem?_pos s j.toNat hlt2]
            congr 1
          simp only [Instr.index, (opd_sound R hi hiv).int_inv, asIntOf, Sem.run_bind, Sem.run_pure, Result.andThen_ok, run_under ht, (opd_sound R hx hxv).string_inv]
          simp [hj, hs]
        · exact absurd hv (by simp)
      · exact absurd hv (by simp)
    · rename_i len el xo io ht hx hi
      simp only [Option.map_eq_some_iff] at hr
      obtain ⟨⟨agg, m⟩, hf, rfl⟩ := hr
      simp only [ev] at hv
      split at hv
      · rename_i cs kk j hxv hiv
        split at hv
        · rename_i hj
          simp only [Option.map_eq_some_iff, Prod.mk.injEq] at hv
          obtain ⟨u, hu, rfl, rfl⟩ := hv
          obtain ⟨cs', hp, hlr⟩ := (opd_sound R hx hxv).agg_inv
          obtain ⟨u', hu', hru⟩ := mkV_rel ((hlr.drop (j.toNat * m)).take m) hu
          refine OutN.of (Out.same H (v' := u') ?_ hru)
          have hsz : cs'.size = cs.size := by have := hlr.1; simpa using this.symm
          have hm : szOf P el = some m := by
            unfold form at hf; split at hf
            · rename_i h1 h2; simp only [Option.some.injEq, Prod.mk.injEq] at hf; rw [← hf.2]; exact h2
            · rename_i h1 h2; simp only [Option.some.injEq, Prod.mk.injEq] at hf; rw [← hf.2]; exact h2
            · exact absurd hf (by simp)
          simp only [Instr.index, (opd_sound R hi hiv).int_inv, asIntOf, Sem.run_bind, Sem.run_pure, Result.andThen_ok, run_under ht, hp]
          rw [if_pos ⟨hj.1, hj.2.1⟩]
          simp only [Sem.run_bind, run_size hm, Result.andThen_ok]
          exact part_form hf (by omega) hu'
        · exact absurd hv (by simp)
      · exact absurd hv (by simp)
    · exact absurd hr (by simp)
  case range t x =>
    split at hr
    · rename_i xo ht hx
      simp only [Option.some.injEq] at hr; subst hr
      simp only [ev] at hv
      split at hv
      · rename_i s hs
        simp only [Option.some.injEq, Prod.mk.injEq] at hv; obtain ⟨rfl, rfl⟩ := hv
        refine OutN.of ⟨[(w.heap.size, 0)], .pointer (some ⟨w.heap.size, 0, none⟩), w.alloc (.stringIter s 0), ?_, new_ptr H _, shape_push _ _, ?_⟩
        · simp [Instr.range, run_under ht, (opd_sound R hx hs).string_inv]
        · exact H.push _ _ ⟨⟨H.le, rfl⟩, heap_alloc_new w _⟩
      · exact absurd hv (by simp)
    · exact absurd hr (by simp)
  case next x isS =>
    cases isS with
    | false => simp only [resolve] at hr; exact absurd hr (by simp)
    | true =>
      simp only [resolve, Option.map_eq_some_iff] at hr
      obtain ⟨xo, hx, rfl⟩ := hr
      simp only [ev] at hv
      split at hv
      · rename_i i hxv
        split at hv
        · rename_i s pos hi
          obtain ⟨k, sb, hb, hp⟩ := (opd_sound R hx hxv).ptr_inv
          obtain ⟨k2, s2, hb2, hO⟩ := H.obj i _ hi
          rw [hb] at hb2; cases hb2
          obtain ⟨⟨hbase, rfl⟩, hk⟩ := hO
          have hlt := (Array.getElem?_eq_some_iff.1 hk).1
          split at hv
          · rename_i hpos
            simp only [Option.some.injEq, Prod.mk.injEq] at hv; obtain ⟨rfl, rfl⟩ := hv
            have hsh : (wset w k (.stringIter s (pos + (Utf8.decode s pos).2))).shape? = w.shape? := by
              funext j
              unfold World.shape?
              by_cases ej : k = j
              · subst ej; rw [wset_same _ _ _ hlt, hk]
              · rw [wset_ne _ _ ej]
            refine OutN.of ⟨[], .tuple #[.bool true, goInt pos, .int .i32 (Utf8.decode s pos).1], wset w k (.stringIter s (pos + (Utf8.decode s pos).2)), ?_, ?_, by rw [hsh]; exact SLe.refl _, ?_⟩
            · simp [Instr.next, hp, getObj_ok hk, hpos, setObj_ok hk]
            · exact (VR.of_lr_tuple (l := [.bool true, .int .i64 pos, .int .i32 (Utf8.decode s pos).1]) (.cons (.scal rfl) (.cons (.scal rfl) (.cons (.scal rfl) .nil))))
            · rw [List.append_nil]
              exact H.put hi rfl hb (by rw [hsh]; exact SLe.refl _) ⟨⟨hbase, rfl⟩, wset_same _ _ _ hlt⟩
          · rename_i hpos
            simp only [Option.some.injEq, Prod.mk.injEq] at hv; obtain ⟨rfl, rfl⟩ := hv
            refine OutN.of (Out.same H (v' := .tuple #[.bool false]) ?_ (VR.of_lr_tuple (l := [.bool false]) (l' := [.bool false]) (.cons (.scal rfl) .nil)))
            simp [Instr.next, hp, getObj_ok hk, hpos]
        · exact absurd hv (by simp)
      · exact absurd hv (by simp)
  case lookup t x i ok => exact OutN.of (look_sound H R (by simp only [resolve]; exact hr) hv)
  case mapUpdate t m k x =>
    obtain ⟨v', w1, hrun, he, hS, HS⟩ := upd_sound H R (by simp only [resolve]; exact hr) hv
    subst he
    exact OutN.unit hrun hS HS
  case extract x i =>
    simp only [Option.map_eq_some_iff] at hr
    obtain ⟨xo, hx, rfl⟩ := hr
    simp only [ev] at hv
    split at hv
    · rename_i vs hxv
      simp only [Option.map_eq_some_iff, Prod.mk.injEq] at hv
      obtain ⟨u, hu, rfl, rfl⟩ := hv
      obtain ⟨vs', hp, hlr⟩ := (opd_sound R hx hxv).tuple_inv
      obtain ⟨u', hu', hru⟩ := hlr.get hu
      refine OutN.of (Out.same H (v' := u') ?_ hru)
      rw [Array.getElem?_toList] at hu'
      simp [Instr.extract, hp, hu']
    · exact absurd hv (by simp)
  case call c =>
    unfold rCall at hr
    split at hr
    · split at hr
      · simp only [Option.some.injEq] at hr; subst hr; exact absurd hc (by simp [ROp.isCall])
      · exact absurd hr (by simp)
    · rename_i hcal
      obtain ⟨K, hK⟩ := bi_run (P := P) (w := w) (a := a) (ty := ty) hcal
      rw [hK]
      split at hr
      · rename_i x hl hd
        simp only [Option.some.injEq] at hr; subst hr
        obtain ⟨X, hl, hx⟩ := rOpds_one hl
        exact OutN.of (len_sound H R hl hx hd (.inl ⟨rfl, rfl⟩) hv)
      · rename_i x hl hd
        simp only [Option.some.injEq] at hr; subst hr
        obtain ⟨X, hl, hx⟩ := rOpds_one hl
        exact OutN.of (len_sound H R hl hx hd (.inr (.inl ⟨rfl, _, rfl⟩)) hv)
      · rename_i x hl hd
        simp only [Option.some.injEq] at hr; subst hr
        obtain ⟨X, hl, hx⟩ := rOpds_one hl
        exact OutN.of (len_sound H R hl hx hd (.inr (.inr ⟨rfl, _, _, rfl⟩)) hv)
      · exact absurd hr (by simp)
    · rename_i hcal
      obtain ⟨K, hK⟩ := bi_run (P := P) (w := w) (a := a) (ty := ty) hcal
      rw [hK]
      split at hr
      · rename_i x y t u hl ht hu
        obtain ⟨X, Y, hl, hx, hy⟩ := rOpds_two hl
        split at hr
        · rename_i el d htd hud
          split at hr
          · rename_i m bb z hm hb hz
            split at hr
            · exact absurd hr (by simp)
            · rename_i hne
              simp only [not_or, Decidable.not_not, ne_eq] at hne
              have key : (∀ q, d ≠ .int q) → r = .app el m bb x y → OutN b h1 base w0 w v ((builtin .append c.argTypes ty K (c.args.map a.eval)).run P w) := by
                intro hd he
                subst he
                obtain ⟨s, hs⟩ : ∃ s, x.ev e = some s := by
                  cases hq : x.ev e with
                  | none => simp [ev, hq] at hv
                  | some s => exact ⟨s, rfl⟩
                obtain ⟨u2, hu2⟩ : ∃ s, y.ev e = some s := by
                  cases hq : y.ev e with
                  | none => simp [ev, hq, hs] at hv
                  | some s => exact ⟨s, rfl⟩
                exact OutN.of (app_sound H ht hu (arg0 hl) (arg1 hl) htd hud hd hm hb hz hne.2.2 hne.2.1 hs hu2 (opd_sound R hx hs) (opd_sound R hy hu2) hv)
              split at hr
              · exact key (by intro q h; cases h) (by simpa using hr.symm)
              · exact key (by intro q h; cases h) (by simpa using hr.symm)
              · simp only [Option.some.injEq] at hr; subst hr
                obtain ⟨s, hs⟩ : ∃ s, x.ev e = some s := by
                  cases hq : x.ev e with
                  | none => simp [ev, hq] at hv
                  | some s => exact ⟨s, rfl⟩
                obtain ⟨u2, hu2⟩ : ∃ s, y.ev e = some s := by
                  cases hq : y.ev e with
                  | none => simp [ev, hq, hs] at hv
                  | some s => exact ⟨s, rfl⟩
                exact OutN.of (appZ_sound H ht hu (arg0 hl) (arg1 hl) htd hud hm hb hz hne.2.2 hne.2.1 hs hu2 (opd_sound R hx hs) (opd_sound R hy hu2) hv)
              · exact absurd hr (by simp)
          · exact absurd hr (by simp)
        · exact absurd hr (by simp)
      · exact absurd hr (by simp)
    · rename_i hcal
      obtain ⟨K, hK⟩ := bi_run (P := P) (w := w) (a := a) (ty := ty) hcal
      rw [hK]
      split at hr
      · rename_i x y el hl hd
        obtain ⟨X, Y, hl, hx, hy⟩ := rOpds_two hl
        simp only [Option.bind_eq_some_iff] at hr
        obtain ⟨m, hm, hr⟩ := hr
        split at hr
        · exact absurd hr (by simp)
        · simp only [Option.some.injEq] at hr; subst hr
          exact OutN.of (copy_sound H R hl hx hy hd hm hv)
      · exact absurd hr (by simp)
    · rename_i hcal
      obtain ⟨K, hK⟩ := bi_run (P := P) (w := w) (a := a) (ty := ty) hcal
      rw [hK]
      simp only [Option.map_eq_some_iff] at hr
      obtain ⟨xs, hxs, rfl⟩ := hr
      have := mm_run (P := P) H R true "max: at least one argument expected" hxs hv
      exact OutN.of this
    · rename_i hcal
      obtain ⟨K, hK⟩ := bi_run (P := P) (w := w) (a := a) (ty := ty) hcal
      rw [hK]
      simp only [Option.map_eq_some_iff] at hr
      obtain ⟨xs, hxs, rfl⟩ := hr
      have := mm_run (P := P) H R false "min: at least one argument expected" hxs hv
      exact OutN.of this
    · rename_i hcal
      obtain ⟨K, hK⟩ := bi_run (P := P) (w := w) (a := a) (ty := ty) hcal
      rw [hK]
      split at hr
      · rename_i x el hl hd
        simp only [Option.some.injEq] at hr; subst hr
        obtain ⟨X, hl, hx⟩ := rOpds_one hl
        obtain ⟨t, ht, hd⟩ := at0 hd
        have ha := arg0 (a := a) hl
        simp only [ev] at hv
        split at hv
        · rename_i hxv
          simp only [Option.some.injEq, Prod.mk.injEq] at hv; obtain ⟨rfl, rfl⟩ := hv
          rw [(opd_sound R hx hxv).g0_inv rfl] at ha
          exact OutN.of (Out.scal H (by simp only [Builtin.cap_, ht, ha, Sem.run_bind, run_under hd, Result.andThen_ok, Sem.run_pure]; rfl) rfl)
        · exact absurd hv (by simp)
      · exact absurd hr (by simp)
    · rename_i hcal
      obtain ⟨K, hK⟩ := bi_run (P := P) (w := w) (a := a) (ty := ty) hcal
      rw [hK]
      split at hr
      · rename_i x el hl hd
        split at hr
        · rename_i z hz
          split at hr
          · rename_i hg
            simp only [Option.some.injEq] at hr; subst hr
            obtain ⟨X, hl, hx⟩ := rOpds_one hl
            exact OutN.of (clear_sound H R hl hx hd hz hg.1 hg.2 hv)
          · exact absurd hr (by simp)
        · exact absurd hr (by simp)
      · exact absurd hr (by simp)
    · exact absurd hr (by simp)
end
end Go.Proofs.YtpnmeednimpjdaaGreat.AM
namespace Go.Proofs.YtpnmeednimpjdaaGreat.AM
open Go Go.RowKit
set_option linter.unusedSimpArgs false
set_option linter.unusedVariables false
def Opd.tm : Opd → List Nat
  | .tmp t => [t]
  | _ => []
def optTm : Option Opd → List Nat
  | some x => x.tm
  | none => []
def ROp.tm : ROp → List Nat
  | .move x | .box _ x | .load _ _ x | .nilCheck x | .un _ x | .conv _ x | .strOf x | .iface _ x | .assert _ _ x | .fld _ x | .part _ _ _ x | .iter x | .next x | .ext x _ | .len _ x | .clear _ x | .capN x => x.tm
  | .pick c a b => c.tm ++ a.tm ++ b.tm
  | .new _ _ | .mkMap | .stop => []
  | .build _ ps | .lit _ _ _ _ ps => ps.flatMap fun p => p.2.2.tm
  | .store _ x y | .bin _ x y | .eqB _ x y | .eqN _ _ x y | .eqA _ _ x y | .idx _ x y | .idxA _ _ x y | .idxS x y | .idxV _ _ _ x y | .look _ _ _ x y | .del _ x y | .app _ _ _ x y | .copy _ x y | .mkSlice _ _ _ _ x y | .appZ _ _ _ x y => x.tm ++ y.tm
  | .upd _ x y z => x.tm ++ y.tm ++ z.tm
  | .mkFunc _ xs | .mm _ xs => xs.flatMap Opd.tm
  | .cutS x lo hi => x.tm ++ optTm lo ++ optTm hi
  | .cut _ x lo hi mx | .cutA _ _ x lo hi mx => x.tm ++ optTm lo ++ optTm hi ++ optTm mx
  | .call f xs => f.tm ++ xs.flatMap Opd.tm
def RO.tm (o : RO) : List Nat := o.op.tm ++ (match o.guard with | some (t, _) => [t] | none => [])
section
variable {e e2 : Env} {h h2 : AH}
theorem opd_ev {x : Opd} (H : ∀ t ∈ x.tm, e2.get t = e.get t) : x.ev e2 = x.ev e := by
  cases x <;> first | rfl | exact H _ (by simp [Opd.tm])
theorem evs_ev : ∀ {xs : List Opd}, (∀ t ∈ xs.flatMap Opd.tm, e2.get t = e.get t) → evs e2 xs = evs e xs
  | [], _ => rfl
  | x :: xs, H => by
    simp only [List.flatMap_cons, List.mem_append] at H
    simp only [evs]
    rw [opd_ev fun t ht => H t (.inl ht), evs_ev fun t ht => H t (.inr ht)]
theorem fill_ev : ∀ {ps : List (Nat × Nat × Opd)} {zs : List Value}, (∀ t ∈ ps.flatMap (fun p => p.2.2.tm), e2.get t = e.get t) → fill e2 zs ps = fill e zs ps
  | [], _, _ => rfl
  | (off, n, x) :: ps, zs, H => by
    simp only [List.flatMap_cons, List.mem_append] at H
    simp only [fill]
    rw [opd_ev (x := x) fun t ht => H t (.inl ht)]
    split
    · split
      · exact fill_ev fun t ht => H t (.inr ht)
      · rfl
    · rfl
theorem bound_ev {x : Option Opd} {d : Nat} (H : ∀ t ∈ optTm x, e2.get t = e.get t) : bound e2 x d = bound e x d := by
  cases x with
  | none => rfl
  | some o => simp only [bound]; rw [opd_ev (x := o) H]
theorem ev_ev {op : ROp} (H : ∀ t ∈ op.tm, e2.get t = e.get t) : ev op e2 h = ev op e h := by
  cases op <;> simp only [ROp.tm, List.mem_append] at H <;> simp only [ev]
  case move x => rw [opd_ev H]
  case box t x => rw [opd_ev H]
  case load a n x => rw [opd_ev H]
  case nilCheck x => rw [opd_ev H]
  case un op x => rw [opd_ev H]
  case conv k x => rw [opd_ev H]
  case strOf x => rw [opd_ev H]
  case iface t x => rw [opd_ev H]
  case assert t z x => rw [opd_ev H]
  case fld o x => rw [opd_ev H]
  case part a o n x => rw [opd_ev H]
  case iter x => rw [opd_ev H]
  case next x => rw [opd_ev H]
  case ext x i => rw [opd_ev H]
  case len k x => rw [opd_ev H]
  case clear z x => rw [opd_ev H]
  case capN x => rw [opd_ev H]
  case pick c x y => rw [opd_ev (x := c) fun t ht => H t (.inl (.inl ht)), opd_ev (x := x) fun t ht => H t (.inl (.inr ht)), opd_ev (x := y) fun t ht => H t (.inr ht)]
  case build zs ps => rw [fill_ev H]
  case lit t es len zs ps => rw [fill_ev H]
  case store n x y => rw [opd_ev (x := x) fun t ht => H t (.inl ht), opd_ev (x := y) fun t ht => H t (.inr ht)]
  case bin n x y => rw [opd_ev (x := x) fun t ht => H t (.inl ht), opd_ev (x := y) fun t ht => H t (.inr ht)]
  case eqB n x y => rw [opd_ev (x := x) fun t ht => H t (.inl ht), opd_ev (x := y) fun t ht => H t (.inr ht)]
  case eqN n k x y => rw [opd_ev (x := x) fun t ht => H t (.inl ht), opd_ev (x := y) fun t ht => H t (.inr ht)]
  case eqA n k x y => rw [opd_ev (x := x) fun t ht => H t (.inl ht), opd_ev (x := y) fun t ht => H t (.inr ht)]
  case idx n x y => rw [opd_ev (x := x) fun t ht => H t (.inl ht), opd_ev (x := y) fun t ht => H t (.inr ht)]
  case idxA n k x y => rw [opd_ev (x := x) fun t ht => H t (.inl ht), opd_ev (x := y) fun t ht => H t (.inr ht)]
  case idxS x y => rw [opd_ev (x := x) fun t ht => H t (.inl ht), opd_ev (x := y) fun t ht => H t (.inr ht)]
  case idxV l a s x y => rw [opd_ev (x := x) fun t ht => H t (.inl ht), opd_ev (x := y) fun t ht => H t (.inr ht)]
  case look kd z ok x y => rw [opd_ev (x := x) fun t ht => H t (.inl ht), opd_ev (x := y) fun t ht => H t (.inr ht)]
  case del kd x y => rw [opd_ev (x := x) fun t ht => H t (.inl ht), opd_ev (x := y) fun t ht => H t (.inr ht)]
  case app t s bb x y => rw [opd_ev (x := x) fun t ht => H t (.inl ht), opd_ev (x := y) fun t ht => H t (.inr ht)]
  case appZ t s bb x y => rw [opd_ev (x := x) fun t ht => H t (.inl ht), opd_ev (x := y) fun t ht => H t (.inr ht)]
  case copy s x y => rw [opd_ev (x := x) fun t ht => H t (.inl ht), opd_ev (x := y) fun t ht => H t (.inr ht)]
  case mkSlice t s bb z x y => rw [opd_ev (x := x) fun t ht => H t (.inl ht), opd_ev (x := y) fun t ht => H t (.inr ht)]
  case upd kd x y z => rw [opd_ev (x := x) fun t ht => H t (.inl (.inl ht)), opd_ev (x := y) fun t ht => H t (.inl (.inr ht)), opd_ev (x := z) fun t ht => H t (.inr ht)]
  case mkFunc f xs => rw [evs_ev H]
  case mm m xs => rw [evs_ev H]
  case cutS x lo hi =>
    rw [opd_ev (x := x) fun t ht => H t (.inl (.inl ht))]
    simp only [bound_ev (x := lo) fun t ht => H t (.inl (.inr ht)), bound_ev (x := hi) fun t ht => H t (.inr ht)]
  case cut n x lo hi mx =>
    rw [opd_ev (x := x) fun t ht => H t (.inl (.inl (.inl ht)))]
    simp only [bound_ev (x := lo) fun t ht => H t (.inl (.inl (.inr ht))), bound_ev (x := hi) fun t ht => H t (.inl (.inr ht)), bound_ev (x := mx) fun t ht => H t (.inr ht)]
  case cutA k n x lo hi mx =>
    rw [opd_ev (x := x) fun t ht => H t (.inl (.inl (.inl ht)))]
    simp only [bound_ev (x := lo) fun t ht => H t (.inl (.inl (.inr ht))), bound_ev (x := hi) fun t ht => H t (.inl (.inr ht)), bound_ev (x := mx) fun t ht => H t (.inr ht)]
theorem callee_ev {f : Opd} {xs : List Opd} (H : ∀ t ∈ (ROp.call f xs).tm, e2.get t = e.get t) : callee f xs e2 = callee f xs e := by
  simp only [ROp.tm, List.mem_append] at H
  simp only [callee]
  rw [opd_ev fun t ht => H t (.inl ht), evs_ev fun t ht => H t (.inr ht)]
end
def ROp.cls (pur : List FuncId) : ROp → Nat
  | .move _ | .pick _ _ _ | .build _ _ | .nilCheck _ | .bin _ _ _ | .eqB _ _ _ | .eqN _ _ _ _ | .eqA _ _ _ _ | .un _ _ | .conv _ _ | .iface _ _ | .assert _ _ _ | .mkFunc _ _ | .cutS _ _ _ | .cut _ _ _ _ _ | .fld _ _
  | .part _ _ _ _ | .idx _ _ _ | .idxA _ _ _ _ | .idxS _ _ | .idxV _ _ _ _ _ | .ext _ _ | .mm _ _ | .capN _ | .len 0 _ | .len 1 _ => 2
  | .load _ _ _ | .strOf _ | .cutA _ _ _ _ _ _ | .look _ _ _ _ _ | .len _ _ => 1
  | .call (.fn g) _ => if pur.contains g then 2 else 0
  | _ => 0
theorem ev_free {pur : List FuncId} {op : ROp} {e : Env} {h h2 : AH} (hc : op.cls pur = 2) (hn : op.isCall = false) : ev op e h2 = (ev op e h).map fun r => (r.1, h2) := by
  cases op <;> simp only [ROp.cls] at hc <;> try (exact absurd hc (by decide))
  case call f xs => exact absurd hn (by simp [ROp.isCall])
  case len k x =>
    rcases k with _ | _ | k
    · simp only [ev]; split <;> simp_all
    · simp only [ev]; split <;> simp_all
    · exact absurd hc (by simp)
  all_goals (simp only [ev]; repeat' split)
  all_goals first
    | rfl
    | (simp only [Option.map_map, Option.map_some, Option.map_none]; rfl)
    | (simp [Function.comp_def])
theorem ev_quiet {pur : List FuncId} {op : ROp} {e : Env} {h h1 : AH} {v : Value} (hc : 1 ≤ op.cls pur) (hn : op.isCall = false) (hv : ev op e h = some (v, h1)) : h1 = h := by
  by_cases h2 : op.cls pur = 2
  · have := ev_free (e := e) (h := h) (h2 := h) h2 hn
    rw [hv] at this
    simpa using this
  · cases op <;> simp only [ROp.cls] at hc h2 <;> first | exact (h2 trivial).elim | (exfalso; revert hc; decide) | skip
    case call f xs => exact absurd hn (by simp [ROp.isCall])
    all_goals (simp only [ev] at hv; repeat' split at hv)
    all_goals first
      | (cases hv; done)
      | (simp only [Option.map_eq_some_iff, Option.some.injEq, Prod.mk.injEq] at hv; first | exact hv.2.symm | (obtain ⟨_, _, _, hh⟩ := hv; exact hh.symm))
def ROp.isNew : ROp → Bool
  | .new _ _ | .box _ _ | .lit _ _ _ _ _ | .mkMap | .iter _ | .mkSlice _ _ _ _ _ _ | .appZ _ _ _ _ _ => true
  | _ => false
theorem ev_new {op : ROp} {e : Env} {h h1 : AH} {v : Value} (hc : op.isNew = true) (hv : ev op e h = some (v, h1)) : ∃ o, h1 = h.push o := by
  cases op <;> simp only [ROp.isNew] at hc <;> try (exact absurd hc (by decide))
  all_goals (simp only [ev] at hv; repeat' split at hv)
  all_goals first
    | (cases hv; done)
    | (simp only [Option.some.injEq, Prod.mk.injEq] at hv; exact ⟨_, hv.2.symm⟩)
theorem firstOf_push {h : AH} {o : AObj} {es n : Nat} {v : Value} {l : List Value} (hf : firstOf h es n v = some l) : firstOf (h.push o) es n v = some l := by
  unfold firstOf at *
  split at hf
  · exact hf
  · rename_i i off len s
    split at hf
    · rename_i hs
      rw [if_pos hs]
      split at hf
      · rename_i hi
        rw [rowAt_push hi]; exact hf
      · rename_i hi
        split at hf
        · rename_i hn
          have : rowAt (h.push o) i = none := by
            unfold rowAt at *
            have h2 : i < (h.push o).next := Nat.lt_succ_of_lt hn.2
            rw [if_pos hn.2] at hi
            rw [if_pos h2, AH.get_push_ne _ _ (by omega)]; exact hi
          have h2 : i < (h.push o).next := Nat.lt_succ_of_lt hn.2
          rw [this, ← hf]
          simp only []
          rw [if_pos ⟨hn.1, h2⟩]
        · exact absurd hf (by simp)
    · exact absurd hf (by simp)
  · exact hf
  · exact absurd hf (by simp)
theorem ev_push {pur : List FuncId} {op : ROp} {e : Env} {h h1 : AH} {o : AObj} {v : Value} (hc : op.cls pur = 1) (hn : op.isCall = false) (hv : ev op e h = some (v, h1)) : ev op e (h.push o) = some (v, h.push o) := by
  cases op <;> simp only [ROp.cls] at hc <;> first | (exfalso; revert hc; decide) | skip
  case call f xs => exact absurd hn (by simp [ROp.isCall])
  case load agg n x =>
    simp only [ev] at hv ⊢
    split at hv
    · split at hv
      · rename_i hi
        simp only [rowAt_push hi]
        split at hv
        · rename_i hm
          rw [if_pos hm]
          simp only [Option.map_eq_some_iff, Prod.mk.injEq] at hv ⊢
          obtain ⟨u, hu, rfl, _⟩ := hv
          exact ⟨u, hu, rfl, trivial⟩
        · exact absurd hv (by simp)
      · exact absurd hv (by simp)
    · exact absurd hv (by simp)
  case strOf x =>
    simp only [ev] at hv ⊢
    split at hv
    · split at hv
      · rename_i hi
        simp only [firstOf_push hi]
        simp only [Option.map_eq_some_iff, Prod.mk.injEq] at hv ⊢
        obtain ⟨u, hu, rfl, _⟩ := hv
        exact ⟨u, hu, rfl, trivial⟩
      · exact absurd hv (by simp)
    · exact absurd hv (by simp)
  case cutA k n x lo hi mx =>
    simp only [ev] at hv ⊢
    split at hv
    · split at hv
      · rename_i h1 h2 h3 h4
        simp only [rowAt_push h1, h2, h3, h4]
        split at hv
        · rename_i hm
          rw [if_pos hm]
          simp only [Option.some.injEq, Prod.mk.injEq] at hv ⊢
          exact ⟨hv.1, trivial⟩
        · exact absurd hv (by simp)
      · exact absurd hv (by simp)
    · exact absurd hv (by simp)
  case look kd z ok m k =>
    simp only [ev] at hv ⊢
    split at hv
    · simp only [Option.map_eq_some_iff, Prod.mk.injEq] at hv ⊢
      obtain ⟨u, hu, rfl, _⟩ := hv
      exact ⟨u, hu, rfl, trivial⟩
    · split at hv
      · rename_i hi
        simp only [mapAt_push hi]
        split at hv <;> simp_all
      · exact absurd hv (by simp)
    · exact absurd hv (by simp)
  case len k x =>
    simp only [ev] at hv ⊢
    split at hv
    · simp_all
    · simp_all
    · simp_all
    · simp only [Option.map_eq_some_iff, Prod.mk.injEq] at hv ⊢
      obtain ⟨u, hu, rfl, _⟩ := hv
      exact ⟨u, mapAt_push hu, rfl, trivial⟩
    · exact absurd hv (by simp)
end Go.Proofs.YtpnmeednimpjdaaGreat.AM
namespace Go.Proofs.YtpnmeednimpjdaaGreat.AM
open Go Go.RowKit
set_option linter.unusedSimpArgs false
set_option linter.unusedVariables false
theorem Tr.setB_lf {α : Type} (bs : List Bool) (a : α) : (Tr.lf : Tr α).setB bs a = (Tr.nd .lf none .lf).setB bs a := by
  cases bs with
  | nil => rfl
  | cons b bs => cases b <;> rfl
theorem Tr.setB_comm {α : Type} (a c : α) : ∀ (bs cs : List Bool) (t : Tr α), bs ≠ cs → (t.setB bs a).setB cs c = (t.setB cs c).setB bs a := by
  have key : ∀ (bs cs : List Bool) (l : Tr α) (o : Option α) (r : Tr α), bs ≠ cs → ((Tr.nd l o r).setB bs a).setB cs c = ((Tr.nd l o r).setB cs c).setB bs a := by
    intro bs
    induction bs with
    | nil =>
      intro cs l o r h
      cases cs with
      | nil => exact absurd rfl h
      | cons x cs => cases x <;> rfl
    | cons x bs ih =>
      intro cs l o r h
      cases cs with
      | nil => cases x <;> rfl
      | cons y cs =>
        cases x <;> cases y <;> simp only [Tr.setB] <;> try rfl
        · have hne : bs ≠ cs := fun e => h (by rw [e])
          cases l with
          | lf => rw [Tr.setB_lf bs a, Tr.setB_lf cs c, ih cs _ _ _ hne]
          | nd l' o' r' => rw [ih cs _ _ _ hne]
        · have hne : bs ≠ cs := fun e => h (by rw [e])
          cases r with
          | lf => rw [Tr.setB_lf bs a, Tr.setB_lf cs c, ih cs _ _ _ hne]
          | nd l' o' r' => rw [ih cs _ _ _ hne]
  intro bs cs t h
  cases t with
  | lf => rw [Tr.setB_lf bs a, Tr.setB_lf cs c]; exact key bs cs _ _ _ h
  | nd l o r => exact key bs cs l o r h
theorem putD_comm (e : Env) {d d' : Option Nat} (v u : Value) (h : ∀ t, d = some t → d' ≠ some t) : putD (putD e d v) d' u = putD (putD e d' u) d v := by
  cases d with
  | none => rfl
  | some t =>
    cases d' with
    | none => rfl
    | some t' =>
      have hne : t ≠ t' := fun e => h t rfl (by rw [e])
      simp only [putD, Env.put]
      rw [Tr.setB_comm _ _ _ _ _ (fun e => hne (bits_inj e))]
theorem putD_get {e : Env} {d : Option Nat} {v : Value} {t : Nat} (h : d ≠ some t) : (putD e d v).get t = e.get t := by
  cases d with
  | none => rfl
  | some d => simp only [putD]; rw [Env.get_put, if_neg (fun x => h (by rw [x]))]
def Bodied (P : Program) (f : FuncId) : Prop := ∃ fn code, P.funcs[f]? = some fn ∧ fn.body = some code ∧ (fn.name == "runtime.NumGoroutine") = false
def Post (b : Bt) (h1 : AH) (base : Nat) (w0 w : World) (v : Value) (en : Ending) (w1 : World) : Prop :=
  ∃ c v', en = .returned v' ∧ VR (b ++ c) w1.shape? v v' ∧ SLe w.shape? w1.shape? ∧ Sim (b ++ c) h1 base w0 w1
def SoundFn (P : Program) (f : FuncId) (vs : List Value) (h : AH) (v : Value) (h1 : AH) : Prop :=
  Bodied P f ∧ ∀ (b : Bt) (base : Nat) (w0 w : World) (args : List Value), Sim b h base w0 w → LR (VR b w.shape?) vs args → Calls P f args.toArray w (Post b h1 base w0 w v)
structure XOK (P : Program) (F : Funs) (X : Exts) (pur : List FuncId) : Prop where
  sound : ∀ g vs h v h1, X g vs h = some (v, h1) → SoundFn P g vs h v h1
  pure : ∀ g vs h v h1, pur.contains g = true → X g vs h = some (v, h1) → h1 = h ∧ ∀ h2, X g vs h2 = some (v, h2)
  none : ∀ g, pur.contains g = true → F g = none
section
variable {P : Program} {F : Funs} {X : Exts} {pur : List FuncId}
def StS (P : Program) (X : Exts) (pur : List FuncId) (o : RO) (e : Env) (h : AH) (v : Value) (h1 : AH) : Prop :=
  (wants o.guard e = some false ∧ v = undef ∧ h1 = h) ∨ (wants o.guard e = some true ∧ ((o.op.isCall = false ∧ ev o.op e h = some (v, h1)) ∨
    ∃ f args g vs, o.op = .call f args ∧ callee f args e = some (g, vs) ∧ SoundFn P g vs h v h1 ∧ (pur.contains g = true → X g vs h = some (v, h1))))
def RunS (P : Program) (X : Exts) (pur : List FuncId) : List RO → Env → AH → Env → AH → Prop
  | [], e, h, e', h' => e' = e ∧ h' = h
  | o :: os, e, h, e', h' => ∃ v h1, StS P X pur o e h v h1 ∧ RunS P X pur os (putD e o.dst v) h1 e' h'
theorem wants_ev {o : RO} {e e2 : Env} (H : ∀ t ∈ o.tm, e2.get t = e.get t) : wants o.guard e2 = wants o.guard e := by
  obtain ⟨d, op, g⟩ := o
  cases g with
  | none => rfl
  | some g => simp only [wants]; rw [H g.1 (by simp [RO.tm])]
theorem StS.env {o : RO} {e e2 : Env} {h h1 : AH} {v : Value} (H : ∀ t ∈ o.tm, e2.get t = e.get t) (hs : StS P X pur o e h v h1) : StS P X pur o e2 h v h1 := by
  have hop : ∀ t ∈ o.op.tm, e2.get t = e.get t := fun t ht => H t (by simp [RO.tm, ht])
  unfold StS at *
  rw [wants_ev H]
  refine hs.imp id (And.imp id fun hs => ?_)
  rcases hs with ⟨hc, hv⟩ | ⟨f, args, g, vs, ho, hcl, hr⟩
  · exact .inl ⟨hc, by rw [ev_ev hop]; exact hv⟩
  · exact .inr ⟨f, args, g, vs, ho, by rw [callee_ev (by rw [← ho]; exact hop)]; exact hcl, hr⟩
theorem callee_fn {g g' : FuncId} {args : List Opd} {e : Env} {vs : List Value} (h : callee (.fn g) args e = some (g', vs)) : g' = g := by
  simp only [callee, Opd.ev] at h
  split at h
  · rename_i h1 _
    split at h
    · simp only [Option.some.injEq, Prod.mk.injEq] at h
      simp only [Option.some.injEq, Value.func.injEq, Fn.func.injEq] at h1
      rw [← h.1, h1.1]
    · exact absurd h (by simp)
  · exact absurd h (by simp)
theorem cls_call {f : Opd} {args : List Opd} (h : 1 ≤ (ROp.call f args).cls pur) : ∃ g, f = .fn g ∧ pur.contains g = true := by
  cases f with
  | fn g =>
    simp only [ROp.cls] at h
    split at h
    · rename_i hg; exact ⟨g, rfl, hg⟩
    · exact absurd h (by decide)
  | tmp t => simp [ROp.cls] at h
  | const v => simp [ROp.cls] at h
theorem StS.quiet (OK : XOK P F X pur) {o : RO} {e : Env} {h h1 : AH} {v : Value} (hc : 1 ≤ o.op.cls pur) (hs : StS P X pur o e h v h1) : h1 = h := by
  rcases hs with ⟨_, _, h⟩ | ⟨_, ⟨hn, hv⟩ | ⟨f, args, g, vs, ho, hcl, hs, hX⟩⟩
  · exact h
  · exact ev_quiet hc hn hv
  · rw [ho] at hc
    obtain ⟨g', rfl, hg⟩ := cls_call hc
    have := callee_fn hcl; subst this
    exact (OK.pure _ _ _ _ _ hg (hX hg)).1
theorem StS.free (OK : XOK P F X pur) {o : RO} {e : Env} {h h1 : AH} {v : Value} (hc : o.op.cls pur = 2) (hs : StS P X pur o e h v h1) (h2 : AH) : StS P X pur o e h2 v h2 := by
  rcases hs with ⟨hw, hu, _⟩ | ⟨hw, ⟨hn, hv⟩ | ⟨f, args, g, vs, ho, hcl, hs, hX⟩⟩
  · exact .inl ⟨hw, hu, rfl⟩
  · refine .inr ⟨hw, .inl ⟨hn, ?_⟩⟩
    rw [ev_free (h := h) hc hn, hv]; rfl
  · rw [ho] at hc
    obtain ⟨g', rfl, hg⟩ := cls_call (pur := pur) (by rw [hc]; decide)
    have := callee_fn hcl; subst this
    have := (OK.pure _ _ _ _ _ hg (hX hg)).2 h2
    exact .inr ⟨hw, .inr ⟨_, args, _, vs, ho, hcl, OK.sound _ _ _ _ _ this, fun _ => this⟩⟩
def apartB (x y : RO) : Bool :=
  (match x.dst with | some d => !(y.tm.contains d) && y.dst != some d | none => true) && (match y.dst with | some d => !(x.tm.contains d) | none => true)
def calmB (pur : List FuncId) (x y : RO) : Bool := x.op.cls pur == 2 || y.op.cls pur == 2 || (decide (1 ≤ x.op.cls pur) && decide (1 ≤ y.op.cls pur)) || (x.op.cls pur == 1 && !x.op.isCall && y.op.isNew)
theorem apart_spec {x y : RO} (h : apartB x y = true) : (∀ t ∈ y.tm, x.dst ≠ some t) ∧ (∀ t ∈ x.tm, y.dst ≠ some t) ∧ (∀ t, x.dst = some t → y.dst ≠ some t) := by
  simp only [apartB, Bool.and_eq_true] at h
  refine ⟨fun t ht hd => ?_, fun t ht hd => ?_, fun t ht hd => ?_⟩
  · rw [hd] at h; simp [ht] at h
  · rw [hd] at h; simp [ht] at h
  · rw [ht, hd] at h; simp at h
theorem swap (OK : XOK P F X pur) {x y : RO} {r : List RO} {e e' : Env} {h h' : AH} (ha : apartB x y = true) (hc : calmB pur x y = true) (hr : RunS P X pur (x :: y :: r) e h e' h') : RunS P X pur (y :: x :: r) e h e' h' := by
  obtain ⟨v, h1, hx, u, h2, hy, hr⟩ := hr
  obtain ⟨a1, a2, a3⟩ := apart_spec ha
  have hy' : StS P X pur y e h1 u h2 := hy.env fun t ht => (putD_get (a1 t ht)).symm
  have hx' : ∀ u', StS P X pur x (putD e y.dst u') h v h1 := fun u' => hx.env fun t ht => putD_get (a2 t ht)
  simp only [calmB, Bool.or_eq_true, Bool.and_eq_true, beq_iff_eq, decide_eq_true_eq] at hc
  rw [putD_comm e v u a3] at hr
  rcases hc with ((hc | hc) | ⟨hc1, hc2⟩) | ⟨⟨hc1, hc2⟩, hc3⟩
  · have e1 := hx.quiet OK (by rw [hc]; decide)
    subst e1
    exact ⟨u, h2, hy', v, h2, (hx' u).free OK hc h2, hr⟩
  · have e1 := hy.quiet OK (by rw [hc]; decide)
    subst e1
    exact ⟨u, h, hy'.free OK hc h, v, h2, hx' u, hr⟩
  · have e1 := hx.quiet OK hc1
    subst e1
    have e2 := hy.quiet OK hc2
    subst e2
    exact ⟨u, h2, hy', v, h2, hx' u, hr⟩
  · have e1 := hx.quiet OK (by rw [hc1]; decide)
    subst e1
    have hn : x.op.isCall = false := by simpa using hc2
    have hx2 : StS P X pur x (putD e y.dst u) h2 v h2 := by
      have hx3 := hx' u
      rcases hy with ⟨_, _, rfl⟩ | ⟨_, ⟨_, hv⟩ | ⟨f, args, g, vs, ho, _⟩⟩
      · exact hx3
      · obtain ⟨o, rfl⟩ := ev_new hc3 hv
        rcases hx3 with ⟨hw, hu, _⟩ | ⟨hw, ⟨_, hxv⟩ | ⟨f, args, g, vs, ho, _⟩⟩
        · exact .inl ⟨hw, hu, rfl⟩
        · exact .inr ⟨hw, .inl ⟨hn, ev_push hc1 hn hxv⟩⟩
        · rw [ho] at hn; exact absurd hn (by simp [ROp.isCall])
      · rw [ho] at hc3; exact absurd hc3 (by simp [ROp.isNew])
    exact ⟨u, h2, hy', v, h2, hx2, hr⟩
theorem front (OK : XOK P F X pur) {r : RO} {post : List RO} : ∀ {pre : List RO} {e e' : Env} {h h' : AH}, (∀ q ∈ pre, apartB q r = true ∧ calmB pur q r = true) → RunS P X pur (pre ++ r :: post) e h e' h' → RunS P X pur (r :: (pre ++ post)) e h e' h'
  | [], _, _, _, _, _, hr => hr
  | q :: pre, e, e', h, h', hq, hr => by
    obtain ⟨v, h1, hx, hr⟩ := hr
    have := front OK (fun q' hq' => hq q' (by simp [hq'])) hr
    have hq0 := hq q (by simp)
    exact swap OK hq0.1 hq0.2 ⟨v, h1, hx, this⟩
theorem Rl.put {b c : Bt} {e : Env} {w w1 : World} {a : Act} {n : Nat} (R : Rl b e w a n) (hS : SLe w.shape? w1.shape?) {v v' : Value} (hv : VR (b ++ c) w1.shape? v v') {d : Option Nat} (hd : ∀ t, d = some t → t < n) :
    Rl (b ++ c) (putD e d v) w1 (a.put d v') n := by
  cases d with
  | none => exact ⟨fun t u ht => let ⟨u', h1, h2⟩ := R.get t u ht; ⟨u', h1, h2.ext hS⟩, R.size⟩
  | some t =>
    have hlt : t < a.tmps.size := Nat.lt_of_lt_of_le (hd t rfl) R.size
    refine ⟨fun t' u ht => ?_, by simpa [Act.put] using R.size⟩
    simp only [putD] at ht
    rw [Env.get_put] at ht
    split at ht
    · rename_i he; subst he
      cases ht
      exact ⟨v', by simp [Act.put, hlt], hv⟩
    · rename_i he
      obtain ⟨u', h1, h2⟩ := R.get t' u ht
      exact ⟨u', by simp [Act.put, Array.getElem?_setIfInBounds_ne he, h1], h2.ext hS⟩
theorem put_defers (a : Act) (d : Option Nat) (v : Value) : (a.put d v).defers = a.defers := by cases d <;> rfl
theorem wanted_of {n : Nat} {ops : Array Oper} {o : Oper} {r : RO} (hr : rOper P n ops o = some r) {b : Bt} {e : Env} {w : World} {a : Act} {x : Bool} (R : Rl b e w a n) (hw : wants r.guard e = some x) : Region.wanted o (yielded ops a.tmps) = x := by
  have hg : rGuard ops o.guard = some r.guard := by
    unfold rOper at hr
    split at hr
    · rename_i h2 h3; simp only [Option.some.injEq] at hr; subst hr; exact h2
    · rename_i h2 h3
      split at hr
      · simp only [Option.some.injEq] at hr; subst hr; exact h2
      · exact absurd hr (by simp)
    · exact absurd hr (by simp)
  unfold Region.wanted
  cases ho : o.guard with
  | none =>
    rw [ho] at hg
    simp only [rGuard, Option.some.injEq] at hg
    rw [← hg] at hw
    simp only [wants, Option.some.injEq] at hw
    exact hw
  | some g =>
    obtain ⟨j, want⟩ := g
    rw [ho] at hg
    simp only [rGuard, Option.map_eq_some_iff] at hg
    obtain ⟨d, hd, hg⟩ := hg
    rw [← hg] at hw
    simp only [wants] at hw
    split at hw
    · rename_i y hy
      simp only [Option.some.injEq] at hw
      obtain ⟨v', h1, h2⟩ := R.get d _ hy
      rw [h2.bool_inv] at h1
      have : yielded ops a.tmps j = some y := by
        unfold yielded
        rw [hd]
        simp [h1]
      simp only [this]
      rw [← hw]
      cases y <;> cases want <;> rfl
    · rename_i c hy
      simp only [Option.some.injEq] at hw; subst hw
      obtain ⟨v', h1, h2⟩ := R.get d _ hy
      obtain ⟨c', rfl, _⟩ := h2.tuple_inv
      have : yielded ops a.tmps j = none := by
        unfold yielded
        rw [hd]
        simp [h1]
      simp only [this]
      rfl
    · exact absurd hw (by simp)
theorem rOper_spec {n : Nat} {ops : Array Oper} {o : Oper} {r : RO} (hr : rOper P n ops o = some r) : (resolve P o.op = some r.op ∨ r.op = .stop) ∧ o.dst = r.dst ∧ ∀ t, r.dst = some t → t < n := by
  have key : ∀ x : ROp, resolveS P o.op = x → (resolve P o.op = some x ∨ x = .stop) := by
    intro x h
    unfold resolveS at h
    split at h
    · rename_i r' hr'; subst h; exact .inl hr'
    · exact .inr h.symm
  unfold rOper at hr
  split at hr
  · rename_i h2 h3; simp only [Option.some.injEq] at hr; subst hr; exact ⟨key _ rfl, h3, fun t h => by cases h⟩
  · rename_i d h2 h3
    split at hr
    · rename_i hd; simp only [Option.some.injEq] at hr; subst hr; exact ⟨key _ rfl, h3, fun t h => by cases h; exact hd⟩
    · exact absurd hr (by simp)
  · exact absurd hr (by simp)
theorem resolve_call {o : Op} {f : Opd} {xs : List Opd} (hr : resolve P o = some (.call f xs)) : ∃ c F', o = .call c ∧ c.callee = .value F' ∧ rOpd F' = some f ∧ rOpds c.args.toList = some xs := by
  cases o <;> simp only [resolve] at hr
  case call c =>
    unfold rCall at hr
    split at hr
    · rename_i F' hcal
      split at hr
      · rename_i g l h1 h2
        simp only [Option.some.injEq, ROp.call.injEq] at hr
        obtain ⟨rfl, rfl⟩ := hr
        exact ⟨c, F', rfl, hcal, h1, h2⟩
      · exact absurd hr (by simp)
    all_goals (exfalso; repeat' (first | (cases hr; done) | split at hr | (simp [Option.bind_eq_some_iff] at hr; done) | (simp only [Option.bind_eq_some_iff] at hr; obtain ⟨_, _, hr⟩ := hr)))
  all_goals (exfalso; repeat' (first | contradiction | (cases hr; done) | (simp at hr; done) | (simp only [rBin] at hr; done) | split at hr | (simp only [Option.bind_eq_some_iff] at hr; obtain ⟨_, _, hr⟩ := hr) | (simp only [Option.map_eq_some_iff] at hr; obtain ⟨_, _, hr⟩ := hr) | simp only [rBin] at hr))
theorem step_sound {b : Bt} {h h1 : AH} {base : Nat} {w0 w : World} {e : Env} {a : Act} {n : Nat} (H : Sim b h base w0 w) (R : Rl b e w a n) {ops : Array Oper} {i : Nat} {o : Oper} {r : RO} (hi : ops[i]? = some o)
    (hr : rOper P n ops o = some r) {v : Value} (hs : StS P X pur r e h v h1) {Q : Exit → Act → World → Prop} {K : Act → World → Prop}
    (hK : ∀ c v' w1, VR (b ++ c) w1.shape? v v' → SLe w.shape? w1.shape? → Sim (b ++ c) h1 base w0 w1 → K (a.put r.dst v') w1) : wpOp P ops Q i K a w := by
  obtain ⟨hres, hdst, _⟩ := rOper_spec hr
  unfold wpOp
  simp only [hi]
  rcases hs with ⟨hw, rfl, rfl⟩ | ⟨hw, hs⟩
  · rw [wanted_of hr R hw]
    simp only [Bool.false_eq_true, if_false]
    rw [hdst]
    exact hK [] _ _ vr_undef (SLe.refl _) (by rw [List.append_nil]; exact H)
  · rw [wanted_of hr R hw]
    simp only [if_true]
    refine .inl ?_
    unfold Oper.wp
    rcases hs with ⟨hn, hv⟩ | ⟨f, args, g, vs, ho, hcl, ⟨hB, hS⟩, _⟩
    · have hres : resolve P o.op = some r.op := by
        rcases hres with h | h
        · exact h
        · rw [h] at hv; simp [ev] at hv
      obtain ⟨c, nx, v', w1, hrun, hnx, hvr, hsl, HS⟩ := op_sound H R hres hn hv
      rw [hrun]
      rcases hnx with rfl | ⟨rfl, rfl⟩
      · simp only [Oper.upon]; rw [hdst]; exact hK _ _ _ hvr hsl HS
      · simp only [Oper.upon]; rw [hdst]; exact hK _ _ _ hvr hsl HS
    · have hres : resolve P o.op = some r.op := by
        rcases hres with h | h
        · exact h
        · rw [h] at ho; cases ho
      rw [ho] at hres
      obtain ⟨c, F', hop, hcal, hf, hxs⟩ := resolve_call hres
      simp only [callee] at hcl
      split at hcl
      · rename_i g' first cs vs' hfe hae
        split at hcl
        · rename_i h0
          simp only [Option.some.injEq, Prod.mk.injEq] at hcl
          obtain ⟨rfl, rfl⟩ := hcl
          have h0' : first = #[] := Array.eq_empty_of_size_eq_zero h0
          subst h0'
          obtain ⟨cs', hfv, hlr⟩ := (opd_sound R hf hfe).func_inv
          have hargs := opds_sound R hxs hae
          obtain ⟨fn, code, hfn, hbody, hname⟩ := hB
          have hrun : (execOp a.eval o).run P w = .ok (.enter g' ((c.args.map a.eval) ++ cs')) w := by
            obtain ⟨d, op, ty, ps, af, gd⟩ := o
            simp only at hop
            subst hop
            simp only [execOp, Go.resolve, hcal, hfv, Deferred.ofValue, Sem.run_bind, Sem.run_pure, Result.andThen_ok, invoke, callFunc, run_program, hfn, hname, Bool.false_eq_true, if_false, hbody, Option.isNone_some, Array.empty_append]
          rw [hrun]
          simp only [Oper.upon]
          have := hS b base w0 w (c.args.toList.map a.eval ++ cs'.toList) H (hargs.append hlr)
          have e1 : (c.args.toList.map a.eval ++ cs'.toList).toArray = c.args.map a.eval ++ cs' := Array.ext' (by simp)
          rw [e1] at this
          refine this.mono fun en w1 hp => ?_
          obtain ⟨c1, v', rfl, hvr, hsl, HS⟩ := hp
          show K (a.put o.dst v') w1
          rw [hdst]; exact hK _ _ _ hvr hsl HS
        · exact absurd hcl (by simp)
      · exact absurd hcl (by simp)
end
end Go.Proofs.YtpnmeednimpjdaaGreat.AM
