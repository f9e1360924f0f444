/- Walks: what the functions compute. -/
import Derived.Test.YtpgidiompdabdaaGreatCode
namespace Go.Proofs.YtpgidiompdabdaaGreat.AM
open Go
set_option linter.unusedSimpArgs false
set_option linter.unusedVariables false
set_option maxRecDepth 4000

/-! ### Short words -/
theorem bsT : (∀ {p : Prop} [Decidable p], (decide p = true) = p) ∧ (∀ {p : Prop} [Decidable p], (decide p = false) ↔ ¬p) ∧ (∀ b : Bool, ((!b) = true) = (b = false)) ∧ (∀ b : Bool, ((!b) = false) = (b = true)) ∧ (∀ {α : Type} [BEq α] [LawfulBEq α] {a b : α}, ((a == b) = true) ↔ a = b) ∧ (∀ {α : Type} [BEq α] [LawfulBEq α] {a b : α}, ((a != b) = true) ↔ a ≠ b) ∧ (∀ {α : Type} [BEq α] [LawfulBEq α] {a b : α}, ((a == b) = false) ↔ a ≠ b) ∧ (∀ {n m : Nat}, ((n : Int) < (m : Int)) ↔ n < m) ∧ (∀ {n m : Nat}, ((n : Int) ≤ (m : Int)) ↔ n ≤ m) ∧ (∀ {n m : Nat}, ((n : Int) = (m : Int)) ↔ n = m) ∧ (∀ {α : Type} (a b : α), (a ≠ b) = ¬(a = b)) ∧ (∀ {α : Type} [LT α] {a b : α}, a > b ↔ b < a) ∧ (∀ {α : Type} [LE α] {a b : α}, a ≥ b ↔ b ≤ a) :=
  ⟨decide_eq_true_eq, decide_eq_false_iff_not, Bool.not_eq_true' , Bool.not_eq_false', beq_iff_eq, bne_iff_ne, beq_eq_false_iff_ne, Int.ofNat_lt, Int.ofNat_le, Int.ofNat_inj, ne_eq, gt_iff_lt, ge_iff_le⟩
theorem pkA {a : Res} {H H0 : SH} (h : Pick a H H0 := by repeat (first | exact Pick.head | apply Pick.tail)) : Pick a H H0 := h
theorem rdA {α : Type} {T : Ty α} {H : SH} {s : Value} {xs : List α} (h : RD H s T xs := by repeat (first | assumption | exact RD.head | exact RD.nil | apply RD.tail)) : RD H s T xs := h
theorem seA {l l' : SE} (h : SubE l l' := by repeat (first | exact SubE.nil | apply SubE.cons rfl)) : SubE l l' := h
theorem hsA {H H' : SH} (h : HSub H H' := by repeat (first | exact HSub.refl | refine HSub.pick (by repeat (first | exact Pick.head | apply Pick.tail)) ?_ | apply HSub.drop)) : HSub H H' := h
/-! ### Types of the program -/
structure Raw where
  kind : Int
  n : Int
  s : ByteArray
  deriving DecidableEq
structure Rec where
  key : ByteArray
  gone : Bool
  val : Raw
  deriving DecidableEq
structure Pair where
  key : ByteArray
  val : Raw
  deriving DecidableEq
abbrev es0 : ByteArray := ⟨#[]⟩
def raw0 : Raw := ⟨0, 0, es0⟩
def rec0 : Rec := ⟨es0, false, raw0⟩
def TRaw : Ty Raw := Ty.ofAgg 3 31 32 (fun r => [.int .i64 r.kind, .int .i64 r.n, .string r.s]) (fun _ => rfl) (fun _ => rfl)
def TRec : Ty Rec := Ty.ofAgg 5 33 56 (fun r => [.string r.key, .bool r.gone, .int .i64 r.val.kind, .int .i64 r.val.n, .string r.val.s]) (fun _ => rfl) (fun _ => rfl)
def TPair : Ty Pair := Ty.ofAgg 4 83 48 (fun r => [.string r.key, .int .i64 r.val.kind, .int .i64 r.val.n, .string r.val.s]) (fun _ => rfl) (fun _ => rfl)
def TInt : Ty Int := Ty.ofOne 3 8 (fun n => .int .i64 n) (fun _ => rfl)
def TI32 : Ty Int := Ty.ofOne 21 4 (fun n => .int .i32 n) (fun _ => rfl)
def TByte : Ty UInt8 := Ty.ofOne 5 1 (fun b => encByte b) (fun _ => rfl)
def TU64 : Ty Int := Ty.ofOne 67 8 (fun n => .int .u64 n) (fun _ => rfl)
structure Rds (H : SH) (v : Value) (svs : List SV) (T : Ty SV) (E : Ty Rec) (ls : List (List Rec)) : Prop where
  out : RD H v T svs
  len : svs.length = ls.length
  ins : ∀ (i : Nat) (sv : SV) (l : List Rec), svs[i]? = some sv → ls[i]? = some l → RD H sv.toV E l
theorem Rds.sub {H H' : SH} {v : Value} {svs : List SV} {T : Ty SV} {E : Ty Rec} {ls : List (List Rec)} (hs : HSub H' H) (h : Rds H v svs T E ls) : Rds H' v svs T E ls :=
  ⟨h.out.sub hs, h.len, fun i sv l h1 h2 => (h.ins i sv l h1 h2).sub hs⟩
def TRecs : Ty SV := Ty.ofOne 22 24 SV.toV SV.one
theorem HAg.rowSL {α : Type} {T : Ty α} {H : SH} {a : AH} {i t es : Nat} (ht : t = T.t) (he : es = T.es) (h : HAg (.obj i (.row false t []) :: H) a) : HAg (SL (SV.mk i 0 0 es).toV T [] :: H) a := by
  subst ht he
  refine ⟨fun r hr => ?_, h.2⟩
  rcases List.mem_cons.1 hr with rfl | hr
  · obtain ⟨h1, h2, _⟩ := h.1 _ (List.mem_cons_self ..)
    exact ⟨by simp [Ty.cells], .inr ⟨i, 0, [], rfl, h1, h2, by simp, by simp [Ty.cells]⟩⟩
  · exact h.1 r (List.mem_cons_of_mem _ hr)
theorem HAg.recutSL {α : Type} {T : Ty α} {H : SH} {a : AH} {s : SV} {xs : List α} {es lo n : Nat} (he : es = T.es) (hl : lo + n ≤ xs.length) (h : HAg (SL s.toV T xs :: H) a) : HAg (SL (s.sub es lo n).toV T ((xs.drop lo).take n) :: H) a := by
  subst he
  have := h.recut hl
  rw [T.cells_drop, T.cells_take, ← SV.sub_toV] at this
  have e : ((xs.drop lo).take n).length = n := by rw [List.length_take, List.length_drop]; omega
  unfold SL; rw [e]; exact this
theorem HAg.swap2 {a b : Res} {H : SH} {h : AH} (hh : HAg (a :: b :: H) h) : HAg (b :: a :: H) h := hh.perm (List.Perm.swap _ _ _)
theorem HAg.under {a : Res} {H H' : SH} {h : AH} (hh : HAg (a :: H) h) (hf : H'.flatMap Res.foot = H.flatMap Res.foot) (hv : HAg H h → HAg H' h) : HAg (a :: H') h := by
  have h1 := hv hh.tail
  refine ⟨fun r hr => ?_, ?_⟩
  · rcases List.mem_cons.1 hr with rfl | hr
    · exact hh.1 _ (List.mem_cons_self ..)
    · exact h1.1 r hr
  · have := hh.2
    rw [List.flatMap_cons] at this ⊢
    rw [hf]; exact this
/-! ### Strings -/
theorem toList_data (a : ByteArray) : a.toList = a.data.toList := ByteArray.toList_eq a
theorem ba_ext {a b : ByteArray} (h : a.data.toList = b.data.toList) : a = b := by
  cases a; cases b; simp only [ByteArray.mk.injEq]; exact Array.ext' h
theorem str_eql (a b : ByteArray) : (a.toList == b.toList) = decide (a = b) := by
  rw [toList_data, toList_data, Bool.eq_iff_iff, beq_iff_eq, decide_eq_true_eq]
  exact ⟨ba_ext, fun h => by rw [h]⟩
/-- A comparison of strings. -/
theorem S_eqS {l : SE} {H : SH} {K : Value → SH → Prop} {x y : Opd} {a b : ByteArray} (hx : x.lv l = some (.string a)) (hy : y.lv l = some (.string b)) (k : K (.bool (decide (a = b))) H) : Step (.bin .eql x y) l H K :=
  S_pure (by simp only [pev, hx, hy, binV, strBin, str_eql]) k
theorem S_neS {l : SE} {H : SH} {K : Value → SH → Prop} {x y : Opd} {a b : ByteArray} (hx : x.lv l = some (.string a)) (hy : y.lv l = some (.string b)) (k : K (.bool (!decide (a = b))) H) : Step (.bin .neq x y) l H K :=
  S_pure (by simp only [pev, hx, hy, binV, strBin, str_eql]) k
theorem drop_get {α : Type} {l : List α} {a : Nat} {x : α} (h : l[a]? = some x) : l.drop a = x :: l.drop (a + 1) := by
  obtain ⟨hlt, he⟩ := List.getElem?_eq_some_iff.1 h
  rw [List.drop_eq_getElem_cons hlt, he]
theorem get_of_lt {α : Type} {l : List α} {a : Nat} (h : a < l.length) : ∃ x, l[a]? = some x := ⟨_, List.getElem?_eq_getElem h⟩
def fnd : List Rec → ByteArray → Option Rec
  | [], _ => none
  | r :: l, k => if r.key = k then some r else fnd l k
theorem padd_padd {p : Value} (a b : Nat) : padd (padd p a) b = padd p (a + b) := by
  cases p with
  | pointer x =>
    cases x with
    | none => rfl
    | some ad =>
      obtain ⟨i, o, s⟩ := ad
      cases s with
      | none => simp only [padd]; rw [Nat.add_assoc]
      | some _ => rfl
  | _ => rfl
/-- A field of a field of an element. -/
theorem S_loadV2 {α : Type} {l : SE} {H : SH} {K : Value → SH → Prop} {agg : Bool} {n es j off off2 : Nat} {a : Opd} {s v : Value} {T : Ty α} {xs : List α} {x : α} (ha : a.lv l = some (padd (padd (elemPtr s es j) off) off2)) (hr : RD H s T xs) (he : es = T.es) (hx : xs[j]? = some x) (hb0 : Nat.ble (off + off2 + n) T.es = true) (hv : mkV agg (((T.enc x).drop (off + off2)).take n) = some v) (k : K v H) : Step (.load agg n a) l H K :=
  S_loadF (by rw [ha, padd_padd]) hr he hx hb0 hv k

end Go.Proofs.YtpgidiompdabdaaGreat.AM
