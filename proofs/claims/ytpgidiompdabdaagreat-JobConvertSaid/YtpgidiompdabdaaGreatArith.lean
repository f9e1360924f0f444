/- Walks: what the functions compute. -/
import Derived.Test.YtpgidiompdabdaaGreatTypes
namespace Go.Proofs.YtpgidiompdabdaaGreat.AM
open Go
set_option linter.unusedSimpArgs false
set_option linter.unusedVariables false
set_option maxRecDepth 4000

/-! ### Arithmetic on machine integers -/
theorem lt_of_put {α : Type} {l : List α} {n : Nat} (h : l.length ≤ n) (m : Nat) (hm : n ≤ m) : l.length ≤ m := Nat.le_trans h hm
theorem WF_addNil {f : FuncId} {vs : List Value} {H : SH} {Q : Value → SH → Prop} {α : Type} {T : Ty α} (h : WF F X f vs (SL (SV.toV .nil) T [] :: H) Q) : WF F X f vs H Q := fun a hH => h a (HAg.addNil hH)
theorem HSub.ofPick {r : Res} {H H0 : SH} (h : Pick r H H0) : HSub H (r :: H0) := HSub.pick h HSub.refl
theorem wrapU (m : Int) : IntKind.wrap .u64 m = m % 18446744073709551616 := by
  unfold IntKind.wrap
  simp only [IntKind.bits, IntKind.signed, Bool.false_and, if_false]
  simp
theorem wrapB (m : Int) : IntKind.wrap .u8 m = m % 256 := by
  unfold IntKind.wrap
  simp only [IntKind.bits, IntKind.signed, Bool.false_and, if_false]
  simp
theorem S_shr7 {l : SE} {H : SH} {K : Value → SH → Prop} {x : Opd} {a : Nat} (hx : x.lv l = some (.int .u64 (a : Int))) (k : K (.int .u64 ((a / 128 : Nat) : Int)) H) : Step (.bin .shr x (.const (.int .u64 7))) l H K :=
  S_pureE (v := .int .u64 ((a : Int).fdiv (2 ^ min (Int.toNat 7) IntKind.u64.bits))) (by
    have h2 : (Opd.const (.int .u64 7)).lv l = some (.int .u64 7) := rfl
    simp only [pev, hx, h2, binV]; rfl) (by
    have e : (2 ^ min (Int.toNat 7) IntKind.u64.bits : Int) = 128 := rfl
    have e2 : (a : Int).fdiv 128 = ((a / 128 : Nat) : Int) := by rw [Int.fdiv_eq_ediv_of_nonneg _ (by omega)]; omega
    rw [e, e2]) k
theorem xorU {a : Nat} (ha : a < 18446744073709551616) : (BitVec.ofInt 64 18446744073709551615 ^^^ BitVec.ofInt 64 (a : Int)).toNat = 18446744073709551615 - a := by
  rw [show BitVec.ofInt 64 18446744073709551615 = BitVec.allOnes 64 by decide, BitVec.allOnes_xor, BitVec.toNat_not]
  have : (BitVec.ofInt 64 (a : Int)).toNat = a := by rw [BitVec.ofInt_natCast, BitVec.toNat_ofNat]; omega
  rw [this]
theorem S_xorU {l : SE} {H : SH} {K : Value → SH → Prop} {x : Opd} {a : Nat} (hx : x.lv l = some (.int .u64 (a : Int))) (ha : a < 18446744073709551616) (k : K (.int .u64 ((18446744073709551615 - a : Nat) : Int)) H) : Step (.un .xor x) l H K :=
  S_pureE (v := .int .u64 (IntKind.wrap .u64 ((BitVec.ofInt 64 18446744073709551615 ^^^ BitVec.ofInt 64 (a : Int)).toNat : Int))) (by simp only [pev, hx, unV]; rfl) (by rw [xorU ha, wrap_u64 (by omega) (by omega)]) k
theorem S_quoU {l : SE} {H : SH} {K : Value → SH → Prop} {x : Opd} {a m : Nat} {M : Int} (hx : x.lv l = some (.int .u64 (a : Int))) (hM : M = (m : Int)) (ha : a < 18446744073709551616) (hm : 0 < m) (k : K (.int .u64 ((a / m : Nat) : Int)) H) : Step (.bin .quo x (.const (.int .u64 M))) l H K :=
  S_pureE (v := .int .u64 (IntKind.wrap .u64 ((a : Int).tdiv M))) (by
    have h2 : (Opd.const (.int .u64 M)).lv l = some (.int .u64 M) := rfl
    simp only [pev, hx, h2, binV, intBin, if_true]; rw [if_neg (by omega)]) (by
    have h := Nat.div_le_self a m
    rw [hM, ← Int.ofNat_tdiv]
    generalize a / m = q at *
    rw [wrap_u64 (by omega) (by omega)]) k
theorem S_remU {l : SE} {H : SH} {K : Value → SH → Prop} {x : Opd} {a m : Nat} {M : Int} {kd : IntKind} (hx : x.lv l = some (.int kd (a : Int))) (hM : M = (m : Int)) (hm : 0 < m) (k : K (.int kd ((a % m : Nat) : Int)) H) : Step (.bin .rem x (.const (.int kd M))) l H K :=
  S_pureE (v := .int kd ((a : Int).tmod M)) (by
    have h2 : (Opd.const (.int kd M)).lv l = some (.int kd M) := rfl
    simp only [pev, hx, h2, binV, intBin, if_true]; rw [if_neg (by omega)]) (by
    rw [hM, ← Int.ofNat_tmod]) k
theorem S_remN {l : SE} {H : SH} {K : Value → SH → Prop} {x y : Opd} {a b : Nat} {kd : IntKind} (hx : x.lv l = some (.int kd (a : Int))) (hy : y.lv l = some (.int kd (b : Int))) (hb : 0 < b) (k : K (.int kd ((a % b : Nat) : Int)) H) : Step (.bin .rem x y) l H K :=
  S_pureE (v := .int kd ((a : Int).tmod b)) (by
    simp only [pev, hx, hy, binV, intBin, if_true]; rw [if_neg (by omega)]) (by rw [← Int.ofNat_tmod]) k
theorem RD.tailSl {α : Type} {T : Ty α} {H : SH} {s : Value} {xs : List α} {es a : Nat} (h : RD H s T xs) (he : es = T.es) (hl : a ≤ xs.length) : RD H (AM.subSl s es a (xs.length - a)) T (xs.drop a) := by
  have := h.subSl (lo := a) (n := xs.length - a) he (by omega)
  rwa [List.take_of_length_le (by rw [List.length_drop]; omega)] at this
theorem ofIntU {a : Nat} (ha : a < 18446744073709551616) : (BitVec.ofInt 64 (a : Int)).toNat = a := by rw [BitVec.ofInt_natCast, BitVec.toNat_ofNat]; omega
theorem S_and1 {l : SE} {H : SH} {K : Value → SH → Prop} {x : Opd} {a : Nat} (hx : x.lv l = some (.int .u64 (a : Int))) (ha : a < 18446744073709551616) (k : K (.int .u64 ((a % 2 : Nat) : Int)) H) : Step (.bin .and x (.const (.int .u64 1))) l H K :=
  S_pureE (v := .int .u64 (IntKind.wrap .u64 ((BitVec.ofInt 64 (a : Int) &&& BitVec.ofInt 64 1).toNat : Int))) (by
    have h2 : (Opd.const (.int .u64 1)).lv l = some (.int .u64 1) := rfl
    simp only [pev, hx, h2, binV, intBin, if_true]; rfl) (by
    rw [BitVec.toNat_and, ofIntU ha, show (BitVec.ofInt 64 1).toNat = 1 from rfl, Nat.and_one_is_mod, wrap_u64 (by omega) (by omega)]) k
theorem S_shlU {l : SE} {H : SH} {K : Value → SH → Prop} {x y : Opd} {a m : Nat} {kd : IntKind} (hx : x.lv l = some (.int .u64 (a : Int))) (hy : y.lv l = some (.int kd (m : Int))) (hm : m ≤ 64) (ha : a * 2 ^ m < 18446744073709551616) (k : K (.int .u64 ((a * 2 ^ m : Nat) : Int)) H) : Step (.bin .shl x y) l H K :=
  S_pureE (v := .int .u64 (IntKind.wrap .u64 ((a : Int) * 2 ^ min (m : Int).toNat IntKind.u64.bits))) (by
    simp only [pev, hx, hy, binV]; rw [if_neg (by omega)]) (by
    have e : ((a : Int) * 2 ^ min (m : Int).toNat IntKind.u64.bits) = ((a * 2 ^ m : Nat) : Int) := by
      rw [Int.toNat_natCast, show min m IntKind.u64.bits = m from Nat.min_eq_left hm, Int.natCast_mul, Int.natCast_pow]; rfl
    rw [e, wrap_u64 (by omega) (by omega)]) k
theorem S_orU {l : SE} {H : SH} {K : Value → SH → Prop} {x y : Opd} {a c m U : Nat} (hx : x.lv l = some (.int .u64 (a : Int))) (hy : y.lv l = some (.int .u64 ((c * 2 ^ m : Nat) : Int))) (ha : a < 2 ^ m) (hU : U = a + c * 2 ^ m) (hl : U < 18446744073709551616) (k : K (.int .u64 (U : Int)) H) : Step (.bin .or x y) l H K :=
  S_pureE (v := .int .u64 (IntKind.wrap .u64 ((BitVec.ofInt 64 (a : Int) ||| BitVec.ofInt 64 ((c * 2 ^ m : Nat) : Int)).toNat : Int))) (by
    simp only [pev, hx, hy, binV, intBin, if_true]; rfl) (by
    have h1 : a < 18446744073709551616 := by omega
    have h2 : c * 2 ^ m < 18446744073709551616 := by omega
    have e := Nat.two_pow_add_eq_or_of_lt ha c
    rw [BitVec.toNat_or, ofIntU h1, ofIntU h2, Nat.or_comm, Nat.mul_comm c, ← e, Nat.mul_comm, Nat.add_comm, ← hU, wrap_u64 (by omega) (by omega)]) k
theorem S_notI {l : SE} {H : SH} {K : Value → SH → Prop} {x : Opd} {a : Nat} (hx : x.lv l = some (.int .i64 (a : Int))) (ha : a < 9223372036854775808) (k : K (.int .i64 (-(a : Int) - 1)) H) : Step (.un .xor x) l H K :=
  S_pureE (v := .int .i64 (IntKind.wrap .i64 ((BitVec.ofInt 64 (-1) ^^^ BitVec.ofInt 64 (a : Int)).toNat : Int))) (by simp only [pev, hx, unV]; rfl) (by
    rw [show BitVec.ofInt 64 (-1) = BitVec.ofInt 64 18446744073709551615 by decide, xorU (by omega)]
    congr 1
    unfold IntKind.wrap
    simp only [IntKind.bits, IntKind.signed, Bool.true_and, ge_iff_le, decide_eq_true_eq]
    split <;> omega) k

end Go.Proofs.YtpgidiompdabdaaGreat.AM
