/- Walks: what the functions compute. -/
import Derived.Test.YtjbichljgfcigaaM6
import Derived.Test.YtjbichljgfcigaaArith
namespace Go.Proofs.Ytjbichljgfcigaa.AM
open Go
set_option linter.unusedSimpArgs false
set_option linter.unusedVariables false
set_option maxRecDepth 4000

/-! ### Numbers as bytes -/
def zz (n : Int) : Nat := if n < 0 then (-2 * n - 1).toNat else (2 * n).toNat
def unzz (u : Nat) : Int := if u % 2 = 1 then -((u / 2 : Nat) : Int) - 1 else ((u / 2 : Nat) : Int)
def encU (u : Nat) : List UInt8 := if u < 128 then [UInt8.ofNat u] else UInt8.ofNat (u % 128 + 128) :: encU (u / 128)
termination_by u
def put (n : Int) : List UInt8 := encU (zz n)
def putText (s : ByteArray) : List UInt8 := put s.size ++ s.data.toList
def putVal (r : Raw) : List UInt8 := put r.kind ++ if r.kind = 1 then put r.n else putText r.s
def putRec (r : Rec) : List UInt8 := putText r.key ++ if r.gone then put 0 else putVal r.val
theorem unzz_zz (n : Int) : unzz (zz n) = n := by
  unfold unzz zz; split <;> split <;> omega
theorem zz_lt {n : Int} (h1 : -9223372036854775808 ≤ n) (h2 : n < 9223372036854775808) : zz n < 18446744073709551616 := by
  unfold zz; split <;> omega
theorem encU_lt {u : Nat} (h : u < 128) : encU u = [UInt8.ofNat u] := by rw [encU, if_pos h]
theorem encU_ge {u : Nat} (h : 128 ≤ u) : encU u = UInt8.ofNat (u % 128 + 128) :: encU (u / 128) := by rw [encU, if_neg (by omega)]
theorem encU_len : ∀ (k u : Nat), u < 128 ^ (k + 1) → (encU u).length ≤ k + 1
  | 0, u, h => by rw [encU_lt (by simpa using h)]; simp
  | k + 1, u, h => by
    by_cases hu : u < 128
    · rw [encU_lt hu]; simp
    · rw [encU_ge (by omega), List.length_cons]
      have := encU_len k (u / 128) (by rw [Nat.pow_succ] at h; omega)
      omega
theorem encU_pos (u : Nat) : 1 ≤ (encU u).length := by rw [encU]; split <;> simp
theorem put_len {n : Int} (h1 : -9223372036854775808 ≤ n) (h2 : n < 9223372036854775808) : (put n).length ≤ 10 := encU_len 9 _ (Nat.lt_of_lt_of_le (zz_lt h1 h2) (by decide))
theorem put_pos (n : Int) : 1 ≤ (put n).length := encU_pos _
theorem enc_B {k : Nat} (h : k < 256) : Value.int .u8 (k : Int) = encByte (UInt8.ofNat k) := by
  unfold encByte; congr 1; rw [UInt8.toNat_ofNat_of_lt' h]
theorem S_lit1B {l : SE} {H : SH} {K : Value → SH → Prop} {x : Opd} {z : Value} {k : Nat} (hx : x.lv l = some (.int .u8 (k : Int))) (hk : k < 256) (kk : ∀ w : SV, K w.toV (SL w.toV TByte [UInt8.ofNat k] :: H)) : Step (.lit 5 1 1 [z] [(0, (1, x))]) l H K :=
  S_lit1 (T := TByte) (y := UInt8.ofNat k) (vs := [.int .u8 (k : Int)]) (by simp [lfill, hx, AM.cells, Value.cells]; rfl) (by rw [enc_B hk]; rfl) rfl rfl kk
theorem S_toB {l : SE} {H : SH} {K : Value → SH → Prop} {x : Opd} {a : Nat} {kd : IntKind} (hx : x.lv l = some (.int kd (a : Int))) (k : K (.int .u8 ((a % 256 : Nat) : Int)) H) : Step (.conv .u8 x) l H K :=
  S_pureE (v := .int .u8 (IntKind.wrap .u8 (a : Int))) (by simp only [pev, hx]) (by rw [wrapB]; rfl) k
theorem or128 : ∀ b : Fin 256, (BitVec.ofInt 8 ((b.val : Nat) : Int) ||| BitVec.ofInt 8 128).toNat = b.val % 128 + 128 := by decide
theorem S_or128 {l : SE} {H : SH} {K : Value → SH → Prop} {x : Opd} {a : Nat} (hx : x.lv l = some (.int .u8 (a : Int))) (ha : a < 256) (k : K (.int .u8 ((a % 128 + 128 : Nat) : Int)) H) : Step (.bin .or x (.const (.int .u8 128))) l H K :=
  S_pureE (v := .int .u8 (IntKind.wrap .u8 ((BitVec.ofInt 8 (a : Int) ||| BitVec.ofInt 8 128).toNat : Int))) (by
    have h2 : (Opd.const (.int .u8 128)).lv l = some (.int .u8 128) := rfl
    simp only [pev, hx, h2, binV, intBin, if_true]; rfl) (by
    rw [or128 ⟨a, ha⟩, wrap_u8 (by omega) (by simp only []; omega)]) k
end Go.Proofs.Ytjbichljgfcigaa.AM
