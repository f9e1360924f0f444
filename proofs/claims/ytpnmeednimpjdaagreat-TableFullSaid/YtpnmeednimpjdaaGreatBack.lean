/- Walks: what the functions compute. -/
import Derived.Test.YtpnmeednimpjdaaGreatVGet
namespace Go.Proofs.YtpnmeednimpjdaaGreat.AM
open Go
set_option linter.unusedSimpArgs false
set_option linter.unusedVariables false
set_option maxRecDepth 4000
set_option linter.unusedSectionVars false
variable {X : Exts} [HX X]

/-! ### Numbers, records go to bytes and back -/
theorem getR_enc : ∀ (n u i a : Nat) (rest : List UInt8), u = n → a < 2 ^ (7 * i) → i ≤ 9 → (0 < i → 0 < u) → a + u * 2 ^ (7 * i) < 18446744073709551616 →
    getR (encU u ++ rest) i a = (unzz (a + u * 2 ^ (7 * i)), i + (encU u).length, 0) := by
  intro n
  induction n using Nat.strongRecOn with
  | _ n ih =>
    intro u i a rest hn ha hi h0 hl
    by_cases hu : u < 128
    · rw [encU_lt hu, List.singleton_append]
      have ht : (UInt8.ofNat u).toNat = u := UInt8.toNat_ofNat_of_lt' (by show u < 256; omega)
      have h9 : i = 9 → u ≤ 1 := by
        rintro rfl
        have : u * 2 ^ (7 * 9) < 18446744073709551616 := by omega
        have e : 2 ^ (7 * 9) = 9223372036854775808 := by decide
        rw [e] at this; omega
      simp only [getR, ht]
      rw [if_neg (by omega), if_pos hu, Nat.mod_eq_of_lt hu]
      simp
    · have hge : 128 ≤ u := by omega
      rw [encU_ge hge, List.cons_append]
      have ht : (UInt8.ofNat (u % 128 + 128)).toNat = u % 128 + 128 := UInt8.toNat_ofNat_of_lt' (by show u % 128 + 128 < 256; omega)
      have hp : 2 ^ (7 * (i + 1)) = 2 ^ (7 * i) * 128 := by rw [show 7 * (i + 1) = 7 * i + 7 by omega, Nat.pow_add]
      have h9 : i ≠ 9 := by
        rintro rfl
        have : u * 2 ^ (7 * 9) < 18446744073709551616 := by omega
        have e : 2 ^ (7 * 9) = 9223372036854775808 := by decide
        rw [e] at this; omega
      have hdm : u * 2 ^ (7 * i) = u % 128 * 2 ^ (7 * i) + u / 128 * 2 ^ (7 * (i + 1)) := by
        rw [hp]
        have e := Nat.div_add_mod u 128
        have : u * 2 ^ (7 * i) = (128 * (u / 128) + u % 128) * 2 ^ (7 * i) := by rw [e]
        rw [this, Nat.add_mul, Nat.add_comm, Nat.mul_comm 128, Nat.mul_assoc, Nat.mul_comm 128]
      have hnx := pow_next (i := i) (c := u % 128) (by omega)
      simp only [getR, ht]
      rw [if_neg (by omega), if_neg (by omega), show (u % 128 + 128) % 128 = u % 128 by omega]
      rw [ih (u / 128) (by omega) (u / 128) (i + 1) (a + u % 128 * 2 ^ (7 * i)) rest rfl (by omega) (by omega) (by omega) (by omega)]
      rw [Nat.add_assoc a, ← hdm, List.length_cons]
      congr 2; omega
theorem get_put {n : Int} (h1 : -9223372036854775808 ≤ n) (h2 : n < 9223372036854775808) (rest : List UInt8) : get (put n ++ rest) = (n, (put n).length, 0) := by
  have := zz_lt h1 h2
  unfold get put
  rw [getR_enc (zz n) (zz n) 0 0 rest rfl (by decide) (by decide) (by omega) (by simpa using this)]
  simp [unzz_zz]
theorem ba_of (s : ByteArray) : (⟨s.data.toList.toArray⟩ : ByteArray) = s := by cases s; simp
theorem getT_put {s : ByteArray} (hs : s.size ≤ 65536) (rest : List UInt8) : getT (putText s ++ rest) = (s, (putText s).length, 0) := by
  have hsl : s.data.toList.length = s.size := Array.length_toList
  have hg := get_put (n := (s.size : Int)) (by omega) (by omega) (s.data.toList ++ rest)
  have hpl := put_len (n := (s.size : Int)) (by omega) (by omega)
  unfold getT putText
  rw [List.append_assoc, hg]
  simp only []
  rw [if_neg (by omega), if_neg (by omega), if_neg (by rw [List.length_append, List.length_append]; omega)]
  rw [List.drop_left, Int.toNat_natCast, ← hsl, List.take_left, ba_of, List.length_append]
theorem mayRaw_of {r : Raw} (h : mayRaw r = true) : r.kind = 1 ∧ r = ⟨1, r.n, es0⟩ ∨ r.kind = 2 ∧ r = ⟨2, 0, r.s⟩ ∧ r.s.size ≤ 24 := by
  cases r with
  | mk k n s =>
    simp only [mayRaw, Bool.or_eq_true, Bool.and_eq_true, decide_eq_true_eq] at h
    rcases h with ⟨rfl, rfl⟩ | ⟨⟨⟨rfl, rfl⟩, h⟩, _⟩
    · exact .inl ⟨rfl, rfl⟩
    · exact .inr ⟨rfl, rfl, h⟩
theorem getVal_put {r : Raw} (hm : mayRaw r = true) (hn : -9223372036854775808 ≤ r.n ∧ r.n < 9223372036854775808) (rest : List UInt8) : getVal (putVal r ++ rest) = (r, (putVal r).length, 0) := by
  rcases mayRaw_of hm with ⟨hk, he⟩ | ⟨hk, he, hs⟩
  · have hg := get_put (n := r.kind) (by omega) (by omega) (put r.n ++ rest)
    have hg2 := get_put hn.1 hn.2 rest
    unfold getVal putVal
    rw [if_pos hk, List.append_assoc, hg]
    simp only []
    rw [if_neg (by omega), if_pos hk, List.drop_left, hg2]
    simp only []
    rw [if_neg (by omega), ← he, List.length_append]
  · have hg := get_put (n := r.kind) (by omega) (by omega) (putText r.s ++ rest)
    have hg2 := getT_put (s := r.s) (by omega) rest
    unfold getVal putVal
    rw [if_neg (by omega), List.append_assoc, hg]
    simp only []
    rw [if_neg (by omega), if_neg (by omega), if_pos hk, List.drop_left, hg2]
    simp only []
    rw [← he, if_neg (by omega), if_pos hm, List.length_append]
theorem getRec_put {r : Rec} (hm : mayRec r = true) (hn : -9223372036854775808 ≤ r.val.n ∧ r.val.n < 9223372036854775808) (rest : List UInt8) : getRec (putRec r ++ rest) = (r, (putRec r).length, 0) := by
  have hm' := hm
  simp only [mayRec, Bool.and_eq_true] at hm'
  obtain ⟨hk, hv⟩ := hm'
  have hks : r.key.size ≤ 16 := by simp [mayKey] at hk; omega
  have hg := getT_put (s := r.key) (by omega) ((if r.gone then put 0 else putVal r.val) ++ rest)
  unfold getRec putRec
  rw [List.append_assoc, hg]
  simp only []
  rw [if_neg (by omega), if_neg (by simp [hk]), List.drop_left]
  cases hgo : r.gone
  · rw [hgo] at hv
    simp only [Bool.false_eq_true, if_false] at hv ⊢
    have hkd : r.val.kind = 1 ∨ r.val.kind = 2 := by rcases mayRaw_of hv with ⟨h, _⟩ | ⟨h, _⟩ <;> simp [h]
    have hg2 : get (putVal r.val ++ rest) = (r.val.kind, (put r.val.kind).length, 0) := by
      unfold putVal; rw [List.append_assoc]; exact get_put (by omega) (by omega) _
    rw [hg2]
    simp only []
    rw [if_neg (by omega), if_neg (by omega), getVal_put hv hn]
    simp only []
    rw [if_neg (by omega), List.length_append]
    cases r; simp_all
  · rw [hgo] at hv
    simp only [if_true, decide_eq_true_eq] at hv ⊢
    rw [get_put (by omega) (by omega)]
    simp only []
    rw [if_neg (by omega), if_pos trivial, List.length_append]
    cases r; simp_all
theorem putRec_inj {a b : Rec} (ha : mayRec a = true) (hb : mayRec b = true) (hna : -9223372036854775808 ≤ a.val.n ∧ a.val.n < 9223372036854775808) (hnb : -9223372036854775808 ≤ b.val.n ∧ b.val.n < 9223372036854775808) : putRec a = putRec b ↔ a = b := by
  constructor
  · intro h
    have h1 := getRec_put ha hna []
    have h2 := getRec_put hb hnb []
    rw [h, h2] at h1
    exact (congrArg Prod.fst h1).symm
  · intro h; rw [h]

end Go.Proofs.YtpnmeednimpjdaaGreat.AM
