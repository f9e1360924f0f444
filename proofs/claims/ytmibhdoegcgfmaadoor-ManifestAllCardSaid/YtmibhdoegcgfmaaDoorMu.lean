/- Walks: what the functions compute. -/
import Derived.Test.YtmibhdoegcgfmaaDoorMt
import Derived.Test.YtmibhdoegcgfmaaDoorGet
namespace Go.Proofs.YtmibhdoegcgfmaaDoor.AM
open Go
set_option linter.unusedSimpArgs false
set_option linter.unusedVariables false
set_option maxRecDepth 4000

/-! ### Numbers, records go to bytes and back -/
theorem getR_enc : ∀ (n u i a : Nat) (rest : List UInt8), u = n → a < 2 ^ (7 * i) → i ≤ 9 → (0 < i → 0 < u) → a + u * 2 ^ (7 * i) < 18446744073709551616 →
    getR (encU u ++ rest) i a = (unzz (a + u * 2 ^ (7 * i)), i + (encU u).length, 0) := by
  intro n
  induction n using Nat.strongRecOn with
  | _ n ih =>
    intro u i a rest hn ha hi h0 hl
    by_cases hu : u < 128
    · rw [encU_lt hu, List.singleton_append]
      have ht : (UInt8.ofNat u).toNat = u := UInt8.toNat_ofNat_of_lt' (by show u < 256; omega)
      have h9 : i = 9 → u ≤ 1 := by
        rintro rfl
        have : u * 2 ^ (7 * 9) < 18446744073709551616 := by omega
        have e : 2 ^ (7 * 9) = 9223372036854775808 := by decide
        rw [e] at this; omega
      simp only [getR, ht]
      rw [if_neg (by omega), if_pos hu, Nat.mod_eq_of_lt hu]
      simp
    · have hge : 128 ≤ u := by omega
      rw [encU_ge hge, List.cons_append]
      have ht : (UInt8.ofNat (u % 128 + 128)).toNat = u % 128 + 128 := UInt8.toNat_ofNat_of_lt' (by show u % 128 + 128 < 256; omega)
      have hp : 2 ^ (7 * (i + 1)) = 2 ^ (7 * i) * 128 := by rw [show 7 * (i + 1) = 7 * i + 7 by omega, Nat.pow_add]
      have h9 : i ≠ 9 := by
        rintro rfl
        have : u * 2 ^ (7 * 9) < 18446744073709551616 := by omega
        have e : 2 ^ (7 * 9) = 9223372036854775808 := by decide
        rw [e] at this; omega
      have hdm : u * 2 ^ (7 * i) = u % 128 * 2 ^ (7 * i) + u / 128 * 2 ^ (7 * (i + 1)) := by
        rw [hp]
        have e := Nat.div_add_mod u 128
        have : u * 2 ^ (7 * i) = (128 * (u / 128) + u % 128) * 2 ^ (7 * i) := by rw [e]
        rw [this, Nat.add_mul, Nat.add_comm, Nat.mul_comm 128, Nat.mul_assoc, Nat.mul_comm 128]
      have hnx := pow_next (i := i) (c := u % 128) (by omega)
      simp only [getR, ht]
      rw [if_neg (by omega), if_neg (by omega), show (u % 128 + 128) % 128 = u % 128 by omega]
      rw [ih (u / 128) (by omega) (u / 128) (i + 1) (a + u % 128 * 2 ^ (7 * i)) rest rfl (by omega) (by omega) (by omega) (by omega)]
      rw [Nat.add_assoc a, ← hdm, List.length_cons]
      congr 2; omega
theorem get_put {n : Int} (h1 : -9223372036854775808 ≤ n) (h2 : n < 9223372036854775808) (rest : List UInt8) : get (put n ++ rest) = (n, (put n).length, 0) := by
  have := zz_lt h1 h2
  unfold get put
  rw [getR_enc (zz n) (zz n) 0 0 rest rfl (by decide) (by decide) (by omega) (by simpa using this)]
  simp [unzz_zz]
theorem ba_of (s : ByteArray) : (⟨s.data.toList.toArray⟩ : ByteArray) = s := by cases s; simp
theorem puts_inj : ∀ {l l' : List Int}, (∀ x ∈ l, i64r x) → (∀ x ∈ l', i64r x) → l.flatMap put = l'.flatMap put → l = l'
  | [], [], _, _, _ => rfl
  | [], y :: l', _, _, h => by
    have := congrArg List.length h
    have h2 := put_pos y
    simp only [List.flatMap_nil, List.flatMap_cons, List.length_nil, List.length_append] at this; omega
  | x :: l, [], _, _, h => by
    have := congrArg List.length h
    have h2 := put_pos x
    simp only [List.flatMap_nil, List.flatMap_cons, List.length_nil, List.length_append] at this; omega
  | x :: l, y :: l', h1, h2, h => by
    simp only [List.flatMap_cons] at h
    have a := get_put (h1 x (by simp)).1 (h1 x (by simp)).2 (l.flatMap put)
    have b := get_put (h2 y (by simp)).1 (h2 y (by simp)).2 (l'.flatMap put)
    rw [h, b] at a
    have e : y = x := congrArg (·.1) a
    subst e
    rw [puts_inj (fun z hz => h1 z (by simp [hz])) (fun z hz => h2 z (by simp [hz])) (List.append_cancel_left h)]
theorem nums_range {n f s : Int} {xs : List Int} (h : MayP n f s xs) : ∀ x ∈ numsM n f s xs, i64r x := by
  intro x hx
  obtain ⟨kf, ks, kx, _, kl⟩ := may_ok h
  obtain ⟨q1, q2, q3, q4, q5, _⟩ := h
  unfold okN at kf ks
  unfold numsM at hx
  unfold i64r
  rcases List.mem_append.1 hx with hx | hx
  · simp at hx; rcases hx with rfl | rfl | rfl | rfl <;> omega
  · have := kx x hx; unfold okN at this; omega
theorem encM_inj {n f s n2 f2 s2 : Int} {xs ys : List Int} (h : MayP n f s xs) (h2 : MayP n2 f2 s2 ys) : encM n f s xs = encM n2 f2 s2 ys ↔ n = n2 ∧ f = f2 ∧ s = s2 ∧ xs = ys := by
  constructor
  · intro e
    have := puts_inj (nums_range h) (nums_range h2) e
    simp only [numsM, List.cons_append, List.nil_append, List.cons.injEq] at this
    exact ⟨this.1, this.2.1, this.2.2.1, this.2.2.2.2⟩
  · rintro ⟨rfl, rfl, rfl, rfl⟩; rfl

end Go.Proofs.YtmibhdoegcgfmaaDoor.AM
