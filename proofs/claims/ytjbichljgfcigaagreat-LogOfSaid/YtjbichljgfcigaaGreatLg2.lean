/- Walks: what the functions compute. -/
import Derived.Test.YtjbichljgfcigaaGreatLg1
import Derived.Lib.DecodeN
namespace Go.Proofs.YtjbichljgfcigaaGreat.AM
open Go
set_option linter.unusedSimpArgs false
set_option linter.unusedVariables false
set_option maxRecDepth 4000

/-! ### Keys that are one by their runes -/
theorem decN_same {n a0 a1 a2 a3 b0 b1 b2 b3 : Nat} (h0 : a0 = b0 ∨ (248 ≤ a0 ∧ 248 ≤ b0)) (h1 : a1 = b1 ∨ (248 ≤ a1 ∧ 248 ≤ b1)) (h2 : a2 = b2 ∨ (248 ≤ a2 ∧ 248 ≤ b2)) (h3 : a3 = b3 ∨ (248 ≤ a3 ∧ 248 ≤ b3)) : Lib.decodeN n a0 a1 a2 a3 = Lib.decodeN n b0 b1 b2 b3 := by
  unfold Lib.decodeN
  by_cases e0 : a0 = b0
  · subst e0
    by_cases h128 : a0 < 128
    · simp only [if_pos h128]
    · simp only [if_neg h128]
      by_cases e1 : a1 = b1
      · subst e1
        by_cases c2 : a0 / 32 = 6 ∧ (1 < n ∧ a1 / 64 = 2)
        · simp only [if_pos c2]
        · simp only [if_neg c2]
          by_cases e2 : a2 = b2
          · subst e2
            by_cases c3 : a0 / 16 = 14 ∧ (1 < n ∧ a1 / 64 = 2) ∧ (2 < n ∧ a2 / 64 = 2)
            · simp only [if_pos c3]
            · simp only [if_neg c3]
              by_cases e3 : a3 = b3
              · subst e3; rfl
              · rw [if_neg (by omega), if_neg (by omega)]
          · rw [if_neg (by omega), if_neg (by omega), if_neg (by omega), if_neg (by omega)]
      · rw [if_neg (by omega), if_neg (by omega), if_neg (by omega), if_neg (by omega), if_neg (by omega), if_neg (by omega)]
  · rw [if_neg (by omega), if_neg (by omega), if_neg (by omega), if_neg (by omega), if_neg (by omega), if_neg (by omega), if_neg (by omega), if_neg (by omega)]
theorem getb (s : ByteArray) (i : Nat) : s.get! i = s.data.toList.getD i 0 := by
  show s.data[i]! = _
  rw [List.getD_eq_getElem?_getD, Array.getElem?_toList, getElem!_def]
  cases s.data[i]? <;> rfl
def SameB (u v : ByteArray) : Prop := u.size = v.size ∧ ∀ i, u.get! i = v.get! i ∨ (248 ≤ (u.get! i).toNat ∧ 248 ≤ (v.get! i).toNat)
theorem SameB.dec {u v : ByteArray} (h : SameB u v) (i : Nat) : Utf8.decode u i = Utf8.decode v i := by
  rw [Lib.decode_at, Lib.decode_at, h.1]
  have k : ∀ j, (u.get! j).toNat = (v.get! j).toNat ∨ (248 ≤ (u.get! j).toNat ∧ 248 ≤ (v.get! j).toNat) := fun j => (h.2 j).imp (fun e => by rw [e]) id
  exact decN_same (k _) (k _) (k _) (k _)
theorem two_same (s : ByteArray) {a b c d : UInt8} (ha : 248 ≤ a.toNat) (hb : 248 ≤ b.toNat) (hc : 248 ≤ c.toNat) (hd : 248 ≤ d.toNat) : SameB (s ++ ⟨[a, b].toArray⟩) (s ++ ⟨[c, d].toArray⟩) := by
  have e : ∀ (t : ByteArray) (i : Nat), (s ++ t).get! i = (s.data.toList ++ t.data.toList).getD i 0 := fun t i => by
    rw [getb, ByteArray.data_append]; simp
  refine ⟨by simp [ByteArray.size_append]; rfl, fun i => ?_⟩
  rw [e, e]
  simp only [List.getD_eq_getElem?_getD, List.getElem?_append]
  split
  · exact .inl rfl
  · generalize i - s.data.toList.length = j
    match j with
    | 0 => exact .inr ⟨ha, hc⟩
    | 1 => exact .inr ⟨hb, hd⟩
    | j + 2 => exact .inl rfl
theorem SameB.rns {u v : ByteArray} (h : SameB u v) : ∀ f pos, rns u f pos = rns v f pos
  | 0, _ => rfl
  | f + 1, pos => by rw [AM.rns, AM.rns, h.dec pos, h.1, SameB.rns h f]
theorem SameB.hash {u v : ByteArray} (h : SameB u v) : kH u = kH v := by
  unfold kH hashOf runes
  rw [h.1, h.rns]
def kS (s : ByteArray) (i : Nat) : ByteArray := s ++ ⟨[UInt8.ofNat (248 + i % 8), UInt8.ofNat (248 + i / 8)].toArray⟩
def rS (s : ByteArray) (i : Nat) : Rec := ⟨kS s i, false, ⟨1, (i : Int), es0⟩⟩
theorem b248 {x : Nat} (h : x < 8) : (UInt8.ofNat (248 + x)).toNat = 248 + x := UInt8.toNat_ofNat_of_lt' (by show _ < 256; omega)
theorem kS_size (s : ByteArray) (i : Nat) : (kS s i).size = s.size + 2 := by unfold kS; rw [ByteArray.size_append]; rfl
theorem kS_hash (s : ByteArray) {i j : Nat} (hi : i < 12) (hj : j < 12) : kH (kS s i) = kH (kS s j) :=
  (two_same s (by rw [b248 (by omega)]; omega) (by rw [b248 (by omega)]; omega) (by rw [b248 (by omega)]; omega) (by rw [b248 (by omega)]; omega)).hash
theorem kS_inj {s : ByteArray} {i j : Nat} (hi : i < 12) (hj : j < 12) (h : kS s i = kS s j) : i = j := by
  have h1 := congrArg (fun b : ByteArray => b.data.toList) h
  simp only [kS, ByteArray.data_append, Array.toList_append, List.append_cancel_left_eq, List.cons.injEq, and_true] at h1
  have h2 := congrArg UInt8.toNat h1.1
  have h3 := congrArg UInt8.toNat h1.2
  rw [b248 (by omega), b248 (by omega)] at h2
  rw [b248 (by omega), b248 (by omega)] at h3
  omega
def lS (s : ByteArray) (m : Nat) : List Rec := (List.range m).map (rS s)
theorem lS_len (s : ByteArray) (m : Nat) : (lS s m).length = m := by simp [lS]
theorem lS_at {s : ByteArray} {m i : Nat} (h : i < m) : (lS s m)[i]? = some (rS s i) := by simp [lS, h]
theorem lS_mem {s : ByteArray} {m : Nat} {r : Rec} (h : r ∈ lS s m) : ∃ i, i < m ∧ r = rS s i := by
  obtain ⟨i, hi, rfl⟩ := List.mem_map.1 h
  exact ⟨i, List.mem_range.1 hi, rfl⟩
theorem lS_succ (s : ByteArray) (m : Nat) : lS s (m + 1) = lS s m ++ [rS s m] := by unfold lS; rw [List.range_succ, List.map_append]; rfl
theorem lS_no {s : ByteArray} {m i : Nat} (hm : m ≤ 12) (h : m ≤ i) (hi : i < 12) : ∀ r ∈ lS s m, r.key ≠ kS s i := fun r hr => by
  obtain ⟨j, hj, rfl⟩ := lS_mem hr
  intro e
  have := kS_inj (by omega) hi (show kS s j = kS s i from e)
  omega
theorem lS_idx_no {s : ByteArray} {m i : Nat} (hm : m ≤ 12) (h : m ≤ i) (hi : i < 12) : idxK (lS s m) (kS s i) = -1 := by
  rcases idxK_spec (lS s m) (kS s i) with ⟨j, r, _, h2, h3⟩ | ⟨h1, _⟩
  · exact absurd h3 (lS_no hm h hi r (List.mem_of_getElem? h2))
  · exact h1
theorem pairs_le2 : ∀ f, f < 8 → ∀ o, o < 8 → sumN (fun j => if (j / 4 = f ∨ j / 4 = o) then 1 else 0) 32 ≤ 8 := by
  set_option maxRecDepth 20000 in decide
theorem nine_no {h : Nat} {hs : List Nat} (hl : 8 < hs.length) (hall : ∀ x ∈ hs, x = h) : ¬Room hs := fun hr => by
  obtain ⟨S, e1, e2⟩ := set_ex (fun b => decide (b = frst h ∨ b = oth (frst h) (tagOf h))) 8
  have h4 := hr S e1
  have h1 := frst_lt h
  have h2 := oth_lt (t := tagOf h) h1
  have hc : cnt S hs = hs.length := by
    unfold cnt
    rw [List.countP_eq_length]
    intro x hx
    rw [hall x hx]
    unfold edge inS
    rw [e2 _ h1, e2 _ h2]; simp
  have h6 : pop4 S ≤ 8 := by
    have hcongr : pop4 S = sumN (fun j => if (j / 4 = frst h ∨ j / 4 = oth (frst h) (tagOf h)) then 1 else 0) 32 := sumN_congr fun j hj => by
      show (if S.testBit (j / 4) then 1 else 0) = _
      rw [e2 _ (by omega)]; simp
    rw [hcongr]
    exact pairs_le2 _ h1 _ h2
  omega
theorem rS_may {s : ByteArray} (hs : s.size ≤ 12) (i : Nat) : mayRec (rS s i) = true := by
  have := kS_size s i
  simp [mayRec, mayKey, mayRaw, rS, this]; omega
theorem putS {s : ByteArray} (hs : s.size ≤ 12) {i : Nat} (hi : i < 12) : putF (lS s (min i 8)) (rS s i) = (if i < 8 then 0 else 5, lS s (min (i + 1) 8)) := by
  unfold putF
  rw [if_neg (by rw [rS_may hs]; simp)]
  have hidx : idxK (lS s (min i 8)) (rS s i).key = -1 := lS_idx_no (by omega) (by omega) hi
  rw [hidx, if_neg (by decide)]
  by_cases h8 : i < 8
  · rw [if_pos, if_pos h8]
    · rw [show min i 8 = i by omega, show min (i + 1) 8 = i + 1 by omega, lS_succ]
    · exact few_room (by simp [hsOf, lS_len]; omega)
  · rw [if_neg, if_neg h8, show min i 8 = 8 by omega, show min (i + 1) 8 = 8 by omega]
    refine nine_no (h := kH (kS s i)) (by simp [hsOf, lS_len]; omega) (fun x hx => ?_)
    rcases List.mem_append.1 hx with hx | hx
    · obtain ⟨r, hr, rfl⟩ := List.mem_map.1 hx
      obtain ⟨j, hj, rfl⟩ := lS_mem hr
      exact kS_hash s (by omega) hi
    · simp at hx; rw [hx]; rfl
theorem fndS {s : ByteArray} {m i : Nat} (hn : (keysOf (lS s m)).Nodup) (hm : m ≤ 12) (hi : i < 12) : fnd (lS s m) (kS s i) = if i < m then some (rS s i) else none := by
  by_cases h : i < m
  · rw [if_pos h]
    have hx := idxK_at hn (lS_at (s := s) h)
    rcases fnd_idx (kS s i) (lS s m) with ⟨_, h2⟩ | ⟨j, r, h1, h2, h3⟩
    · rw [show (rS s i).key = kS s i from rfl, h2] at hx; exact absurd hx (by omega)
    · rw [show (rS s i).key = kS s i from rfl, h2] at hx
      have : j = i := by omega
      subst this
      rw [lS_at h] at h3
      rw [h1, h3]
  · rw [if_neg h]
    rcases fnd_idx (kS s i) (lS s m) with ⟨h1, _⟩ | ⟨j, r, h1, h2, h3⟩
    · exact h1
    · have := lS_idx_no (s := s) hm (by omega) hi
      rw [h2] at this; exact absurd this (by omega)
theorem readsS {s : ByteArray} {m i : Nat} (hm : m ≤ 12) (hi : i < 12) : (nearL (kvs (lS s m)) (kH (kS s i))).length = m := by
  have hall : (kvs (lS s m)).filter (fun x => near (kH (kS s i)) x.h) = kvs (lS s m) := by
    rw [List.filter_eq_self]
    intro x hx
    obtain ⟨j, r, h1, rfl⟩ := (kvsF_mem 0 _).1 hx
    obtain ⟨q, hq, rfl⟩ := lS_mem (List.mem_of_getElem? h1)
    show near (kH (kS s i)) (kH (kS s q)) = true
    rw [kS_hash s hi (show q < 12 by omega)]
    exact near_self _
  unfold nearL
  rw [hall, List.length_map, kvs, kvsF_len, lS_len]
/-! ### The law LogSame -/
theorem S_quoN {l : SE} {H : SH} {K : Value → SH → Prop} {x : Opd} {a m : Nat} {M : Int} (hx : x.lv l = some (.int .i64 (a : Int))) (hM : M = (m : Int)) (ha : a < 9223372036854775808) (hm : 0 < m) (k : K (.int .i64 ((a / m : Nat) : Int)) H) : Step (.bin .quo x (.const (.int .i64 M))) l H K :=
  S_pureE (v := .int .i64 (IntKind.wrap .i64 ((a : Int).tdiv M))) (by
    have h2 : (Opd.const (.int .i64 M)).lv l = some (.int .i64 M) := rfl
    simp only [pev, hx, h2, binV, intBin, if_true]; rw [if_neg (by omega)]) (by
    have h := Nat.div_le_self a m
    rw [hM, ← Int.ofNat_tdiv]
    generalize a / m = q at *
    rw [wrap_i64 (by omega) (by omega)]) k
theorem S_addB {l : SE} {H : SH} {K : Value → SH → Prop} {x y : Opd} {a b : Nat} (hx : x.lv l = some (.int .u8 (a : Int))) (hy : y.lv l = some (.int .u8 (b : Int))) (hb : a + b < 256) (k : K (.int .u8 ((a + b : Nat) : Int)) H) : Step (.bin .add x y) l H K :=
  S_pureE (v := .int .u8 (IntKind.wrap .u8 ((a : Int) + (b : Int)))) (by simp only [pev, hx, hy, binV, intBin, if_true]) (by rw [← Int.natCast_add, wrap_u8 (by omega) (by omega)]) k
theorem S_lit2B {l : SE} {H : SH} {K : Value → SH → Prop} {x y : Opd} {z1 z2 : Value} {a b : Nat} (hx : x.lv l = some (.int .u8 (a : Int))) (hy : y.lv l = some (.int .u8 (b : Int))) (ha : a < 256) (hb : b < 256) (kk : ∀ w : SV, K w.toV (SL w.toV TByte [UInt8.ofNat a, UInt8.ofNat b] :: H)) : Step (.lit 5 1 2 [z1, z2] [(0, (1, x)), (1, (1, y))]) l H K := by
  refine S_lit (vs := [.int .u8 (a : Int), .int .u8 (b : Int)]) (by simp [lfill, hx, hy, AM.cells, Value.cells, splice]) rfl rfl (fun w => ?_)
  have e : [Value.int .u8 (a : Int), Value.int .u8 (b : Int)] = TByte.cells [UInt8.ofNat a, UInt8.ofNat b] := by
    show _ = [encByte (UInt8.ofNat a), encByte (UInt8.ofNat b)]
    rw [← enc_B ha, ← enc_B hb]
  have := kk w
  unfold SL at this
  rw [← e] at this
  exact this
theorem S_addSt {l : SE} {H : SH} {K : Value → SH → Prop} {x y : Opd} {a b : ByteArray} (hx : x.lv l = some (.string a)) (hy : y.lv l = some (.string b)) (hb : a.size + b.size ≤ 1000000) (k : K (.string (a ++ b)) H) : Step (.bin .add x y) l H K :=
  S_pure (by simp only [pev, hx, hy, binV, strBin]; rw [if_pos (by omega)]) k

end Go.Proofs.YtjbichljgfcigaaGreat.AM
