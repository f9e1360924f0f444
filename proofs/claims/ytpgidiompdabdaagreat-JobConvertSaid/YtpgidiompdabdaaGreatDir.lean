/- Walks: what the functions compute. -/
import Derived.Test.YtpgidiompdabdaaGreatCk
import Derived.Test.YtpgidiompdabdaaGreatArith
namespace Go.Proofs.YtpgidiompdabdaaGreat.AM
open Go
set_option linter.unusedSimpArgs false
set_option linter.unusedVariables false
set_option maxRecDepth 4000

/-! ### The directory of the cuckoo: rules -/
def TEnt : Ty Ent := Ty.ofAgg 3 87 24 (fun e => [.bool e.has, .int .i64 e.id, .int .i64 ((e.tag : Nat) : Int)]) (fun _ => rfl) (fun _ => rfl)
def TStp : Ty Stp := Ty.ofAgg 2 103 16 (fun e => [.int .i64 e.b, .int .i64 e.s]) (fun _ => rfl) (fun _ => rfl)
def TNat : Ty Nat := Ty.ofOne 3 8 (fun n => .int .i64 ((n : Nat) : Int)) (fun _ => rfl)
def TUN : Ty Nat := Ty.ofOne 67 8 (fun n => .int .u64 ((n : Nat) : Int)) (fun _ => rfl)
def TSV : Ty SV := Ty.ofOne 23 24 SV.toV SV.one
def TMp : Ty Nat := Ty.ofOne 99 8 (fun i => .map (some i)) (fun _ => rfl)
theorem S_idxA {l : SE} {H : SH} {K : Value → SH → Prop} {n es i o j : Nat} {x y : Opd} {kd : IntKind} {J : Int} (hx : x.lv l = some (.pointer (some ⟨i, o, none⟩))) (hy : y.lv l = some (.int kd J)) (hJ : J = (j : Int)) (hj : j < n) (k : K (.pointer (some ⟨i, o + j * es, none⟩)) H) : Step (.idxA n es x y) l H K :=
  fun e h hA hH => by
    subst hJ
    exact ⟨_, h, H, by simp only [ev, Opd.lv_ev hA hx, Opd.lv_ev hA hy]; rw [if_pos ⟨by omega, by omega⟩, Int.toNat_natCast], hH, k⟩
/-- A directory: its slots, and how many there are. -/
def DO (i : Nat) (es : List Ent) (n : Nat) : Res := .obj i (.row false 91 (TEnt.cells es ++ [.int .i64 ((n : Nat) : Int)]))
theorem at_get {es : List Ent} {k : Nat} (hk : k < es.length) : es[k]? = some (at' es k) := by
  unfold at'; rw [List.getD_eq_getElem?_getD, List.getElem?_eq_getElem hk]; rfl
theorem DO.at {es : List Ent} {v : Value} {k off m : Nat} {e : Ent} (he : es[k]? = some e) (hb : off + m ≤ 3) : ((TEnt.cells es ++ [v]).drop (k * 3 + off)).take m = ((TEnt.enc e).drop off).take m := by
  have hlt := (List.getElem?_eq_some_iff.1 he).1
  have hl : (TEnt.cells es).length = es.length * 3 := TEnt.cells_len es
  rw [List.drop_append_of_le_length (by rw [hl]; omega), List.take_append_of_le_length (by rw [List.length_drop, hl]; omega)]
  exact TEnt.cells_at he hb
theorem DO.len {es : List Ent} {v : Value} (hl : es.length = 32) : (TEnt.cells es ++ [v]).length = 97 := by
  have h : (TEnt.cells es).length = es.length * 3 := TEnt.cells_len es
  rw [List.length_append, h, hl]; rfl
theorem S_loadEnt {l : SE} {H H0 : SH} {K : Value → SH → Prop} {i o k : Nat} {a : Opd} {es : List Ent} {n : Nat} (hl : es.length = 32) (ha : a.lv l = some (.pointer (some ⟨i, o, none⟩))) (hp : Pick (DO i es n) H H0) (ho : o = k * 3) (hk : k < 32) (kk : K (TEnt.val (at' es k)) H) : Step (.load true 3 a) l H K := by
  have h := DO.at (v := .int .i64 ((n : Nat) : Int)) (off := 0) (m := 3) (at_get (es := es) (k := k) (by omega)) (by omega)
  subst ho
  exact S_loadO ha hp (by rw [Nat.ble_eq, DO.len hl]; omega) (by rw [Nat.add_zero] at h; rw [h]; rfl) kk
theorem S_storeEnt {l : SE} {H H0 : SH} {K : Value → SH → Prop} {i o k : Nat} {a x : Opd} {es : List Ent} {n : Nat} {e : Ent} (hl : es.length = 32) (ha : a.lv l = some (.pointer (some ⟨i, o, none⟩))) (hx : x.lv l = some (TEnt.val e)) (hp : Pick (DO i es n) H H0) (ho : o = k * 3) (hk : k < 32) (kk : K undef (DO i (es.set k e) n :: H0)) : Step (.store 3 a x) l H K := by
  subst ho
  have hc : (TEnt.cells es).length = es.length * 3 := TEnt.cells_len es
  have e1 := TEnt.cells_set (xs := es) (j := k) (x := at' es k) (y := e) (at_get (by omega)) (off := 0) (vs := TEnt.enc e) (by rw [splice_all (by rw [TEnt.len, TEnt.len])]) (by rw [TEnt.len]; omega)
  refine S_storeO ha hx hp rfl (by rw [Nat.ble_eq, DO.len hl]; omega) rfl ?_
  have e2 := splice_mid (P := []) (M := TEnt.cells es) (S := [.int .i64 ((n : Nat) : Int)]) (vs := TEnt.enc e) (off := k * 3) (by rw [TEnt.len, hc]; show k * 3 + 3 ≤ _; omega)
  simp only [List.nil_append, List.length_nil, Nat.zero_add] at e2
  show K undef (.obj i (.row false 91 (splice (TEnt.cells es ++ [.int .i64 ((n : Nat) : Int)]) (k * 3) (TEnt.enc e))) :: H0)
  rw [e2]
  have e3 : splice (TEnt.cells es) (k * 3) (TEnt.enc e) = TEnt.cells (es.set k e) := e1
  rw [e3]; exact kk
theorem S_loadN {l : SE} {H H0 : SH} {K : Value → SH → Prop} {i : Nat} {a : Opd} {es : List Ent} {n : Nat} (hl : es.length = 32) (ha : a.lv l = some (.pointer (some ⟨i, 96, none⟩))) (hp : Pick (DO i es n) H H0) (kk : K (.int .i64 ((n : Nat) : Int)) H) : Step (.load false 1 a) l H K := by
  have hc : (TEnt.cells es).length = es.length * 3 := TEnt.cells_len es
  refine S_loadO ha hp (by rw [Nat.ble_eq, DO.len hl]; omega) ?_ kk
  rw [List.drop_append, List.drop_of_length_le (by omega), hc, hl]; rfl
theorem S_storeN {l : SE} {H H0 : SH} {K : Value → SH → Prop} {i : Nat} {a x : Opd} {es : List Ent} {n m : Nat} (hl : es.length = 32) (ha : a.lv l = some (.pointer (some ⟨i, 96, none⟩))) (hx : x.lv l = some (.int .i64 ((m : Nat) : Int))) (hp : Pick (DO i es n) H H0) (kk : K undef (DO i es m :: H0)) : Step (.store 1 a x) l H K := by
  have hc : (TEnt.cells es).length = 96 := by have : (TEnt.cells es).length = es.length * 3 := TEnt.cells_len es
                                              rw [this, hl]
  refine S_storeO ha hx hp rfl (by rw [Nat.ble_eq, DO.len hl]; exact Nat.le_refl _) rfl ?_
  have e : splice (TEnt.cells es ++ [.int .i64 ((n : Nat) : Int)]) 96 [.int .i64 ((m : Nat) : Int)] = TEnt.cells es ++ [.int .i64 ((m : Nat) : Int)] := by
    unfold splice
    rw [List.take_append_of_le_length (by omega), List.take_of_length_le (by omega), List.drop_of_length_le (by rw [DO.len hl]; simp), List.append_nil]
  show K undef (.obj i (.row false 91 (splice (TEnt.cells es ++ [.int .i64 ((n : Nat) : Int)]) 96 [.int .i64 ((m : Nat) : Int)])) :: H0)
  rw [e]; exact kk
/-- A bucket's four cells. -/
theorem S_loadB {l : SE} {H H0 : SH} {K : Value → SH → Prop} {i o b : Nat} {a : Opd} {es : List Ent} {n : Nat} (hl : es.length = 32) (ha : a.lv l = some (.pointer (some ⟨i, o, none⟩))) (hp : Pick (DO i es n) H H0) (ho : o = b * 12) (hb : b < 8) (kk : K (.agg (TEnt.cells ((es.drop (b * 4)).take 4)).toArray) H) : Step (.load true 12 a) l H K := by
  have hc : (TEnt.cells es).length = es.length * 3 := TEnt.cells_len es
  subst ho
  refine S_loadO ha hp (by rw [Nat.ble_eq, DO.len hl]; omega) ?_ kk
  rw [List.drop_append_of_le_length (by omega), List.take_append_of_le_length (by rw [List.length_drop]; omega)]
  rw [show b * 12 = b * 4 * TEnt.es by show _ = b * 4 * 3; omega, TEnt.cells_drop, show 12 = 4 * TEnt.es from rfl, TEnt.cells_take]; rfl
theorem S_idxEnt {l : SE} {H : SH} {K : Value → SH → Prop} {m j : Nat} {x y : Opd} {kd : IntKind} {J : Int} {xs : List Ent} {e : Ent} (hx : x.lv l = some (.agg (TEnt.cells xs).toArray)) (hy : y.lv l = some (.int kd J)) (hJ : J = (j : Int)) (hj : j < m) (he : xs[j]? = some e) (k : K (TEnt.val e) H) : Step (.idxV m true 3 x y) l H K :=
  fun en h hA hH => by
    subst hJ
    have hlt := (List.getElem?_eq_some_iff.1 he).1
    have hc : (TEnt.cells xs).length = xs.length * 3 := TEnt.cells_len xs
    have h1 := TEnt.cells_at he (off := 0) (n := 3) (by show 3 ≤ 3; omega)
    refine ⟨_, h, H, ?_, hH, k⟩
    simp only [ev, Opd.lv_ev hA hx, Opd.lv_ev hA hy]
    rw [if_pos ⟨by omega, by omega, by simp only [List.size_toArray, Int.toNat_natCast]; omega⟩, Int.toNat_natCast]
    have h2 : ((TEnt.cells xs).drop (j * 3)).take 3 = TEnt.enc e := h1
    rw [h2]; rfl
theorem S_idxPair {l : SE} {H : SH} {K : Value → SH → Prop} {j : Nat} {x y : Opd} {kd : IntKind} {J : Int} {a b v : Value} (hx : x.lv l = some (.agg #[a, b])) (hy : y.lv l = some (.int kd J)) (hJ : J = (j : Int)) (hv : [a, b][j]? = some v) (k : K v H) : Step (.idxV 2 false 1 x y) l H K :=
  fun en h hA hH => by
    subst hJ
    have hlt := (List.getElem?_eq_some_iff.1 hv).1
    simp only [List.length_cons, List.length_nil] at hlt
    refine ⟨v, h, H, ?_, hH, k⟩
    simp only [ev, Opd.lv_ev hA hx, Opd.lv_ev hA hy]
    rw [if_pos ⟨by omega, by omega, by simp only [Int.toNat_natCast, List.size_toArray, List.length_cons, List.length_nil]; omega⟩, Int.toNat_natCast, Nat.mul_one]
    have h0 : j = 0 ∨ j = 1 := by omega
    rcases h0 with rfl | rfl
    · simp at hv; subst hv; rfl
    · simp at hv; subst hv; rfl
/-- A bucket seen as a slice. -/
theorem RD.bucket {H H0 : SH} {i b n : Nat} {es : List Ent} (hl : es.length = 32) (hp : Pick (DO i es n) H H0) (hb : b < 8) : RD H (.slice (some ⟨i, b * 12, none⟩) 4 3) TEnt ((es.drop (b * 4)).take 4) := by
  have hc : (TEnt.cells es).length = es.length * 3 := TEnt.cells_len es
  have h4 : ((es.drop (b * 4)).take 4).length = 4 := by rw [List.length_take, List.length_drop]; omega
  refine ⟨TEnt.cells_len _, fun a hH => .inl ⟨false, 91, TEnt.cells_len _, .inr ?_⟩⟩
  obtain ⟨h1, h2, _⟩ := hH.1 _ hp.mem
  refine ⟨i, b * 12, _, by rw [h4]; rfl, h1, h2, by rw [h4, DO.len hl]; show _ + 4 * 3 ≤ _; omega, ?_⟩
  rw [h4, List.drop_append_of_le_length (by omega), List.take_append_of_le_length (by rw [List.length_drop]; show 4 * 3 ≤ _; omega)]
  rw [show b * 12 = b * 4 * TEnt.es by show _ = b * 4 * 3; omega, TEnt.cells_drop, TEnt.cells_take]
theorem S_cutB {l : SE} {H H0 : SH} {K : Value → SH → Prop} {i b o n : Nat} {x : Opd} {es : List Ent} (hl : es.length = 32) (hx : x.lv l = some (.pointer (some ⟨i, o, none⟩))) (hp : Pick (DO i es n) H H0) (ho : o = b * 12) (hb : b < 8) (k : K (.slice (some ⟨i, b * 12, none⟩) 4 3) H) : Step (.cutA 4 3 x none none none) l H K :=
  fun e h hA hH => by
    subst ho
    obtain ⟨h1, h2, _⟩ := hH.1 _ hp.mem
    refine ⟨_, h, H, ?_, hH, k⟩
    simp only [ev, Opd.lv_ev hA hx, rowAt_of h1 h2, bound]
    rw [if_pos ⟨by rw [DO.len hl]; omega, by omega, by omega, by omega⟩]; simp
theorem Pick.sub {r : Res} {H H0 : SH} (h : Pick r H H0) : HSub H (r :: H0) := HSub.pick h HSub.refl
/-! ### Maps from numbers -/
def mEncS (mp : MpS) : List (Value × Value) := mp.map fun p => (Value.int .i64 ((p.1 : Nat) : Int), TStp.val p.2)
theorem kEq1_i (a b : Nat) : kEq1 .i (.int .i64 ((a : Nat) : Int)) (.int .i64 ((b : Nat) : Int)) = some (decide (a = b)) := by
  simp only [kEq1, if_true]
  congr 1
  rw [Bool.eq_iff_iff, beq_iff_eq, decide_eq_true_eq]; omega
theorem mFind_S (k : Nat) : ∀ mp : MpS, mFind .i (.int .i64 ((k : Nat) : Int)) (mEncS mp) = some ((look k mp).map TStp.val)
  | [] => rfl
  | (k', y) :: l => by
    have ih := mFind_S k l
    unfold mEncS at ih ⊢
    simp only [List.map_cons, mFind, kEq1_i, look]
    by_cases e : k = k'
    · simp [e]
    · simp only [e, decide_false, if_false]; exact ih
theorem mSet_S {k : Nat} (x : Stp) : ∀ {mp : MpS}, k ∉ ksOf mp → mSet .i (.int .i64 ((k : Nat) : Int)) (TStp.val x) (mEncS mp) = mEncS (mp ++ [(k, x)])
  | [], _ => rfl
  | (k', y) :: l, h => by
    simp only [ksOf, List.map_cons, List.mem_cons, not_or] at h
    have ih := mSet_S x (mp := l) h.2
    unfold mEncS at ih ⊢
    simp only [List.map_cons, List.cons_append, mSet, kEq1_i]
    simp only [h.1, decide_false]
    rw [ih]
def MPS (i : Nat) (mp : MpS) : Res := .obj i (.map (mEncS mp))
theorem S_mkMapS {l : SE} {H : SH} {K : Value → SH → Prop} (k : ∀ i, K (.map (some i)) (MPS i [] :: H)) : Step .mkMap l H K :=
  fun e h _ hH => ⟨_, _, _, rfl, hH.push rfl, k _⟩
theorem S_updS {l : SE} {H H0 : SH} {K : Value → SH → Prop} {m k x : Opd} {i s : Nat} {y : Stp} {mp : MpS} (hm : m.lv l = some (.map (some i))) (hk : k.lv l = some (.int .i64 ((s : Nat) : Int))) (hx : x.lv l = some (TStp.val y)) (hp : Pick (MPS i mp) H H0) (hn : s ∉ ksOf mp) (kk : K undef (MPS i (mp ++ [(s, y)]) :: H0)) : Step (.upd .i m k x) l H K :=
  fun e h hA hH => by
    have hH' := hH.perm hp.perm
    obtain ⟨h1, h2, h3⟩ := hH'.1 _ (List.mem_cons_self ..)
    have hm' : mapAt h i = some (mEncS mp) := by unfold mapAt; rw [if_pos h1, h2]
    refine ⟨undef, h.put i (.map (mEncS (mp ++ [(s, y)]))), MPS i (mp ++ [(s, y)]) :: H0, by simp only [ev, Opd.lv_ev hA hm, Opd.lv_ev hA hk, Opd.lv_ev hA hx, hm', kEq1_i, mFind_S, mSet_S y hn], ?_, kk⟩
    exact hH'.write rfl h2 rfl rfl ⟨h1, AH.get_put_same _ _ _, rfl⟩
theorem S_lookS {l : SE} {H H0 : SH} {K : Value → SH → Prop} {z : Value} {m k : Opd} {i s : Nat} {mp : MpS} {y : Stp} (hm : m.lv l = some (.map (some i))) (hk : k.lv l = some (.int .i64 ((s : Nat) : Int))) (hp : Pick (MPS i mp) H H0) (hy : look s mp = some y) (kk : K (TStp.val y) H) : Step (.look .i z false m k) l H K :=
  fun e h hA hH => by
    have hH' := hH.perm hp.perm
    obtain ⟨h1, h2, h3⟩ := hH'.1 _ (List.mem_cons_self ..)
    have hm' : mapAt h i = some (mEncS mp) := by unfold mapAt; rw [if_pos h1, h2]
    exact ⟨_, h, _, by simp only [ev, Opd.lv_ev hA hm, Opd.lv_ev hA hk, hm', kEq1_i, mFind_S, hy]; rfl, hH, kk⟩
theorem S_lookSO {l : SE} {H H0 : SH} {K : Value → SH → Prop} {z : Value} {m k : Opd} {i s : Nat} {mp : MpS} (hm : m.lv l = some (.map (some i))) (hk : k.lv l = some (.int .i64 ((s : Nat) : Int))) (hz : z = TStp.val ⟨0, 0⟩) (hp : Pick (MPS i mp) H H0) (kk : ∀ y, K (.tuple #[TStp.val y, .bool (decide (s ∈ ksOf mp))]) H) : Step (.look .i z true m k) l H K :=
  fun e h hA hH => by
    subst hz
    have hH' := hH.perm hp.perm
    obtain ⟨h1, h2, h3⟩ := hH'.1 _ (List.mem_cons_self ..)
    have hm' : mapAt h i = some (mEncS mp) := by unfold mapAt; rw [if_pos h1, h2]
    by_cases hs : s ∈ ksOf mp
    · obtain ⟨st, hst⟩ := look_mem hs
      exact ⟨.tuple #[TStp.val st, .bool true], h, _, by simp only [ev, Opd.lv_ev hA hm, Opd.lv_ev hA hk, hm', kEq1_i, mFind_S, hst]; rfl, hH, by have := kk st; rwa [decide_eq_true hs] at this⟩
    · exact ⟨.tuple #[TStp.val ⟨0, 0⟩, .bool false], h, _, by simp only [ev, Opd.lv_ev hA hm, Opd.lv_ev hA hk, hm', kEq1_i, mFind_S, look_none hs]; rfl, hH, by have := kk ⟨0, 0⟩; rwa [decide_eq_false hs] at this⟩
/-! ### Bits of numbers -/
theorem S_xorI {l : SE} {H : SH} {K : Value → SH → Prop} {x y : Opd} {a b : Nat} (hx : x.lv l = some (.int .i64 (a : Int))) (hy : y.lv l = some (.int .i64 (b : Int))) (ha : a < 256) (hb : b < 256) (k : K (.int .i64 ((a ^^^ b : Nat) : Int)) H) : Step (.bin .xor x y) l H K :=
  S_pureE (v := .int .i64 (IntKind.wrap .i64 ((BitVec.ofInt 64 (a : Int) ^^^ BitVec.ofInt 64 (b : Int)).toNat : Int))) (by
    simp only [pev, hx, hy, binV, intBin, if_true]; rfl) (by
    have : a ^^^ b < 2 ^ 8 := Nat.xor_lt_two_pow ha hb
    rw [BitVec.toNat_xor, ofIntU (by omega), ofIntU (by omega), wrap_i64 (by omega) (by omega)]) k
theorem S_shrI {l : SE} {H : SH} {K : Value → SH → Prop} {x y : Opd} {a m : Nat} {kd : IntKind} (hx : x.lv l = some (.int .i64 (a : Int))) (hy : y.lv l = some (.int kd (m : Int))) (hm : m ≤ 63) (k : K (.int .i64 ((a / 2 ^ m : Nat) : Int)) H) : Step (.bin .shr x y) l H K :=
  S_pureE (v := .int .i64 ((a : Int).fdiv (2 ^ min (m : Int).toNat IntKind.i64.bits))) (by
    simp only [pev, hx, hy, binV]; rw [if_neg (by omega)]) (by
    rw [Int.toNat_natCast, show min m IntKind.i64.bits = m from Nat.min_eq_left (by show m ≤ 64; omega), Int.fdiv_eq_ediv_of_nonneg _ (Int.le_of_lt (Int.pow_pos (by omega)))]
    congr 1) k
theorem S_and1I {l : SE} {H : SH} {K : Value → SH → Prop} {x : Opd} {a : Nat} (hx : x.lv l = some (.int .i64 (a : Int))) (ha : a < 256) (k : K (.int .i64 ((a % 2 : Nat) : Int)) H) : Step (.bin .and x (.const (.int .i64 1))) l H K :=
  S_pureE (v := .int .i64 (IntKind.wrap .i64 ((BitVec.ofInt 64 (a : Int) &&& BitVec.ofInt 64 1).toNat : Int))) (by
    have h2 : (Opd.const (.int .i64 1)).lv l = some (.int .i64 1) := rfl
    simp only [pev, hx, h2, binV, intBin, if_true]; rfl) (by
    rw [BitVec.toNat_and, ofIntU (by omega), show (BitVec.ofInt 64 1).toNat = 1 from rfl, Nat.and_one_is_mod, wrap_i64 (by omega) (by omega)]) k
theorem S_shr8 {l : SE} {H : SH} {K : Value → SH → Prop} {x : Opd} {a : Nat} (hx : x.lv l = some (.int .u64 (a : Int))) (k : K (.int .u64 ((a / 256 : Nat) : Int)) H) : Step (.bin .shr x (.const (.int .u64 8))) l H K :=
  S_pureE (v := .int .u64 ((a : Int).fdiv (2 ^ min (Int.toNat 8) IntKind.u64.bits))) (by
    have h2 : (Opd.const (.int .u64 8)).lv l = some (.int .u64 8) := rfl
    simp only [pev, hx, h2, binV]; rfl) (by
    have e : (2 ^ min (Int.toNat 8) IntKind.u64.bits : Int) = 256 := rfl
    have e2 : (a : Int).fdiv 256 = ((a / 256 : Nat) : Int) := by rw [Int.fdiv_eq_ediv_of_nonneg _ (by omega)]; omega
    rw [e, e2]) k

end Go.Proofs.YtpgidiompdabdaaGreat.AM
