/- Walks: what the functions compute. -/
import Derived.Test.YtpnmeednimpjdaaGreatOz
namespace Go.Proofs.YtpnmeednimpjdaaGreat.AM
open Go
set_option linter.unusedSimpArgs false
set_option linter.unusedVariables false
set_option maxRecDepth 4000

/-! ### Tables laid and compared, as functions that are known -/
def RP : FuncId → List Value → AH → Value → Prop := fun g vs h v =>
  (g = 89 ∧ ∃ a b : List SlT, vs = [tabV a, tabV b] ∧ v = .bool (decide (a = b))) ∨
  (g = 7 ∧ ∃ (v0 v1 : Value) (l : List Rec) (turn : List Bool), vs = [v0, v1] ∧ ReadsAt h v0 5 l.length (TRec.cells l) ∧ ReadsAt h v1 1 turn.length (TBool.cells turn) ∧ v = tabV (lay l turn))
theorem TBool_inj : ∀ x y : Bool, TBool.enc x = TBool.enc y → x = y := by
  intro x y h
  simp [TBool, Ty.ofOne] at h
  exact h
noncomputable abbrev X : Exts := pureX F XB [7, 89] RP
theorem X_ok : XOK Tryz.prog F X pur := pureX_ok XB_ok F_ok (fun g hg => absurd hg (by simp)) (fun g hg => absurd hg (by simp))
instance HX_pure : HX X := ⟨fun {g vs h r} hg hr => by
  by_cases hc : [7, 89].contains g = true
  · exfalso
    have hgg : g = 7 ∨ g = 89 := by simpa using hc
    have hn := keysX_none (fI := 111) (kt := 9) (g := g) (fK := 82) (fS := 81) (by rcases hgg with rfl | rfl <;> decide) (by rcases hgg with rfl | rfl <;> decide) vs h
    rw [hn] at hr
    cases hr
  · show pureX F XB _ RP g vs h = some r
    rw [pureX_off (by simpa using hc)]
    exact HX.keys hg hr⟩
theorem sp_eqT {H : SH} {a b : List SlT} (ha : a.length = 32) (hb : b.length = 32) : WF F X 89 [tabV a, tabV b] H (fun r H' => H' = H ∧ r = .bool (decide (a = b))) := by
  refine WF_pure (by decide) rfl (fun h hH => ⟨.inl ⟨rfl, a, b, rfl, rfl⟩, sp_eqTQ (X := XB) ha hb⟩) ?_
  rintro h u hH (⟨_, a', b', e, rfl⟩ | ⟨e, _⟩)
  · simp only [List.cons.injEq, and_true] at e
    rw [tabV_inj e.1, tabV_inj e.2]
  · exact absurd e (by decide)
theorem sp_Lay {H : SH} {v0 v1 : Value} {l : List Rec} {turn : List Bool} (hv : RD H v0 TRec l) (ht : RD H v1 TBool turn) : WF F X 7 [v0, v1] H (fun r H' => H' = H ∧ r = tabV (lay l turn)) := by
  refine WF_pure (by decide) (tabV_g1 _) (fun h hH => ⟨.inr ⟨rfl, v0, v1, l, turn, rfl, hv.2 h hH, ht.2 h hH, rfl⟩, sp_LayQ (X := XB) (hv.frz hH) (ht.frz hH)⟩) ?_
  rintro h u hH (⟨e, _⟩ | ⟨_, v0', v1', l', turn', e, h0, h1, rfl⟩)
  · exact absurd e (by decide)
  · simp only [List.cons.injEq, and_true] at e
    obtain ⟨rfl, rfl⟩ := e
    have e1 := Ty.cells_inj TRec_inj (by decide) (ReadsAt.uniq h0 (hv.2 h hH))
    have e2 := Ty.cells_inj TBool_inj (by decide) (ReadsAt.uniq h1 (ht.2 h hH))
    rw [e1, e2]
/-! ### Tables that are laid may be -/
theorem tKeys_mem {ts : List SlT} {y : ByteArray} {j : Nat} : y ∈ tKeys ts j ↔ ∃ i x, i < j ∧ ts[i]? = some x ∧ x.has = true ∧ x.r.key = y := by
  unfold tKeys
  rw [List.mem_map]
  constructor
  · rintro ⟨x, hx, rfl⟩
    obtain ⟨h1, h2⟩ := List.mem_filter.1 hx
    obtain ⟨i, hi⟩ := List.getElem?_of_mem h1
    rw [List.getElem?_take] at hi
    split at hi
    · exact ⟨i, x, by assumption, hi, h2, rfl⟩
    · cases hi
  · rintro ⟨i, x, h1, h2, h3, rfl⟩
    exact ⟨x, List.mem_filter.2 ⟨List.mem_of_getElem? (i := i) (by rw [List.getElem?_take, if_pos h1]; exact h2), h3⟩, rfl⟩
theorem inB_false {xs : List ByteArray} {s : ByteArray} : inB xs s = false ↔ s ∉ xs := by
  rw [← inB_iff]; cases inB xs s <;> simp
theorem mayTab_set {ts : List SlT} {q : Nat} {x : SlT} {r : Rec} (hl : ts.length = 32) (hm : mayTab ts = true) (hx : ts[q]? = some x) (hxh : x.has = false) (hr : mayRec r = true) (hb : bel r.key (q / 4) = true) (hn : r.key ∉ tKeys ts 32) : mayTab (ts.set q ⟨true, r⟩) = true := by
  have hq := (List.getElem?_eq_some_iff.1 hx).1
  have hok := (mayTab_iff hl).1 hm
  rw [mayTab_iff (by rw [List.length_set]; exact hl)]
  intro j y hj hy
  rw [List.getElem?_set] at hy
  by_cases e : q = j
  · subst e
    rw [if_pos rfl, if_pos hq] at hy
    cases hy
    unfold slOk
    rw [if_pos rfl]
    have : inB (tKeys (ts.set q ⟨true, r⟩) q) r.key = false := inB_false.2 fun h => by
      obtain ⟨i, z, h1, h2, h3, h4⟩ := tKeys_mem.1 h
      rw [List.getElem?_set, if_neg (by omega)] at h2
      exact hn (tKeys_mem.2 ⟨i, z, by omega, h2, h3, h4⟩)
    show (mayRec r && (bel r.key (q / 4) && !inB _ r.key)) = true
    rw [hr, hb, this]; rfl
  · rw [if_neg e] at hy
    have h0 := hok j y hj hy
    unfold slOk at h0 ⊢
    cases hh : y.has with
    | false => rw [hh] at h0; exact h0
    | true =>
      rw [hh, if_pos rfl] at h0
      rw [if_pos rfl]
      simp only [Bool.and_eq_true] at h0 ⊢
      refine ⟨h0.1, h0.2.1, ?_⟩
      have h5 : y.r.key ∉ tKeys ts j := inB_false.1 (by simpa using h0.2.2)
      have : inB (tKeys (ts.set q ⟨true, r⟩) j) y.r.key = false := inB_false.2 fun h => by
        obtain ⟨i, z, h1, h2, h3, h4⟩ := tKeys_mem.1 h
        rw [List.getElem?_set] at h2
        by_cases e2 : q = i
        · subst e2
          rw [if_pos rfl, if_pos hq] at h2
          cases h2
          exact hn (h4 ▸ tKeys_mem.2 ⟨j, y, hj, hy, hh, rfl⟩)
        · rw [if_neg e2] at h2
          exact h5 (tKeys_mem.2 ⟨i, z, h1, h2, h3, h4⟩)
      simp [this]
theorem fnd_isSome_iff (k : ByteArray) : ∀ l : List Rec, (fnd l k).isSome = true ↔ ∃ r ∈ l, r.key = k
  | [] => by simp [fnd]
  | x :: l => by
    by_cases h : x.key = k
    · simp [fnd, h]
    · have := fnd_isSome_iff k l
      simp only [fnd, h, if_false, List.mem_cons, exists_eq_or_imp, false_or]
      exact this
theorem tRecs_keys (ts : List SlT) (j : Nat) : (tRecs ts j).map (·.key) = tKeys ts j := by
  unfold tRecs tKeys; rw [List.map_map]; rfl
theorem skip_iff (ts : List SlT) (k : ByteArray) : (fnd (newest (tRecs ts 32)) k).isSome = true ↔ k ∈ tKeys ts 32 := by
  rw [(newest_spec (tRecs ts 32)).2, fnd_isSome_iff, ← tRecs_keys, List.mem_map]
  simp only [List.mem_reverse]
theorem placeN_spec (i b : Nat) (r : Rec) : ∀ (m : Nat) (ts : List SlT), ts.length = 32 → b < 8 → placeN i b r m ts = ts ∨ ∃ q x, ts[q]? = some x ∧ x.has = false ∧ q / 4 = b ∧ placeN i b r m ts = ts.set q ⟨true, r⟩
  | 0, ts, _, _ => .inl rfl
  | m + 1, ts, hl, hb => by
    rw [placeN]
    split
    · exact placeN_spec i b r m ts hl hb
    · rename_i h
      obtain ⟨x, hx⟩ := get_of_lt (l := ts) (a := 4 * b + (4 - (m + 1) + i) % 4) (by omega)
      refine .inr ⟨_, x, hx, ?_, by omega, rfl⟩
      rw [List.getD_eq_getElem?_getD, hx] at h
      simpa using h
theorem bel_bkt (k : ByteArray) (tn : Bool) : bel k (bktOf k tn) = true := by
  unfold bel bktOf
  cases tn <;> simp
def GoodT (ts : List SlT) : Prop := ts.length = 32 ∧ wfT ts ∧ mayTab ts = true
theorem zeroT_may : mayTab zeroT = true := by
  rw [mayTab_iff zeroT_len]
  intro j x hj hx
  unfold zeroT at hx
  rw [List.getElem?_replicate, if_pos hj] at hx
  cases hx
  show (if false = true then _ else decide (rec0 = rec0)) = true
  rw [if_neg (by decide)]
  exact decide_eq_true rfl
theorem layStep_good {ts : List SlT} {i : Nat} {r : Rec} {tn : Bool} (h : GoodT ts) (hw : wfRec r) : GoodT (layStep ts i r tn) := by
  unfold layStep
  split
  · exact h
  · rename_i hs
    obtain ⟨hl, hwt, hm⟩ := h
    have hsk : (fnd (newest (tRecs ts 32)) r.key).isSome = false ∧ mayRec r = true := by
      unfold skipR at hs
      simpa using hs
    have hn : r.key ∉ tKeys ts 32 := fun hh => by rw [(skip_iff ts r.key).2 hh] at hsk; exact absurd hsk.1 (by decide)
    rcases placeN_spec i (bktOf r.key tn) r 4 ts hl (bktOf_lt _ _) with e | ⟨q, x, h1, h2, h3, e⟩
    · rw [e]; exact ⟨hl, hwt, hm⟩
    · rw [e]
      refine ⟨by rw [List.length_set]; exact hl, fun y hy => ?_, mayTab_set hl hm h1 h2 hsk.2 (by rw [h3]; exact bel_bkt _ _) hn⟩
      rcases List.mem_or_eq_of_mem_set hy with hy | rfl
      · exact hwt y hy
      · exact hw
theorem layN_good {l : List Rec} (hl : ∀ x ∈ l, wfRec (cutRec x)) (turn : List Bool) : ∀ i, GoodT (layN l turn i)
  | 0 => ⟨zeroT_len, zeroT_wf, zeroT_may⟩
  | i + 1 => by
    rw [layN]
    split
    · rename_i r hr
      exact layStep_good (layN_good hl turn i) (hl r (List.mem_of_getElem? hr))
    · exact layN_good hl turn i
theorem lay_good {l : List Rec} (hl : ∀ x ∈ l, wfRec (cutRec x)) (turn : List Bool) : GoodT (lay l turn) := layN_good hl turn 40
theorem GoodT.isT {ts : List SlT} (h : GoodT ts) : IsT (encT ts) ts := ⟨h.1, h.2.1, h.2.2, rfl⟩
/-! ### One record, two records -/
theorem filter_set {α : Type} {p : α → Bool} {x : α} (hp : p x = true) : ∀ {l : List α} {k : Nat}, (∀ y ∈ l, p y = false) → k < l.length → (l.set k x).filter p = [x]
  | [], k, _, hk => absurd hk (by simp)
  | y :: l, 0, h, _ => by
    rw [List.set_cons_zero, List.filter_cons_of_pos hp]
    congr 1
    rw [List.filter_eq_nil_iff]
    intro z hz
    rw [h z (by simp [hz])]; decide
  | y :: l, k + 1, h, hk => by
    rw [List.set_cons_succ, List.filter_cons_of_neg (by rw [h y (by simp)]; decide)]
    exact filter_set hp (fun z hz => h z (by simp [hz])) (by simpa using hk)
theorem zeroT_has : ∀ y ∈ zeroT, y.has = false := fun y hy => by
  obtain ⟨_, rfl⟩ := List.mem_replicate.1 hy; rfl
theorem recsB_filter (ts : List SlT) : recsB ts = (ts.filter (·.has)).flatMap slB := by
  unfold recsB
  induction ts with
  | nil => rfl
  | cons x ts ih =>
    rw [List.flatMap_cons, ih]
    cases h : x.has with
    | true => rw [List.filter_cons_of_pos h, List.flatMap_cons]
    | false =>
      rw [List.filter_cons_of_neg (by rw [h]; decide)]
      have : slB x = [] := by unfold slB; rw [h]; rfl
      rw [this]; rfl
theorem tRecs_all {ts : List SlT} (hl : ts.length = 32) : tRecs ts 32 = (ts.filter (·.has)).map (·.r) := by
  unfold tRecs; rw [List.take_of_length_le (by omega)]
def goneR (k : ByteArray) : Rec := ⟨k, true, raw0⟩
theorem goneR_wf {k : ByteArray} (h : k.size ≤ 100000) : wfRec (goneR k) := ⟨(by decide : (-9223372036854775808 : Int) ≤ 0 ∧ (0 : Int) < 9223372036854775808), (by decide : (-9223372036854775808 : Int) ≤ 0 ∧ (0 : Int) < 9223372036854775808), (by decide : es0.size ≤ 100000), h⟩
theorem goneR_may {k : ByteArray} (h1 : 1 ≤ k.size) (h2 : k.size ≤ 16) : mayRec (goneR k) = true := by
  unfold mayRec mayKey goneR
  simp [h1, h2]
theorem cut_goneR {k : ByteArray} (h : k.size ≤ 20) : cutRec (goneR k) = goneR k := by
  unfold cutRec cutRaw goneR cut
  rw [if_neg (by show ¬ 20 < k.size; omega), if_neg (by show ¬ 30 < es0.size; decide)]
/-- One record laid. -/
theorem lay1 {k : ByteArray} (h1 : 1 ≤ k.size) (h2 : k.size ≤ 16) (l : List Rec) : layN (goneR k :: l) [] 1 = zeroT.set (4 * frst (kH k)) ⟨true, goneR k⟩ := by
  have hf := frst_lt (kH k)
  have hsk : skipR zeroT (goneR k) = false := by
    unfold skipR
    rw [goneR_may h1 h2]
    cases hs : (fnd (newest (tRecs zeroT 32)) (goneR k).key).isSome with
    | false => rfl
    | true =>
      obtain ⟨i, x, _, h4, h5, _⟩ := tKeys_mem.1 ((skip_iff _ _).1 hs)
      rw [zeroT_has x (List.mem_of_getElem? h4)] at h5; cases h5
  rw [layN, List.getElem?_cons_zero]
  simp only []
  rw [cut_goneR (by omega)]
  unfold layStep
  rw [layN, hsk, if_neg (by decide), placeN]
  have hb : bktOf (goneR k).key (([] : List Bool).getD 0 false) = frst (kH k) := by
    unfold bktOf
    rw [if_neg (by simp)]
    unfold goneR; rfl
  rw [hb, show (4 - (3 + 1) + 0) % 4 = 0 from rfl, Nat.add_zero]
  have hz : (zeroT.getD (4 * frst (kH k)) slt0).has = false := by
    rw [List.getD_eq_getElem?_getD]
    unfold zeroT
    rw [List.getElem?_replicate]
    split <;> rfl
  rw [if_neg (by rw [hz]; decide)]
theorem lay1_end {k : ByteArray} (h1 : 1 ≤ k.size) (h2 : k.size ≤ 16) : lay [goneR k] [] = zeroT.set (4 * frst (kH k)) ⟨true, goneR k⟩ := by
  have := layN_end (l := [goneR k]) (turn := []) (i := 1) (by simp) 39
  unfold lay
  rw [← lay1 h1 h2 [], ← this]

end Go.Proofs.YtpnmeednimpjdaaGreat.AM
