/- Walks: what the functions compute. -/
import Derived.Test.YtjbichljgfcigaaVal
import Derived.Test.YtjbichljgfcigaaNw
namespace Go.Proofs.Ytjbichljgfcigaa.AM
open Go
set_option linter.unusedSimpArgs false
set_option linter.unusedVariables false
set_option maxRecDepth 4000

/-! ### Maps in the heap -/
def mEnc {α : Type} (T : Ty α) (mp : List (ByteArray × α)) : List (Value × Value) := mp.map fun p => (Value.string p.1, T.val p.2)
theorem kEq1_s (a b : ByteArray) : kEq1 .s (.string a) (.string b) = some (decide (a = b)) := by simp only [kEq1, ba_beq]
theorem mFind_enc {α : Type} (T : Ty α) (k : ByteArray) : ∀ mp : List (ByteArray × α), mFind .s (.string k) (mEnc T mp) = some ((mGt k mp).map T.val)
  | [] => rfl
  | (k', y) :: l => by
    have ih := mFind_enc T k l
    unfold mEnc at ih ⊢
    simp only [List.map_cons, mFind, kEq1_s, mGt]
    by_cases e : k = k'
    · simp [e]
    · simp only [e, decide_false, if_false]; exact ih
theorem mSet_enc {α : Type} (T : Ty α) (k : ByteArray) (x : α) : ∀ mp : List (ByteArray × α), mSet .s (.string k) (T.val x) (mEnc T mp) = mEnc T (mSt k x mp)
  | [] => rfl
  | (k', y) :: l => by
    have ih := mSet_enc T k x l
    unfold mEnc at ih ⊢
    simp only [List.map_cons, mSet, kEq1_s, mSt]
    by_cases e : k = k'
    · simp [e]
    · simp only [e, decide_false, if_false, List.map_cons]; rw [ih]
/-- A map of one's own. -/
def MP {α : Type} (i : Nat) (T : Ty α) (mp : List (ByteArray × α)) : Res := .obj i (.map (mEnc T mp))
theorem S_mkMap {α : Type} {l : SE} {H : SH} {K : Value → SH → Prop} (T : Ty α) (k : ∀ i, K (.map (some i)) (MP i T [] :: H)) : Step .mkMap l H K :=
  fun e h _ hH => ⟨_, _, _, rfl, hH.push rfl, k _⟩
theorem S_upd {α : Type} {l : SE} {H H0 : SH} {K : Value → SH → Prop} {m k x : Opd} {i : Nat} {s : ByteArray} {T : Ty α} {y : α} {mp : List (ByteArray × α)} (hm : m.lv l = some (.map (some i))) (hk : k.lv l = some (.string s)) (hx : x.lv l = some (T.val y)) (hp : Pick (MP i T mp) H H0) (kk : K undef (MP i T (mSt s y mp) :: H0)) : Step (.upd .s m k x) l H K :=
  fun e h hA hH => by
    have hH' := hH.perm hp.perm
    obtain ⟨h1, h2, h3⟩ := hH'.1 _ (List.mem_cons_self ..)
    have hm' : mapAt h i = some (mEnc T mp) := by unfold mapAt; rw [if_pos h1, h2]
    refine ⟨undef, h.put i (.map (mEnc T (mSt s y mp))), MP i T (mSt s y mp) :: H0, by simp only [ev, Opd.lv_ev hA hm, Opd.lv_ev hA hk, Opd.lv_ev hA hx, hm', kEq1_s, mFind_enc, mSet_enc], ?_, kk⟩
    exact hH'.write rfl h2 rfl rfl ⟨h1, AH.get_put_same _ _ _, rfl⟩
theorem S_look {α : Type} {l : SE} {H H0 : SH} {K : Value → SH → Prop} {z : Value} {m k : Opd} {i : Nat} {s : ByteArray} {T : Ty α} {mp : List (ByteArray × α)} {y : α} (hm : m.lv l = some (.map (some i))) (hk : k.lv l = some (.string s)) (hp : Pick (MP i T mp) H H0) (hy : mGt s mp = some y) (kk : K (T.val y) H) : Step (.look .s z false m k) l H K :=
  fun e h hA hH => by
    have hH' := hH.perm hp.perm
    obtain ⟨h1, h2, h3⟩ := hH'.1 _ (List.mem_cons_self ..)
    have hm' : mapAt h i = some (mEnc T mp) := by unfold mapAt; rw [if_pos h1, h2]
    exact ⟨_, h, _, by simp only [ev, Opd.lv_ev hA hm, Opd.lv_ev hA hk, hm', kEq1_s, mFind_enc, hy]; rfl, hH, kk⟩
def TStr : Ty ByteArray := Ty.ofOne 9 1 (fun s => .string s) (fun _ => rfl)
theorem keysL_enc {α : Type} (T : Ty α) : ∀ mp : List (ByteArray × α), (∀ p ∈ mp, p.1.size ≤ maxLen) → keysL (mEnc T mp) = some (mp.map fun p => p.1.data.toList)
  | [], _ => rfl
  | (k, y) :: l, h => by
    have ih := keysL_enc T l (fun p hp => h p (List.mem_cons_of_mem _ hp))
    unfold mEnc at ih ⊢
    simp only [List.map_cons, keysL]
    rw [if_pos (h _ (List.mem_cons_self ..)), ih]; rfl
def skeys {α : Type} (mp : List (ByteArray × α)) : List ByteArray := (sortB (mp.map fun p => p.1.data.toList)).map fun l => ⟨l.toArray⟩
theorem X_keys {g : FuncId} {vs : List Value} {h : AH} {r : Value × AH} (hg : pur.contains g = false) (hr : keysX 52 67 51 9 g vs h = some r) : X g vs h = some r := by
  show bothX _ _ g vs h = some r
  unfold bothX groundK
  rw [if_neg (by rw [hg]; decide)]
  exact hr
theorem sp_Keys {H : SH} {i : Nat} : WF F X 52 [.map (some i)] H (fun r H' => ∃ j, H' = .obj j (.seq (some i)) :: H ∧ r = .func (.func 67) #[] #[.pointer (some ⟨j, 0, none⟩)]) :=
  WF_ext fun a hH => ⟨_, _, _, X_keys rfl rfl, hH.push rfl, _, rfl, rfl⟩
theorem sp_Sorted {α : Type} {T : Ty α} {H H1 H2 : SH} {i j : Nat} {mp : List (ByteArray × α)} (h1 : Pick (.obj j (.seq (some i))) H H1) (h2 : Pick (MP i T mp) H H2) (hs : ∀ p ∈ mp, p.1.size ≤ maxLen) (hl : mp.length ≤ 1000000) : WF F X 51 [.func (.func 67) #[] #[.pointer (some ⟨j, 0, none⟩)]] H (fun r H' => ∃ w : SV, H' = SL w.toV TStr (skeys mp) :: H ∧ r = w.toV) :=
  WF_ext fun a hH => by
    obtain ⟨a1, a2, a3⟩ := (hH.perm h1.perm).1 _ (List.mem_cons_self ..)
    obtain ⟨b1, b2, b3⟩ := (hH.perm h2.perm).1 _ (List.mem_cons_self ..)
    have hm' : mapAt a i = some (mEnc T mp) := by unfold mapAt; rw [if_pos b1, b2]
    have hkk := keysL_enc T mp hs
    have hel : (mEnc T mp).length = mp.length := by simp [mEnc]
    by_cases he : mp = []
    · subst he
      refine ⟨.slice none 0 0, a, _, X_keys rfl ?_, hH.addNil, .nil, rfl, rfl⟩
      simp only [keysX]
      rw [if_neg (by decide), if_pos trivial, if_pos ⟨trivial, rfl⟩]
      simp only [a2, hm', hkk]
      rfl
    · obtain ⟨x, xs, hx⟩ : ∃ x xs, (mp.map fun p => p.1.data.toList) = x :: xs := by
        cases mp with
        | nil => exact absurd rfl he
        | cons p mp => exact ⟨_, _, rfl⟩
      have hlen : (x :: xs).length = mp.length := by rw [← hx]; simp
      refine ⟨.slice (some ⟨a.next, 0, none⟩) (x :: xs).length 1, a.push (.row false 9 ((sortB (x :: xs)).map encStr)), SL (SV.mk a.next 0 (x :: xs).length 1).toV TStr (skeys mp) :: H, X_keys rfl ?_, ?_, SV.mk a.next 0 (x :: xs).length 1, rfl, rfl⟩
      · simp only [keysX]
        rw [if_neg (by decide), if_pos trivial, if_pos ⟨trivial, rfl⟩]
        simp only [a2, hm', hkk, hx]
        rw [if_pos (by rw [hel]; omega)]
      · have hcl : ((sortB (x :: xs)).map encStr).length = (x :: xs).length * 1 := by rw [List.length_map, (sortB_perm _).length_eq, Nat.mul_one]
        have hsk : skeys mp = (sortB (x :: xs)).map fun l => ⟨l.toArray⟩ := by unfold skeys; rw [hx]
        have hc : TStr.cells (skeys mp) = (sortB (x :: xs)).map encStr := by
          rw [hsk]
          show List.flatMap (fun s => [Value.string s]) _ = _
          rw [flatMap_one, List.map_map]; rfl
        have hn : (skeys mp).length = (x :: xs).length := by rw [hsk, List.length_map, (sortB_perm _).length_eq]
        show HAg (.sl (SV.mk a.next 0 (x :: xs).length 1).toV TStr.t TStr.es (skeys mp).length (TStr.cells (skeys mp)) :: H) _
        rw [hc, hn]
        exact hH.add _ (r := .sl (.slice (some ⟨a.next, 0, none⟩) (x :: xs).length 1) 9 1 (x :: xs).length ((sortB (x :: xs)).map encStr)) ⟨hcl, .inr ⟨a.next, 0, _, rfl, Nat.lt_succ_self _, AH.get_push_same _ _, by rw [hcl]; omega, by rw [List.drop_zero, ← hcl, List.take_length]⟩⟩ rfl

end Go.Proofs.Ytjbichljgfcigaa.AM
