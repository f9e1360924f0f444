/- Walks: what the functions compute. -/
import Derived.Test.YtjbichljgfcigaaGreatLg7
import Derived.Test.YtjbichljgfcigaaGreatFlat
namespace Go.Proofs.YtjbichljgfcigaaGreat.AM
open Go
set_option linter.unusedSimpArgs false
set_option linter.unusedVariables false
set_option maxRecDepth 4000

/-! ### The law LogAgain -/
theorem put_new {l : List Rec} {r : Rec} (hm : mayRec r = true) (hn : ∀ q ∈ l, q.key ≠ r.key) (hr : Room (hsOf l ++ [kH r.key])) : putF l r = (0, l ++ [r]) := by
  unfold putF
  rw [if_neg (by rw [hm]; simp)]
  rcases idxK_spec l r.key with ⟨i, q, _, h2, h3⟩ | ⟨h1, _⟩
  · exact absurd h3 (hn q (List.mem_of_getElem? h2))
  · rw [h1, if_neg (by decide), if_pos hr]
theorem hsOf_app (a b : List Rec) : hsOf (a ++ b) = hsOf a ++ hsOf b := by unfold hsOf; rw [List.map_append]
theorem Room.left {a b : List Nat} (h : Room (a ++ b)) : Room a := h.mono fun S => by unfold cnt; rw [List.countP_append]; omega
theorem ofF_all : ∀ (N l : List Rec), (∀ r ∈ N, mayRec r = true) → (keysOf (l ++ N)).Nodup → Room (hsOf (l ++ N)) → ofF l N = (0, l ++ N)
  | [], l, _, _, _ => by rw [ofF, List.append_nil]
  | r :: N, l, hm, hn, hr => by
    have e : l ++ r :: N = (l ++ [r]) ++ N := by simp
    have hno : ∀ q ∈ l, q.key ≠ r.key := fun q hq e2 => by
      unfold keysOf at hn
      rw [List.map_append, List.nodup_append] at hn
      exact hn.2.2 q.key (List.mem_map.2 ⟨q, hq, rfl⟩) r.key (by simp) e2
    have hro : Room (hsOf l ++ [kH r.key]) := by
      rw [e, hsOf_app, hsOf_app] at hr
      exact hr.left
    rw [ofF, put_new (hm r (List.mem_cons_self ..)) hno hro]
    simp only [if_true]
    rw [ofF_all N (l ++ [r]) (fun q hq => hm q (List.mem_cons_of_mem _ hq)) (by rw [← e]; exact hn) (by rw [← e]; exact hr), e]
theorem LogI.room {es : List Ent} {l : List Rec} (g : LogI es l) : Room (hsOf l) := g.has.room
def AllMay (l : List Rec) : Prop := ∀ r ∈ l, mayRec r = true
theorem AllMay.put {l : List Rec} {r : Rec} (h : AllMay l) : AllMay (putF l r).2 := fun q hq => by
  by_cases hr : mayRec r = true
  · rcases put_mem hq with hq | rfl
    · exact h q hq
    · exact hr
  · unfold putF at hq
    rw [if_pos (by simpa using hr)] at hq
    exact h q hq
def turnL (t : Bool) (m : List Rec) : List Rec := if t then m.reverse else m
theorem turnL_perm (t : Bool) (m : List Rec) : (turnL t m).Perm m := by
  unfold turnL; split
  · exact List.reverse_perm m
  · exact List.Perm.refl m
theorem turnL_len (t : Bool) (m : List Rec) : (turnL t m).length = m.length := (turnL_perm t m).length_eq
theorem newest_inc {m : List Rec} (h : Inc m) : newest m = m := Inc.uniq (newest_spec m).1 h (fun k => fnd_newest h.nd k)

end Go.Proofs.YtjbichljgfcigaaGreat.AM
