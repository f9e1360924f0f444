/- Walks: what the functions compute. -/
import Derived.Test.YtpnmeednimpjdaaGreatTypes
namespace Go.Proofs.YtpnmeednimpjdaaGreat.AM
open Go
set_option linter.unusedSimpArgs false
set_option linter.unusedVariables false
set_option maxRecDepth 4000
set_option linter.unusedSectionVars false
variable {X : Exts} [HX X]

def findP (i4 : Nat) (H : SH) (o : Option Rec) : KP := fun x l' H' => match o with
  | some q => x = .ret ∧ l' = [(4, .pointer (some ⟨i4, 0, none⟩)), (5, .bool true)] ∧ H' = OB i4 TRec q :: H
  | none => x = .exit 0 ∧ l' = [(4, .pointer (some ⟨i4, 0, none⟩))] ∧ H' = OB i4 TRec rec0 :: H
theorem lp_Find_0 {H : SH} {v : Value} {l : List Rec} {k : ByteArray} (hv : RD H v TRec l) (hb : l.length < 9223372036854775807) (i4 : Nat) : ∀ (n a : Nat), l.length - a = n → a ≤ l.length → fnd (l.drop a) k = fnd l k →
    WC F X (.loop L_loessref10_Find_0) [(6, .int .i64 a), (0, v), (1, .string k), (4, .pointer (some ⟨i4, 0, none⟩))] (OB i4 TRec rec0 :: H) (KPost (findP i4 H (fnd l k))) := by
  intro n
  induction n using Nat.strongRecOn with
  | _ n ih =>
    intro a hn ha hf
    refine WC_loop (WC_seq (WC_seq (WC_region ?_)))
    iterate 2 refine WO_step rfl (S_pure rfl ?_)
    first | refine WO_step rfl (S_pure rfl ?_) | refine WO_step rfl (S_lenS rfl rdA ?_)
    refine WO_step rfl (S_pure rfl ?_)
    refine WO_nil (KSeq_n ?_)
    refine WC_cond rfl (fun hb1 => ?_) (fun hb1 => ?_)
    ·
     try simp only [bsT] at hb1
     obtain ⟨x, hx⟩ := get_of_lt hb1
     rw [drop_get hx] at hf
     refine WC_skip (KSeq_n (WC_seq (WC_block (WC_seq (WC_region ?_)))))
     iterate 2 refine WO_step rfl (S_pure rfl ?_)
     refine WO_step rfl (S_idx rfl rfl rdA (by first | rfl | assumption | (symm; assumption)) (by rfl) (by first | assumption | omega | exact lt_of_get (by assumption) | (simp only [List.length_set]; first | assumption | omega | exact lt_of_get (by assumption))) fun hp15 => ?_)
     refine WO_step rfl (S_fldE rfl (by repeat (first | assumption | apply IsP.padd)) ?_)
     refine WO_step rfl (S_loadF rfl rdA (by rfl) (by assumption) (by rfl) (by rfl) ?_)
     refine WO_step rfl (S_pure rfl ?_)
     first | refine WO_step rfl (S_eqS rfl rfl ?_) | refine WO_step rfl (S_pure rfl ?_)
     refine WO_nil (KSeq_n ?_)
     refine WC_cond rfl (fun hb2 => ?_) (fun hb2 => ?_)
     ·
      try simp only [bsT] at hb2
      refine WC_seq (WC_region ?_)
      iterate 2 refine WO_step rfl (S_pure rfl ?_)
      refine WO_step rfl (S_idx rfl rfl rdA (by first | rfl | assumption | (symm; assumption)) (by rfl) (by first | assumption | omega | exact lt_of_get (by assumption) | (simp only [List.length_set]; first | assumption | omega | exact lt_of_get (by assumption))) fun hp22 => ?_)
      refine WO_step rfl (S_loadE rfl rdA (by first | rfl | assumption | (symm; assumption)) (by first | rfl | assumption | (symm; assumption)) (by first | rfl | assumption | (symm; assumption)) (by assumption) ?_)
      refine WO_step rfl (S_storeO rfl rfl pkA (by first | rfl | exact SV.cells1 _) (by rfl) (by first | rfl | exact SV.ones _) ?_)
      refine WO_step rfl (S_pure rfl ?_)
      refine WO_nil (KSeq_n (WC_ret (KBlock_r (KSeq_r (KLoop_r ?_)))))
      rw [← hf]; simp only [fnd, hb2, if_true]
      exact KPost_i seA hsA ⟨rfl, rfl, rfl⟩
     ·
      try simp only [bsT] at hb2
      refine WC_skip (KBlock_n (KSeq_n (WC_region ?_)))
      refine WO_step rfl (S_pure rfl ?_)
      first | refine WO_step rfl (S_addN (b := 1) rfl rfl (by omega) ?_) | refine WO_step rfl (S_pure rfl ?_)
      refine WO_step rfl (S_pure rfl ?_)
      refine WO_nil (KLoop_n ?_)
      simp only [fnd, hb2, if_false] at hf
      exact WC_weak (ih (l.length - (a + 1)) (by omega) (a + 1) rfl (by omega) hf) seA hsA
    ·
     try simp only [bsT] at hb1
     refine WC_exit (KSeq_x (KLoop_x ?_))
     rw [← hf, List.drop_of_length_le (by omega)]
     exact KPost_i seA hsA ⟨rfl, rfl, rfl⟩
theorem sp_Find {H : SH} {v : Value} {l : List Rec} {k : ByteArray} (hv : RD H v TRec l) (hb : l.length < 9223372036854775807) :
    WF F X f_loessref10_Find [v, .string k] H (fun r H' => H' = H ∧ r = .tuple #[TRec.val ((fnd l k).getD rec0), .bool (fnd l k).isSome]) := by
  refine WF_fn F_loessref10_Find ?_
  refine WC_seq (WC_region ?_)
  refine WO_step rfl (S_new fun i4 => ?_)
  refine WO_step rfl (S_pure rfl ?_)
  refine WO_nil (KSeq_n (WC_seq (WC_seq (WC_region ?_))))
  refine WO_step rfl (S_pure rfl ?_)
  refine WO_nil (KSeq_n (WC_block ?_))
  --out r x0
  refine WC_post (WC_weak (lp_Find_0 hv hb i4 l.length 0 (by omega) (by omega) rfl) seA hsA) ?_
  intro x l' H' hp
  unfold findP at hp
  split at hp
  ·
   rename_i q hq
   obtain ⟨rfl, rfl, rfl⟩ := hp
   rw [hq]
   refine KBlock_r (KSeq_r ?_)
   refine KFn_r (ResL.cell rfl pkA (Nat.le_of_ble_eq_true rfl) rfl (ResL.tmp rfl ResL.nil)) ?_
   exact ⟨_, hsA, rfl, rfl⟩
  ·
   rename_i hq
   obtain ⟨rfl, rfl, rfl⟩ := hp
   rw [hq]
   refine KBlock_h (KSeq_n (WC_seq (WC_region ?_)))
   refine WO_step rfl (S_pure rfl ?_)
   first | refine WO_step rfl (S_storeT rfl rfl pkA (by rfl) (by rfl) ?_) | refine WO_step rfl (S_storeO rfl rfl pkA (by first | rfl | exact SV.cells1 _) (by rfl) (by first | rfl | exact SV.ones _) ?_)
   refine WO_step rfl (S_pure rfl ?_)
   refine WO_nil (KSeq_n (WC_ret ?_))
   refine KFn_r (ResL.cell rfl pkA (Nat.le_of_ble_eq_true rfl) rfl (ResL.tmp rfl ResL.nil)) ?_
   exact ⟨_, hsA, rfl, rfl⟩

end Go.Proofs.YtpnmeednimpjdaaGreat.AM
