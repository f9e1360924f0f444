/- Walks: what the functions compute. -/
import Derived.Test.YtpgidiompdabdaaGreatTypes
import Derived.Lib.TrimUEq
import Derived.Lib.RuneCountTail
namespace Go.Proofs.YtpgidiompdabdaaGreat.AM
open Go
set_option linter.unusedSimpArgs false
set_option linter.unusedVariables false
set_option maxRecDepth 4000

/-! ### Runes -/
def dl (L : List UInt8) : Nat → Nat → Nat → Option Nat
  | 0, _, r => some r
  | m + 1, i, r => match L[i]? with
    | none => none
    | some b => if b.toNat < 128 ∨ 191 < b.toNat then none else dl L m (i + 1) (r * 64 + b.toNat - 128)
def decOk (p : Nat × Nat) : Bool := !(p.1 == 65533 && p.2 == 1)
def decV (p : Nat × Nat) : Value := .tuple #[.int .i32 p.1, .int .i64 p.2, .bool (decOk p)]
theorem decode_tail (s : ByteArray) (pos : Nat) : Utf8.decode (s.extract pos s.size) 0 = Utf8.decode s pos := by rw [Lib.tail_decode, Nat.add_zero]
theorem width_le4 (s : ByteArray) (pos : Nat) : (Utf8.decode s pos).2 ≤ 4 := by
  rw [Lib.decode_at]; unfold Lib.decodeN
  repeat' split
  all_goals (simp only []; omega)
/-! ### Runes, hashes -/
def rns (s : ByteArray) : Nat → Nat → List Int
  | 0, _ => []
  | f + 1, pos => if pos < s.size then ((Utf8.decode s pos).1 : Int) :: rns s f (pos + (Utf8.decode s pos).2) else []
def rnp (s : ByteArray) : Nat → Nat → List Int
  | 0, _ => []
  | f + 1, pos => if pos < s.size then (pos : Int) :: rnp s f (pos + (Utf8.decode s pos).2) else []
def runes (s : ByteArray) : List Int := rns s s.size 0
def starts (s : ByteArray) : List Int := rnp s s.size 0
theorem rns_len (s : ByteArray) : ∀ f pos, (rns s f pos).length ≤ f
  | 0, _ => by simp [rns]
  | f + 1, pos => by
    unfold rns; split
    · have := rns_len s f (pos + (Utf8.decode s pos).2); simp; omega
    · simp
theorem rnp_len (s : ByteArray) : ∀ f pos, (rnp s f pos).length ≤ f
  | 0, _ => by simp [rnp]
  | f + 1, pos => by
    unfold rnp; split
    · have := rnp_len s f (pos + (Utf8.decode s pos).2); simp; omega
    · simp
theorem runes_len (s : ByteArray) : (runes s).length ≤ s.size := rns_len s _ _
def xor64 (a b : Int) : Int := IntKind.u64.wrap ((BitVec.ofInt IntKind.u64.bits a ^^^ BitVec.ofInt IntKind.u64.bits b).toNat : Int)
def hstep (h r : Int) : Int := IntKind.u64.wrap (xor64 h (IntKind.u64.wrap r) * 1099511628211)
def hfin0 (h : Int) : Int := xor64 h (h.fdiv (2 ^ min (Int.toNat 32) IntKind.u64.bits))
def hfin1 (h : Int) : Int := IntKind.u64.wrap (hfin0 h * 11400714819323198485)
def hfin (h : Int) : Int := xor64 (hfin1 h) ((hfin1 h).fdiv (2 ^ min (Int.toNat 29) IntKind.u64.bits))
def hashOf (s : ByteArray) : Int := hfin ((runes s).foldl hstep 14695981039346656037)
theorem lp_Of_0 {H : SH} {s : ByteArray} {i7 : Nat} (hs : s.size ≤ 1000000) : ∀ (f pos : Nat) (a : List Int) (w : SV), s.size - pos ≤ f → a.length + f ≤ s.size → a ++ rns s f pos = runes s →
    WC F X (.loop L_runes_Of_0) [(7, .pointer (some ⟨i7, 0, none⟩)), (3, w.toV)] (.obj i7 (.iter s pos) :: SL w.toV TI32 a :: H)
      (KPost fun x l' H' => ∃ w : SV, x = .exit 0 ∧ l' = [(3, w.toV)] ∧ H' = SL w.toV TI32 (runes s) :: H) := by
  intro f
  induction f using Nat.strongRecOn with
  | _ f ih =>
    intro pos a w hf hla ha
    refine WC_loop (WC_seq (WC_region ?_))
    refine WO_step rfl (S_next rfl pkA (fun hn8 => ?_) (fun hn8 => ?_))
    ·
     obtain ⟨f', rfl⟩ : ∃ m', f = m' + 1 := ⟨f - 1, by omega⟩
     have hw1 := Lib.width_pos s pos
     simp only [rns, if_pos hn8] at ha
     refine WO_step rfl (S_pure rfl ?_)
     refine WO_nil (KSeq_n (WC_seq ?_))
     refine WC_cond rfl (fun _ => ?_) (fun h => ?_)
     rotate_left
     · exact absurd h (by decide)
     refine WC_skip (KSeq_n (WC_block (WC_seq (WC_region ?_))))
     iterate 2 refine WO_step rfl (S_pure rfl ?_)
     refine WO_nil (KSeq_n (WC_region ?_))
     iterate 2 refine WO_step rfl (S_pure rfl ?_)
     refine WO_step rfl (S_lit1 (T := TI32) rfl rfl rfl rfl fun w13 => ?_)
     refine WO_step rfl (S_app rfl rfl pkA (by first | exact SRC.str rfl rfl | (apply RD.src; repeat (first | assumption | exact RD.head | exact RD.nil | apply RD.tail))) (by rfl) (by rfl) (by (try simp only [List.length_append, List.length_cons, List.length_nil]); omega) fun w14 => ?_)
     refine WO_step rfl (S_pure rfl ?_)
     refine WO_nil (KBlock_n (KLoop_n ?_))
     exact WC_weak (ih f' (by omega) (pos + (Utf8.decode s pos).2) (a ++ [((Utf8.decode s pos).1 : Int)]) _ (by omega) (by simp; omega) (by simpa using ha)) seA hsA
    ·
     refine WO_step rfl (S_pure rfl ?_)
     refine WO_nil (KSeq_n (WC_seq ?_))
     refine WC_cond rfl (fun h => ?_) (fun _ => ?_)
     · exact absurd h (by decide)
     refine WC_exit (KSeq_x (KLoop_x ?_))
     first
       | exact absurd hb1 (by decide)
       | exact absurd hb2 (by decide)
       | (refine KPost_i (l' := [(3, w.toV)]) (H' := SL w.toV TI32 a :: H) seA hsA ⟨w, rfl, rfl, ?_⟩
          have e1 : rns s f pos = [] := by cases f with
            | zero => rfl
            | succ f => simp only [rns, if_neg hn8]
          rw [← ha, e1, List.append_nil])
theorem sp_rnOf {H : SH} {s : ByteArray} (hs : s.size ≤ 1000000) : WF F X f_runes_Of [.string s] H (fun r H' => ∃ w : SV, H' = SL w.toV TI32 (runes s) :: H ∧ r = w.toV) := by
  refine WF_fn F_runes_Of ?_
  refine WC_seq (WC_region ?_)
  refine WO_step rfl (S_pure rfl ?_)
  refine WO_nil (KSeq_n (WC_seq (WC_region ?_)))
  refine WO_step rfl (S_pure rfl ?_)
  refine WO_nil (KSeq_n (WC_seq (WC_seq (WC_region ?_))))
  refine WO_step rfl (S_pure rfl ?_)
  refine WO_step rfl (S_iter rfl fun i7 => ?_)
  refine WO_nil (KSeq_n (WC_block ?_))
  refine WC_view (H' := SL (SV.toV .nil) TI32 [] :: _) (fun h hh => (HAg.addNil hh)) ?_
  refine WC_post (WC_weak (lp_Of_0 (H := H) hs s.size 0 [] .nil (by omega) (by simp) rfl) seA hsA) ?_
  rintro x l' H' ⟨w, rfl, rfl, rfl⟩
  refine KBlock_h (KSeq_n (WC_seq (WC_region ?_)))
  iterate 2 refine WO_step rfl (S_pure rfl ?_)
  refine WO_nil (KSeq_n (WC_ret ?_))
  refine KFn_r (ResL.tmp rfl ResL.nil) ?_
  exact ⟨_, hsA, _, rfl, rfl⟩
theorem lp_HashOf_0 {H : SH} {w : Value} {l : List Int} (hr : RD H w TI32 l) (hl : l.length ≤ 1000000) : ∀ (n a : Nat) (h : Int), l.length - a = n → a ≤ l.length →
    WC F X (.loop L_hash_Of_0) [(9, .int .i64 a), (7, w), (3, .int .u64 h), (8, .int .i64 l.length)] H
      (KPost fun x l' H' => x = .exit 0 ∧ l' = [(3, .int .u64 ((l.drop a).foldl hstep h))] ∧ H' = H) := by
  intro n
  induction n using Nat.strongRecOn with
  | _ n ih =>
    intro a h hn ha
    refine WC_loop (WC_seq (WC_region ?_))
    refine WO_step rfl (S_pure rfl ?_)
    refine WO_nil (KSeq_n (WC_seq ?_))
    refine WC_cond rfl (fun hb1 => ?_) (fun hb1 => ?_)
    ·
     try simp only [bsT] at hb1
     obtain ⟨x, hx⟩ := get_of_lt hb1
     rw [drop_get hx, List.foldl_cons]
     refine WC_skip (KSeq_n (WC_seq (WC_block (WC_seq (WC_region ?_)))))
     refine WO_step rfl (S_idx rfl rfl rdA (by first | rfl | assumption | (symm; assumption)) (by rfl) (by first | assumption | omega | exact lt_of_get (by assumption) | (simp only [List.length_set]; first | assumption | omega | exact lt_of_get (by assumption))) fun hp11 => ?_)
     refine WO_step rfl (S_loadE rfl rdA (by first | rfl | assumption | (symm; assumption)) (by first | rfl | assumption | (symm; assumption)) (by first | rfl | assumption | (symm; assumption)) (by assumption) ?_)
     refine WO_step rfl (S_pure rfl ?_)
     refine WO_nil (KSeq_n (WC_region ?_))
     iterate 2 refine WO_step rfl (S_pure rfl ?_)
     first | refine WO_step rfl (S_toU rfl (by omega) ?_) | refine WO_step rfl (S_pure rfl ?_)
     refine WO_step rfl (S_pure rfl ?_)
     first | refine WO_step rfl (S_mulN rfl rfl (by omega) ?_) | refine WO_step rfl (S_pure rfl ?_)
     refine WO_step rfl (S_pure rfl ?_)
     refine WO_nil (KBlock_n (KSeq_n (WC_region ?_)))
     first | refine WO_step rfl (S_addN (b := 1) rfl rfl (by omega) ?_) | refine WO_step rfl (S_pure rfl ?_)
     refine WO_step rfl (S_pure rfl ?_)
     refine WO_nil (KLoop_n ?_)
     exact WC_weak (ih (l.length - (a + 1)) (by omega) (a + 1) (hstep h x) rfl (by omega)) seA hsA
    ·
     try simp only [bsT] at hb1
     refine WC_exit (KSeq_x (KLoop_x ?_))
     rw [List.drop_of_length_le (by omega)]
     exact KPost_i seA hsA ⟨rfl, rfl, rfl⟩
theorem sp_HashOf {H : SH} {s : ByteArray} (hs : s.size ≤ 1000000) : WF F X f_hash_Of [.string s] H (fun r H' => H' = H ∧ r = .int .u64 (hashOf s)) := by
  have hl := runes_len s
  refine WF_fn F_hash_Of ?_
  refine WC_seq (WC_region ?_)
  refine WO_step rfl (S_pure rfl ?_)
  refine WO_nil (KSeq_n (WC_seq (WC_region ?_)))
  refine WO_step rfl (S_pure rfl ?_)
  refine WO_nil (KSeq_n (WC_seq (WC_seq (WC_region ?_))))
  refine WO_step rfl (S_pure rfl ?_)
  refine WO_call rfl rfl rfl ?_
  refine (sp_rnOf (by omega)).mono ?_
  rintro _ _ ⟨wR, rfl, rfl⟩
  first | refine WO_step rfl (S_pure rfl ?_) | refine WO_step rfl (S_lenS rfl rdA ?_)
  refine WO_step rfl (S_pure rfl ?_)
  refine WO_nil (KSeq_n (WC_block ?_))
  refine WC_post (WC_weak (lp_HashOf_0 rdA (by omega) (runes s).length 0 14695981039346656037 (by omega) (by omega)) seA HSub.refl) ?_
  rintro x l' H' ⟨rfl, rfl, rfl⟩
  refine KBlock_h (KSeq_n (WC_seq (WC_region ?_)))
  iterate 4 refine WO_step rfl (S_pure rfl ?_)
  first | refine WO_step rfl (S_mulN rfl rfl (by omega) ?_) | refine WO_step rfl (S_pure rfl ?_)
  refine WO_step rfl (S_pure rfl ?_)
  refine WO_nil (KSeq_n (WC_seq (WC_region ?_)))
  iterate 5 refine WO_step rfl (S_pure rfl ?_)
  refine WO_nil (KSeq_n (WC_ret ?_))
  refine KFn_r (ResL.tmp rfl ResL.nil) ?_
  exact ⟨_, hsA, rfl, rfl⟩

end Go.Proofs.YtpgidiompdabdaaGreat.AM
