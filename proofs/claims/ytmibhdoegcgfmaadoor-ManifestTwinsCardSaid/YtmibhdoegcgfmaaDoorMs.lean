/- Walks: what the functions compute. -/
import Derived.Test.YtmibhdoegcgfmaaDoorMr
import Derived.Test.YtmibhdoegcgfmaaDoorMq
namespace Go.Proofs.YtmibhdoegcgfmaaDoor.AM
open Go
set_option linter.unusedSimpArgs false
set_option linter.unusedVariables false
set_option maxRecDepth 4000

/-! ### Bytes of a manifest -/
def numsM (n f s : Int) (xs : List Int) : List Int := [n, f, s, (xs.length : Int)] ++ xs
def encM (n f s : Int) (xs : List Int) : List UInt8 := (numsM n f s xs).flatMap put
def i64r (x : Int) : Prop := -9223372036854775808 ≤ x ∧ x < 9223372036854775808
theorem puts_len : ∀ {l : List Int}, (∀ x ∈ l, i64r x) → (l.flatMap put).length ≤ 10 * l.length
  | [], _ => by simp
  | x :: l, h => by
    have h1 := h x (by simp)
    have h2 := put_len h1.1 h1.2
    have h3 := puts_len (l := l) (fun y hy => h y (by simp [hy]))
    simp only [List.flatMap_cons, List.length_append, List.length_cons]; omega
theorem S_lit4I {l : SE} {H : SH} {K : Value → SH → Prop} {x y z u : Opd} {z1 z2 z3 z4 : Value} {a b c d : Int} (hx : x.lv l = some (.int .i64 a)) (hy : y.lv l = some (.int .i64 b)) (hz : z.lv l = some (.int .i64 c)) (hu : u.lv l = some (.int .i64 d)) (kk : ∀ w : SV, K w.toV (SL w.toV TI64 [a, b, c, d] :: H)) : Step (.lit 2 1 4 [z1, z2, z3, z4] [(0, (1, x)), (1, (1, y)), (2, (1, z)), (3, (1, u))]) l H K := by
  refine S_lit (vs := [.int .i64 a, .int .i64 b, .int .i64 c, .int .i64 d]) (by simp [lfill, hx, hy, hz, hu, AM.cells, Value.cells, splice]) rfl rfl (fun w => ?_)
  exact kk w
theorem lp_Enc {H : SH} {w21 : SV} {l : List Int} (hv : RD H w21.toV TI64 l) (hr : ∀ x ∈ l, i64r x) (hL : l.length ≤ 1000) : ∀ (m i : Nat) (w : SV), l.length - i = m → i ≤ l.length →
    WC F X (.loop L_manifest_Encode_0) [(23, .int .i64 (i : Int)), (22, .int .i64 (l.length : Int)), (21, w21.toV), (3, w.toV)] (SL w.toV TByte ((l.take i).flatMap put) :: H)
      (KPost fun y l' H' => ∃ w : SV, y = .exit 0 ∧ l' = [(3, w.toV)] ∧ H' = SL w.toV TByte (l.flatMap put) :: H) := by
  intro m
  induction m using Nat.strongRecOn with
  | _ m ih =>
    intro i w hm hi
    have hpl := puts_len (l := l.take i) (fun x hx => hr x (List.mem_of_mem_take hx))
    have htl : (l.take i).length = i := by rw [List.length_take]; omega
    refine WC_loop ?_
    refine WC_seq ?_
    refine WC_region ?_
    refine WO_step rfl (S_pure rfl ?_)
    refine WO_nil ?_
    refine KSeq_n ?_
    refine WC_seq ?_
    refine WC_cond rfl (fun hb1 => ?_) (fun hb1 => ?_)
    ·
      try simp only [decide_eq_true_eq, decide_eq_false_iff_not, Bool.not_eq_true', Bool.not_eq_false', beq_iff_eq, bne_iff_ne, beq_eq_false_iff_ne, Int.ofNat_lt, Int.ofNat_le, Int.ofNat_inj, ne_eq, gt_iff_lt, ge_iff_le] at hb1
      obtain ⟨x, hx⟩ := get_of_lt hb1
      have hxr := hr x (List.mem_of_getElem? hx)
      refine WC_skip ?_
      refine KSeq_n ?_
      refine WC_seq ?_
      refine WC_block ?_
      refine WC_seq ?_
      refine WC_region ?_
      refine WO_step rfl (S_idx rfl rfl (by repeat (first | assumption | exact RD.head | exact RD.nil | apply RD.tail)) (by first | rfl | assumption | (symm; assumption)) (by rfl) (by first | assumption | omega | exact lt_of_get (by assumption) | (simp only [List.length_set]; first | assumption | omega | exact lt_of_get (by assumption))) fun hp25 => ?_)
      refine WO_step rfl (S_loadE rfl (by repeat (first | assumption | exact RD.head | exact RD.nil | apply RD.tail)) (by first | rfl | assumption | (symm; assumption)) (by first | rfl | assumption | (symm; assumption)) (by first | rfl | assumption | (symm; assumption)) (by assumption) ?_)
      refine WO_step rfl (S_pure rfl ?_)
      refine WO_nil ?_
      refine KSeq_n ?_
      refine WC_region ?_
      refine WO_step rfl (S_pure rfl ?_)
      refine WO_step rfl (S_pure rfl ?_)
      refine WO_call rfl rfl rfl ?_
      refine (sp_nPut (n := x) .head hxr.1 hxr.2 (by omega)).mono ?_
      rintro _ _ ⟨w', rfl, rfl⟩
      refine WO_step rfl (S_pure rfl ?_)
      refine WO_nil ?_
      refine KBlock_n ?_
      refine KSeq_n ?_
      refine WC_region ?_
      first | refine WO_step rfl (S_addN (b := 1) rfl rfl (by omega) ?_) | refine WO_step rfl (S_pure rfl ?_)
      refine WO_step rfl (S_pure rfl ?_)
      refine WO_nil ?_
      refine KLoop_n ?_
      rw [show (l.take i).flatMap put ++ put x = (l.take (i + 1)).flatMap put by rw [List.take_add_one, hx]; simp]
      exact WC_weak (ih (l.length - (i + 1)) (by omega) (i + 1) w' rfl (by omega)) (by repeat (first | exact SubE.nil | apply SubE.cons rfl)) (by repeat (first | exact HSub.refl | refine HSub.pick (by repeat (first | exact Pick.head | apply Pick.tail)) ?_ | apply HSub.drop))
    ·
      try simp only [decide_eq_true_eq, decide_eq_false_iff_not, Bool.not_eq_true', Bool.not_eq_false', beq_iff_eq, bne_iff_ne, beq_eq_false_iff_ne, Int.ofNat_lt, Int.ofNat_le, Int.ofNat_inj, ne_eq, gt_iff_lt, ge_iff_le] at hb1
      refine WC_exit ?_
      refine KSeq_x ?_
      refine KLoop_x ?_
      have ei : i = l.length := by omega
      subst ei
      rw [List.take_length]
      exact KPost_i (by repeat (first | exact SubE.nil | apply SubE.cons rfl)) (by repeat (first | exact HSub.refl | refine HSub.pick (by repeat (first | exact Pick.head | apply Pick.tail)) ?_ | apply HSub.drop)) ⟨w, rfl, rfl, rfl⟩
theorem sp_Enc {H : SH} {n f s : Int} {h : SV} {xs : List Int} (hv : RD H h.toV TI64 xs) (hL : xs.length ≤ 100000) : WF F X f_manifest_Encode [mfV n f s h] H (fun r H' => ∃ (b : Bool) (w : SV), (b = true ↔ MayP n f s xs) ∧ (b = false → w = .nil) ∧ r = w.toV ∧ H' = SL w.toV TByte (if b = true then encM n f s xs else []) :: H) := by
  refine WF_addNil (T := TByte) ?_
  refine WF_fn F_manifest_Encode ?_
  refine WC_seq ?_
  refine WC_region ?_
  refine WO_step rfl (S_box rfl (by cases h <;> rfl) fun i1 => ?_)
  refine WO_step rfl (S_pure rfl ?_)
  refine WO_nil ?_
  refine KSeq_n ?_
  refine WC_seq ?_
  refine WC_seq ?_
  refine WC_region ?_
  refine WO_step rfl (S_loadO rfl (by repeat (first | exact Pick.head | apply Pick.tail)) (by rfl) (by rfl) ?_)
  refine WO_call rfl rfl rfl ?_
  refine (sp_May (xs := xs) (by repeat (first | assumption | exact RD.head | exact RD.nil | apply RD.tail)) hL).mono ?_
  rintro _ _ ⟨rfl, b, rfl, hb⟩
  refine WO_step rfl (S_pure rfl ?_)
  refine WO_nil ?_
  refine KSeq_n ?_
  refine WC_cond rfl (fun hb1 => ?_) (fun hb1 => ?_)
  ·
    try simp only [decide_eq_true_eq, decide_eq_false_iff_not, Bool.not_eq_true', Bool.not_eq_false', beq_iff_eq, bne_iff_ne, beq_eq_false_iff_ne, Int.ofNat_lt, Int.ofNat_le, Int.ofNat_inj, ne_eq, gt_iff_lt, ge_iff_le] at hb1
    refine WC_seq ?_
    refine WC_region ?_
    refine WO_step rfl (S_pure rfl ?_)
    refine WO_nil ?_
    refine KSeq_n ?_
    refine WC_ret ?_
    refine KSeq_r ?_
    refine KFn_r (ResL.tmp rfl ResL.nil) ?_
    have hbf : b = false := by simpa using hb1
    refine ⟨SL (SV.toV .nil) TByte [] :: H, (by repeat (first | exact HSub.refl | refine HSub.pick (by repeat (first | exact Pick.head | apply Pick.tail)) ?_ | apply HSub.drop)), b, .nil, hb, fun _ => rfl, rfl, ?_⟩
    rw [if_neg (by rw [hbf]; decide)]
  ·
    try simp only [decide_eq_true_eq, decide_eq_false_iff_not, Bool.not_eq_true', Bool.not_eq_false', beq_iff_eq, bne_iff_ne, beq_eq_false_iff_ne, Int.ofNat_lt, Int.ofNat_le, Int.ofNat_inj, ne_eq, gt_iff_lt, ge_iff_le] at hb1
    have hbt : b = true := by simpa using hb1
    obtain ⟨kf, ks, kx, knd, kl⟩ := may_ok (hb.1 hbt)
    have hnr := (hb.1 hbt)
    refine WC_skip ?_
    refine KSeq_n ?_
    refine WC_seq ?_
    refine WC_region ?_
    refine WO_step rfl (S_pure rfl ?_)
    refine WO_nil ?_
    refine KSeq_n ?_
    refine WC_seq ?_
    refine WC_seq ?_
    refine WC_region ?_
    refine WO_step rfl (S_pure rfl ?_)
    refine WO_step rfl (S_loadO rfl (by repeat (first | exact Pick.head | apply Pick.tail)) (by rfl) (by rfl) ?_)
    refine WO_step rfl (S_pure rfl ?_)
    refine WO_step rfl (S_loadO rfl (by repeat (first | exact Pick.head | apply Pick.tail)) (by rfl) (by rfl) ?_)
    refine WO_step rfl (S_pure rfl ?_)
    refine WO_step rfl (S_loadO rfl (by repeat (first | exact Pick.head | apply Pick.tail)) (by rfl) (by rfl) ?_)
    refine WO_step rfl (S_pure rfl ?_)
    refine WO_step rfl (S_loadO rfl (by repeat (first | exact Pick.head | apply Pick.tail)) (by rfl) (by rfl) ?_)
    first | refine WO_step rfl (S_pure rfl ?_) | refine WO_step rfl (S_lenS rfl (by repeat (first | assumption | exact RD.head | exact RD.nil | apply RD.tail)) ?_)
    refine WO_step rfl (S_lit4I (a := n) (b := f) (c := s) (d := (xs.length : Int)) rfl rfl rfl rfl fun w18 => ?_)
    refine WO_step rfl (S_pure rfl ?_)
    refine WO_step rfl (S_loadO rfl (by repeat (first | exact Pick.head | apply Pick.tail)) (by rfl) (by rfl) ?_)
    refine WO_step rfl (S_app rfl rfl (by repeat (first | exact Pick.head | apply Pick.tail)) (by first | exact SRC.str rfl rfl | (apply RD.src; repeat (first | assumption | exact RD.head | exact RD.nil | apply RD.tail))) (by rfl) (by rfl) (by (try simp only [List.length_append, List.length_cons, List.length_nil]); omega) fun w21 => ?_)
    first | refine WO_step rfl (S_pure rfl ?_) | refine WO_step rfl (S_lenS rfl (by repeat (first | assumption | exact RD.head | exact RD.nil | apply RD.tail)) ?_)
    refine WO_step rfl (S_pure rfl ?_)
    refine WO_nil ?_
    refine KSeq_n ?_
    refine WC_block ?_
    --out x0
    have hrange : ∀ x ∈ numsM n f s xs, i64r x := by
      intro x hx
      obtain ⟨q1, q2, q3, q4, q5, _⟩ := hnr
      unfold okN at kf ks
      unfold numsM at hx
      unfold i64r
      rcases List.mem_append.1 hx with hx | hx
      · simp at hx; rcases hx with rfl | rfl | rfl | rfl <;> omega
      · have := kx x hx; unfold okN at this; omega
    refine WC_post (WC_weak (lp_Enc (H := SL w21.toV TI64 (numsM n f s xs) :: H) (w21 := w21) (l := numsM n f s xs) .head hrange (by unfold numsM; simp; omega) (numsM n f s xs).length 0 .nil (by omega) (by omega)) (by repeat (first | exact SubE.nil | apply SubE.cons rfl)) (by repeat (first | exact HSub.refl | refine HSub.pick (by repeat (first | exact Pick.head | apply Pick.tail)) ?_ | apply HSub.drop))) ?_
    rintro x l' _ ⟨w', rfl, rfl, rfl⟩
    refine KBlock_h ?_
    refine KSeq_n ?_
    refine WC_seq ?_
    refine WC_region ?_
    refine WO_step rfl (S_pure rfl ?_)
    refine WO_step rfl (S_pure rfl ?_)
    refine WO_nil ?_
    refine KSeq_n ?_
    refine WC_ret ?_
    refine KFn_r (ResL.tmp rfl ResL.nil) ?_
    refine ⟨SL w'.toV TByte (encM n f s xs) :: H, (by repeat (first | exact HSub.refl | refine HSub.pick (by repeat (first | exact Pick.head | apply Pick.tail)) ?_ | apply HSub.drop)), b, w', hb, fun h => absurd (hbt.symm.trans h) (by decide), rfl, ?_⟩
    rw [if_pos hbt]
end Go.Proofs.YtmibhdoegcgfmaaDoor.AM
