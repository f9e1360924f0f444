/- Walks: what the functions compute. -/
import Derived.Test.YtaadijbfkbdhoaaOc
namespace Go.Proofs.Ytaadijbfkbdhoaa.AM
open Go
set_option linter.unusedSimpArgs false
set_option linter.unusedVariables false
set_option maxRecDepth 4000

/-! ### The law OrderBad -/
theorem S_storeAF {α : Type} {T : Ty α} {l : SE} {H H0 : SH} {K : Value → SH → Prop} {i o k off n : Nat} {t : TypeId} {a y : Opd} {xs : List α} {v : Value} {x z : α} (ha : a.lv l = some (.pointer (some ⟨i, o, none⟩))) (hy : y.lv l = some v) (hp : Pick (AO i t T xs) H H0) (ho : o = k * T.es + off) (hx : xs[k]? = some x) (hb : off + n ≤ T.es) (hc : (AM.cells v).length = n) (h1 : (AM.cells v).all one = true) (he : T.enc z = splice (T.enc x) off (AM.cells v)) (kk : K undef (AO i t T (xs.set k z) :: H0)) : Step (.store n a y) l H K := by
  subst ho
  have hlt := (List.getElem?_eq_some_iff.1 hx).1
  have hcl := T.cells_len xs
  have hm : k * T.es + T.es ≤ xs.length * T.es := by rw [← Nat.succ_mul]; exact Nat.mul_le_mul_right _ hlt
  have e1 := T.cells_set (xs := xs) (j := k) (x := x) (y := z) hx (off := off) (vs := AM.cells v) he (by rw [hc]; exact hb)
  refine S_storeO ha hy hp hc (by rw [Nat.ble_eq, hcl]; omega) h1 ?_
  rw [e1]; exact kk
theorem wfT_set {ts : List SlT} {k : Nat} {z : SlT} (h : wfT ts) (hz : wfRec z.r) : wfT (ts.set k z) := fun y hy => by
  rcases List.mem_or_eq_of_mem_set hy with hy | rfl
  · exact h y hy
  · exact hz
theorem wrap_range (n : Int) : -9223372036854775808 ≤ IntKind.wrap .i64 n ∧ IntKind.wrap .i64 n < 9223372036854775808 := by
  unfold IntKind.wrap
  simp only [IntKind.bits, IntKind.signed, Bool.true_and, ge_iff_le, decide_eq_true_eq]
  split <;> omega
theorem law_OrderBad {H : SH} {v0 v1 : Value} {l : List Rec} {turn : List Bool} {fr to wh : Int} (hv : RD H v0 TRec l) (hok : ∀ x ∈ l, okRec x) (ht : RD H v1 TBool turn) (_ : ∀ x ∈ turn, True) (hfr : (Lit.int .i64 fr).wf = true) (hto : (Lit.int .i64 to).wf = true) (_ : (Lit.int .i64 wh).wf = true) : WF F X f_loesslaw19_OrderBad [v0, v1, .int .i64 fr, .int .i64 to, .int .i64 wh] H (fun v _ => v = .bool true) := by
  simp [Lit.wf, IntKind.min, IntKind.max, IntKind.bits, IntKind.signed] at hfr hto
  have g0 : GoodT (lay l turn) := lay_good (fun x hx => wf_cut (hok x hx)) turn
  generalize hW : lay l turn = W at g0
  have hl := g0.1
  have hw := g0.2.1
  refine WF_fn F_loesslaw19_OrderBad ?_
  refine WC_seq ?_
  refine WC_region ?_
  refine WO_step rfl (S_pure rfl ?_)
  refine WO_nil ?_
  refine KSeq_n ?_
  refine WC_seq ?_
  refine WC_region ?_
  refine WO_call rfl rfl rfl ?_
  refine sp_begunT.mono ?_
  rintro _ _ ⟨rfl, rfl⟩
  refine WO_step rfl (S_pure rfl ?_)
  refine WO_nil ?_
  refine KSeq_n ?_
  refine WC_seq ?_
  refine WC_seq ?_
  refine WC_region ?_
  refine WO_step rfl (S_pure rfl ?_)
  refine WO_step rfl (S_pure rfl ?_)
  refine WO_nil ?_
  refine KSeq_n ?_
  refine WC_cond rfl (fun hb1 => ?_) (fun hb1 => ?_)
  ·
    try simp only [bsT] at hb1
    exact absurd hb1 (by simp)
    --stop
  ·
    try simp only [bsT] at hb1
    refine WC_skip ?_
    refine KSeq_n ?_
    refine WC_seq ?_
    refine WC_region ?_
    refine WO_step rfl (S_pure rfl ?_)
    refine WO_step rfl (S_pure rfl ?_)
    refine WO_call rfl rfl rfl ?_
    refine (sp_Lay hv ht).mono ?_
    rintro _ _ ⟨rfl, rfl⟩
    rw [hW]
    refine WO_step rfl (S_new fun i12 => ?_)
    refine WO_step rfl (S_storeAll (T := TSlT) (xs := W) rfl rfl pkA (by rfl) (by rw [hl]; rfl) ?_)
    refine WO_nil ?_
    refine KSeq_n ?_
    refine WC_seq ?_
    refine WC_seq ?_
    refine WC_region ?_
    refine WO_step rfl (S_pure rfl ?_)
    refine WO_step rfl (S_pure rfl ?_)
    refine WO_step rfl (S_pure rfl ?_)
    refine WO_cases (t := 25) rfl (fun hg1 => ?_) (fun hg1 => ?_)
    ·
      try simp only [bsT] at hg1
      refine WO_off rfl ?_
      refine WO_off rfl ?_
      refine WO_step rfl (S_pure rfl ?_)
      refine WO_nil ?_
      refine KSeq_n ?_
      refine WC_cond rfl (fun _ => ?_) (fun h => ?_)
      rotate_left
      · exact absurd h (by decide)
      refine WC_seq ?_
      refine WC_region ?_
      refine WO_step rfl (S_pure rfl ?_)
      refine WO_nil ?_
      refine KSeq_n ?_
      refine WC_ret ?_
      refine KSeq_r ?_
      refine KFn_r (ResL.tmp rfl ResL.nil) ?_
      exact ⟨_, HSub.refl, rfl⟩
    ·
      try simp only [bsT] at hg1
      refine WO_step rfl (S_pure rfl ?_)
      refine WO_step rfl (S_pure rfl ?_)
      refine WO_step rfl (S_pure rfl ?_)
      refine WO_nil ?_
      refine KSeq_n ?_
      refine WC_cond rfl (fun hb2 => ?_) (fun hb2 => ?_)
      ·
        try simp only [bsT] at hb2
        refine WC_seq ?_
        refine WC_region ?_
        refine WO_step rfl (S_pure rfl ?_)
        refine WO_nil ?_
        refine KSeq_n ?_
        refine WC_ret ?_
        refine KSeq_r ?_
        refine KFn_r (ResL.tmp rfl ResL.nil) ?_
        exact ⟨_, HSub.refl, rfl⟩
      ·
        try simp only [bsT] at hb2
        obtain ⟨fr, rfl⟩ : ∃ f : Nat, fr = (f : Int) := ⟨fr.toNat, by omega⟩
        obtain ⟨to, rfl⟩ : ∃ f : Nat, to = (f : Int) := ⟨to.toNat, by omega⟩
        obtain ⟨x, hx⟩ := get_of_lt (show fr % 32 < W.length by omega)
        obtain ⟨y, hy⟩ := get_of_lt (show to % 32 < W.length by omega)
        have hwx := hw x (List.mem_of_getElem? hx)
        have hwy := hw y (List.mem_of_getElem? hy)
        refine WC_skip ?_
        refine KSeq_n ?_
        refine WC_seq ?_
        refine WC_region ?_
        refine WO_step rfl (S_pure rfl ?_)
        refine WO_step rfl (S_remU (a := fr) (m := 32) rfl rfl (by omega) ?_)
        refine WO_step rfl (S_pure rfl ?_)
        refine WO_step rfl (S_remU (a := to) (m := 32) rfl rfl (by omega) ?_)
        refine WO_step rfl (S_pure rfl ?_)
        refine WO_step rfl (S_pure rfl ?_)
        refine WO_nil ?_
        refine KSeq_n ?_
        refine WC_seq ?_
        refine WC_post (P := fun x' l' H' => ∃ W' : List SlT, x' = .normal ∧ l' = [(12, .pointer (some ⟨i12, 0, none⟩))] ∧ H' = [AO i12 33 TSlT W'] ∧ W'.length = 32 ∧ wfT W') ?_ ?_
        ·
          refine WC_seq ?_
          refine WC_region ?_
          refine WO_step rfl (S_pure rfl ?_)
          refine WO_step rfl (S_pure rfl ?_)
          refine WO_nil ?_
          refine KSeq_n ?_
          refine WC_block ?_
          refine WC_seq ?_
          refine WC_region ?_
          first | refine WO_step rfl (S_eqS rfl rfl ?_) | refine WO_step rfl (S_pure rfl ?_)
          refine WO_step rfl (S_pure rfl ?_)
          refine WO_nil ?_
          refine KSeq_n ?_
          refine WC_cond rfl (fun hb3 => ?_) (fun hb3 => ?_)
          ·
            try simp only [bsT] at hb3
            refine WC_region ?_
            refine WO_step rfl (S_pure rfl ?_)
            refine WO_step rfl (S_quoN (a := fr % 32) (m := 4) rfl rfl (by omega) (by omega) ?_)
            refine WO_step rfl (S_pure rfl ?_)
            refine WO_step rfl (S_remU (a := fr % 32) (m := 4) rfl rfl (by omega) ?_)
            refine WO_step rfl (S_pure rfl ?_)
            refine WO_step rfl (S_quoN (a := to % 32) (m := 4) rfl rfl (by omega) (by omega) ?_)
            refine WO_step rfl (S_pure rfl ?_)
            refine WO_step rfl (S_remU (a := to % 32) (m := 4) rfl rfl (by omega) ?_)
            refine WO_step rfl (S_pure rfl ?_)
            refine WO_step rfl (S_quoN (a := to % 32) (m := 4) rfl rfl (by omega) (by omega) ?_)
            refine WO_step rfl (S_pure rfl ?_)
            refine WO_step rfl (S_remU (a := to % 32) (m := 4) rfl rfl (by omega) ?_)
            refine WO_step rfl (S_idxA (j := (to % 32) / 4) rfl rfl rfl (by omega) ?_)
            refine WO_step rfl (S_idxA (j := (to % 32) % 4) rfl rfl rfl (by omega) ?_)
            refine WO_step rfl (S_loadA (T := TSlT) (k := to % 32) rfl pkA (by show _ = (to % 32) * 6; omega) hy rfl rfl ?_)
            refine WO_step rfl (S_pure rfl ?_)
            refine WO_step rfl (S_quoN (a := fr % 32) (m := 4) rfl rfl (by omega) (by omega) ?_)
            refine WO_step rfl (S_pure rfl ?_)
            refine WO_step rfl (S_remU (a := fr % 32) (m := 4) rfl rfl (by omega) ?_)
            refine WO_step rfl (S_idxA (j := (fr % 32) / 4) rfl rfl rfl (by omega) ?_)
            refine WO_step rfl (S_idxA (j := (fr % 32) % 4) rfl rfl rfl (by omega) ?_)
            refine WO_step rfl (S_loadA (T := TSlT) (k := fr % 32) rfl pkA (by show _ = (fr % 32) * 6; omega) hx rfl rfl ?_)
            refine WO_step rfl (S_idxA (j := (fr % 32) / 4) rfl rfl rfl (by omega) ?_)
            refine WO_step rfl (S_idxA (j := (fr % 32) % 4) rfl rfl rfl (by omega) ?_)
            refine WO_step rfl (S_storeA (T := TSlT) (k := fr % 32) (x := y) rfl rfl pkA (by show _ = (fr % 32) * 6; omega) (by omega) (by rfl) rfl ?_)
            refine WO_step rfl (S_idxA (j := (to % 32) / 4) rfl rfl rfl (by omega) ?_)
            refine WO_step rfl (S_idxA (j := (to % 32) % 4) rfl rfl rfl (by omega) ?_)
            refine WO_step rfl (S_storeA (T := TSlT) (k := to % 32) (x := x) rfl rfl pkA (by show _ = (to % 32) * 6; omega) (by rw [List.length_set]; omega) (by rfl) rfl ?_)
            refine WO_nil ?_
            refine KBlock_n ?_
            exact KPost_i seA (by first | exact HSub.pick .head HSub.nil | exact HSub.pick (.tail .head) HSub.nil) ⟨_, rfl, rfl, rfl, by rw [List.length_set, List.length_set]; exact hl, wfT_set (wfT_set hw hwy) hwx⟩
          ·
            try simp only [bsT] at hb3
            refine WC_seq ?_
            refine WC_region ?_
            first | refine WO_step rfl (S_eqS rfl rfl ?_) | refine WO_step rfl (S_pure rfl ?_)
            refine WO_step rfl (S_pure rfl ?_)
            refine WO_nil ?_
            refine KSeq_n ?_
            refine WC_cond rfl (fun hb4 => ?_) (fun hb4 => ?_)
            ·
              try simp only [bsT] at hb4
              refine WC_region ?_
              refine WO_step rfl (S_pure rfl ?_)
              refine WO_step rfl (S_quoN (a := to % 32) (m := 4) rfl rfl (by omega) (by omega) ?_)
              refine WO_step rfl (S_pure rfl ?_)
              refine WO_step rfl (S_remU (a := to % 32) (m := 4) rfl rfl (by omega) ?_)
              refine WO_step rfl (S_pure rfl ?_)
              refine WO_step rfl (S_quoN (a := fr % 32) (m := 4) rfl rfl (by omega) (by omega) ?_)
              refine WO_step rfl (S_pure rfl ?_)
              refine WO_step rfl (S_remU (a := fr % 32) (m := 4) rfl rfl (by omega) ?_)
              refine WO_step rfl (S_idxA (j := (fr % 32) / 4) rfl rfl rfl (by omega) ?_)
              refine WO_step rfl (S_idxA (j := (fr % 32) % 4) rfl rfl rfl (by omega) ?_)
              refine WO_step rfl (S_loadA (T := TSlT) (k := fr % 32) rfl pkA (by show _ = (fr % 32) * 6; omega) hx rfl rfl ?_)
              refine WO_step rfl (S_idxA (j := (to % 32) / 4) rfl rfl rfl (by omega) ?_)
              refine WO_step rfl (S_idxA (j := (to % 32) % 4) rfl rfl rfl (by omega) ?_)
              refine WO_step rfl (S_storeA (T := TSlT) (k := to % 32) (x := x) rfl rfl pkA (by show _ = (to % 32) * 6; omega) (by omega) (by rfl) rfl ?_)
              refine WO_nil ?_
              refine KBlock_n ?_
              exact KPost_i seA (by first | exact HSub.pick .head HSub.nil | exact HSub.pick (.tail .head) HSub.nil) ⟨_, rfl, rfl, rfl, by rw [List.length_set]; exact hl, wfT_set hw hwx⟩
            ·
              try simp only [bsT] at hb4
              refine WC_seq ?_
              refine WC_region ?_
              first | refine WO_step rfl (S_eqS rfl rfl ?_) | refine WO_step rfl (S_pure rfl ?_)
              refine WO_step rfl (S_pure rfl ?_)
              refine WO_nil ?_
              refine KSeq_n ?_
              refine WC_cond rfl (fun hb5 => ?_) (fun hb5 => ?_)
              ·
                try simp only [bsT] at hb5
                refine WC_region ?_
                refine WO_step rfl (S_pure rfl ?_)
                refine WO_step rfl (S_quoN (a := fr % 32) (m := 4) rfl rfl (by omega) (by omega) ?_)
                refine WO_step rfl (S_pure rfl ?_)
                refine WO_step rfl (S_remU (a := fr % 32) (m := 4) rfl rfl (by omega) ?_)
                refine WO_step rfl (S_pure rfl ?_)
                refine WO_step rfl (S_quoN (a := fr % 32) (m := 4) rfl rfl (by omega) (by omega) ?_)
                refine WO_step rfl (S_pure rfl ?_)
                refine WO_step rfl (S_remU (a := fr % 32) (m := 4) rfl rfl (by omega) ?_)
                refine WO_step rfl (S_idxA (j := (fr % 32) / 4) rfl rfl rfl (by omega) ?_)
                refine WO_step rfl (S_idxA (j := (fr % 32) % 4) rfl rfl rfl (by omega) ?_)
                refine WO_step rfl (S_pure rfl ?_)
                refine WO_step rfl (S_loadAF (T := TSlT) (k := fr % 32) (off := 0) (v := .bool x.has) rfl pkA (by show _ = (fr % 32) * 6 + 0; omega) hx (by show 0 + 1 ≤ 6; omega) (by rfl) ?_)
                refine WO_step rfl (S_pure rfl ?_)
                refine WO_step rfl (S_idxA (j := (fr % 32) / 4) rfl rfl rfl (by omega) ?_)
                refine WO_step rfl (S_idxA (j := (fr % 32) % 4) rfl rfl rfl (by omega) ?_)
                refine WO_step rfl (S_pure rfl ?_)
                refine WO_step rfl (S_storeAF (T := TSlT) (k := fr % 32) (off := 0) (z := ⟨!x.has, x.r⟩) rfl rfl pkA (by show _ = (fr % 32) * 6 + 0; omega) hx (by show 0 + 1 ≤ 6; omega) (by rfl) (by rfl) (by rfl) ?_)
                refine WO_nil ?_
                refine KBlock_n ?_
                exact KPost_i seA (by first | exact HSub.pick .head HSub.nil | exact HSub.pick (.tail .head) HSub.nil) ⟨W.set (fr % 32) ⟨!x.has, x.r⟩, rfl, rfl, rfl, by rw [List.length_set]; exact hl, wfT_set (z := ⟨!x.has, x.r⟩) hw hwx⟩
              ·
                try simp only [bsT] at hb5
                refine WC_region ?_
                refine WO_step rfl (S_pure rfl ?_)
                refine WO_step rfl (S_quoN (a := fr % 32) (m := 4) rfl rfl (by omega) (by omega) ?_)
                refine WO_step rfl (S_pure rfl ?_)
                refine WO_step rfl (S_remU (a := fr % 32) (m := 4) rfl rfl (by omega) ?_)
                refine WO_step rfl (S_idxA (j := (fr % 32) / 4) rfl rfl rfl (by omega) ?_)
                refine WO_step rfl (S_idxA (j := (fr % 32) % 4) rfl rfl rfl (by omega) ?_)
                refine WO_step rfl (S_pure rfl ?_)
                refine WO_step rfl (S_pure rfl ?_)
                refine WO_step rfl (S_pure rfl ?_)
                refine WO_step rfl (S_loadAF (T := TSlT) (k := fr % 32) (off := 4) (v := .int .i64 x.r.val.n) rfl pkA (by show _ = (fr % 32) * 6 + 4; omega) hx (by show 4 + 1 ≤ 6; omega) (by rfl) ?_)
                refine WO_step rfl (S_pure rfl ?_)
                refine WO_step rfl (S_idxA (j := (fr % 32) / 4) rfl rfl rfl (by omega) ?_)
                refine WO_step rfl (S_idxA (j := (fr % 32) % 4) rfl rfl rfl (by omega) ?_)
                refine WO_step rfl (S_pure rfl ?_)
                refine WO_step rfl (S_pure rfl ?_)
                refine WO_step rfl (S_pure rfl ?_)
                refine WO_step rfl (S_storeAF (T := TSlT) (k := fr % 32) (off := 4) (z := ⟨x.has, ⟨x.r.key, x.r.gone, ⟨x.r.val.kind, IntKind.wrap .i64 (x.r.val.n + 1), x.r.val.s⟩⟩⟩) rfl rfl pkA (by show _ = (fr % 32) * 6 + 4; omega) hx (by show 4 + 1 ≤ 6; omega) (by rfl) (by rfl) (by rfl) ?_)
                refine WO_nil ?_
                refine KBlock_n ?_
                exact KPost_i seA (by first | exact HSub.pick .head HSub.nil | exact HSub.pick (.tail .head) HSub.nil) ⟨W.set (fr % 32) ⟨x.has, ⟨x.r.key, x.r.gone, ⟨x.r.val.kind, IntKind.wrap .i64 (x.r.val.n + 1), x.r.val.s⟩⟩⟩, rfl, rfl, rfl, by rw [List.length_set]; exact hl, wfT_set (z := ⟨x.has, ⟨x.r.key, x.r.gone, ⟨x.r.val.kind, IntKind.wrap .i64 (x.r.val.n + 1), x.r.val.s⟩⟩⟩) hw ⟨hwx.1, wrap_range _, hwx.2.2.1, hwx.2.2.2⟩⟩
        ·
          rintro x' l' H' ⟨W', rfl, rfl, rfl, hl', hw'⟩
          refine KSeq_n ?_
          refine WC_seq ?_
          refine WC_region ?_
          refine WO_step rfl (S_loadAll (T := TSlT) (xs := W') rfl pkA (by rw [hl']; rfl) ?_)
          refine WO_call rfl rfl rfl ?_
          refine (sp_rMayT hl' hw'.small).mono ?_
          rintro _ _ ⟨rfl, rfl⟩
          refine WO_step rfl (S_pure rfl ?_)
          refine WO_nil ?_
          refine KSeq_n ?_
          refine WC_seq ?_
          refine WC_region ?_
          refine WO_step rfl (S_loadAll (T := TSlT) (xs := W') rfl pkA (by rw [hl']; rfl) ?_)
          refine WO_call rfl rfl rfl ?_
          refine (sp_OfT hl').mono ?_
          rintro _ _ ⟨rfl, rfl⟩
          refine WO_call rfl rfl rfl ?_
          refine (sp_oEnc hl' hw').mono ?_
          rintro _ _ ⟨w116, rfl, _, rfl⟩
          refine WO_step rfl (S_pure rfl ?_)
          refine WO_nil ?_
          refine KSeq_n ?_
          refine WC_seq ?_
          refine WC_drawn ?_
          refine WD_step rfl (S_loadAll (T := TSlT) (xs := W') rfl pkA (by rw [hl']; rfl) ?_)
          refine WD_call rfl rfl rfl ?_
          refine (sp_OfT hl').mono ?_
          rintro _ _ ⟨rfl, rfl⟩
          refine WD_call rfl rfl rfl ?_
          refine (sp_oMay hl' hw'.small).mono ?_
          rintro _ _ ⟨rfl, rfl⟩
          refine WD_step rfl (S_pure rfl ?_)
          refine WD_step rfl (S_pure rfl ?_)
          refine WD_step rfl (S_pure rfl ?_)
          refine WD_cases (t := 122) rfl (fun hg2 => ?_) (fun hg2 => ?_)
          ·
            try simp only [bsT] at hg2
            refine WD_step rfl (S_pure rfl ?_)
            first | refine WD_step rfl (S_pure rfl ?_) | refine WD_step rfl (S_lenS rfl rdA ?_)
            refine WD_step rfl (S_pure rfl ?_)
            refine WD_step rfl (S_pure rfl ?_)
            refine WD_step rfl (S_pure rfl ?_)
            refine WD_step rfl (S_pure rfl ?_)
            refine WD_step rfl (S_pure rfl ?_)
            refine WD_cases (t := 129) rfl (fun hg3 => ?_) (fun hg3 => ?_)
            ·
              try simp only [bsT] at hg3
              refine WD_step rfl (S_pure rfl ?_)
              refine WD_step rfl (S_strOf rfl rdA (by rfl) (by rfl) ?_)
              refine WD_step rfl (S_loadAll (T := TSlT) (xs := W') rfl pkA (by rw [hl']; rfl) ?_)
              refine WD_call rfl rfl rfl ?_
              refine (sp_TB hl' hw').mono ?_
              rintro _ _ ⟨w133, rfl, _, rfl⟩
              refine WD_step rfl (S_strOf rfl rdA (by rfl) (by rfl) ?_)
              first | refine WD_step rfl (S_eqS rfl rfl ?_) | refine WD_step rfl (S_pure rfl ?_)
              refine WD_step rfl (S_pure rfl ?_)
              refine WD_step rfl (S_pure rfl ?_)
              refine WD_nil ?_
              refine ⟨?_, ?_⟩
              ·
                repeat' (first | exact trivial | apply And.intro)
                all_goals first
                  | exact ObR.off rfl
                  | exact ObR.of_step rfl (S_strOf rfl rdA (by rfl) (by rfl) (by simp [eqV, eqV0]))
                  | exact ObR.of_step rfl (S_loadAll (T := TSlT) (xs := W') rfl pkA (by rw [hl']; rfl) (eqV_tab _))
              ·
                refine KSeq_n ?_
                refine WC_ret ?_
                refine KFn_r (ResL.tmp rfl ResL.nil) ?_
                exact ⟨_, HSub.refl, by simp [resV]⟩
            ·
              try simp only [bsT] at hg3
              refine WD_off rfl ?_
              refine WD_off rfl ?_
              refine WD_off rfl ?_
              refine WD_off rfl ?_
              refine WD_off rfl ?_
              refine WD_off rfl ?_
              refine WD_step rfl (S_pure rfl ?_)
              refine WD_step rfl (S_pure rfl ?_)
              refine WD_nil ?_
              refine ⟨?_, ?_⟩
              ·
                repeat' (first | exact trivial | apply And.intro)
                all_goals first
                  | exact ObR.off rfl
                  | exact ObR.of_step rfl (S_strOf rfl rdA (by rfl) (by rfl) (by simp [eqV, eqV0]))
                  | exact ObR.of_step rfl (S_loadAll (T := TSlT) (xs := W') rfl pkA (by rw [hl']; rfl) (eqV_tab _))
              ·
                refine KSeq_n ?_
                refine WC_ret ?_
                refine KFn_r (ResL.tmp rfl ResL.nil) ?_
                exfalso
                revert hg3
                cases hmm : mayTab W' with
                | false => simp
                | true =>
                  have := encT_len hl' hw' hmm
                  have h2 : 0 < (encT W').length := by omega
                  simp [h2]
          ·
            try simp only [bsT] at hg2
            refine WD_off rfl ?_
            refine WD_off rfl ?_
            refine WD_off rfl ?_
            refine WD_off rfl ?_
            refine WD_off rfl ?_
            refine WD_step rfl (S_pure rfl ?_)
            refine WD_step rfl (S_pure rfl ?_)
            refine WD_off rfl ?_
            refine WD_off rfl ?_
            refine WD_off rfl ?_
            refine WD_off rfl ?_
            refine WD_off rfl ?_
            refine WD_off rfl ?_
            refine WD_step rfl (S_pure rfl ?_)
            refine WD_step rfl (S_pure rfl ?_)
            refine WD_nil ?_
            refine ⟨?_, ?_⟩
            ·
              repeat' (first | exact trivial | apply And.intro)
              all_goals first
                | exact ObR.off rfl
                | exact ObR.of_step rfl (S_strOf rfl rdA (by rfl) (by rfl) (by simp [eqV, eqV0]))
                | exact ObR.of_step rfl (S_loadAll (T := TSlT) (xs := W') rfl pkA (by rw [hl']; rfl) (eqV_tab _))
            ·
              refine KSeq_n ?_
              refine WC_ret ?_
              refine KFn_r (ResL.tmp rfl ResL.nil) ?_
              exact absurd hg2 (by simp)

end Go.Proofs.Ytaadijbfkbdhoaa.AM
