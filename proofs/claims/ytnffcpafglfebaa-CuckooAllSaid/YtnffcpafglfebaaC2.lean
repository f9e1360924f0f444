/- Walks: what the functions compute. -/
import Derived.Test.YtnffcpafglfebaaC1
namespace Go.Proofs.Ytnffcpafglfebaa.AM
open Go
set_option linter.unusedSimpArgs false
set_option linter.unusedVariables false
set_option maxRecDepth 4000

theorem lp_ins {H : SH} {es : List Ent} {h i im n : Nat} {id : Int} {mp : MpS} (c : Chain es h mp) : ∀ (p : Nat) (es' : List Ent) (b s : Nat), JInv es h mp es' p b s →
    WC F X (.loop L_cuckoo_Dir_Insert_0) [(7, .int .i64 (b : Int)), (8, .map (some im)), (9, .int .i64 (s : Int)), (0, .pointer (some ⟨i, 0, none⟩)), (1, .int .u64 (h : Int)), (2, .int .i64 id)] (MPS im mp :: DO i es' n :: H)
      (KPost fun x l' H' => ∃ (es2 : List Ent) (b2 s2 p2 : Nat) (st : Stp), x = .exit 0 ∧ l' = [(7, .int .i64 (b2 : Int)), (9, .int .i64 (s2 : Int)), (0, .pointer (some ⟨i, 0, none⟩)), (1, .int .u64 (h : Int)), (2, .int .i64 id)] ∧ H' = DO i es2 n :: H ∧ JInv es h mp es2 p2 b2 s2 ∧ mp[p2]? = some (b2, st) ∧ st.b < 0) := by
  intro p
  induction p using Nat.strongRecOn with
  | _ p ih =>
    intro es' b s hj
    obtain ⟨⟨sb, ss⟩, hst⟩ := hj.pos
    have hlk := look_at c.nd hst
    have hb8 := c.key_lt hst
    have hs4 := hj.s4
    have hg := hj.good
    refine WC_loop ?_
    refine WC_seq ?_
    refine WC_seq ?_
    refine WC_region ?_
    refine WO_step rfl (S_pure rfl ?_)
    refine WO_step rfl (S_pure rfl ?_)
    refine WO_step rfl (S_lookS rfl rfl (by repeat (first | exact Pick.head | apply Pick.tail)) hlk ?_)
    refine WO_step rfl (S_pure rfl ?_)
    refine WO_step rfl (S_pure rfl ?_)
    refine WO_nil ?_
    refine KSeq_n ?_
    refine WC_cond rfl (fun hb1 => ?_) (fun hb1 => ?_)
    ·
      try simp only [decide_eq_true_eq, decide_eq_false_iff_not, Bool.not_eq_true', Bool.not_eq_false', beq_iff_eq, bne_iff_ne, beq_eq_false_iff_ne, Int.ofNat_lt, Int.ofNat_le, Int.ofNat_inj, ne_eq, gt_iff_lt, ge_iff_le] at hb1
      obtain ⟨b2, s2, e1⟩ : ∃ b2 s2 : Nat, (⟨sb, ss⟩ : Stp) = ⟨(b2 : Int), (s2 : Int)⟩ := by
        rcases c.chain p b _ hst with ⟨h1, _⟩ | ⟨b', s', h1, _⟩
        · simp only at h1; omega
        · exact ⟨b', s', h1⟩
      simp only [Stp.mk.injEq] at e1
      obtain ⟨rfl, rfl⟩ := e1
      obtain ⟨hb2, hs2, q, hq, hj2⟩ := hj.step c hst
      refine WC_skip ?_
      refine KSeq_n ?_
      refine WC_block ?_
      refine WC_seq ?_
      refine WC_region ?_
      refine WO_step rfl (S_pure rfl ?_)
      refine WO_step rfl (S_pure rfl ?_)
      refine WO_step rfl (S_lookS rfl rfl (by repeat (first | exact Pick.head | apply Pick.tail)) hlk ?_)
      refine WO_step rfl (S_newT TStp ⟨0, 0⟩ rfl rfl fun i10 => ?_)
      refine WO_step rfl (S_storeO rfl rfl (by repeat (first | exact Pick.head | apply Pick.tail)) (by first | rfl | exact SV.cells1 _) (by rfl) (by first | rfl | exact SV.ones _) ?_)
      refine WO_nil ?_
      refine KSeq_n ?_
      refine WC_seq ?_
      refine WC_region ?_
      refine WO_step rfl (S_pure rfl ?_)
      refine WO_step rfl (S_pure rfl ?_)
      refine WO_step rfl (S_pure rfl ?_)
      refine WO_step rfl (S_pure rfl ?_)
      refine WO_step rfl (S_pure rfl ?_)
      refine WO_step rfl (S_loadO rfl (by repeat (first | exact Pick.head | apply Pick.tail)) (by rfl) (by rfl) ?_)
      refine WO_step rfl (S_pure rfl ?_)
      refine WO_step rfl (S_loadO rfl (by repeat (first | exact Pick.head | apply Pick.tail)) (by rfl) (by rfl) ?_)
      refine WO_step rfl (S_pure rfl ?_)
      refine WO_step rfl (S_pure rfl ?_)
      refine WO_step rfl (S_idxA rfl rfl rfl hb2 ?_)
      refine WO_step rfl (S_idxA rfl rfl rfl hs2 ?_)
      refine WO_step rfl (S_loadEnt (k := b2 * 4 + s2) hg.len rfl (by repeat (first | exact Pick.head | apply Pick.tail)) (by omega) (by omega) ?_)
      refine WO_step rfl (S_pure rfl ?_)
      refine WO_step rfl (S_pure rfl ?_)
      refine WO_step rfl (S_idxA rfl rfl rfl hb8 ?_)
      refine WO_step rfl (S_idxA rfl rfl rfl hs4 ?_)
      refine WO_step rfl (S_storeEnt (k := b * 4 + s) hg.len rfl rfl (by repeat (first | exact Pick.head | apply Pick.tail)) (by omega) (by omega) ?_)
      refine WO_nil ?_
      refine KSeq_n ?_
      refine WC_region ?_
      refine WO_step rfl (S_pure rfl ?_)
      refine WO_step rfl (S_loadO rfl (by repeat (first | exact Pick.head | apply Pick.tail)) (by rfl) (by rfl) ?_)
      refine WO_step rfl (S_pure rfl ?_)
      refine WO_step rfl (S_loadO rfl (by repeat (first | exact Pick.head | apply Pick.tail)) (by rfl) (by rfl) ?_)
      refine WO_step rfl (S_pure rfl ?_)
      refine WO_step rfl (S_pure rfl ?_)
      refine WO_nil ?_
      refine KBlock_n ?_
      refine KLoop_n ?_
      exact WC_weak (ih q hq _ b2 s2 hj2) (by repeat (first | exact SubE.nil | apply SubE.cons rfl)) (by repeat (first | exact HSub.refl | refine HSub.pick (by repeat (first | exact Pick.head | apply Pick.tail)) ?_ | apply HSub.drop))
    ·
      try simp only [decide_eq_true_eq, decide_eq_false_iff_not, Bool.not_eq_true', Bool.not_eq_false', beq_iff_eq, bne_iff_ne, beq_eq_false_iff_ne, Int.ofNat_lt, Int.ofNat_le, Int.ofNat_inj, ne_eq, gt_iff_lt, ge_iff_le] at hb1
      refine WC_exit ?_
      refine KSeq_x ?_
      refine KLoop_x ?_
      exact KPost_i (by repeat (first | exact SubE.nil | apply SubE.cons rfl)) (by repeat (first | exact HSub.refl | refine HSub.pick (by repeat (first | exact Pick.head | apply Pick.tail)) ?_ | apply HSub.drop)) ⟨es', b, s, p, ⟨sb, ss⟩, rfl, rfl, rfl, hj, hst, by simpa using hb1⟩
theorem sp_ins {H H0 : SH} {es : List Ent} {h i n : Nat} {id : Int} (g : Good es) (hp : Pick (DO i es n) H H0) (hh : h < 18446744073709551616) (hn : n < 1000000) : WF F X f_cuckoo_Dir_Insert [.pointer (some ⟨i, 0, none⟩), .int .u64 (h : Int), .int .i64 id] H (fun r H' => ∃ (es' : List Ent) (n' : Nat) (ok : Bool), r = .bool ok ∧ H' = DO i es' n' :: H0 ∧ Good es' ∧
    (ok = true → n' = n + 1 ∧ (0 ≤ id ∧ id ≤ 1099511627776) ∧ InsOk es h id es') ∧ (ok = false → es' = es ∧ n' = n ∧ ((0 ≤ id ∧ id ≤ 1099511627776) → NoWay es h))) := by
  refine WF_fn F_cuckoo_Dir_Insert ?_
  refine WC_seq ?_
  refine WC_region ?_
  refine WO_step rfl (S_pure rfl ?_)
  refine WO_nil ?_
  refine KSeq_n ?_
  refine WC_seq ?_
  refine WC_seq ?_
  refine WC_region ?_
  refine WO_step rfl (S_pure rfl ?_)
  refine WO_step rfl (S_pure rfl ?_)
  refine WO_step rfl (S_pure rfl ?_)
  refine WO_cases (t := 13) rfl (fun hg1 => ?_) (fun hg1 => ?_)
  ·
    try simp only [decide_eq_true_eq, decide_eq_false_iff_not, Bool.not_eq_true', Bool.not_eq_false', beq_iff_eq, bne_iff_ne, beq_eq_false_iff_ne, Int.ofNat_lt, Int.ofNat_le, Int.ofNat_inj, ne_eq, gt_iff_lt, ge_iff_le] at hg1
    exact absurd hg1 (by simp)
    --stop
  ·
    try simp only [decide_eq_true_eq, decide_eq_false_iff_not, Bool.not_eq_true', Bool.not_eq_false', beq_iff_eq, bne_iff_ne, beq_eq_false_iff_ne, Int.ofNat_lt, Int.ofNat_le, Int.ofNat_inj, ne_eq, gt_iff_lt, ge_iff_le] at hg1
    refine WO_step rfl (S_pure rfl ?_)
    refine WO_call rfl rfl rfl ?_
    refine sp_may.mono ?_
    rintro _ _ ⟨rfl, rfl⟩
    refine WO_step rfl (S_pure rfl ?_)
    refine WO_step rfl (S_pure rfl ?_)
    refine WO_nil ?_
    refine KSeq_n ?_
    refine WC_cond rfl (fun hb1 => ?_) (fun hb1 => ?_)
    ·
      try simp only [decide_eq_true_eq, decide_eq_false_iff_not, Bool.not_eq_true', Bool.not_eq_false', beq_iff_eq, bne_iff_ne, beq_eq_false_iff_ne, Int.ofNat_lt, Int.ofNat_le, Int.ofNat_inj, ne_eq, gt_iff_lt, ge_iff_le] at hb1
      refine WC_seq ?_
      refine WC_region ?_
      refine WO_step rfl (S_pure rfl ?_)
      refine WO_nil ?_
      refine KSeq_n ?_
      refine WC_ret ?_
      refine KSeq_r ?_
      refine KFn_r (ResL.tmp rfl ResL.nil) ?_
      exact ⟨_, hp.sub, es, n, false, rfl, rfl, g, fun h => (by cases h), fun _ => ⟨rfl, rfl, fun hm => absurd hm hb1⟩⟩
    ·
      try simp only [decide_eq_true_eq, decide_eq_false_iff_not, Bool.not_eq_true', Bool.not_eq_false', beq_iff_eq, bne_iff_ne, beq_eq_false_iff_ne, Int.ofNat_lt, Int.ofNat_le, Int.ofNat_inj, ne_eq, gt_iff_lt, ge_iff_le] at hb1
      refine WC_skip ?_
      refine KSeq_n ?_
      refine WC_seq ?_
      refine WC_region ?_
      refine WO_step rfl (S_pure rfl ?_)
      refine WO_step rfl (S_pure rfl ?_)
      refine WO_call rfl rfl rfl ?_
      refine (sp_way g hp hh).mono ?_
      rintro _ _ ⟨bI, mv, R, rfl, rfl, hge, hlt⟩
      refine WO_step rfl (S_pure rfl ?_)
      refine WO_step rfl (S_pure rfl ?_)
      refine WO_step rfl (S_pure rfl ?_)
      refine WO_step rfl (S_pure rfl ?_)
      refine WO_step rfl (S_pure rfl ?_)
      refine WO_nil ?_
      refine KSeq_n ?_
      refine WC_seq ?_
      refine WC_seq ?_
      refine WC_region ?_
      refine WO_step rfl (S_pure rfl ?_)
      refine WO_step rfl (S_pure rfl ?_)
      refine WO_nil ?_
      refine KSeq_n ?_
      refine WC_cond rfl (fun hb2 => ?_) (fun hb2 => ?_)
      ·
        try simp only [decide_eq_true_eq, decide_eq_false_iff_not, Bool.not_eq_true', Bool.not_eq_false', beq_iff_eq, bne_iff_ne, beq_eq_false_iff_ne, Int.ofNat_lt, Int.ofNat_le, Int.ofNat_inj, ne_eq, gt_iff_lt, ge_iff_le] at hb2
        refine WC_seq ?_
        refine WC_region ?_
        refine WO_step rfl (S_pure rfl ?_)
        refine WO_nil ?_
        refine KSeq_n ?_
        refine WC_ret ?_
        refine KSeq_r ?_
        refine KFn_r (ResL.tmp rfl ResL.nil) ?_
        exact ⟨_, (HSub.app (L := R)).trans hp.sub, es, n, false, rfl, rfl, g, fun h => (by cases h), fun _ => ⟨rfl, rfl, fun _ => hlt hb2⟩⟩
      ·
        try simp only [decide_eq_true_eq, decide_eq_false_iff_not, Bool.not_eq_true', Bool.not_eq_false', beq_iff_eq, bne_iff_ne, beq_eq_false_iff_ne, Int.ofNat_lt, Int.ofNat_le, Int.ofNat_inj, ne_eq, gt_iff_lt, ge_iff_le] at hb2
        obtain ⟨b, im, mp, rfl, hb8, rfl, rfl, hch, hbk, hfr⟩ := hge (by omega)
        obtain ⟨s, hs, hs4, hfree⟩ := frI_ge g.len hb8 hfr
        refine WC_skip ?_
        refine KSeq_n ?_
        refine WC_seq ?_
        refine WC_region ?_
        refine WO_step rfl (S_pure rfl ?_)
        refine WO_step rfl (S_pure rfl ?_)
        refine WO_call rfl rfl rfl ?_
        refine (sp_free g.len (.tail hp) hb8).mono ?_
        rintro _ _ ⟨rfl, rfl⟩
        rw [hs]
        obtain ⟨x0, hx0, hxe⟩ := List.mem_map.1 hbk
        obtain ⟨xk, xst⟩ := x0
        simp only at hxe
        subst hxe
        obtain ⟨p0, hp0⟩ := List.getElem?_of_mem hx0
        refine WO_step rfl (S_pure rfl ?_)
        refine WO_nil ?_
        refine KSeq_n ?_
        refine WC_seq ?_
        refine WC_block ?_
        --out x0
        refine WC_post (WC_weak (lp_ins (H := H0) (n := n) (i := i) (id := id) (im := im) hch p0 es xk s (JInv.init g hp0 hb8 hs4 hfree)) (by repeat (first | exact SubE.nil | apply SubE.cons rfl)) (HSub.pick .head (HSub.pick hp HSub.refl))) ?_
        rintro x l' H' ⟨es2, b2, s2, p2, st, rfl, rfl, rfl, hj2, hp2, hneg⟩
        obtain ⟨hgood, hins⟩ := hj2.done (id := id) hch hp2 hneg
        have hb2 := hch.key_lt hp2
        have hs2 := hj2.s4
        have hg2 := hj2.good
        have hlen : (es2.set (b2 * 4 + s2) ⟨true, id, tagOf h⟩).length = 32 := by rw [List.length_set]; exact hg2.len
        refine KBlock_h ?_
        refine KSeq_n ?_
        refine WC_seq ?_
        refine WC_region ?_
        refine WO_step rfl (S_pure rfl ?_)
        refine WO_step rfl (S_pure rfl ?_)
        refine WO_step rfl (S_pure rfl ?_)
        refine WO_step rfl (S_pure rfl ?_)
        refine WO_step rfl (S_pure rfl ?_)
        refine WO_call rfl rfl rfl ?_
        refine (sp_hTag (by omega)).mono ?_
        rintro _ _ ⟨rfl, rfl⟩
        refine WO_step rfl (S_pure rfl ?_)
        refine WO_step rfl (S_pure rfl ?_)
        refine WO_step rfl (S_pure rfl ?_)
        refine WO_step rfl (S_idxA rfl rfl rfl hb2 ?_)
        refine WO_step rfl (S_idxA rfl rfl rfl hs2 ?_)
        refine WO_step rfl (S_storeEnt (k := b2 * 4 + s2) (e := ⟨true, id, tagOf h⟩) hg2.len rfl rfl (by repeat (first | exact Pick.head | apply Pick.tail)) (by omega) (by omega) ?_)
        refine WO_nil ?_
        refine KSeq_n ?_
        refine WC_seq ?_
        refine WC_region ?_
        refine WO_step rfl (S_pure rfl ?_)
        refine WO_step rfl (S_pure rfl ?_)
        refine WO_step rfl (S_pure rfl ?_)
        refine WO_step rfl (S_loadN hlen rfl (by repeat (first | exact Pick.head | apply Pick.tail)) ?_)
        first | refine WO_step rfl (S_addN (b := 1) rfl rfl (by omega) ?_) | refine WO_step rfl (S_pure rfl ?_)
        refine WO_step rfl (S_pure rfl ?_)
        refine WO_step rfl (S_pure rfl ?_)
        refine WO_step rfl (S_storeN hlen rfl rfl (by repeat (first | exact Pick.head | apply Pick.tail)) ?_)
        refine WO_nil ?_
        refine KSeq_n ?_
        refine WC_seq ?_
        refine WC_region ?_
        refine WO_step rfl (S_pure rfl ?_)
        refine WO_nil ?_
        refine KSeq_n ?_
        refine WC_ret ?_
        refine KFn_r (ResL.tmp rfl ResL.nil) ?_
        exact ⟨_, HSub.refl, _, n + 1, true, rfl, rfl, hgood, fun _ => ⟨rfl, by simpa using hb1, hins⟩, fun h => (by cases h)⟩
end Go.Proofs.Ytnffcpafglfebaa.AM
