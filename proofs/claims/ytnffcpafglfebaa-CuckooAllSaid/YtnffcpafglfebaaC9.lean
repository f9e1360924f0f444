/- Walks: what the functions compute. -/
import Derived.Test.YtnffcpafglfebaaC8
namespace Go.Proofs.Ytnffcpafglfebaa.AM
open Go
set_option linter.unusedSimpArgs false
set_option linter.unusedVariables false
set_option maxRecDepth 4000

/-! ### Set -/
def SetTr (old id : Int) (es : List Ent) (st : Bool) (k : Nat) (es1 : List Ent) (st1 : Bool) (ok : Bool) : Prop :=
  ((at' es k).id = old ∧ (0 ≤ id ∧ id ≤ 1099511627776) ∧ es1 = es.set k ⟨(at' es k).has, id, (at' es k).tag⟩ ∧ st1 = true ∧ ok = false) ∨ (¬((at' es k).id = old ∧ (0 ≤ id ∧ id ≤ 1099511627776)) ∧ es1 = es ∧ st1 = st ∧ ok = !st)
theorem set_each {h : Nat} {old id : Int} : ∀ {ks : List Nat} {es es' : List Ent} {b : Bool}, eachR (SetTr old id) h ks es false es' b → (b = true ∧ (0 ≤ id ∧ id ≤ 1099511627776) ∧ ∃ k ∈ ks, hit es h k = true ∧ (at' es k).id = old ∧ es' = es.set k ⟨(at' es k).has, id, (at' es k).tag⟩) ∨ (b = false ∧ es' = es ∧ ((0 ≤ id ∧ id ≤ 1099511627776) → ∀ k ∈ ks, hit es h k = true → (at' es k).id ≠ old))
  | [], es, es', b, hr => by
    obtain ⟨rfl, rfl⟩ := hr
    exact .inr ⟨rfl, rfl, by simp⟩
  | k :: ks, es, es', b, hr => by
    unfold eachR at hr
    split at hr
    · rename_i hh
      obtain ⟨es1, st1, ok, hT, h4⟩ := hr
      rcases hT with ⟨t1, t2, rfl, rfl, rfl⟩ | ⟨t1, rfl, rfl, rfl⟩
      · simp only [Bool.false_eq_true, if_false] at h4
        obtain ⟨rfl, rfl⟩ := h4
        exact .inl ⟨rfl, t2, k, List.mem_cons_self .., hh, t1, rfl⟩
      · simp only [Bool.not_false, if_true] at h4
        rcases set_each h4 with ⟨rfl, a, k', b1, c1, d1, e1⟩ | ⟨rfl, rfl, a⟩
        · exact .inl ⟨rfl, a, k', List.mem_cons_of_mem _ b1, c1, d1, e1⟩
        · refine .inr ⟨rfl, rfl, fun hm k' hk' hh' he => ?_⟩
          rcases List.mem_cons.1 hk' with rfl | hk'
          · exact t1 ⟨he, hm⟩
          · exact a hm k' hk' hh' he
    · rename_i hh
      rcases set_each hr with ⟨rfl, a, k', b1, c1, d1, e1⟩ | ⟨rfl, rfl, a⟩
      · exact .inl ⟨rfl, a, k', List.mem_cons_of_mem _ b1, c1, d1, e1⟩
      · refine .inr ⟨rfl, rfl, fun hm k' hk' hh' he => ?_⟩
        rcases List.mem_cons.1 hk' with rfl | hk'
        · exact hh hh'
        · exact a hm k' hk' hh' he
theorem S_storeId {l : SE} {H H0 : SH} {K : Value → SH → Prop} {i o k : Nat} {a x : Opd} {es : List Ent} {n : Nat} {v : Int} (hl : es.length = 32) (ha : a.lv l = some (.pointer (some ⟨i, o, none⟩))) (hx : x.lv l = some (.int .i64 v)) (hp : Pick (DO i es n) H H0) (ho : o = k * 3 + 1) (hk : k < 32) (kk : K undef (DO i (es.set k ⟨(at' es k).has, v, (at' es k).tag⟩) n :: H0)) : Step (.store 1 a x) l H K := by
  subst ho
  have hc : (TEnt.cells es).length = es.length * 3 := TEnt.cells_len es
  have e1 := TEnt.cells_set (xs := es) (j := k) (x := at' es k) (y := ⟨(at' es k).has, v, (at' es k).tag⟩) (at_get (by omega)) (off := 1) (vs := [.int .i64 v]) rfl (by show 1 + 1 ≤ 3; omega)
  refine S_storeO ha hx hp rfl (by rw [Nat.ble_eq, DO.len hl]; omega) rfl ?_
  have e2 := splice_mid (P := []) (M := TEnt.cells es) (S := [.int .i64 ((n : Nat) : Int)]) (vs := [.int .i64 v]) (off := k * 3 + 1) (by rw [hc]; show k * 3 + 1 + 1 ≤ _; omega)
  simp only [List.nil_append, List.length_nil, Nat.zero_add] at e2
  show K undef (.obj i (.row false 53 (splice (TEnt.cells es ++ [.int .i64 ((n : Nat) : Int)]) (k * 3 + 1) [.int .i64 v])) :: H0)
  rw [e2]
  have e3 : splice (TEnt.cells es) (k * 3 + 1) [.int .i64 v] = TEnt.cells (es.set k ⟨(at' es k).has, v, (at' es k).tag⟩) := e1
  rw [e3]; exact kk
def TBoolC : Ty Bool := Ty.ofOne 4 1 (fun n => .bool n) (fun _ => rfl)
theorem sp_set1 {H : SH} {i n k i1 i2 i3 : Nat} {es : List Ent} {old id : Int} {st : Bool} (hl : es.length = 32) (hk : k < 32) : WF F X f_cuckoo_Dir_Set_1 [.pointer (some ⟨i, k * 3, none⟩), .pointer (some ⟨i1, 0, none⟩), .pointer (some ⟨i2, 0, none⟩), .pointer (some ⟨i3, 0, none⟩)] (DO i es n :: OB i3 TBoolC st :: OB i1 TInt old :: OB i2 TInt id :: H) (fun r H' => ∃ es1 st1 ok, SetTr old id es st k es1 st1 ok ∧ r = .bool ok ∧ H' = DO i es1 n :: OB i3 TBoolC st1 :: OB i1 TInt old :: OB i2 TInt id :: H) := by
  refine WF_fn F_cuckoo_Dir_Set_1 ?_
  refine WC_seq ?_
  refine WC_region ?_
  refine WO_step rfl (S_pure rfl ?_)
  refine WO_nil ?_
  refine KSeq_n ?_
  refine WC_seq ?_
  refine WC_seq ?_
  refine WC_region ?_
  refine WO_step rfl (S_pure rfl ?_)
  refine WO_step rfl (S_pure rfl ?_)
  refine WO_step rfl (S_pure rfl ?_)
  refine WO_step rfl (S_loadD (k := k) (off := 1) hl rfl .head rfl hk rfl ?_)
  refine WO_step rfl (S_loadT (T := TInt) (z := old) rfl (by repeat (first | exact Pick.head | apply Pick.tail)) (by rfl) (by rfl) ?_)
  first | refine WO_step rfl (S_eqS rfl rfl ?_) | refine WO_step rfl (S_pure rfl ?_)
  refine WO_step rfl (S_pure rfl ?_)
  refine WO_cases (t := 12) rfl (fun hg1 => ?_) (fun hg1 => ?_)
  ·
    try simp only [decide_eq_true_eq, decide_eq_false_iff_not, Bool.not_eq_true', Bool.not_eq_false', beq_iff_eq, bne_iff_ne, beq_eq_false_iff_ne, Int.ofNat_lt, Int.ofNat_le, Int.ofNat_inj, ne_eq, gt_iff_lt, ge_iff_le] at hg1
    refine WO_step rfl (S_loadT (T := TInt) (z := id) rfl (by repeat (first | exact Pick.head | apply Pick.tail)) (by rfl) (by rfl) ?_)
    refine WO_call rfl rfl rfl ?_
    refine sp_may.mono ?_
    rintro _ _ ⟨rfl, rfl⟩
    refine WO_step rfl (S_pure rfl ?_)
    refine WO_nil ?_
    refine KSeq_n ?_
    refine WC_cond rfl (fun hb1 => ?_) (fun hb1 => ?_)
    ·
      try simp only [decide_eq_true_eq, decide_eq_false_iff_not, Bool.not_eq_true', Bool.not_eq_false', beq_iff_eq, bne_iff_ne, beq_eq_false_iff_ne, Int.ofNat_lt, Int.ofNat_le, Int.ofNat_inj, ne_eq, gt_iff_lt, ge_iff_le] at hb1
      refine WC_region ?_
      refine WO_step rfl (S_pure rfl ?_)
      refine WO_step rfl (S_loadT (T := TInt) (z := id) rfl (by repeat (first | exact Pick.head | apply Pick.tail)) (by rfl) (by rfl) ?_)
      refine WO_step rfl (S_pure rfl ?_)
      refine WO_step rfl (S_pure rfl ?_)
      refine WO_step rfl (S_storeId (k := k) hl rfl rfl (by repeat (first | exact Pick.head | apply Pick.tail)) rfl hk ?_)
      refine WO_step rfl (S_storeT (T := TBoolC) (y := true) rfl rfl (by repeat (first | exact Pick.head | apply Pick.tail)) (by rfl) (by rfl) ?_)
      refine WO_nil ?_
      refine KSeq_n ?_
      refine WC_seq ?_
      refine WC_region ?_
      refine WO_step rfl (S_loadO rfl (by repeat (first | exact Pick.head | apply Pick.tail)) (by rfl) (by rfl) ?_)
      refine WO_step rfl (S_pure rfl ?_)
      refine WO_step rfl (S_pure rfl ?_)
      refine WO_nil ?_
      refine KSeq_n ?_
      refine WC_ret ?_
      refine KFn_r (ResL.tmp rfl ResL.nil) ?_
      refine ⟨DO i (es.set k ⟨(at' es k).has, id, (at' es k).tag⟩) n :: OB i3 TBoolC true :: OB i1 TInt old :: OB i2 TInt id :: H, (by repeat (first | exact HSub.refl | refine HSub.pick (by repeat (first | exact Pick.head | apply Pick.tail)) ?_ | apply HSub.drop)), _, true, false, .inl ⟨hg1, by simpa using hb1, rfl, rfl, rfl⟩, rfl, rfl⟩
    ·
      try simp only [decide_eq_true_eq, decide_eq_false_iff_not, Bool.not_eq_true', Bool.not_eq_false', beq_iff_eq, bne_iff_ne, beq_eq_false_iff_ne, Int.ofNat_lt, Int.ofNat_le, Int.ofNat_inj, ne_eq, gt_iff_lt, ge_iff_le] at hb1
      refine WC_skip ?_
      refine KSeq_n ?_
      refine WC_seq ?_
      refine WC_region ?_
      refine WO_step rfl (S_loadO rfl (by repeat (first | exact Pick.head | apply Pick.tail)) (by rfl) (by rfl) ?_)
      refine WO_step rfl (S_pure rfl ?_)
      refine WO_step rfl (S_pure rfl ?_)
      refine WO_nil ?_
      refine KSeq_n ?_
      refine WC_ret ?_
      refine KFn_r (ResL.tmp rfl ResL.nil) ?_
      refine ⟨_, HSub.refl, es, st, !st, .inr ⟨fun c => hb1 (by simpa using c.2), rfl, rfl, rfl⟩, rfl, rfl⟩
  ·
    try simp only [decide_eq_true_eq, decide_eq_false_iff_not, Bool.not_eq_true', Bool.not_eq_false', beq_iff_eq, bne_iff_ne, beq_eq_false_iff_ne, Int.ofNat_lt, Int.ofNat_le, Int.ofNat_inj, ne_eq, gt_iff_lt, ge_iff_le] at hg1
    refine WO_off rfl ?_
    refine WO_off rfl ?_
    refine WO_step rfl (S_pure rfl ?_)
    refine WO_nil ?_
    refine KSeq_n ?_
    refine WC_cond rfl (fun h => ?_) (fun _ => ?_)
    · exact absurd h (by decide)
    refine WC_skip ?_
    refine KSeq_n ?_
    refine WC_seq ?_
    refine WC_region ?_
    refine WO_step rfl (S_loadO rfl (by repeat (first | exact Pick.head | apply Pick.tail)) (by rfl) (by rfl) ?_)
    refine WO_step rfl (S_pure rfl ?_)
    refine WO_step rfl (S_pure rfl ?_)
    refine WO_nil ?_
    refine KSeq_n ?_
    refine WC_ret ?_
    refine KFn_r (ResL.tmp rfl ResL.nil) ?_
    refine ⟨_, HSub.refl, es, st, !st, .inr ⟨fun c => hg1 c.1, rfl, rfl, rfl⟩, rfl, rfl⟩
theorem set_tell {H : SH} {i n h i1 i2 i3 : Nat} {old id : Int} : TellOk i n h (fun _ (_ : Bool) => True) (fun st => OB i3 TBoolC st :: OB i1 TInt old :: OB i2 TInt id :: H) f_cuckoo_Dir_Set_1 #[.pointer (some ⟨i1, 0, none⟩), .pointer (some ⟨i2, 0, none⟩), .pointer (some ⟨i3, 0, none⟩)] (SetTr old id) := by
  refine ⟨fun m st h => h, fun es st k m hl hk hh hiv => ?_⟩
  refine (sp_set1 (i1 := i1) (i2 := i2) (i3 := i3) (st := st) (old := old) (id := id) (H := H) (n := n) hl hk).mono ?_
  rintro _ _ ⟨es1, st1, ok, hT, rfl, rfl⟩
  refine ⟨es1, st1, ok, hT, rfl, rfl, ?_, trivial⟩
  rcases hT with ⟨_, _, rfl, _, _⟩ | ⟨_, rfl, _, _⟩
  · rw [List.length_set]; exact hl
  · exact hl
def SetOk (es : List Ent) (h : Nat) (old id : Int) (es' : List Ent) (b : Bool) : Prop := (b = true ∧ (0 ≤ id ∧ id ≤ 1099511627776) ∧ ∃ k ∈ slots h, hit es h k = true ∧ (at' es k).id = old ∧ es' = es.set k ⟨(at' es k).has, id, (at' es k).tag⟩) ∨ (b = false ∧ es' = es ∧ ((0 ≤ id ∧ id ≤ 1099511627776) → ∀ k ∈ slots h, hit es h k = true → (at' es k).id ≠ old))
theorem sp_Set' {H H0 : SH} {i n h : Nat} {old id : Int} {es : List Ent} (hl : es.length = 32) (hp : Pick (DO i es n) H H0) (hh : h < 18446744073709551616) : WF F X f_cuckoo_Dir_Set [.pointer (some ⟨i, 0, none⟩), .int .u64 (h : Int), .int .i64 old, .int .i64 id] H (fun r H' => ∃ (es' : List Ent) (b : Bool), r = .bool b ∧ H' = DO i es' n :: H0 ∧ es'.length = 32 ∧ SetOk es h old id es' b) := by
  refine WF.weak ?_ hp.sub
  refine WF_fn F_cuckoo_Dir_Set ?_
  refine WC_seq ?_
  refine WC_region ?_
  refine WO_step rfl (S_box rfl rfl fun i6 => ?_)
  refine WO_step rfl (S_box rfl rfl fun i7 => ?_)
  refine WO_step rfl (S_pure rfl ?_)
  refine WO_nil ?_
  refine KSeq_n ?_
  refine WC_seq ?_
  refine WC_region ?_
  refine WO_step rfl (S_newT TBoolC false rfl rfl fun i9 => ?_)
  refine WO_step rfl (S_storeT (T := TBoolC) (y := false) rfl rfl (by repeat (first | exact Pick.head | apply Pick.tail)) (by rfl) (by rfl) ?_)
  refine WO_nil ?_
  refine KSeq_n ?_
  refine WC_seq ?_
  refine WC_region ?_
  refine WO_step rfl (S_pure rfl ?_)
  refine WO_step rfl (S_pure rfl ?_)
  refine WO_step rfl (S_pure rfl ?_)
  refine WO_call rfl rfl rfl ?_
  refine (WF.weak (sp_each (i := i) (n := n) (h := h) (set_tell (H := H0) (i1 := i6) (i2 := i7) (i3 := i9) (old := old) (id := id)) hh (es := es) (st := false) hl trivial) (by repeat (first | exact HSub.refl | refine HSub.pick (by repeat (first | exact Pick.head | apply Pick.tail)) ?_ | apply HSub.drop))).mono ?_
  rintro _ _ ⟨es', st', rfl, hl', hr⟩
  have hset := set_each hr
  refine WO_nil ?_
  refine KSeq_n ?_
  refine WC_seq ?_
  refine WC_region ?_
  refine WO_step rfl (S_loadT (T := TBoolC) (z := st') rfl (by repeat (first | exact Pick.head | apply Pick.tail)) (by rfl) (by rfl) ?_)
  refine WO_step rfl (S_pure rfl ?_)
  refine WO_nil ?_
  refine KSeq_n ?_
  refine WC_ret ?_
  refine KFn_r (ResL.tmp rfl ResL.nil) ?_
  exact ⟨DO i es' n :: H0, (by repeat (first | exact HSub.refl | refine HSub.pick (by repeat (first | exact Pick.head | apply Pick.tail)) ?_ | apply HSub.drop)), es', st', rfl, rfl, hl', hset⟩
end Go.Proofs.Ytnffcpafglfebaa.AM
