/- Walks: what the functions compute. -/
import Derived.Test.YtnffcpafglfebaaC11
import Derived.Test.YtnffcpafglfebaaC4
import Derived.Test.YtnffcpafglfebaaAmS
namespace Go.Proofs.Ytnffcpafglfebaa.AM
open Go
set_option linter.unusedSimpArgs false
set_option linter.unusedVariables false
set_option maxRecDepth 4000

/-! ### The law CuckooAll -/
structure OpR where
  kind : Int
  id : Int
  old : Int
  h : Nat
def TOp : Ty OpR := Ty.ofAgg 4 35 32 (fun o => [.int .i64 o.kind, .int .i64 o.id, .int .i64 o.old, .int .u64 ((o.h : Nat) : Int)]) (fun _ => rfl) (fun _ => rfl)
def okOp (o : OpR) : Prop := (Lit.int .i64 o.kind).wf = true ∧ (Lit.int .i64 o.id).wf = true ∧ (Lit.int .i64 o.old).wf = true ∧ o.h < 18446744073709551616
theorem FOp : Flat Try.prog 35 TOp okOp := by
  refine ⟨by kernel_rfl, by decide, ?_, fun _ => rfl⟩
  intro H enc W base spare held fuel cs x h
  obtain ⟨hl, n, hf⟩ := trod_struct' Try.underlying35 h
  rw [show Try.prog.cellsOf 35 = 4 by kernel_rfl] at hl
  obtain ⟨y1, h1⟩ := hf { name := "Kind", type := 3, offset := 0, embedded := false, tag := "", pkgPath := "", byteOffset := 0 } (by simp)
  obtain ⟨y2, h2⟩ := hf { name := "Id", type := 3, offset := 1, embedded := false, tag := "", pkgPath := "", byteOffset := 8 } (by simp)
  obtain ⟨y3, h3⟩ := hf { name := "Old", type := 3, offset := 2, embedded := false, tag := "", pkgPath := "", byteOffset := 16 } (by simp)
  obtain ⟨y4, h4⟩ := hf { name := "H", type := 27, offset := 3, embedded := false, tag := "", pkgPath := "", byteOffset := 24 } (by simp)
  simp only [show Try.prog.cellsOf 3 = 1 by kernel_rfl, show Try.prog.cellsOf 27 = 1 by kernel_rfl] at h1 h2 h3 h4
  obtain ⟨k, e1, w1⟩ := trod_int' Try.underlying3 h1
  obtain ⟨a, e2, w2⟩ := trod_int' Try.underlying3 h2
  obtain ⟨b, e3, w3⟩ := trod_int' Try.underlying3 h3
  obtain ⟨c, e4, w4⟩ := trod_int' Try.underlying27 h4
  match cs, hl with
  | [c1, c2, c3, c4], _ =>
    simp at e1 e2 e3 e4
    subst e1 e2 e3 e4
    have w5 := w4
    simp [Lit.wf, IntKind.min, IntKind.max, IntKind.bits, IntKind.signed] at w5
    refine ⟨⟨k, a, b, c.toNat⟩, ?_, w1, w2, w3, by show c.toNat < _; omega⟩
    show [Value.int .i64 k, Value.int .i64 a, Value.int .i64 b, Value.int .u64 c] = [Value.int .i64 k, Value.int .i64 a, Value.int .i64 b, Value.int .u64 ((c.toNat : Nat) : Int)]
    rw [Int.toNat_of_nonneg (by omega)]
theorem sumL_set {f : Ent → Nat → Nat} {x y : Kv} : ∀ {l : List Kv} {a : Nat}, l[a]? = some x → sumL f (l.set a y) + kw f x = sumL f l + kw f y
  | [], a, h => by simp at h
  | z :: l, 0, h => by simp at h; subst h; simp only [List.set_cons_zero, sumL]; omega
  | z :: l, a + 1, h => by
    rw [List.getElem?_cons_succ] at h
    have := sumL_set (f := f) (y := y) h
    simp only [List.set_cons_succ, sumL]; omega
theorem slots_lt {h k : Nat} (hk : k ∈ slots h) : k < 32 ∧ (k / 4 = frst h ∨ k / 4 = oth (frst h) (tagOf h)) := by
  have h1 := frst_lt h
  have h2 := oth_lt (t := tagOf h) h1
  unfold slots at hk
  simp only [List.mem_cons, List.not_mem_nil, or_false] at hk
  omega
theorem hit_fits {es : List Ent} {h k : Nat} {x : Kv} (hk : k ∈ slots h) (hh : hit es h k = true) (hn : near h x.h = true) (hid : (at' es k).id = x.id) : fits x (at' es k) (k / 4) = true := by
  unfold hit at hh
  simp only [Bool.and_eq_true, decide_eq_true_eq] at hh
  obtain ⟨_, hs⟩ := slots_lt hk
  obtain ⟨h1, h2⟩ := near_same.2 hn
  rw [same2_iff (frst_lt x.h)] at h1
  have o1 := oth_oth (t := tagOf h) (frst_lt h)
  refine fits_iff.2 ⟨hid.symm, by rw [hh.2, h2], ?_⟩
  rw [hh.2]
  rcases h1 with h1 | h1 <;> rcases hs with hs | hs
  · exact .inl (by rw [hs, h1])
  · exact .inr (by rw [hs, h1])
  · exact .inr (by rw [hs, h1, o1])
  · exact .inl (by rw [hs, h1])
theorem holds_set {es : List Ent} {l : List Kv} {h k a : Nat} {x : Kv} {id : Int} (g : Good es) (hh : Holds es l) (hk : k ∈ slots h) (ht : hit es h k = true) (hx : l[a]? = some x) (hid : (at' es k).id = x.id) (hn : near h x.h = true) :
    Holds (es.set k ⟨(at' es k).has, id, (at' es k).tag⟩) (l.set a ⟨x.h, id⟩) := fun f hf => by
  have hf1 := hit_fits hk ht hn hid
  have hhas : (at' es k).has = true := by unfold hit at ht; simp only [Bool.and_eq_true] at ht; exact ht.1
  have k32 := (slots_lt hk).1
  have e1 := fits_kw hf hhas hf1
  obtain ⟨_, q2, q3⟩ := fits_iff.1 hf1
  have e2 : kw f ⟨x.h, id⟩ = f ⟨(at' es k).has, id, (at' es k).tag⟩ (k / 4) := fits_kw hf hhas (fits_iff.2 ⟨rfl, q2, q3⟩)
  have t1 := tot_set (f := f) (e := ⟨(at' es k).has, id, (at' es k).tag⟩) g.len k32
  have t2 := sumL_set (f := f) (y := ⟨x.h, id⟩) hx
  have t3 := hh f hf
  have t4 : wt f es k = kw f x := by unfold wt; rw [if_pos hhas, e1]
  rw [t4] at t1
  simp only [hhas, if_true] at t1 e2
  simp only [hhas]
  omega
theorem good_set {es : List Ent} (g : Good es) {h k : Nat} {id : Int} (hk : k ∈ slots h) (ht : hit es h k = true) : Good (es.set k ⟨(at' es k).has, id, (at' es k).tag⟩) := by
  have hhas : (at' es k).has = true := by unfold hit at ht; simp only [Bool.and_eq_true] at ht; exact ht.1
  exact g.set (slots_lt hk).1 (g.tag k (slots_lt hk).1) hhas
theorem found_mem {es : List Ent} {l : List Kv} {h : Nat} (hh : Holds es l) (v : Int) : (∃ k ∈ slots h, hit es h k = true ∧ (at' es k).id = v) ↔ ∃ x ∈ l, near h x.h = true ∧ x.id = v := by
  have := (found_perm hh h).mem_iff (a := v)
  unfold foundL nearL at this
  simp only [List.mem_map, List.mem_filter] at this
  constructor
  · rintro ⟨k, h1, h2, h3⟩
    obtain ⟨x, ⟨h4, h5⟩, h6⟩ := this.1 ⟨k, ⟨h1, h2⟩, h3⟩
    exact ⟨x, h4, h5, h6⟩
  · rintro ⟨x, h4, h5, h6⟩
    obtain ⟨k, ⟨h1, h2⟩, h3⟩ := this.2 ⟨x, ⟨h4, h5⟩, h6⟩
    exact ⟨k, h1, h2, h3⟩
/-- Which entry is to be another one. -/
def AtI (l : List Kv) (o : OpR) (i : Nat) (a : Int) (m : Nat) : Prop :=
  (a = -1 ∧ m = 0 ∧ ∀ x ∈ l.take i, ¬(x.id = o.old ∧ near o.h x.h = true)) ∨ ∃ (k : Nat) (x : Kv), a = (k : Int) ∧ 0 < m ∧ l[k]? = some x ∧ x.id = o.old ∧ near o.h x.h = true
theorem AtI.zero (l : List Kv) (o : OpR) : AtI l o 0 (-1) 0 := .inl ⟨rfl, rfl, fun x h => by simp at h⟩
theorem AtI.hit {l : List Kv} {o : OpR} {i m : Nat} {x : Kv} (hx : l[i]? = some x) (h1 : x.id = o.old) (h2 : near o.h x.h = true) : AtI l o (i + 1) (i : Int) (m + 1) := .inr ⟨i, x, rfl, by omega, hx, h1, h2⟩
theorem AtI.miss {l : List Kv} {o : OpR} {i m : Nat} {a : Int} {x : Kv} (h : AtI l o i a m) (hx : l[i]? = some x) (hn : ¬(x.id = o.old ∧ near o.h x.h = true)) : AtI l o (i + 1) a m := by
  rcases h with ⟨h1, h2, h3⟩ | h
  · refine .inl ⟨h1, h2, fun y hy => ?_⟩
    rw [List.take_add_one, hx] at hy
    rcases List.mem_append.1 hy with hy | hy
    · exact h3 y hy
    · simp at hy; subst hy; exact hn
  · exact .inr h
/-- The change is made just if there is such an entry and its number may be. -/
theorem set_agree {es es' : List Ent} {l : List Kv} {o : OpR} {a : Int} {m : Nat} {b : Bool} (g : Good es) (hh : Holds es l) (hs : SetOk es o.h o.old o.id es' b) (ha : AtI l o l.length a m) :
    b = (decide (0 ≤ a) && (decide (0 ≤ o.id) && decide (o.id ≤ 1099511627776))) ∧ Good es' ∧ (b = false → es' = es) ∧ (b = true → ∃ (k : Nat) (x : Kv), a = (k : Int) ∧ l[k]? = some x ∧ Holds es' (l.set k ⟨x.h, o.id⟩)) := by
  rcases hs with ⟨rfl, hr, k, hk, ht, hid, rfl⟩ | ⟨rfl, rfl, hno⟩
  · obtain ⟨x, hx, hxn, hxi⟩ := (found_mem hh o.old).1 ⟨k, hk, ht, hid⟩
    rcases ha with ⟨_, _, h3⟩ | ⟨j, y, rfl, _, hy, hyi, hyn⟩
    · exact absurd ⟨hxi, hxn⟩ (h3 x (by simpa using hx))
    · refine ⟨by simp [hr.1, hr.2], good_set g hk ht, fun h => (by cases h), fun _ => ⟨j, y, rfl, hy, holds_set g hh hk ht hy (by rw [hid, hyi]) hyn⟩⟩
  · refine ⟨?_, g, fun _ => rfl, fun h => (by cases h)⟩
    rcases ha with ⟨rfl, _, h3⟩ | ⟨j, y, rfl, _, hy, hyi, hyn⟩
    · simp
    · have : ¬(0 ≤ o.id ∧ o.id ≤ 1099511627776) := fun hr => by
        obtain ⟨k, hk, ht, hid⟩ := (found_mem hh o.old).2 ⟨y, List.mem_of_getElem? hy, hyn, hyi⟩
        exact hno hr k hk ht hid
      by_cases h0 : 0 ≤ o.id
      · have : ¬ o.id ≤ 1099511627776 := fun h => this ⟨h0, h⟩
        simp [this]
      · simp [h0]
/-- What is there is what the list says. -/
structure CI (es : List Ent) (l : List Kv) (hs : List Nat) : Prop where
  g : Good es
  hh : Holds es l
  n : hs.length = l.length
  e : hs = l.map (·.h)
  al : ∀ x ∈ l, x.h < 18446744073709551616
  ah : ∀ h ∈ hs, h < 18446744073709551616
def want0 (hs : List Nat) (o : OpR) : Bool := decide (0 ≤ o.id) && (decide (o.id ≤ 1099511627776) && decide (Room (hs ++ [o.h])))
theorem ins_agree {es es' : List Ent} {l : List Kv} {hs : List Nat} {o : OpR} {n n' : Nat} {ok : Bool} (c : CI es l hs) (h1 : ok = true → n' = n + 1 ∧ (0 ≤ o.id ∧ o.id ≤ 1099511627776) ∧ InsOk es o.h o.id es') (h2 : ok = false → es' = es ∧ n' = n ∧ ((0 ≤ o.id ∧ o.id ≤ 1099511627776) → NoWay es o.h)) : ok = want0 hs o := by
  unfold want0
  cases ok with
  | true =>
    obtain ⟨_, hr, hi⟩ := h1 rfl
    have := (c.hh.room_iff (h := o.h) (id := o.id)).1 hi
    rw [← c.e] at this
    simp [hr.1, hr.2, this]
  | false =>
    obtain ⟨_, _, hn⟩ := h2 rfl
    by_cases h0 : 0 ≤ o.id
    · by_cases h9 : o.id ≤ 1099511627776
      · have := (c.hh.room_iff (es' := es) (h := o.h) (id := o.id)).2 (hn ⟨h0, h9⟩)
        rw [← c.e] at this
        simp [this]
      · simp [h9]
    · simp [h0]
theorem CI.ins {es es' : List Ent} {l : List Kv} {hs : List Nat} {o : OpR} (c : CI es l hs) (g : Good es') (hi : InsOk es o.h o.id es') (ho : o.h < 18446744073709551616) : CI es' (l ++ [⟨o.h, o.id⟩]) (hs ++ [o.h]) :=
  ⟨g, c.hh.ins hi, by simp [c.n], by simp [c.e], fun x hx => by
    rcases List.mem_append.1 hx with hx | hx
    · exact c.al x hx
    · simp at hx; subst hx; exact ho, fun x hx => by
    rcases List.mem_append.1 hx with hx | hx
    · exact c.ah x hx
    · simp at hx; subst hx; exact ho⟩
theorem CI.set {es es' : List Ent} {l : List Kv} {hs : List Nat} {k : Nat} {x : Kv} {id : Int} (c : CI es l hs) (g : Good es') (hx : l[k]? = some x) (hh : Holds es' (l.set k ⟨x.h, id⟩)) : CI es' (l.set k ⟨x.h, id⟩) hs := by
  have hm : (l.set k ⟨x.h, id⟩).map (·.h) = l.map (·.h) := by
    rw [List.map_set]
    apply List.ext_getElem?
    intro j
    rw [List.getElem?_set]
    split
    · rename_i hj
      subst hj
      split
      · rw [List.getElem?_map, hx]; rfl
      · rename_i hlt
        rw [List.getElem?_eq_none (by simpa using hlt)]
    · rfl
  refine ⟨g, hh, by rw [List.length_set]; exact c.n, by rw [hm]; exact c.e, fun y hy => ?_, c.ah⟩
  rcases List.mem_or_eq_of_mem_set hy with hy | rfl
  · exact c.al y hy
  · exact c.al x (List.mem_of_getElem? hx)
theorem lp_All_1 {H : SH} {w5 : SV} {l : List Kv} {i8 : Nat} {o : OpR} (hoh : o.h < 18446744073709551616) (hv : RD H w5.toV TKv l) (hall : ∀ x ∈ l, x.h < 18446744073709551616) (hL : l.length ≤ 60) (v0 v4 v6 v7 : Value) : ∀ (m i : Nat) (a : Int) (mm : Nat), l.length - i = m → i ≤ l.length → mm ≤ i → AtI l o i a mm →
    WC F X (.loop L_loesslaw17_CuckooAll_1) [(12, .int .i64 (i : Int)), (0, v0), (4, v4), (5, w5.toV), (6, v6), (7, v7), (8, .pointer (some ⟨i8, 0, none⟩)), (10, .int .i64 a), (11, .int .i64 ((mm : Nat) : Int))] (OB i8 TOp o :: H)
      (KPost fun x l' H' => ∃ a mm, x = .exit 3 ∧ l' = [(0, v0), (4, v4), (5, w5.toV), (6, v6), (7, v7), (8, .pointer (some ⟨i8, 0, none⟩)), (10, .int .i64 a), (11, .int .i64 ((mm : Nat) : Int))] ∧ H' = OB i8 TOp o :: H ∧ AtI l o l.length a mm) := by
  intro m
  induction m using Nat.strongRecOn with
  | _ m ih =>
    intro i a mm hm hi hmm ha
    refine WC_loop ?_
    refine WC_seq ?_
    refine WC_seq ?_
    refine WC_region ?_
    refine WO_step rfl (S_pure rfl ?_)
    refine WO_step rfl (S_pure rfl ?_)
    first | refine WO_step rfl (S_pure rfl ?_) | refine WO_step rfl (S_lenS rfl (by repeat (first | assumption | exact RD.head | exact RD.nil | apply RD.tail)) ?_)
    refine WO_step rfl (S_pure rfl ?_)
    refine WO_nil ?_
    refine KSeq_n ?_
    refine WC_cond rfl (fun hb1 => ?_) (fun hb1 => ?_)
    ·
      try simp only [decide_eq_true_eq, decide_eq_false_iff_not, Bool.not_eq_true', Bool.not_eq_false', beq_iff_eq, bne_iff_ne, beq_eq_false_iff_ne, Int.ofNat_lt, Int.ofNat_le, Int.ofNat_inj, ne_eq, gt_iff_lt, ge_iff_le] at hb1
      obtain ⟨x, hx⟩ := get_of_lt hb1
      have hxh := hall x (List.mem_of_getElem? hx)
      refine WC_skip ?_
      refine KSeq_n ?_
      refine WC_seq ?_
      refine WC_block ?_
      refine WC_seq ?_
      refine WC_region ?_
      refine WO_step rfl (S_pure rfl ?_)
      refine WO_step rfl (S_pure rfl ?_)
      refine WO_step rfl (S_idx rfl rfl (by repeat (first | assumption | exact RD.head | exact RD.nil | apply RD.tail)) (by first | rfl | assumption | (symm; assumption)) (by rfl) (by first | assumption | omega | exact lt_of_get (by assumption) | (simp only [List.length_set]; first | assumption | omega | exact lt_of_get (by assumption))) fun hp85 => ?_)
      refine WO_step rfl (S_fldE rfl (by repeat (first | assumption | apply IsP.padd)) ?_)
      refine WO_step rfl (S_loadF rfl (by repeat (first | assumption | exact RD.head | exact RD.nil | apply RD.tail)) (by rfl) (by assumption) (by rfl) (by rfl) ?_)
      refine WO_step rfl (S_pure rfl ?_)
      refine WO_step rfl (S_loadO rfl (by repeat (first | exact Pick.head | apply Pick.tail)) (by rfl) (by rfl) ?_)
      first | refine WO_step rfl (S_eqS rfl rfl ?_) | refine WO_step rfl (S_pure rfl ?_)
      refine WO_step rfl (S_pure rfl ?_)
      refine WO_cases (t := 91) rfl (fun hg1 => ?_) (fun hg1 => ?_)
      ·
        try simp only [decide_eq_true_eq, decide_eq_false_iff_not, Bool.not_eq_true', Bool.not_eq_false', beq_iff_eq, bne_iff_ne, beq_eq_false_iff_ne, Int.ofNat_lt, Int.ofNat_le, Int.ofNat_inj, ne_eq, gt_iff_lt, ge_iff_le] at hg1
        refine WO_step rfl (S_pure rfl ?_)
        refine WO_step rfl (S_loadO rfl (by repeat (first | exact Pick.head | apply Pick.tail)) (by rfl) (by rfl) ?_)
        refine WO_step rfl (S_pure rfl ?_)
        refine WO_step rfl (S_pure rfl ?_)
        refine WO_step rfl (S_idx rfl rfl (by repeat (first | assumption | exact RD.head | exact RD.nil | apply RD.tail)) (by first | rfl | assumption | (symm; assumption)) (by rfl) (by first | assumption | omega | exact lt_of_get (by assumption) | (simp only [List.length_set]; first | assumption | omega | exact lt_of_get (by assumption))) fun hp96 => ?_)
        refine WO_step rfl (S_fldE rfl (by repeat (first | assumption | apply IsP.padd)) ?_)
        refine WO_step rfl (S_loadF rfl (by repeat (first | assumption | exact RD.head | exact RD.nil | apply RD.tail)) (by rfl) (by assumption) (by rfl) (by rfl) ?_)
        refine WO_call rfl rfl rfl ?_
        refine (sp_Near hoh hxh).mono ?_
        rintro _ _ ⟨rfl, rfl⟩
        refine WO_step rfl (S_pure rfl ?_)
        refine WO_nil ?_
        refine KSeq_n ?_
        refine WC_cond rfl (fun hb2 => ?_) (fun hb2 => ?_)
        ·
          try simp only [decide_eq_true_eq, decide_eq_false_iff_not, Bool.not_eq_true', Bool.not_eq_false', beq_iff_eq, bne_iff_ne, beq_eq_false_iff_ne, Int.ofNat_lt, Int.ofNat_le, Int.ofNat_inj, ne_eq, gt_iff_lt, ge_iff_le] at hb2
          refine WC_seq ?_
          refine WC_region ?_
          refine WO_step rfl (S_pure rfl ?_)
          refine WO_step rfl (S_pure rfl ?_)
          refine WO_nil ?_
          refine KSeq_n ?_
          refine WC_region ?_
          refine WO_step rfl (S_pure rfl ?_)
          first | refine WO_step rfl (S_addN (b := 1) rfl rfl (by omega) ?_) | refine WO_step rfl (S_pure rfl ?_)
          refine WO_step rfl (S_pure rfl ?_)
          refine WO_nil ?_
          refine KBlock_n ?_
          refine KSeq_n ?_
          refine WC_region ?_
          refine WO_step rfl (S_pure rfl ?_)
          first | refine WO_step rfl (S_addN (b := 1) rfl rfl (by omega) ?_) | refine WO_step rfl (S_pure rfl ?_)
          refine WO_step rfl (S_pure rfl ?_)
          refine WO_nil ?_
          refine KLoop_n ?_
          exact WC_weak (ih (l.length - (i + 1)) (by omega) (i + 1) _ (mm + 1) rfl (by omega) (by omega) (AtI.hit hx hg1 hb2)) (by repeat (first | exact SubE.nil | apply SubE.cons rfl)) (by repeat (first | exact HSub.refl | refine HSub.pick (by repeat (first | exact Pick.head | apply Pick.tail)) ?_ | apply HSub.drop))
        ·
          try simp only [decide_eq_true_eq, decide_eq_false_iff_not, Bool.not_eq_true', Bool.not_eq_false', beq_iff_eq, bne_iff_ne, beq_eq_false_iff_ne, Int.ofNat_lt, Int.ofNat_le, Int.ofNat_inj, ne_eq, gt_iff_lt, ge_iff_le] at hb2
          refine WC_skip ?_
          refine KBlock_n ?_
          refine KSeq_n ?_
          refine WC_region ?_
          refine WO_step rfl (S_pure rfl ?_)
          first | refine WO_step rfl (S_addN (b := 1) rfl rfl (by omega) ?_) | refine WO_step rfl (S_pure rfl ?_)
          refine WO_step rfl (S_pure rfl ?_)
          refine WO_nil ?_
          refine KLoop_n ?_
          exact WC_weak (ih (l.length - (i + 1)) (by omega) (i + 1) a mm rfl (by omega) (by omega) (ha.miss hx (fun h => absurd h.2 (by simp [hb2])))) (by repeat (first | exact SubE.nil | apply SubE.cons rfl)) (by repeat (first | exact HSub.refl | refine HSub.pick (by repeat (first | exact Pick.head | apply Pick.tail)) ?_ | apply HSub.drop))
      ·
        try simp only [decide_eq_true_eq, decide_eq_false_iff_not, Bool.not_eq_true', Bool.not_eq_false', beq_iff_eq, bne_iff_ne, beq_eq_false_iff_ne, Int.ofNat_lt, Int.ofNat_le, Int.ofNat_inj, ne_eq, gt_iff_lt, ge_iff_le] at hg1
        refine WO_off rfl ?_
        refine WO_off rfl ?_
        refine WO_off rfl ?_
        refine WO_off rfl ?_
        refine WO_off rfl ?_
        refine WO_off rfl ?_
        refine WO_off rfl ?_
        refine WO_off rfl ?_
        refine WO_step rfl (S_pure rfl ?_)
        refine WO_nil ?_
        refine KSeq_n ?_
        refine WC_cond rfl (fun h => ?_) (fun _ => ?_)
        · exact absurd h (by decide)
        refine WC_skip ?_
        refine KBlock_n ?_
        refine KSeq_n ?_
        refine WC_region ?_
        refine WO_step rfl (S_pure rfl ?_)
        first | refine WO_step rfl (S_addN (b := 1) rfl rfl (by omega) ?_) | refine WO_step rfl (S_pure rfl ?_)
        refine WO_step rfl (S_pure rfl ?_)
        refine WO_nil ?_
        refine KLoop_n ?_
        exact WC_weak (ih (l.length - (i + 1)) (by omega) (i + 1) a mm rfl (by omega) (by omega) (ha.miss hx (fun h => hg1 h.1))) (by repeat (first | exact SubE.nil | apply SubE.cons rfl)) (by repeat (first | exact HSub.refl | refine HSub.pick (by repeat (first | exact Pick.head | apply Pick.tail)) ?_ | apply HSub.drop))
    ·
      try simp only [decide_eq_true_eq, decide_eq_false_iff_not, Bool.not_eq_true', Bool.not_eq_false', beq_iff_eq, bne_iff_ne, beq_eq_false_iff_ne, Int.ofNat_lt, Int.ofNat_le, Int.ofNat_inj, ne_eq, gt_iff_lt, ge_iff_le] at hb1
      refine WC_exit ?_
      refine KSeq_x ?_
      refine KLoop_x ?_
      have ei : i = l.length := by omega
      subst ei
      exact KPost_i (by repeat (first | exact SubE.nil | apply SubE.cons rfl)) (by repeat (first | exact HSub.refl | refine HSub.pick (by repeat (first | exact Pick.head | apply Pick.tail)) ?_ | apply HSub.drop)) ⟨a, mm, rfl, rfl, rfl, ha⟩
theorem lp_All_0 {H : SH} {v : Value} {ops : List OpR} {i4 : Nat} (hv : RD H v TOp ops) (hok : ∀ o ∈ ops, okOp o) : ∀ (m i : Nat) (es : List Ent) (l : List Kv) (hs : List Nat) (w5 w6 : SV), ops.length - i = m → i ≤ ops.length → i ≤ 60 → l.length ≤ i → CI es l hs →
    WQ F X (.loop L_loesslaw17_CuckooAll_0) [(7, .int .i64 (i : Int)), (0, v), (4, .pointer (some ⟨i4, 0, none⟩)), (5, w5.toV), (6, w6.toV)] (DO i4 es l.length :: SL w5.toV TKv l :: SL w6.toV TUN hs :: H)
      (KPost fun x l' H' => x = .exit 0 ∧ l' = [] ∧ H' = []) := by
  intro m
  induction m using Nat.strongRecOn with
  | _ m ih =>
    intro i es l hs w5 w6 hm hi hi60 hli c
    have hel := c.g.len
    have hhl := c.n
    refine WQ_loop ?_
    refine WQ_seq ?_
    refine WQ_seq ?_
    refine WQ_region ?_
    refine WO_step rfl (S_pure rfl ?_)
    refine WO_step rfl (S_pure rfl ?_)
    first | refine WO_step rfl (S_pure rfl ?_) | refine WO_step rfl (S_lenS rfl (by repeat (first | assumption | exact RD.head | exact RD.nil | apply RD.tail)) ?_)
    refine WO_step rfl (S_pure rfl ?_)
    refine WO_step rfl (S_pure rfl ?_)
    refine WO_cases (t := 22) rfl (fun hg1 => ?_) (fun hg1 => ?_)
    ·
      try simp only [decide_eq_true_eq, decide_eq_false_iff_not, Bool.not_eq_true', Bool.not_eq_false', beq_iff_eq, bne_iff_ne, beq_eq_false_iff_ne, Int.ofNat_lt, Int.ofNat_le, Int.ofNat_inj, ne_eq, gt_iff_lt, ge_iff_le] at hg1
      obtain ⟨o, hx⟩ := get_of_lt hg1
      obtain ⟨o1, o2, o3, o4⟩ := hok o (List.mem_of_getElem? hx)
      refine WO_step rfl (S_pure rfl ?_)
      refine WO_step rfl (S_pure rfl ?_)
      refine WO_step rfl (S_pure rfl ?_)
      refine WO_nil ?_
      refine QSeq_n ?_
      refine WQ_cond rfl (fun hb1 => ?_) (fun hb1 => ?_)
      ·
        try simp only [decide_eq_true_eq, decide_eq_false_iff_not, Bool.not_eq_true', Bool.not_eq_false', beq_iff_eq, bne_iff_ne, beq_eq_false_iff_ne, Int.ofNat_lt, Int.ofNat_le, Int.ofNat_inj, ne_eq, gt_iff_lt, ge_iff_le] at hb1
        refine WQ_skip ?_
        refine QSeq_n ?_
        refine WQ_seq ?_
        refine WQ_block ?_
        refine WQ_seq ?_
        refine WQ_region ?_
        refine WO_step rfl (S_pure rfl ?_)
        refine WO_step rfl (S_pure rfl ?_)
        refine WO_step rfl (S_idx rfl rfl (by repeat (first | assumption | exact RD.head | exact RD.nil | apply RD.tail)) (by first | rfl | assumption | (symm; assumption)) (by rfl) (by first | assumption | omega | exact lt_of_get (by assumption) | (simp only [List.length_set]; first | assumption | omega | exact lt_of_get (by assumption))) fun hp30 => ?_)
        refine WO_step rfl (S_loadE rfl (by repeat (first | assumption | exact RD.head | exact RD.nil | apply RD.tail)) (by first | rfl | assumption | (symm; assumption)) (by first | rfl | assumption | (symm; assumption)) (by first | rfl | assumption | (symm; assumption)) (by assumption) ?_)
        refine WO_step rfl (S_newT TOp ⟨0, 0, 0, 0⟩ rfl rfl fun i8 => ?_)
        refine WO_step rfl (S_storeT rfl rfl (by repeat (first | exact Pick.head | apply Pick.tail)) rfl rfl ?_)
        refine WO_nil ?_
        refine QSeq_n ?_
        refine WQ_seq ?_
        refine WQ_post (P := fun x l' H' => ∃ es' l2 hs2 w5' w6', (x = .normal ∨ x = .exit 1) ∧ l' = [(7, .int .i64 (i : Int)), (0, v), (4, .pointer (some ⟨i4, 0, none⟩)), (5, SV.toV w5'), (6, SV.toV w6'), (8, .pointer (some ⟨i8, 0, none⟩))] ∧ H' = OB i8 TOp o :: DO i4 es' l2.length :: SL (SV.toV w5') TKv l2 :: SL (SV.toV w6') TUN hs2 :: H ∧ CI es' l2 hs2 ∧ l2.length ≤ i + 1) ?_ ?_
        ·
          refine WQ_seq ?_
          refine WQ_region ?_
          refine WO_step rfl (S_pure rfl ?_)
          refine WO_step rfl (S_loadO rfl (by repeat (first | exact Pick.head | apply Pick.tail)) (by rfl) (by rfl) ?_)
          refine WO_nil ?_
          refine QSeq_n ?_
          refine WQ_block ?_
          refine WQ_seq ?_
          refine WQ_region ?_
          first | refine WO_step rfl (S_eqS rfl rfl ?_) | refine WO_step rfl (S_pure rfl ?_)
          refine WO_step rfl (S_pure rfl ?_)
          refine WO_nil ?_
          refine QSeq_n ?_
          refine WQ_cond rfl (fun hb2 => ?_) (fun hb2 => ?_)
          ·
            try simp only [decide_eq_true_eq, decide_eq_false_iff_not, Bool.not_eq_true', Bool.not_eq_false', beq_iff_eq, bne_iff_ne, beq_eq_false_iff_ne, Int.ofNat_lt, Int.ofNat_le, Int.ofNat_inj, ne_eq, gt_iff_lt, ge_iff_le] at hb2
            refine WQ_seq ?_
            refine WQ_post (P := fun x l' H' => x = .normal ∧ l' = [(7, .int .i64 (i : Int)), (0, v), (4, .pointer (some ⟨i4, 0, none⟩)), (5, w5.toV), (6, w6.toV), (8, .pointer (some ⟨i8, 0, none⟩)), (9, .bool (want0 hs o))] ∧ H' = OB i8 TOp o :: DO i4 es l.length :: SL w5.toV TKv l :: SL w6.toV TUN hs :: H) ?_ ?_
            ·
              refine WQ_many ?_
              refine WTq_step ⟨rfl, rfl⟩ (S_pure rfl ?_)
              refine WTr_step ⟨rfl, rfl⟩ (S_loadO rfl (by repeat (first | exact Pick.head | apply Pick.tail)) (by rfl) (by rfl) ?_)
              refine WTq_step ⟨rfl, rfl⟩ (S_pure rfl ?_)
              refine WTq_step ⟨rfl, rfl⟩ (S_pure rfl ?_)
              refine WT_cases (t' := 39) rfl (fun hg2 => ?_) (fun hg2 => ?_)
              ·
                try simp only [decide_eq_true_eq, decide_eq_false_iff_not, Bool.not_eq_true', Bool.not_eq_false', beq_iff_eq, bne_iff_ne, beq_eq_false_iff_ne, Int.ofNat_lt, Int.ofNat_le, Int.ofNat_inj, ne_eq, gt_iff_lt, ge_iff_le] at hg2
                refine WTq_step ⟨rfl, rfl⟩ (S_pure rfl ?_)
                refine WTr_step ⟨rfl, rfl⟩ (S_loadO rfl (by repeat (first | exact Pick.head | apply Pick.tail)) (by rfl) (by rfl) ?_)
                refine WTq_step ⟨rfl, rfl⟩ (S_pure rfl ?_)
                refine WTq_step ⟨rfl, rfl⟩ (S_pure rfl ?_)
                refine WTq_step ⟨rfl, rfl⟩ (S_pure rfl ?_)
                refine WT_cases (t' := 44) rfl (fun hg3 => ?_) (fun hg3 => ?_)
                ·
                  try simp only [decide_eq_true_eq, decide_eq_false_iff_not, Bool.not_eq_true', Bool.not_eq_false', beq_iff_eq, bne_iff_ne, beq_eq_false_iff_ne, Int.ofNat_lt, Int.ofNat_le, Int.ofNat_inj, ne_eq, gt_iff_lt, ge_iff_le] at hg3
                  refine WTq_step ⟨rfl, rfl⟩ (S_pure rfl ?_)
                  refine WTq_step ⟨rfl, rfl⟩ (S_pure rfl ?_)
                  refine WTr_step ⟨rfl, rfl⟩ (S_loadO rfl (by repeat (first | exact Pick.head | apply Pick.tail)) (by rfl) (by rfl) ?_)
                  refine WT_alt ?_ ?_
                  ·
                    refine WTm_step ⟨rfl, rfl⟩ (S_appN rfl rfl (by first | exact SRC.str rfl rfl | (apply RD.src; repeat (first | assumption | exact RD.head | exact RD.nil | apply RD.tail))) (by rfl) (by rfl) (by (try simp only [List.length_append, List.length_cons, List.length_nil]); omega) fun w46 => ?_)
                    refine And.intro ?_ ?_
                    ·
                      exact (obT_ob (by first | exact ObR.off rfl | exact ObR.of_step rfl (S_loadO rfl (by repeat (first | exact Pick.head | apply Pick.tail)) rfl rfl (by first | rfl | simp [eqV, eqV0])) | exact ObR.of_step rfl (S_loadT rfl (by repeat (first | exact Pick.head | apply Pick.tail)) (by rfl) (by rfl) (by first | rfl | simp [eqV, eqV0]))) (obT_skip rfl (obT_skip rfl obT_nil)))
                    ·
                      refine WTm_step ⟨rfl, rfl⟩ (S_lit1 (T := TUN) (y := o.h) rfl rfl rfl rfl fun w49 => ?_)
                      refine And.intro ?_ ?_
                      ·
                        exact (obT_skip rfl obT_nil)
                      ·
                        refine WTm_step ⟨rfl, rfl⟩ (S_app rfl rfl (by repeat (first | exact Pick.head | apply Pick.tail)) (by first | exact SRC.str rfl rfl | (apply RD.src; repeat (first | assumption | exact RD.head | exact RD.nil | apply RD.tail))) (by rfl) (by rfl) (by (try simp only [List.length_append, List.length_cons, List.length_nil]); omega) fun w50 => ?_)
                        refine And.intro ?_ ?_
                        ·
                          exact obT_nil
                        ·
                          refine WTm_call rfl rfl rfl rfl ?_
                          refine (sp_Room (hs := hs ++ [o.h]) (by repeat (first | assumption | exact RD.head | exact RD.nil | apply RD.tail)) (by simp; omega) (fun h hh => by
                            rcases List.mem_append.1 hh with hh | hh
                            · exact c.ah h hh
                            · simp at hh; subst hh; exact o4)).mono ?_
                          rintro _ _ ⟨rfl, rfl⟩
                          refine And.intro ?_ ?_
                          ·
                            exact obT_nil
                          ·
                            refine WTq_step ⟨rfl, rfl⟩ (S_pure rfl ?_)
                            refine WTq_step ⟨rfl, rfl⟩ (S_pure rfl ?_)
                            refine WT_leaf ?_
                            rw [show want0 hs o = decide (Room (hs ++ [o.h])) by simp [want0, hg2, hg3]]
                            exact KPost_i (by repeat (first | exact SubE.nil | apply SubE.cons rfl)) (by repeat (first | exact HSub.refl | refine HSub.pick (by repeat (first | exact Pick.head | apply Pick.tail)) ?_ | apply HSub.drop)) ⟨rfl, rfl, rfl⟩
                  ·
                    refine WTm_step ⟨rfl, rfl⟩ (S_lit1 (T := TUN) (y := o.h) rfl rfl rfl rfl fun w49 => ?_)
                    refine And.intro ?_ ?_
                    ·
                      exact (obT_skip rfl (obT_skip rfl (obT_skip rfl obT_nil)))
                    ·
                      refine WTm_step ⟨rfl, rfl⟩ (S_appN rfl rfl (by first | exact SRC.str rfl rfl | (apply RD.src; repeat (first | assumption | exact RD.head | exact RD.nil | apply RD.tail))) (by rfl) (by rfl) (by (try simp only [List.length_append, List.length_cons, List.length_nil]); omega) fun w46 => ?_)
                      refine And.intro ?_ ?_
                      ·
                        exact obT_nil
                      ·
                        refine WTm_step ⟨rfl, rfl⟩ (S_app rfl rfl (by repeat (first | exact Pick.head | apply Pick.tail)) (by first | exact SRC.str rfl rfl | (apply RD.src; repeat (first | assumption | exact RD.head | exact RD.nil | apply RD.tail))) (by rfl) (by rfl) (by (try simp only [List.length_append, List.length_cons, List.length_nil]); omega) fun w50 => ?_)
                        refine And.intro ?_ ?_
                        ·
                          exact obT_nil
                        ·
                          refine WTm_call rfl rfl rfl rfl ?_
                          refine (sp_Room (hs := hs ++ [o.h]) (by repeat (first | assumption | exact RD.head | exact RD.nil | apply RD.tail)) (by simp; omega) (fun h hh => by
                            rcases List.mem_append.1 hh with hh | hh
                            · exact c.ah h hh
                            · simp at hh; subst hh; exact o4)).mono ?_
                          rintro _ _ ⟨rfl, rfl⟩
                          refine And.intro ?_ ?_
                          ·
                            exact obT_nil
                          ·
                            refine WTq_step ⟨rfl, rfl⟩ (S_pure rfl ?_)
                            refine WTq_step ⟨rfl, rfl⟩ (S_pure rfl ?_)
                            refine WT_leaf ?_
                            rw [show want0 hs o = decide (Room (hs ++ [o.h])) by simp [want0, hg2, hg3]]
                            exact KPost_i (by repeat (first | exact SubE.nil | apply SubE.cons rfl)) (by repeat (first | exact HSub.refl | refine HSub.pick (by repeat (first | exact Pick.head | apply Pick.tail)) ?_ | apply HSub.drop)) ⟨rfl, rfl, rfl⟩
                ·
                  try simp only [decide_eq_true_eq, decide_eq_false_iff_not, Bool.not_eq_true', Bool.not_eq_false', beq_iff_eq, bne_iff_ne, beq_eq_false_iff_ne, Int.ofNat_lt, Int.ofNat_le, Int.ofNat_inj, ne_eq, gt_iff_lt, ge_iff_le] at hg3
                  refine WTq_off ⟨rfl, rfl⟩ ?_
                  refine WTq_off ⟨rfl, rfl⟩ ?_
                  refine WTr_off ⟨rfl, rfl⟩ ?_
                  refine WT_alt ?_ ?_
                  ·
                    refine WTm_off ⟨rfl, rfl⟩ ?_ ?_
                    ·
                      exact (obT_ob (by first | exact ObR.off rfl | exact ObR.of_step rfl (S_loadO rfl (by repeat (first | exact Pick.head | apply Pick.tail)) rfl rfl (by first | rfl | simp [eqV, eqV0])) | exact ObR.of_step rfl (S_loadT rfl (by repeat (first | exact Pick.head | apply Pick.tail)) (by rfl) (by rfl) (by first | rfl | simp [eqV, eqV0]))) (obT_skip rfl (obT_skip rfl obT_nil)))
                    ·
                      refine WTm_off ⟨rfl, rfl⟩ ?_ ?_
                      ·
                        exact (obT_skip rfl obT_nil)
                      ·
                        refine WTm_off ⟨rfl, rfl⟩ ?_ ?_
                        ·
                          exact obT_nil
                        ·
                          refine WTm_off ⟨rfl, rfl⟩ ?_ ?_
                          ·
                            exact obT_nil
                          ·
                            refine WTq_step ⟨rfl, rfl⟩ (S_pure rfl ?_)
                            refine WTq_step ⟨rfl, rfl⟩ (S_pure rfl ?_)
                            refine WT_leaf ?_
                            rw [show want0 hs o = false by simp [want0, hg3]]
                            exact KPost_i (by repeat (first | exact SubE.nil | apply SubE.cons rfl)) (by repeat (first | exact HSub.refl | refine HSub.pick (by repeat (first | exact Pick.head | apply Pick.tail)) ?_ | apply HSub.drop)) ⟨rfl, rfl, rfl⟩
                  ·
                    refine WTm_off ⟨rfl, rfl⟩ ?_ ?_
                    ·
                      exact (obT_skip rfl (obT_skip rfl (obT_skip rfl obT_nil)))
                    ·
                      refine WTm_off ⟨rfl, rfl⟩ ?_ ?_
                      ·
                        exact obT_nil
                      ·
                        refine WTm_off ⟨rfl, rfl⟩ ?_ ?_
                        ·
                          exact obT_nil
                        ·
                          refine WTm_off ⟨rfl, rfl⟩ ?_ ?_
                          ·
                            exact obT_nil
                          ·
                            refine WTq_step ⟨rfl, rfl⟩ (S_pure rfl ?_)
                            refine WTq_step ⟨rfl, rfl⟩ (S_pure rfl ?_)
                            refine WT_leaf ?_
                            rw [show want0 hs o = false by simp [want0, hg3]]
                            exact KPost_i (by repeat (first | exact SubE.nil | apply SubE.cons rfl)) (by repeat (first | exact HSub.refl | refine HSub.pick (by repeat (first | exact Pick.head | apply Pick.tail)) ?_ | apply HSub.drop)) ⟨rfl, rfl, rfl⟩
              ·
                try simp only [decide_eq_true_eq, decide_eq_false_iff_not, Bool.not_eq_true', Bool.not_eq_false', beq_iff_eq, bne_iff_ne, beq_eq_false_iff_ne, Int.ofNat_lt, Int.ofNat_le, Int.ofNat_inj, ne_eq, gt_iff_lt, ge_iff_le] at hg2
                refine WTq_off ⟨rfl, rfl⟩ ?_
                refine WTr_off ⟨rfl, rfl⟩ ?_
                refine WTq_off ⟨rfl, rfl⟩ ?_
                refine WTq_step ⟨rfl, rfl⟩ (S_pure rfl ?_)
                refine WTq_step ⟨rfl, rfl⟩ (S_pure rfl ?_)
                refine WTq_off ⟨rfl, rfl⟩ ?_
                refine WTq_off ⟨rfl, rfl⟩ ?_
                refine WTr_off ⟨rfl, rfl⟩ ?_
                refine WT_alt ?_ ?_
                ·
                  refine WTm_off ⟨rfl, rfl⟩ ?_ ?_
                  ·
                    exact (obT_ob (by first | exact ObR.off rfl | exact ObR.of_step rfl (S_loadO rfl (by repeat (first | exact Pick.head | apply Pick.tail)) rfl rfl (by first | rfl | simp [eqV, eqV0])) | exact ObR.of_step rfl (S_loadT rfl (by repeat (first | exact Pick.head | apply Pick.tail)) (by rfl) (by rfl) (by first | rfl | simp [eqV, eqV0]))) (obT_skip rfl (obT_skip rfl obT_nil)))
                  ·
                    refine WTm_off ⟨rfl, rfl⟩ ?_ ?_
                    ·
                      exact (obT_skip rfl obT_nil)
                    ·
                      refine WTm_off ⟨rfl, rfl⟩ ?_ ?_
                      ·
                        exact obT_nil
                      ·
                        refine WTm_off ⟨rfl, rfl⟩ ?_ ?_
                        ·
                          exact obT_nil
                        ·
                          refine WTq_step ⟨rfl, rfl⟩ (S_pure rfl ?_)
                          refine WTq_step ⟨rfl, rfl⟩ (S_pure rfl ?_)
                          refine WT_leaf ?_
                          rw [show want0 hs o = false by simp [want0, hg2]]
                          exact KPost_i (by repeat (first | exact SubE.nil | apply SubE.cons rfl)) (by repeat (first | exact HSub.refl | refine HSub.pick (by repeat (first | exact Pick.head | apply Pick.tail)) ?_ | apply HSub.drop)) ⟨rfl, rfl, rfl⟩
                ·
                  refine WTm_off ⟨rfl, rfl⟩ ?_ ?_
                  ·
                    exact (obT_skip rfl (obT_skip rfl (obT_skip rfl obT_nil)))
                  ·
                    refine WTm_off ⟨rfl, rfl⟩ ?_ ?_
                    ·
                      exact obT_nil
                    ·
                      refine WTm_off ⟨rfl, rfl⟩ ?_ ?_
                      ·
                        exact obT_nil
                      ·
                        refine WTm_off ⟨rfl, rfl⟩ ?_ ?_
                        ·
                          exact obT_nil
                        ·
                          refine WTq_step ⟨rfl, rfl⟩ (S_pure rfl ?_)
                          refine WTq_step ⟨rfl, rfl⟩ (S_pure rfl ?_)
                          refine WT_leaf ?_
                          rw [show want0 hs o = false by simp [want0, hg2]]
                          exact KPost_i (by repeat (first | exact SubE.nil | apply SubE.cons rfl)) (by repeat (first | exact HSub.refl | refine HSub.pick (by repeat (first | exact Pick.head | apply Pick.tail)) ?_ | apply HSub.drop)) ⟨rfl, rfl, rfl⟩
            ·
              rintro x l' H' ⟨rfl, rfl, rfl⟩
              refine QSeq_n ?_
              refine WQ_seq ?_
              refine WQ_seq ?_
              refine WQ_region ?_
              refine WO_step rfl (S_pure rfl ?_)
              refine WO_step rfl (S_pure rfl ?_)
              refine WO_step rfl (S_loadO rfl (by repeat (first | exact Pick.head | apply Pick.tail)) (by rfl) (by rfl) ?_)
              refine WO_step rfl (S_pure rfl ?_)
              refine WO_step rfl (S_loadO rfl (by repeat (first | exact Pick.head | apply Pick.tail)) (by rfl) (by rfl) ?_)
              refine WO_call rfl rfl rfl ?_
              refine (sp_ins (id := o.id) c.g (by repeat (first | exact hp | exact Pick.head | apply Pick.tail)) o4 (by omega)).mono ?_
              rintro _ _ ⟨es', n', ok, rfl, rfl, hg', hok1, hno⟩
              have hag := ins_agree c hok1 hno
              refine WO_step rfl (S_pure rfl ?_)
              refine WO_step rfl (S_pure rfl ?_)
              refine WO_nil ?_
              refine QSeq_n ?_
              refine WQ_cond rfl (fun hb3 => ?_) (fun hb3 => ?_)
              ·
                try simp only [decide_eq_true_eq, decide_eq_false_iff_not, Bool.not_eq_true', Bool.not_eq_false', beq_iff_eq, bne_iff_ne, beq_eq_false_iff_ne, Int.ofNat_lt, Int.ofNat_le, Int.ofNat_inj, ne_eq, gt_iff_lt, ge_iff_le] at hb3
                refine WQ_seq ?_
                refine WQ_region ?_
                refine WO_step rfl (S_pure rfl ?_)
                refine WO_nil ?_
                refine QSeq_n ?_
                refine WQ_ret ?_
                refine QSeq_r ?_
                refine KBlock_r ?_
                exfalso
                rw [hag] at hb3
                simp at hb3
              ·
                try simp only [decide_eq_true_eq, decide_eq_false_iff_not, Bool.not_eq_true', Bool.not_eq_false', beq_iff_eq, bne_iff_ne, beq_eq_false_iff_ne, Int.ofNat_lt, Int.ofNat_le, Int.ofNat_inj, ne_eq, gt_iff_lt, ge_iff_le] at hb3
                refine WQ_skip ?_
                refine QSeq_n ?_
                refine WQ_seq ?_
                refine WQ_region ?_
                refine WO_step rfl (S_pure rfl ?_)
                refine WO_nil ?_
                refine QSeq_n ?_
                refine WQ_cond rfl (fun hb4 => ?_) (fun hb4 => ?_)
                ·
                  try simp only [decide_eq_true_eq, decide_eq_false_iff_not, Bool.not_eq_true', Bool.not_eq_false', beq_iff_eq, bne_iff_ne, beq_eq_false_iff_ne, Int.ofNat_lt, Int.ofNat_le, Int.ofNat_inj, ne_eq, gt_iff_lt, ge_iff_le] at hb4
                  obtain ⟨hn', _, hi⟩ := hok1 (hag.trans hb4)
                  have hn2 : n' = (l ++ [(⟨o.h, o.id⟩ : Kv)]).length := by rw [hn']; simp
                  subst hn2
                  refine WQ_many ?_
                  refine WTq_step ⟨rfl, rfl⟩ (S_pure rfl ?_)
                  refine WTq_step ⟨rfl, rfl⟩ (S_pure rfl ?_)
                  refine WTr_step ⟨rfl, rfl⟩ (S_loadO rfl (by repeat (first | exact Pick.head | apply Pick.tail)) (by rfl) (by rfl) ?_)
                  refine WTq_step ⟨rfl, rfl⟩ (S_pure rfl ?_)
                  refine WTr_step ⟨rfl, rfl⟩ (S_loadO rfl (by repeat (first | exact Pick.head | apply Pick.tail)) (by rfl) (by rfl) ?_)
                  refine WTq_step ⟨rfl, rfl⟩ (S_pure rfl ?_)
                  refine WTq_step ⟨rfl, rfl⟩ (S_pure rfl ?_)
                  refine WTq_step ⟨rfl, rfl⟩ (S_pure rfl ?_)
                  refine WTr_step ⟨rfl, rfl⟩ (S_loadO rfl (by repeat (first | exact Pick.head | apply Pick.tail)) (by rfl) (by rfl) ?_)
                  refine WT_alt ?_ ?_
                  ·
                    refine WTm_step ⟨rfl, rfl⟩ (S_lit1 (T := TKv) (y := ⟨o.h, o.id⟩) rfl rfl rfl rfl fun w68 => ?_)
                    refine And.intro ?_ ?_
                    ·
                      exact (obT_ob (by first | exact ObR.off rfl | exact ObR.of_step rfl (S_loadO rfl (by repeat (first | exact Pick.head | apply Pick.tail)) rfl rfl (by first | rfl | simp [eqV, eqV0])) | exact ObR.of_step rfl (S_loadT rfl (by repeat (first | exact Pick.head | apply Pick.tail)) (by rfl) (by rfl) (by first | rfl | simp [eqV, eqV0]))) (obT_skip rfl (obT_skip rfl obT_nil)))
                    ·
                      refine WT_alt ?_ ?_
                      ·
                        refine WTm_step ⟨rfl, rfl⟩ (S_app rfl rfl (by repeat (first | exact Pick.head | apply Pick.tail)) (by first | exact SRC.str rfl rfl | (apply RD.src; repeat (first | assumption | exact RD.head | exact RD.nil | apply RD.tail))) (by rfl) (by rfl) (by (try simp only [List.length_append, List.length_cons, List.length_nil]); omega) fun w69 => ?_)
                        refine And.intro ?_ ?_
                        ·
                          exact (obT_ob (by first | exact ObR.off rfl | exact ObR.of_step rfl (S_loadO rfl (by repeat (first | exact Pick.head | apply Pick.tail)) rfl rfl (by first | rfl | simp [eqV, eqV0])) | exact ObR.of_step rfl (S_loadT rfl (by repeat (first | exact Pick.head | apply Pick.tail)) (by rfl) (by rfl) (by first | rfl | simp [eqV, eqV0]))) obT_nil)
                        ·
                          refine WTm_step ⟨rfl, rfl⟩ (S_lit1 (T := TUN) (y := o.h) rfl rfl rfl rfl fun w73 => ?_)
                          refine And.intro ?_ ?_
                          ·
                            exact (obT_skip rfl obT_nil)
                          ·
                            refine WTm_step ⟨rfl, rfl⟩ (S_app rfl rfl (by repeat (first | exact Pick.head | apply Pick.tail)) (by first | exact SRC.str rfl rfl | (apply RD.src; repeat (first | assumption | exact RD.head | exact RD.nil | apply RD.tail))) (by rfl) (by rfl) (by (try simp only [List.length_append, List.length_cons, List.length_nil]); omega) fun w74 => ?_)
                            refine And.intro ?_ ?_
                            ·
                              exact obT_nil
                            ·
                              refine WTq_step ⟨rfl, rfl⟩ (S_pure rfl ?_)
                              refine WTq_step ⟨rfl, rfl⟩ (S_pure rfl ?_)
                              refine WT_leaf ?_
                              refine KBlock_n ?_
                              exact KPost_i (by repeat (first | exact SubE.nil | apply SubE.cons rfl)) (by repeat (first | exact HSub.refl | refine HSub.pick (by repeat (first | exact Pick.head | apply Pick.tail)) ?_ | apply HSub.drop)) ⟨es', l ++ [⟨o.h, o.id⟩], hs ++ [o.h], w69, w74, .inl rfl, rfl, rfl, c.ins hg' hi o4, by simp; omega⟩
                      ·
                        refine WTm_step ⟨rfl, rfl⟩ (S_lit1 (T := TUN) (y := o.h) rfl rfl rfl rfl fun w73 => ?_)
                        refine And.intro ?_ ?_
                        ·
                          exact (obT_skip rfl obT_nil)
                        ·
                          refine WTm_step ⟨rfl, rfl⟩ (S_app rfl rfl (by repeat (first | exact Pick.head | apply Pick.tail)) (by first | exact SRC.str rfl rfl | (apply RD.src; repeat (first | assumption | exact RD.head | exact RD.nil | apply RD.tail))) (by rfl) (by rfl) (by (try simp only [List.length_append, List.length_cons, List.length_nil]); omega) fun w69 => ?_)
                          refine And.intro ?_ ?_
                          ·
                            exact obT_nil
                          ·
                            refine WTm_step ⟨rfl, rfl⟩ (S_app rfl rfl (by repeat (first | exact Pick.head | apply Pick.tail)) (by first | exact SRC.str rfl rfl | (apply RD.src; repeat (first | assumption | exact RD.head | exact RD.nil | apply RD.tail))) (by rfl) (by rfl) (by (try simp only [List.length_append, List.length_cons, List.length_nil]); omega) fun w74 => ?_)
                            refine And.intro ?_ ?_
                            ·
                              exact obT_nil
                            ·
                              refine WTq_step ⟨rfl, rfl⟩ (S_pure rfl ?_)
                              refine WTq_step ⟨rfl, rfl⟩ (S_pure rfl ?_)
                              refine WT_leaf ?_
                              refine KBlock_n ?_
                              exact KPost_i (by repeat (first | exact SubE.nil | apply SubE.cons rfl)) (by repeat (first | exact HSub.refl | refine HSub.pick (by repeat (first | exact Pick.head | apply Pick.tail)) ?_ | apply HSub.drop)) ⟨es', l ++ [⟨o.h, o.id⟩], hs ++ [o.h], w69, w74, .inl rfl, rfl, rfl, c.ins hg' hi o4, by simp; omega⟩
                  ·
                    refine WTm_step ⟨rfl, rfl⟩ (S_lit1 (T := TUN) (y := o.h) rfl rfl rfl rfl fun w73 => ?_)
                    refine And.intro ?_ ?_
                    ·
                      exact (obT_skip rfl (obT_ob (by first | exact ObR.off rfl | exact ObR.of_step rfl (S_loadO rfl (by repeat (first | exact Pick.head | apply Pick.tail)) rfl rfl (by first | rfl | simp [eqV, eqV0])) | exact ObR.of_step rfl (S_loadT rfl (by repeat (first | exact Pick.head | apply Pick.tail)) (by rfl) (by rfl) (by first | rfl | simp [eqV, eqV0]))) (obT_ob (by first | exact ObR.off rfl | exact ObR.of_step rfl (S_loadO rfl (by repeat (first | exact Pick.head | apply Pick.tail)) rfl rfl (by first | rfl | simp [eqV, eqV0])) | exact ObR.of_step rfl (S_loadT rfl (by repeat (first | exact Pick.head | apply Pick.tail)) (by rfl) (by rfl) (by first | rfl | simp [eqV, eqV0]))) obT_nil)))
                    ·
                      refine WTm_step ⟨rfl, rfl⟩ (S_lit1 (T := TKv) (y := ⟨o.h, o.id⟩) rfl rfl rfl rfl fun w68 => ?_)
                      refine And.intro ?_ ?_
                      ·
                        exact (obT_skip rfl (obT_skip rfl obT_nil))
                      ·
                        refine WTm_step ⟨rfl, rfl⟩ (S_app rfl rfl (by repeat (first | exact Pick.head | apply Pick.tail)) (by first | exact SRC.str rfl rfl | (apply RD.src; repeat (first | assumption | exact RD.head | exact RD.nil | apply RD.tail))) (by rfl) (by rfl) (by (try simp only [List.length_append, List.length_cons, List.length_nil]); omega) fun w69 => ?_)
                        refine And.intro ?_ ?_
                        ·
                          exact obT_nil
                        ·
                          refine WTm_step ⟨rfl, rfl⟩ (S_app rfl rfl (by repeat (first | exact Pick.head | apply Pick.tail)) (by first | exact SRC.str rfl rfl | (apply RD.src; repeat (first | assumption | exact RD.head | exact RD.nil | apply RD.tail))) (by rfl) (by rfl) (by (try simp only [List.length_append, List.length_cons, List.length_nil]); omega) fun w74 => ?_)
                          refine And.intro ?_ ?_
                          ·
                            exact obT_nil
                          ·
                            refine WTq_step ⟨rfl, rfl⟩ (S_pure rfl ?_)
                            refine WTq_step ⟨rfl, rfl⟩ (S_pure rfl ?_)
                            refine WT_leaf ?_
                            refine KBlock_n ?_
                            exact KPost_i (by repeat (first | exact SubE.nil | apply SubE.cons rfl)) (by repeat (first | exact HSub.refl | refine HSub.pick (by repeat (first | exact Pick.head | apply Pick.tail)) ?_ | apply HSub.drop)) ⟨es', l ++ [⟨o.h, o.id⟩], hs ++ [o.h], w69, w74, .inl rfl, rfl, rfl, c.ins hg' hi o4, by simp; omega⟩
                ·
                  try simp only [decide_eq_true_eq, decide_eq_false_iff_not, Bool.not_eq_true', Bool.not_eq_false', beq_iff_eq, bne_iff_ne, beq_eq_false_iff_ne, Int.ofNat_lt, Int.ofNat_le, Int.ofNat_inj, ne_eq, gt_iff_lt, ge_iff_le] at hb4
                  obtain ⟨rfl, rfl, _⟩ := hno (hag.trans hb4)
                  refine WQ_skip ?_
                  refine KBlock_n ?_
                  exact KPost_i (by repeat (first | exact SubE.nil | apply SubE.cons rfl)) (by repeat (first | exact HSub.refl | refine HSub.pick (by repeat (first | exact Pick.head | apply Pick.tail)) ?_ | apply HSub.drop)) ⟨es', l, hs, w5, w6, .inl rfl, rfl, rfl, c, by omega⟩
          ·
            try simp only [decide_eq_true_eq, decide_eq_false_iff_not, Bool.not_eq_true', Bool.not_eq_false', beq_iff_eq, bne_iff_ne, beq_eq_false_iff_ne, Int.ofNat_lt, Int.ofNat_le, Int.ofNat_inj, ne_eq, gt_iff_lt, ge_iff_le] at hb2
            refine WQ_seq ?_
            refine WQ_region ?_
            first | refine WO_step rfl (S_eqS rfl rfl ?_) | refine WO_step rfl (S_pure rfl ?_)
            refine WO_step rfl (S_pure rfl ?_)
            refine WO_nil ?_
            refine QSeq_n ?_
            refine WQ_cond rfl (fun hb5 => ?_) (fun hb5 => ?_)
            ·
              try simp only [decide_eq_true_eq, decide_eq_false_iff_not, Bool.not_eq_true', Bool.not_eq_false', beq_iff_eq, bne_iff_ne, beq_eq_false_iff_ne, Int.ofNat_lt, Int.ofNat_le, Int.ofNat_inj, ne_eq, gt_iff_lt, ge_iff_le] at hb5
              refine WQ_seq ?_
              refine WQ_region ?_
              refine WO_step rfl (S_pure rfl ?_)
              refine WO_step rfl (S_pure rfl ?_)
              refine WO_nil ?_
              refine QSeq_n ?_
              refine WQ_seq ?_
              refine WQ_seq ?_
              refine WQ_region ?_
              refine WO_step rfl (S_pure rfl ?_)
              refine WO_nil ?_
              refine QSeq_n ?_
              refine WQ_block ?_
              --out x3
              refine WQ_post (WQ_weak (WQ_of (lp_All_1 (H := DO i4 es l.length :: SL w5.toV TKv l :: SL w6.toV TUN hs :: H) o4 (by repeat (first | assumption | exact RD.head | exact RD.nil | apply RD.tail)) c.al (by omega) v _ _ _ l.length 0 (-1) 0 (by omega) (by omega) (by omega) (AtI.zero l o))) (by repeat (first | exact SubE.nil | apply SubE.cons rfl)) (by repeat (first | exact HSub.refl | refine HSub.pick (by repeat (first | exact Pick.head | apply Pick.tail)) ?_ | apply HSub.drop))) ?_
              rintro x l' _ ⟨a, mm, rfl, rfl, rfl, ha⟩
              refine KBlock_h ?_
              refine QSeq_n ?_
              refine WQ_seq ?_
              refine WQ_seq ?_
              refine WQ_region ?_
              refine WO_step rfl (S_pure rfl ?_)
              refine WO_step rfl (S_pure rfl ?_)
              refine WO_nil ?_
              refine QSeq_n ?_
              refine WQ_cond rfl (fun hb6 => ?_) (fun hb6 => ?_)
              ·
                try simp only [decide_eq_true_eq, decide_eq_false_iff_not, Bool.not_eq_true', Bool.not_eq_false', beq_iff_eq, bne_iff_ne, beq_eq_false_iff_ne, Int.ofNat_lt, Int.ofNat_le, Int.ofNat_inj, ne_eq, gt_iff_lt, ge_iff_le] at hb6
                refine WQ_exit ?_
                refine QSeq_x ?_
                refine KBlock_x (by decide) ?_
                exact KPost_i (by repeat (first | exact SubE.nil | apply SubE.cons rfl)) (by repeat (first | exact HSub.refl | refine HSub.pick (by repeat (first | exact Pick.head | apply Pick.tail)) ?_ | apply HSub.drop)) ⟨es, l, hs, w5, w6, .inr rfl, rfl, rfl, c, by omega⟩
              ·
                try simp only [decide_eq_true_eq, decide_eq_false_iff_not, Bool.not_eq_true', Bool.not_eq_false', beq_iff_eq, bne_iff_ne, beq_eq_false_iff_ne, Int.ofNat_lt, Int.ofNat_le, Int.ofNat_inj, ne_eq, gt_iff_lt, ge_iff_le] at hb6
                refine WQ_skip ?_
                refine QSeq_n ?_
                refine WQ_seq ?_
                refine WQ_region ?_
                refine WO_step rfl (S_pure rfl ?_)
                refine WO_step rfl (S_pure rfl ?_)
                refine WO_step rfl (S_pure rfl ?_)
                refine WO_cases (t := 108) rfl (fun hg4 => ?_) (fun hg4 => ?_)
                ·
                  try simp only [decide_eq_true_eq, decide_eq_false_iff_not, Bool.not_eq_true', Bool.not_eq_false', beq_iff_eq, bne_iff_ne, beq_eq_false_iff_ne, Int.ofNat_lt, Int.ofNat_le, Int.ofNat_inj, ne_eq, gt_iff_lt, ge_iff_le] at hg4
                  refine WO_step rfl (S_pure rfl ?_)
                  refine WO_step rfl (S_loadO rfl (by repeat (first | exact Pick.head | apply Pick.tail)) (by rfl) (by rfl) ?_)
                  refine WO_step rfl (S_pure rfl ?_)
                  refine WO_step rfl (S_pure rfl ?_)
                  refine WO_step rfl (S_pure rfl ?_)
                  refine WO_cases (t := 113) rfl (fun hg5 => ?_) (fun hg5 => ?_)
                  ·
                    try simp only [decide_eq_true_eq, decide_eq_false_iff_not, Bool.not_eq_true', Bool.not_eq_false', beq_iff_eq, bne_iff_ne, beq_eq_false_iff_ne, Int.ofNat_lt, Int.ofNat_le, Int.ofNat_inj, ne_eq, gt_iff_lt, ge_iff_le] at hg5
                    refine WO_step rfl (S_pure rfl ?_)
                    refine WO_step rfl (S_loadO rfl (by repeat (first | exact Pick.head | apply Pick.tail)) (by rfl) (by rfl) ?_)
                    refine WO_step rfl (S_pure rfl ?_)
                    refine WO_step rfl (S_pure rfl ?_)
                    refine WO_step rfl (S_pure rfl ?_)
                    refine WO_nil ?_
                    refine QSeq_n ?_
                    refine WQ_seq ?_
                    refine WQ_seq ?_
                    refine WQ_region ?_
                    refine WO_step rfl (S_pure rfl ?_)
                    refine WO_step rfl (S_pure rfl ?_)
                    refine WO_step rfl (S_loadO rfl (by repeat (first | exact Pick.head | apply Pick.tail)) (by rfl) (by rfl) ?_)
                    refine WO_step rfl (S_pure rfl ?_)
                    refine WO_step rfl (S_loadO rfl (by repeat (first | exact Pick.head | apply Pick.tail)) (by rfl) (by rfl) ?_)
                    refine WO_step rfl (S_pure rfl ?_)
                    refine WO_step rfl (S_loadO rfl (by repeat (first | exact Pick.head | apply Pick.tail)) (by rfl) (by rfl) ?_)
                    refine WO_call rfl rfl rfl ?_
                    refine (sp_Set' (old := o.old) (id := o.id) hel (by repeat (first | exact hp | exact Pick.head | apply Pick.tail)) o4).mono ?_
                    rintro _ _ ⟨es', b, rfl, rfl, hl', hs'⟩
                    obtain ⟨s1, s2, s3, s4⟩ := set_agree c.g c.hh hs' ha
                    refine WO_step rfl (S_pure rfl ?_)
                    refine WO_step rfl (S_pure rfl ?_)
                    refine WO_nil ?_
                    refine QSeq_n ?_
                    refine WQ_cond rfl (fun hb7 => ?_) (fun hb7 => ?_)
                    ·
                      try simp only [decide_eq_true_eq, decide_eq_false_iff_not, Bool.not_eq_true', Bool.not_eq_false', beq_iff_eq, bne_iff_ne, beq_eq_false_iff_ne, Int.ofNat_lt, Int.ofNat_le, Int.ofNat_inj, ne_eq, gt_iff_lt, ge_iff_le] at hb7
                      refine WQ_seq ?_
                      refine WQ_region ?_
                      refine WO_step rfl (S_pure rfl ?_)
                      refine WO_nil ?_
                      refine QSeq_n ?_
                      refine WQ_ret ?_
                      refine QSeq_r ?_
                      refine KBlock_r ?_
                      exfalso
                      rw [s1] at hb7
                      simp [hg4, hg5] at hb7
                    ·
                      try simp only [decide_eq_true_eq, decide_eq_false_iff_not, Bool.not_eq_true', Bool.not_eq_false', beq_iff_eq, bne_iff_ne, beq_eq_false_iff_ne, Int.ofNat_lt, Int.ofNat_le, Int.ofNat_inj, ne_eq, gt_iff_lt, ge_iff_le] at hb7
                      refine WQ_skip ?_
                      refine QSeq_n ?_
                      refine WQ_seq ?_
                      refine WQ_region ?_
                      refine WO_step rfl (S_pure rfl ?_)
                      refine WO_nil ?_
                      refine QSeq_n ?_
                      refine WQ_cond rfl (fun hb8 => ?_) (fun hb8 => ?_)
                      ·
                        try simp only [decide_eq_true_eq, decide_eq_false_iff_not, Bool.not_eq_true', Bool.not_eq_false', beq_iff_eq, bne_iff_ne, beq_eq_false_iff_ne, Int.ofNat_lt, Int.ofNat_le, Int.ofNat_inj, ne_eq, gt_iff_lt, ge_iff_le] at hb8
                        obtain ⟨k, y, rfl, hy, hh'⟩ := s4 (by rw [s1]; simp [hg4, hg5, hb8])
                        refine WQ_region ?_
                        refine WO_step rfl (S_pure rfl ?_)
                        refine WO_step rfl (S_pure rfl ?_)
                        refine WO_step rfl (S_pure rfl ?_)
                        refine WO_step rfl (S_loadO rfl (by repeat (first | exact Pick.head | apply Pick.tail)) (by rfl) (by rfl) ?_)
                        refine WO_step rfl (S_idx rfl rfl (by repeat (first | assumption | exact RD.head | exact RD.nil | apply RD.tail)) (by first | rfl | assumption | (symm; assumption)) (by rfl) (by first | assumption | omega | exact lt_of_get (by assumption) | (simp only [List.length_set]; first | assumption | omega | exact lt_of_get (by assumption))) fun hp133 => ?_)
                        refine WO_step rfl (S_fldE rfl (by repeat (first | assumption | apply IsP.padd)) ?_)
                        refine WO_step rfl (S_storeE (j := k) (y := ⟨y.h, o.id⟩) rfl (.inl rfl) rfl (by repeat (first | exact Pick.head | apply Pick.tail)) (by rfl) hy (by first | rfl | exact SV.cells1 _) (by exact Nat.le_of_ble_eq_true rfl) (by first | rfl | exact SV.ones _) (by rfl) ?_)
                        refine WO_nil ?_
                        refine KBlock_n ?_
                        exact KPost_i (H' := OB i8 TOp o :: DO i4 es' l.length :: SL w5.toV TKv (l.set k ⟨y.h, o.id⟩) :: SL w6.toV TUN hs :: H) (by repeat (first | exact SubE.nil | apply SubE.cons rfl)) (by repeat (first | exact HSub.refl | refine HSub.pick (by repeat (first | exact Pick.head | apply Pick.tail)) ?_ | apply HSub.drop)) ⟨es', l.set k ⟨y.h, o.id⟩, hs, w5, w6, .inl rfl, rfl, by rw [List.length_set], c.set s2 hy hh', by rw [List.length_set]; omega⟩
                      ·
                        try simp only [decide_eq_true_eq, decide_eq_false_iff_not, Bool.not_eq_true', Bool.not_eq_false', beq_iff_eq, bne_iff_ne, beq_eq_false_iff_ne, Int.ofNat_lt, Int.ofNat_le, Int.ofNat_inj, ne_eq, gt_iff_lt, ge_iff_le] at hb8
                        refine WQ_skip ?_
                        refine KBlock_n ?_
                        have e := s3 (by rw [s1]; simp [hb8])
                        subst e
                        exact KPost_i (by repeat (first | exact SubE.nil | apply SubE.cons rfl)) (by repeat (first | exact HSub.refl | refine HSub.pick (by repeat (first | exact Pick.head | apply Pick.tail)) ?_ | apply HSub.drop)) ⟨_, l, hs, w5, w6, .inl rfl, rfl, rfl, c, by omega⟩
                  ·
                    try simp only [decide_eq_true_eq, decide_eq_false_iff_not, Bool.not_eq_true', Bool.not_eq_false', beq_iff_eq, bne_iff_ne, beq_eq_false_iff_ne, Int.ofNat_lt, Int.ofNat_le, Int.ofNat_inj, ne_eq, gt_iff_lt, ge_iff_le] at hg5
                    refine WO_off rfl ?_
                    refine WO_off rfl ?_
                    refine WO_off rfl ?_
                    refine WO_step rfl (S_pure rfl ?_)
                    refine WO_step rfl (S_pure rfl ?_)
                    refine WO_nil ?_
                    refine QSeq_n ?_
                    refine WQ_seq ?_
                    refine WQ_seq ?_
                    refine WQ_region ?_
                    refine WO_step rfl (S_pure rfl ?_)
                    refine WO_step rfl (S_pure rfl ?_)
                    refine WO_step rfl (S_loadO rfl (by repeat (first | exact Pick.head | apply Pick.tail)) (by rfl) (by rfl) ?_)
                    refine WO_step rfl (S_pure rfl ?_)
                    refine WO_step rfl (S_loadO rfl (by repeat (first | exact Pick.head | apply Pick.tail)) (by rfl) (by rfl) ?_)
                    refine WO_step rfl (S_pure rfl ?_)
                    refine WO_step rfl (S_loadO rfl (by repeat (first | exact Pick.head | apply Pick.tail)) (by rfl) (by rfl) ?_)
                    refine WO_call rfl rfl rfl ?_
                    refine (sp_Set' (old := o.old) (id := o.id) hel (by repeat (first | exact hp | exact Pick.head | apply Pick.tail)) o4).mono ?_
                    rintro _ _ ⟨es', b, rfl, rfl, hl', hs'⟩
                    obtain ⟨s1, s2, s3, s4⟩ := set_agree c.g c.hh hs' ha
                    refine WO_step rfl (S_pure rfl ?_)
                    refine WO_step rfl (S_pure rfl ?_)
                    refine WO_nil ?_
                    refine QSeq_n ?_
                    refine WQ_cond rfl (fun hb9 => ?_) (fun hb9 => ?_)
                    ·
                      try simp only [decide_eq_true_eq, decide_eq_false_iff_not, Bool.not_eq_true', Bool.not_eq_false', beq_iff_eq, bne_iff_ne, beq_eq_false_iff_ne, Int.ofNat_lt, Int.ofNat_le, Int.ofNat_inj, ne_eq, gt_iff_lt, ge_iff_le] at hb9
                      refine WQ_seq ?_
                      refine WQ_region ?_
                      refine WO_step rfl (S_pure rfl ?_)
                      refine WO_nil ?_
                      refine QSeq_n ?_
                      refine WQ_ret ?_
                      refine QSeq_r ?_
                      refine KBlock_r ?_
                      exfalso
                      rw [s1] at hb9
                      simp [hg4, hg5] at hb9
                    ·
                      try simp only [decide_eq_true_eq, decide_eq_false_iff_not, Bool.not_eq_true', Bool.not_eq_false', beq_iff_eq, bne_iff_ne, beq_eq_false_iff_ne, Int.ofNat_lt, Int.ofNat_le, Int.ofNat_inj, ne_eq, gt_iff_lt, ge_iff_le] at hb9
                      refine WQ_skip ?_
                      refine QSeq_n ?_
                      refine WQ_seq ?_
                      refine WQ_region ?_
                      refine WO_step rfl (S_pure rfl ?_)
                      refine WO_nil ?_
                      refine QSeq_n ?_
                      refine WQ_cond rfl (fun h => ?_) (fun _ => ?_)
                      · exact absurd h (by decide)
                      refine WQ_skip ?_
                      refine KBlock_n ?_
                      have e := s3 (by rw [s1]; simp [hg5])
                      subst e
                      exact KPost_i (by repeat (first | exact SubE.nil | apply SubE.cons rfl)) (by repeat (first | exact HSub.refl | refine HSub.pick (by repeat (first | exact Pick.head | apply Pick.tail)) ?_ | apply HSub.drop)) ⟨_, l, hs, w5, w6, .inl rfl, rfl, rfl, c, by omega⟩
                ·
                  try simp only [decide_eq_true_eq, decide_eq_false_iff_not, Bool.not_eq_true', Bool.not_eq_false', beq_iff_eq, bne_iff_ne, beq_eq_false_iff_ne, Int.ofNat_lt, Int.ofNat_le, Int.ofNat_inj, ne_eq, gt_iff_lt, ge_iff_le] at hg4
                  refine WO_off rfl ?_
                  refine WO_off rfl ?_
                  refine WO_off rfl ?_
                  refine WO_step rfl (S_pure rfl ?_)
                  refine WO_step rfl (S_pure rfl ?_)
                  refine WO_off rfl ?_
                  refine WO_off rfl ?_
                  refine WO_off rfl ?_
                  refine WO_step rfl (S_pure rfl ?_)
                  refine WO_step rfl (S_pure rfl ?_)
                  refine WO_nil ?_
                  refine QSeq_n ?_
                  refine WQ_seq ?_
                  refine WQ_seq ?_
                  refine WQ_region ?_
                  refine WO_step rfl (S_pure rfl ?_)
                  refine WO_step rfl (S_pure rfl ?_)
                  refine WO_step rfl (S_loadO rfl (by repeat (first | exact Pick.head | apply Pick.tail)) (by rfl) (by rfl) ?_)
                  refine WO_step rfl (S_pure rfl ?_)
                  refine WO_step rfl (S_loadO rfl (by repeat (first | exact Pick.head | apply Pick.tail)) (by rfl) (by rfl) ?_)
                  refine WO_step rfl (S_pure rfl ?_)
                  refine WO_step rfl (S_loadO rfl (by repeat (first | exact Pick.head | apply Pick.tail)) (by rfl) (by rfl) ?_)
                  refine WO_call rfl rfl rfl ?_
                  refine (sp_Set' (old := o.old) (id := o.id) hel (by repeat (first | exact hp | exact Pick.head | apply Pick.tail)) o4).mono ?_
                  rintro _ _ ⟨es', b, rfl, rfl, hl', hs'⟩
                  obtain ⟨s1, s2, s3, s4⟩ := set_agree c.g c.hh hs' ha
                  refine WO_step rfl (S_pure rfl ?_)
                  refine WO_step rfl (S_pure rfl ?_)
                  refine WO_nil ?_
                  refine QSeq_n ?_
                  refine WQ_cond rfl (fun hb10 => ?_) (fun hb10 => ?_)
                  ·
                    try simp only [decide_eq_true_eq, decide_eq_false_iff_not, Bool.not_eq_true', Bool.not_eq_false', beq_iff_eq, bne_iff_ne, beq_eq_false_iff_ne, Int.ofNat_lt, Int.ofNat_le, Int.ofNat_inj, ne_eq, gt_iff_lt, ge_iff_le] at hb10
                    refine WQ_seq ?_
                    refine WQ_region ?_
                    refine WO_step rfl (S_pure rfl ?_)
                    refine WO_nil ?_
                    refine QSeq_n ?_
                    refine WQ_ret ?_
                    refine QSeq_r ?_
                    refine KBlock_r ?_
                    exfalso
                    rw [s1] at hb10
                    simp [hg4] at hb10
                  ·
                    try simp only [decide_eq_true_eq, decide_eq_false_iff_not, Bool.not_eq_true', Bool.not_eq_false', beq_iff_eq, bne_iff_ne, beq_eq_false_iff_ne, Int.ofNat_lt, Int.ofNat_le, Int.ofNat_inj, ne_eq, gt_iff_lt, ge_iff_le] at hb10
                    refine WQ_skip ?_
                    refine QSeq_n ?_
                    refine WQ_seq ?_
                    refine WQ_region ?_
                    refine WO_step rfl (S_pure rfl ?_)
                    refine WO_nil ?_
                    refine QSeq_n ?_
                    refine WQ_cond rfl (fun h => ?_) (fun _ => ?_)
                    · exact absurd h (by decide)
                    refine WQ_skip ?_
                    refine KBlock_n ?_
                    have e := s3 (by rw [s1]; simp [hg4])
                    subst e
                    exact KPost_i (by repeat (first | exact SubE.nil | apply SubE.cons rfl)) (by repeat (first | exact HSub.refl | refine HSub.pick (by repeat (first | exact Pick.head | apply Pick.tail)) ?_ | apply HSub.drop)) ⟨_, l, hs, w5, w6, .inl rfl, rfl, rfl, c, by omega⟩
            ·
              try simp only [decide_eq_true_eq, decide_eq_false_iff_not, Bool.not_eq_true', Bool.not_eq_false', beq_iff_eq, bne_iff_ne, beq_eq_false_iff_ne, Int.ofNat_lt, Int.ofNat_le, Int.ofNat_inj, ne_eq, gt_iff_lt, ge_iff_le] at hb5
              refine WQ_skip ?_
              refine KBlock_n ?_
              exact KPost_i (by repeat (first | exact SubE.nil | apply SubE.cons rfl)) (by repeat (first | exact HSub.refl | refine HSub.pick (by repeat (first | exact Pick.head | apply Pick.tail)) ?_ | apply HSub.drop)) ⟨es, l, hs, w5, w6, .inl rfl, rfl, rfl, c, by omega⟩
        ·
          --out n x1
          rintro x l' H' ⟨es', l2, hs2, w5', w6', hxx, rfl, rfl, c', hl2⟩
          have hel' := c'.g.len
          rcases hxx with rfl | rfl
          ·
            refine QSeq_n ?_
            refine WQ_seq ?_
            refine WQ_drawn ?_
            refine WD_step rfl (S_pure rfl ?_)
            refine WD_step rfl (S_pure rfl ?_)
            refine WD_step rfl (S_loadO rfl (by repeat (first | exact Pick.head | apply Pick.tail)) (by rfl) (by rfl) ?_)
            refine WD_call rfl rfl rfl ?_
            refine (sp_DFind hel' (by repeat (first | exact hp | exact Pick.head | apply Pick.tail)) o4).mono ?_
            rintro _ _ ⟨wF, LF, rfl, rfl, hsF, hpF⟩
            refine WD_step rfl (S_pure rfl ?_)
            refine WD_step rfl (S_pure rfl ?_)
            refine WD_step rfl (S_loadO rfl (by repeat (first | exact Pick.head | apply Pick.tail)) (by rfl) (by rfl) ?_)
            refine WD_call rfl rfl rfl ?_
            refine (sp_fI (by repeat (first | assumption | exact RD.head | exact RD.nil | apply RD.tail)) o4 c'.al (by omega)).mono ?_
            rintro _ _ ⟨wG, LG, rfl, rfl, hsG, hpG⟩
            have eFG : LF = LG := isor_perm hsF hsG (hpF.trans ((found_perm c'.hh o.h).trans hpG.symm))
            subst eFG
            refine WD_call rfl rfl rfl ?_
            refine (sp_eqI (a := LF) (b := LF) (by repeat (first | assumption | exact RD.head | exact RD.nil | apply RD.tail)) (by repeat (first | assumption | exact RD.head | exact RD.nil | apply RD.tail)) (by rw [hpF.length_eq]; have := foundL_len es' o.h; omega)).mono ?_
            rintro _ _ ⟨rfl, rfl⟩
            refine WD_step rfl (S_pure rfl ?_)
            refine WD_step rfl (S_pure rfl ?_)
            refine WD_cases (t := 145) rfl (fun hg6 => ?_) (fun hg6 => ?_)
            ·
              try simp only [decide_eq_true_eq, decide_eq_false_iff_not, Bool.not_eq_true', Bool.not_eq_false', beq_iff_eq, bne_iff_ne, beq_eq_false_iff_ne, Int.ofNat_lt, Int.ofNat_le, Int.ofNat_inj, ne_eq, gt_iff_lt, ge_iff_le] at hg6
              refine WD_off rfl ?_
              refine WD_off rfl ?_
              refine WD_off rfl ?_
              refine WD_off rfl ?_
              refine WD_step rfl (S_pure rfl ?_)
              refine WD_nil ?_
              refine ⟨?_, ?_⟩
              ·
                exact ⟨by first | exact ObR.of_step rfl (S_loadO rfl (by repeat (first | exact Pick.head | apply Pick.tail)) rfl rfl rfl) | exact ObR.off rfl | exact ObR.of_step rfl (S_loadO rfl (by repeat (first | exact Pick.head | apply Pick.tail)) rfl rfl (by simp [eqV, eqV0])), trivial⟩
              ·
                refine QSeq_n ?_
                refine WQ_cond rfl (fun _ => ?_) (fun h => ?_)
                rotate_left
                · exact absurd h (by decide)
                refine WQ_seq ?_
                refine WQ_region ?_
                refine WO_step rfl (S_pure rfl ?_)
                refine WO_nil ?_
                refine QSeq_n ?_
                refine WQ_ret ?_
                refine KBlock_r ?_
                refine QSeq_r ?_
                refine QLoop_r ?_
                exact absurd hg6 (by simp)
            ·
              try simp only [decide_eq_true_eq, decide_eq_false_iff_not, Bool.not_eq_true', Bool.not_eq_false', beq_iff_eq, bne_iff_ne, beq_eq_false_iff_ne, Int.ofNat_lt, Int.ofNat_le, Int.ofNat_inj, ne_eq, gt_iff_lt, ge_iff_le] at hg6
              refine WD_step rfl (S_pure rfl ?_)
              refine WD_step rfl (S_pure rfl ?_)
              refine WD_call rfl rfl rfl ?_
              refine (sp_lies c'.g (by repeat (first | exact Pick.head | apply Pick.tail)) (by repeat (first | assumption | exact RD.head | exact RD.nil | apply RD.tail)) c'.hh c'.al (by omega)).mono ?_
              rintro _ _ ⟨rfl, rfl⟩
              refine WD_step rfl (S_pure rfl ?_)
              refine WD_step rfl (S_pure rfl ?_)
              refine WD_nil ?_
              refine ⟨?_, ?_⟩
              ·
                exact ⟨by first | exact ObR.of_step rfl (S_loadO rfl (by repeat (first | exact Pick.head | apply Pick.tail)) rfl rfl rfl) | exact ObR.off rfl | exact ObR.of_step rfl (S_loadO rfl (by repeat (first | exact Pick.head | apply Pick.tail)) rfl rfl (by simp [eqV, eqV0])), trivial⟩
              ·
                refine QSeq_n ?_
                refine WQ_cond rfl (fun hb11 => ?_) (fun hb11 => ?_)
                ·
                  try simp only [decide_eq_true_eq, decide_eq_false_iff_not, Bool.not_eq_true', Bool.not_eq_false', beq_iff_eq, bne_iff_ne, beq_eq_false_iff_ne, Int.ofNat_lt, Int.ofNat_le, Int.ofNat_inj, ne_eq, gt_iff_lt, ge_iff_le] at hb11
                  refine WQ_seq ?_
                  refine WQ_region ?_
                  refine WO_step rfl (S_pure rfl ?_)
                  refine WO_nil ?_
                  refine QSeq_n ?_
                  refine WQ_ret ?_
                  refine KBlock_r ?_
                  refine QSeq_r ?_
                  refine QLoop_r ?_
                  exact absurd hb11 (by simp)
                ·
                  try simp only [decide_eq_true_eq, decide_eq_false_iff_not, Bool.not_eq_true', Bool.not_eq_false', beq_iff_eq, bne_iff_ne, beq_eq_false_iff_ne, Int.ofNat_lt, Int.ofNat_le, Int.ofNat_inj, ne_eq, gt_iff_lt, ge_iff_le] at hb11
                  refine WQ_skip ?_
                  refine KBlock_n ?_
                  refine QSeq_n ?_
                  refine WQ_region ?_
                  refine WO_step rfl (S_pure rfl ?_)
                  first | refine WO_step rfl (S_addN (b := 1) rfl rfl (by omega) ?_) | refine WO_step rfl (S_pure rfl ?_)
                  refine WO_step rfl (S_pure rfl ?_)
                  refine WO_nil ?_
                  refine QLoop_n ?_
                  exact WQ_weak (ih (ops.length - (i + 1)) (by omega) (i + 1) es' l2 hs2 w5' w6' rfl (by omega) (by omega) hl2 c') (by repeat (first | exact SubE.nil | apply SubE.cons rfl)) (by repeat (first | exact HSub.refl | refine HSub.pick (by repeat (first | exact Pick.head | apply Pick.tail)) ?_ | apply HSub.drop))
          ·
            refine QSeq_x ?_
            refine KBlock_h ?_
            refine QSeq_n ?_
            refine WQ_region ?_
            refine WO_step rfl (S_pure rfl ?_)
            first | refine WO_step rfl (S_addN (b := 1) rfl rfl (by omega) ?_) | refine WO_step rfl (S_pure rfl ?_)
            refine WO_step rfl (S_pure rfl ?_)
            refine WO_nil ?_
            refine QLoop_n ?_
            exact WQ_weak (ih (ops.length - (i + 1)) (by omega) (i + 1) es' l2 hs2 w5' w6' rfl (by omega) (by omega) hl2 c') (by repeat (first | exact SubE.nil | apply SubE.cons rfl)) (by repeat (first | exact HSub.refl | refine HSub.pick (by repeat (first | exact Pick.head | apply Pick.tail)) ?_ | apply HSub.drop))
      ·
        try simp only [decide_eq_true_eq, decide_eq_false_iff_not, Bool.not_eq_true', Bool.not_eq_false', beq_iff_eq, bne_iff_ne, beq_eq_false_iff_ne, Int.ofNat_lt, Int.ofNat_le, Int.ofNat_inj, ne_eq, gt_iff_lt, ge_iff_le] at hb1
        refine WQ_exit ?_
        refine QSeq_x ?_
        refine QLoop_x ?_
        exact KPost_i (l' := []) (H' := []) SubE.nil HSub.nil ⟨rfl, rfl, rfl⟩
    ·
      try simp only [decide_eq_true_eq, decide_eq_false_iff_not, Bool.not_eq_true', Bool.not_eq_false', beq_iff_eq, bne_iff_ne, beq_eq_false_iff_ne, Int.ofNat_lt, Int.ofNat_le, Int.ofNat_inj, ne_eq, gt_iff_lt, ge_iff_le] at hg1
      refine WO_off rfl ?_
      refine WO_off rfl ?_
      refine WO_step rfl (S_pure rfl ?_)
      refine WO_nil ?_
      refine QSeq_n ?_
      refine WQ_cond rfl (fun h => ?_) (fun _ => ?_)
      · exact absurd h (by decide)
      refine WQ_exit ?_
      refine QSeq_x ?_
      refine QLoop_x ?_
      exact KPost_i (l' := []) (H' := []) SubE.nil HSub.nil ⟨rfl, rfl, rfl⟩
theorem law_CuckooAll {H : SH} {v : Value} {ops : List OpR} (hv : RD H v TOp ops) (hok : ∀ o ∈ ops, okOp o) : WFQ F X f_loesslaw17_CuckooAll [v] H (fun v _ => v = .bool true) := by
  refine WFQ_view (fun _ hH => HAg.addNil (T := TUN) hH) ?_
  refine WFQ_view (fun _ hH => HAg.addNil (T := TKv) hH) ?_
  refine WFQ_fn F_loesslaw17_CuckooAll ?_
  refine WQ_seq ?_
  refine WQ_region ?_
  refine WO_step rfl (S_pure rfl ?_)
  refine WO_nil ?_
  refine QSeq_n ?_
  refine WQ_seq ?_
  refine WQ_region ?_
  refine WO_call rfl rfl rfl ?_
  refine sp_begun.mono ?_
  rintro _ _ ⟨rfl, rfl⟩
  refine WO_step rfl (S_pure rfl ?_)
  refine WO_nil ?_
  refine QSeq_n ?_
  refine WQ_seq ?_
  refine WQ_seq ?_
  refine WQ_region ?_
  refine WO_step rfl (S_pure rfl ?_)
  refine WO_step rfl (S_pure rfl ?_)
  refine WO_nil ?_
  refine QSeq_n ?_
  refine WQ_cond rfl (fun hb1 => ?_) (fun hb1 => ?_)
  ·
    try simp only [decide_eq_true_eq, decide_eq_false_iff_not, Bool.not_eq_true', Bool.not_eq_false', beq_iff_eq, bne_iff_ne, beq_eq_false_iff_ne, Int.ofNat_lt, Int.ofNat_le, Int.ofNat_inj, ne_eq, gt_iff_lt, ge_iff_le] at hb1
    exact absurd hb1 (by simp)
    --stop
  ·
    try simp only [decide_eq_true_eq, decide_eq_false_iff_not, Bool.not_eq_true', Bool.not_eq_false', beq_iff_eq, bne_iff_ne, beq_eq_false_iff_ne, Int.ofNat_lt, Int.ofNat_le, Int.ofNat_inj, ne_eq, gt_iff_lt, ge_iff_le] at hb1
    refine WQ_skip ?_
    refine QSeq_n ?_
    refine WQ_seq ?_
    refine WQ_region ?_
    refine WO_call rfl rfl rfl ?_
    refine sp_New.mono ?_
    rintro _ _ ⟨i17, rfl, rfl⟩
    refine WO_step rfl (S_pure rfl ?_)
    refine WO_nil ?_
    refine QSeq_n ?_
    refine WQ_seq ?_
    refine WQ_region ?_
    refine WO_step rfl (S_pure rfl ?_)
    refine WO_nil ?_
    refine QSeq_n ?_
    refine WQ_seq ?_
    refine WQ_region ?_
    refine WO_step rfl (S_pure rfl ?_)
    refine WO_nil ?_
    refine QSeq_n ?_
    refine WQ_seq ?_
    refine WQ_seq ?_
    refine WQ_region ?_
    refine WO_step rfl (S_pure rfl ?_)
    refine WO_nil ?_
    refine QSeq_n ?_
    refine WQ_block ?_
    --out x0
    refine WQ_post (WQ_weak (lp_All_0 (H := H) (i4 := i17) hv hok ops.length 0 (List.replicate 32 ent0) [] [] .nil .nil (by omega) (by omega) (by omega) (by simp) ⟨Good.new, Holds.new, rfl, rfl, by simp, by simp⟩) (by repeat (first | exact SubE.nil | apply SubE.cons rfl)) (by repeat (first | exact HSub.refl | refine HSub.pick (by repeat (first | exact Pick.head | apply Pick.tail)) ?_ | apply HSub.drop))) ?_
    rintro x l' _ ⟨rfl, rfl, rfl⟩
    refine KBlock_h ?_
    refine QSeq_n ?_
    refine WQ_seq ?_
    refine WQ_region ?_
    refine WO_step rfl (S_pure rfl ?_)
    refine WO_nil ?_
    refine QSeq_n ?_
    refine WQ_ret ?_
    refine KFn_r (ResL.tmp rfl ResL.nil) ?_
    exact ⟨_, HSub.refl, rfl⟩
end Go.Proofs.Ytnffcpafglfebaa.AM
