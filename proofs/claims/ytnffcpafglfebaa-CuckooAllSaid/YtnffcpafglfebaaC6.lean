/- Walks: what the functions compute. -/
import Derived.Test.YtnffcpafglfebaaC3
import Derived.Test.YtnffcpafglfebaaCk2
namespace Go.Proofs.Ytnffcpafglfebaa.AM
open Go
set_option linter.unusedSimpArgs false
set_option linter.unusedVariables false
set_option maxRecDepth 4000

/-! ### The entries of a hash's tag in its buckets -/
theorem S_loadD {l : SE} {H H0 : SH} {K : Value → SH → Prop} {i o k off : Nat} {a : Opd} {es : List Ent} {n : Nat} {v : Value} (hl : es.length = 32) (ha : a.lv l = some (.pointer (some ⟨i, o, none⟩))) (hp : Pick (DO i es n) H H0) (ho : o = k * 3 + off) (hk : k < 32) (hv : (TEnt.enc (at' es k))[off]? = some v) (kk : K v H) : Step (.load false 1 a) l H K := by
  have hlt := (List.getElem?_eq_some_iff.1 hv).1
  rw [TEnt.len] at hlt
  have h3 : off < 3 := hlt
  have h := DO.at (v := .int .i64 ((n : Nat) : Int)) (off := off) (m := 1) (at_get (es := es) (k := k) (by omega)) (by omega)
  subst ho
  refine S_loadO ha hp (by rw [Nat.ble_eq, DO.len hl]; omega) ?_ kk
  rw [h]
  have : ((TEnt.enc (at' es k)).drop off).take 1 = [v] := by
    rw [List.drop_eq_getElem_cons (List.getElem?_eq_some_iff.1 hv).1, (List.getElem?_eq_some_iff.1 hv).2]; rfl
  rw [this]; rfl
theorem S_idxAE {l : SE} {H : SH} {K : Value → SH → Prop} {n es i o o' j : Nat} {x y : Opd} {kd : IntKind} {J : Int} (hx : x.lv l = some (.pointer (some ⟨i, o, none⟩))) (hy : y.lv l = some (.int kd J)) (hJ : J = (j : Int)) (hj : j < n) (he : o + j * es = o') (k : K (.pointer (some ⟨i, o', none⟩)) H) : Step (.idxA n es x y) l H K := S_idxA hx hy hJ hj (he ▸ k)
def eachR {σ : Type} (Tr : List Ent → σ → Nat → List Ent → σ → Bool → Prop) (h : Nat) : List Nat → List Ent → σ → List Ent → σ → Prop
  | [], es, st, es', st' => es' = es ∧ st' = st
  | k :: ks, es, st, es', st' => if hit es h k = true then ∃ es1 st1 ok, Tr es st k es1 st1 ok ∧ if ok = true then eachR Tr h ks es1 st1 es' st' else es' = es1 ∧ st' = st1 else eachR Tr h ks es st es' st'
/-- What a teller does. -/
def TellOk {σ : Type} (i n h : Nat) (Iv : Nat → σ → Prop) (R : σ → SH) (g : FuncId) (caps : Array Value) (Tr : List Ent → σ → Nat → List Ent → σ → Bool → Prop) : Prop :=
  (∀ m st, Iv (m + 1) st → Iv m st) ∧ ∀ es st k m, es.length = 32 → k < 32 → hit es h k = true → Iv (m + 1) st → WF F X g (.pointer (some ⟨i, k * 3, none⟩) :: caps.toList) (DO i es n :: R st) (fun r H' => ∃ es1 st1 ok, Tr es st k es1 st1 ok ∧ r = .bool ok ∧ H' = DO i es1 n :: R st1 ∧ es1.length = 32 ∧ Iv m st1)
theorem lp_each_1 {σ : Type} {i n h b : Nat} {Iv : Nat → σ → Prop} {R : σ → SH} {g : FuncId} {caps : Array Value} {Tr : List Ent → σ → Nat → List Ent → σ → Bool → Prop} {v13 v14 : Value} (hT : TellOk i n h Iv R g caps Tr) (hh : h < 18446744073709551616) (hb : b < 8) (q : Nat) : ∀ (m s : Nat) (es : List Ent) (st : σ), 4 - s = m → s ≤ 4 → es.length = 32 → Iv (4 - s + q) st →
    WC F X (.loop L_cuckoo_Dir_each_1) [(17, .int .i64 (s : Int)), (7, .int .i64 (b : Int)), (0, .pointer (some ⟨i, 0, none⟩)), (1, .int .u64 (h : Int)), (2, .func (.func g) #[] caps), (13, v13), (14, v14)] (DO i es n :: R st)
      (KPost fun x l' H' => ∃ es' st', H' = DO i es' n :: R st' ∧ es'.length = 32 ∧ ((x = .ret ∧ l' = [] ∧ ∀ ks, eachR Tr h (((List.range 4).drop s).map (b * 4 + ·) ++ ks) es st es' st') ∨ (x = .exit 2 ∧ l' = [(0, .pointer (some ⟨i, 0, none⟩)), (1, .int .u64 (h : Int)), (2, .func (.func g) #[] caps), (13, v13), (14, v14)] ∧ Iv q st' ∧ ∀ ks es2 st2, eachR Tr h ks es' st' es2 st2 → eachR Tr h (((List.range 4).drop s).map (b * 4 + ·) ++ ks) es st es2 st2))) := by
  intro m
  induction m using Nat.strongRecOn with
  | _ m ih =>
    intro s es st hm hs hl hiv
    refine WC_loop ?_
    refine WC_seq ?_
    refine WC_region ?_
    refine WO_step rfl (S_pure rfl ?_)
    refine WO_nil ?_
    refine KSeq_n ?_
    refine WC_seq ?_
    refine WC_cond rfl (fun hb1 => ?_) (fun hb1 => ?_)
    ·
      try simp only [decide_eq_true_eq, decide_eq_false_iff_not, Bool.not_eq_true', Bool.not_eq_false', beq_iff_eq, bne_iff_ne, beq_eq_false_iff_ne, Int.ofNat_lt, Int.ofNat_le, Int.ofNat_inj, ne_eq, gt_iff_lt, ge_iff_le] at hb1
      have hdr : (List.range 4).drop s = s :: (List.range 4).drop (s + 1) := by
        have h0 : s = 0 ∨ s = 1 ∨ s = 2 ∨ s = 3 := by omega
        rcases h0 with rfl | rfl | rfl | rfl <;> rfl
      rw [hdr]
      simp only [List.map_cons, List.cons_append, eachR]
      have hiv' : Iv ((4 - (s + 1) + q) + 1) st := by rw [show (4 - (s + 1) + q) + 1 = 4 - s + q by omega]; exact hiv
      refine WC_skip ?_
      refine KSeq_n ?_
      refine WC_seq ?_
      refine WC_block ?_
      refine WC_seq ?_
      refine WC_region ?_
      refine WO_step rfl (S_pure rfl ?_)
      refine WO_step rfl (S_pure rfl ?_)
      refine WO_nil ?_
      refine KSeq_n ?_
      refine WC_seq ?_
      refine WC_region ?_
      refine WO_step rfl (S_pure rfl ?_)
      refine WO_step rfl (S_pure rfl ?_)
      refine WO_step rfl (S_pure rfl ?_)
      refine WO_step rfl (S_pure rfl ?_)
      refine WO_step rfl (S_pure rfl ?_)
      refine WO_step rfl (S_idxA rfl rfl rfl hb ?_)
      refine WO_step rfl (S_idxAE (o' := (b * 4 + s) * 3) rfl rfl rfl (by omega) (by omega) ?_)
      refine WO_step rfl (S_pure rfl ?_)
      refine WO_nil ?_
      refine KSeq_n ?_
      refine WC_seq ?_
      refine WC_drawn ?_
      refine WD_step rfl (S_pure rfl ?_)
      refine WD_step rfl (S_pure rfl ?_)
      refine WD_step rfl (S_pure rfl ?_)
      refine WD_step rfl (S_loadD (k := b * 4 + s) (off := 0) hl rfl .head (by omega) (by omega) rfl ?_)
      refine WD_step rfl (S_pure rfl ?_)
      refine WD_cases (t := 31) rfl (fun hg1 => ?_) (fun hg1 => ?_)
      ·
        try simp only [decide_eq_true_eq, decide_eq_false_iff_not, Bool.not_eq_true', Bool.not_eq_false', beq_iff_eq, bne_iff_ne, beq_eq_false_iff_ne, Int.ofNat_lt, Int.ofNat_le, Int.ofNat_inj, ne_eq, gt_iff_lt, ge_iff_le] at hg1
        refine WD_step rfl (S_pure rfl ?_)
        refine WD_step rfl (S_pure rfl ?_)
        refine WD_step rfl (S_pure rfl ?_)
        refine WD_step rfl (S_loadD (k := b * 4 + s) (off := 2) hl rfl .head (by omega) (by omega) rfl ?_)
        refine WD_step rfl (S_pure rfl ?_)
        refine WD_call rfl rfl rfl ?_
        refine (sp_hTag (by omega)).mono ?_
        rintro _ _ ⟨rfl, rfl⟩
        first | refine WD_step rfl (S_eqS rfl rfl ?_) | refine WD_step rfl (S_pure rfl ?_)
        refine WD_step rfl (S_pure rfl ?_)
        refine WD_step rfl (S_pure rfl ?_)
        refine WD_cases (t := 40) rfl (fun hg2 => ?_) (fun hg2 => ?_)
        ·
          try simp only [decide_eq_true_eq, decide_eq_false_iff_not, Bool.not_eq_true', Bool.not_eq_false', beq_iff_eq, bne_iff_ne, beq_eq_false_iff_ne, Int.ofNat_lt, Int.ofNat_le, Int.ofNat_inj, ne_eq, gt_iff_lt, ge_iff_le] at hg2
          refine WD_step rfl (S_pure rfl ?_)
          refine WD_step rfl (S_pure rfl ?_)
          refine WD_call rfl rfl rfl ?_
          have hhit : hit es h (b * 4 + s) = true := by
            unfold hit; rw [hg1]; simpa using hg2
          refine (hT.2 es st (b * 4 + s) _ hl (by omega) hhit hiv').mono ?_
          rintro _ _ ⟨es1, st1, ok, hTr, rfl, rfl, hl1, hiv1⟩
          refine WD_step rfl (S_pure rfl ?_)
          refine WD_step rfl (S_pure rfl ?_)
          refine WD_nil ?_
          refine ⟨?_, ?_⟩
          ·
            repeat' (first | exact trivial | apply And.intro)
            exact ObR.of_step rfl (S_loadD (k := b * 4 + s) (off := 2) hl rfl .head (by omega) (by omega) rfl (by simp [eqV, eqV0]))
          ·
            refine KSeq_n ?_
            refine WC_cond rfl (fun hb2 => ?_) (fun hb2 => ?_)
            ·
              try simp only [decide_eq_true_eq, decide_eq_false_iff_not, Bool.not_eq_true', Bool.not_eq_false', beq_iff_eq, bne_iff_ne, beq_eq_false_iff_ne, Int.ofNat_lt, Int.ofNat_le, Int.ofNat_inj, ne_eq, gt_iff_lt, ge_iff_le] at hb2
              refine WC_ret ?_
              refine KBlock_r ?_
              refine KSeq_r ?_
              refine KLoop_r ?_
              refine KPost_i (l' := []) (by repeat (first | exact SubE.nil | apply SubE.cons rfl)) HSub.refl ⟨es1, st1, rfl, hl1, .inl ⟨rfl, rfl, fun ks => ?_⟩⟩
              rw [if_pos hhit]
              exact ⟨es1, st1, ok, hTr, by rw [if_neg (by simpa using hb2)]; exact ⟨rfl, rfl⟩⟩
            ·
              try simp only [decide_eq_true_eq, decide_eq_false_iff_not, Bool.not_eq_true', Bool.not_eq_false', beq_iff_eq, bne_iff_ne, beq_eq_false_iff_ne, Int.ofNat_lt, Int.ofNat_le, Int.ofNat_inj, ne_eq, gt_iff_lt, ge_iff_le] at hb2
              refine WC_skip ?_
              refine KBlock_n ?_
              refine KSeq_n ?_
              refine WC_region ?_
              first | refine WO_step rfl (S_addN (b := 1) rfl rfl (by omega) ?_) | refine WO_step rfl (S_pure rfl ?_)
              refine WO_step rfl (S_pure rfl ?_)
              refine WO_nil ?_
              refine KLoop_n ?_
              refine WC_post (WC_weak (ih (4 - (s + 1)) (by omega) (s + 1) es1 st1 rfl (by omega) hl1 hiv1) (by repeat (first | exact SubE.nil | apply SubE.cons rfl)) HSub.refl) ?_
              rintro x l' H' ⟨es', st', rfl, hl', h | h⟩
              · obtain ⟨rfl, rfl, hr⟩ := h
                refine KPost_i (l' := []) (by repeat (first | exact SubE.nil | apply SubE.cons rfl)) HSub.refl ⟨es', st', rfl, hl', .inl ⟨rfl, rfl, fun ks => ?_⟩⟩
                rw [if_pos hhit]
                exact ⟨es1, st1, ok, hTr, by rw [if_pos (by simpa using hb2)]; exact hr ks⟩
              · obtain ⟨rfl, rfl, hq, hr⟩ := h
                refine KPost_i (by repeat (first | exact SubE.nil | apply SubE.cons rfl)) HSub.refl ⟨es', st', rfl, hl', .inr ⟨rfl, rfl, hq, fun ks es2 st2 h2 => ?_⟩⟩
                rw [if_pos hhit]
                exact ⟨es1, st1, ok, hTr, by rw [if_pos (by simpa using hb2)]; exact hr ks es2 st2 h2⟩
        ·
          try simp only [decide_eq_true_eq, decide_eq_false_iff_not, Bool.not_eq_true', Bool.not_eq_false', beq_iff_eq, bne_iff_ne, beq_eq_false_iff_ne, Int.ofNat_lt, Int.ofNat_le, Int.ofNat_inj, ne_eq, gt_iff_lt, ge_iff_le] at hg2
          refine WD_off rfl ?_
          refine WD_off rfl ?_
          refine WD_off rfl ?_
          refine WD_off rfl ?_
          refine WD_step rfl (S_pure rfl ?_)
          refine WD_nil ?_
          refine ⟨?_, ?_⟩
          ·
            repeat' (first | exact trivial | apply And.intro)
            exact ObR.of_step rfl (S_loadD (k := b * 4 + s) (off := 2) hl rfl .head (by omega) (by omega) rfl (by simp [eqV, eqV0]))
          ·
            refine KSeq_n ?_
            refine WC_cond rfl (fun h => ?_) (fun _ => ?_)
            · exact absurd h (by decide)
            refine WC_skip ?_
            refine KBlock_n ?_
            refine KSeq_n ?_
            refine WC_region ?_
            first | refine WO_step rfl (S_addN (b := 1) rfl rfl (by omega) ?_) | refine WO_step rfl (S_pure rfl ?_)
            refine WO_step rfl (S_pure rfl ?_)
            refine WO_nil ?_
            refine KLoop_n ?_
            have hhit : ¬hit es h (b * 4 + s) = true := by
              unfold hit; rw [hg1]; simpa using hg2
            simp only [hhit, if_false]
            exact WC_weak (ih (4 - (s + 1)) (by omega) (s + 1) es st rfl (by omega) hl (hT.1 _ _ hiv')) (by repeat (first | exact SubE.nil | apply SubE.cons rfl)) HSub.refl
      ·
        try simp only [decide_eq_true_eq, decide_eq_false_iff_not, Bool.not_eq_true', Bool.not_eq_false', beq_iff_eq, bne_iff_ne, beq_eq_false_iff_ne, Int.ofNat_lt, Int.ofNat_le, Int.ofNat_inj, ne_eq, gt_iff_lt, ge_iff_le] at hg1
        refine WD_off rfl ?_
        refine WD_off rfl ?_
        refine WD_off rfl ?_
        refine WD_off rfl ?_
        refine WD_off rfl ?_
        refine WD_off rfl ?_
        refine WD_off rfl ?_
        refine WD_step rfl (S_pure rfl ?_)
        refine WD_step rfl (S_pure rfl ?_)
        refine WD_off rfl ?_
        refine WD_off rfl ?_
        refine WD_off rfl ?_
        refine WD_off rfl ?_
        refine WD_step rfl (S_pure rfl ?_)
        refine WD_nil ?_
        refine ⟨?_, ?_⟩
        ·
          repeat' (first | exact trivial | apply And.intro)
          exact ObR.off rfl
        ·
          refine KSeq_n ?_
          refine WC_cond rfl (fun h => ?_) (fun _ => ?_)
          · exact absurd h (by decide)
          refine WC_skip ?_
          refine KBlock_n ?_
          refine KSeq_n ?_
          refine WC_region ?_
          first | refine WO_step rfl (S_addN (b := 1) rfl rfl (by omega) ?_) | refine WO_step rfl (S_pure rfl ?_)
          refine WO_step rfl (S_pure rfl ?_)
          refine WO_nil ?_
          refine KLoop_n ?_
          have hhit : ¬hit es h (b * 4 + s) = true := by
            unfold hit; rw [hg1]; simp
          simp only [hhit, if_false]
          exact WC_weak (ih (4 - (s + 1)) (by omega) (s + 1) es st rfl (by omega) hl (hT.1 _ _ hiv')) (by repeat (first | exact SubE.nil | apply SubE.cons rfl)) HSub.refl
    ·
      try simp only [decide_eq_true_eq, decide_eq_false_iff_not, Bool.not_eq_true', Bool.not_eq_false', beq_iff_eq, bne_iff_ne, beq_eq_false_iff_ne, Int.ofNat_lt, Int.ofNat_le, Int.ofNat_inj, ne_eq, gt_iff_lt, ge_iff_le] at hb1
      refine WC_exit ?_
      refine KSeq_x ?_
      refine KLoop_x ?_
      have e4 : s = 4 := by omega
      subst e4
      exact KPost_i (by repeat (first | exact SubE.nil | apply SubE.cons rfl)) HSub.refl ⟨es, st, rfl, hl, .inr ⟨rfl, rfl, by simpa using hiv, fun ks es2 st2 h2 => h2⟩⟩
theorem lp_each_0 {σ : Type} {i n h f o : Nat} {Iv : Nat → σ → Prop} {R : σ → SH} {g : FuncId} {caps : Array Value} {Tr : List Ent → σ → Nat → List Ent → σ → Bool → Prop} (hT : TellOk i n h Iv R g caps Tr) (hh : h < 18446744073709551616) (hf : f < 8) (ho : o < 8) : ∀ (m a : Nat) (es : List Ent) (st : σ), 2 - a = m → a ≤ 2 → es.length = 32 → Iv ((2 - a) * 4) st →
    WC F X (.loop L_cuckoo_Dir_each_0) [(14, .int .i64 (a : Int)), (13, .agg #[.int .i64 (f : Int), .int .i64 (o : Int)]), (0, .pointer (some ⟨i, 0, none⟩)), (1, .int .u64 (h : Int)), (2, .func (.func g) #[] caps)] (DO i es n :: R st)
      (KPost fun x l' H' => ∃ es' st', l' = [] ∧ H' = DO i es' n :: R st' ∧ es'.length = 32 ∧ (x = .ret ∨ x = .exit 0) ∧ eachR Tr h (([f, o].drop a).flatMap fun b => (List.range 4).map (b * 4 + ·)) es st es' st') := by
  intro m
  induction m using Nat.strongRecOn with
  | _ m ih =>
    intro a es st hm ha hl hiv
    refine WC_loop ?_
    refine WC_seq ?_
    refine WC_region ?_
    refine WO_step rfl (S_pure rfl ?_)
    refine WO_nil ?_
    refine KSeq_n ?_
    refine WC_seq ?_
    refine WC_cond rfl (fun hb1 => ?_) (fun hb1 => ?_)
    ·
      try simp only [decide_eq_true_eq, decide_eq_false_iff_not, Bool.not_eq_true', Bool.not_eq_false', beq_iff_eq, bne_iff_ne, beq_eq_false_iff_ne, Int.ofNat_lt, Int.ofNat_le, Int.ofNat_inj, ne_eq, gt_iff_lt, ge_iff_le] at hb1
      refine WC_skip ?_
      refine KSeq_n ?_
      refine WC_seq ?_
      refine WC_block ?_
      refine WC_seq ?_
      refine WC_region ?_
      obtain ⟨b, hb, hb8, hdr⟩ : ∃ b : Nat, [Value.int .i64 (f : Int), .int .i64 (o : Int)][a]? = some (.int .i64 (b : Int)) ∧ b < 8 ∧ [f, o].drop a = b :: [f, o].drop (a + 1) := by
        have h0 : a = 0 ∨ a = 1 := by omega
        rcases h0 with rfl | rfl
        · exact ⟨f, rfl, hf, rfl⟩
        · exact ⟨o, rfl, ho, rfl⟩
      rw [hdr, List.flatMap_cons]
      refine WO_step rfl (S_idxPair (v := .int .i64 (b : Int)) rfl rfl rfl hb ?_)
      refine WO_step rfl (S_pure rfl ?_)
      refine WO_nil ?_
      refine KSeq_n ?_
      refine WC_seq ?_
      refine WC_region ?_
      refine WO_step rfl (S_pure rfl ?_)
      refine WO_nil ?_
      refine KSeq_n ?_
      refine WC_block ?_
      --out r x2
      refine WC_post (WC_weak (lp_each_1 (v13 := .agg #[.int .i64 (f : Int), .int .i64 (o : Int)]) (v14 := .int .i64 (a : Int)) hT hh hb8 ((2 - (a + 1)) * 4) 4 0 es st (by omega) (by omega) hl (by rw [show 4 - 0 + (2 - (a + 1)) * 4 = (2 - a) * 4 by omega]; exact hiv)) (by repeat (first | exact SubE.nil | apply SubE.cons rfl)) HSub.refl) ?_
      rintro x l' H' ⟨es', st', rfl, hl', ⟨rfl, rfl, hr⟩ | ⟨rfl, rfl, hq, hr⟩⟩
      ·
        refine KBlock_r ?_
        refine KBlock_r ?_
        refine KSeq_r ?_
        refine KLoop_r ?_
        exact KPost_i (l' := []) (by repeat (first | exact SubE.nil | apply SubE.cons rfl)) HSub.refl ⟨es', st', rfl, rfl, hl', .inl rfl, hr _⟩
      ·
        refine KBlock_h ?_
        refine KBlock_n ?_
        refine KSeq_n ?_
        refine WC_region ?_
        first | refine WO_step rfl (S_addN (b := 1) rfl rfl (by omega) ?_) | refine WO_step rfl (S_pure rfl ?_)
        refine WO_step rfl (S_pure rfl ?_)
        refine WO_nil ?_
        refine KLoop_n ?_
        refine WC_post (WC_weak (ih (2 - (a + 1)) (by omega) (a + 1) es' st' rfl (by omega) hl' hq) (by repeat (first | exact SubE.nil | apply SubE.cons rfl)) HSub.refl) ?_
        rintro x l' H' ⟨es2, st2, rfl, rfl, hl2, hx, h2⟩
        exact KPost_i (l' := []) (by repeat (first | exact SubE.nil | apply SubE.cons rfl)) HSub.refl ⟨es2, st2, rfl, rfl, hl2, hx, hr _ _ _ h2⟩
    ·
      try simp only [decide_eq_true_eq, decide_eq_false_iff_not, Bool.not_eq_true', Bool.not_eq_false', beq_iff_eq, bne_iff_ne, beq_eq_false_iff_ne, Int.ofNat_lt, Int.ofNat_le, Int.ofNat_inj, ne_eq, gt_iff_lt, ge_iff_le] at hb1
      refine WC_exit ?_
      refine KSeq_x ?_
      refine KLoop_x ?_
      have e2 : a = 2 := by omega
      subst e2
      exact KPost_i (l' := []) (by repeat (first | exact SubE.nil | apply SubE.cons rfl)) HSub.refl ⟨es, st, rfl, rfl, hl, .inr rfl, rfl, rfl⟩
theorem sp_each {σ : Type} {i n h : Nat} {Iv : Nat → σ → Prop} {R : σ → SH} {g : FuncId} {caps : Array Value} {Tr : List Ent → σ → Nat → List Ent → σ → Bool → Prop} (hT : TellOk i n h Iv R g caps Tr) (hh : h < 18446744073709551616) {es : List Ent} {st : σ} (hl : es.length = 32) (hiv : Iv 8 st) : WF F X f_cuckoo_Dir_each [.pointer (some ⟨i, 0, none⟩), .int .u64 (h : Int), .func (.func g) #[] caps] (DO i es n :: R st) (fun r H' => ∃ es' st', H' = DO i es' n :: R st' ∧ es'.length = 32 ∧ eachR Tr h (slots h) es st es' st') := by
  refine WF_fn F_cuckoo_Dir_each ?_
  refine WC_seq ?_
  refine WC_seq ?_
  refine WC_region ?_
  refine WO_step rfl (S_pure rfl ?_)
  refine WO_step rfl (S_pure rfl ?_)
  refine WO_nil ?_
  refine KSeq_n ?_
  refine WC_cond rfl (fun hb1 => ?_) (fun hb1 => ?_)
  ·
    try simp only [decide_eq_true_eq, decide_eq_false_iff_not, Bool.not_eq_true', Bool.not_eq_false', beq_iff_eq, bne_iff_ne, beq_eq_false_iff_ne, Int.ofNat_lt, Int.ofNat_le, Int.ofNat_inj, ne_eq, gt_iff_lt, ge_iff_le] at hb1
    exact absurd hb1 (by simp)
    --stop
  ·
    try simp only [decide_eq_true_eq, decide_eq_false_iff_not, Bool.not_eq_true', Bool.not_eq_false', beq_iff_eq, bne_iff_ne, beq_eq_false_iff_ne, Int.ofNat_lt, Int.ofNat_le, Int.ofNat_inj, ne_eq, gt_iff_lt, ge_iff_le] at hb1
    refine WC_skip ?_
    refine KSeq_n ?_
    refine WC_seq ?_
    refine WC_region ?_
    refine WO_step rfl (S_pure rfl ?_)
    refine WO_call rfl rfl rfl ?_
    refine (sp_both (by omega)).mono ?_
    rintro _ _ ⟨rfl, rfl⟩
    refine WO_step rfl (S_pure rfl ?_)
    refine WO_nil ?_
    refine KSeq_n ?_
    refine WC_block ?_
    --out r x0
    have hf8 := frst_lt h
    refine WC_post (WC_weak (lp_each_0 hT hh hf8 (oth_lt (t := tagOf h) hf8) 2 0 es st (by omega) (by omega) hl hiv) (by repeat (first | exact SubE.nil | apply SubE.cons rfl)) HSub.refl) ?_
    rintro x l' H' ⟨es', st', rfl, rfl, hl', hx, hr⟩
    rcases hx with rfl | rfl
    ·
      refine KBlock_r ?_
      refine KFn_r ResL.nil ?_
      exact ⟨_, HSub.refl, es', st', rfl, hl', hr⟩
    ·
      refine KBlock_h ?_
      refine KFn_n ResL.nil ?_
      exact ⟨_, HSub.refl, es', st', rfl, hl', hr⟩
end Go.Proofs.Ytnffcpafglfebaa.AM
