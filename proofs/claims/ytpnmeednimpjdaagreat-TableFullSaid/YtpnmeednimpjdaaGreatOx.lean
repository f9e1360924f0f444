/- Walks: what the functions compute. -/
import Derived.Test.YtpnmeednimpjdaaGreatOv
import Derived.Test.YtpnmeednimpjdaaGreatBack
namespace Go.Proofs.YtpnmeednimpjdaaGreat.AM
open Go
set_option linter.unusedSimpArgs false
set_option linter.unusedVariables false
set_option maxRecDepth 4000
set_option linter.unusedSectionVars false
variable {X : Exts} [HX X]

/-! ### Tables as bytes -/
theorem may_key {r : Rec} (h : mayRec r = true) : r.key.size ≤ 16 := by
  unfold mayRec mayKey at h
  simp only [Bool.and_eq_true, decide_eq_true_eq] at h
  exact h.1.2
theorem putRec_len3 {r : Rec} (hm : mayRec r = true) (hw : wfRec r) : (putRec r).length ≤ 100 := by
  obtain ⟨hk, hn, hs, hq⟩ := hw
  simp only [mayRec, Bool.and_eq_true] at hm
  obtain ⟨hk1, hv⟩ := hm
  have hks : r.key.size ≤ 16 := by simp [mayKey] at hk1; omega
  have hpl := put_len (n := (r.key.size : Int)) (by omega) (by omega)
  have hpl0 := put_len (n := 0) (by omega) (by omega)
  have hsl : r.key.data.toList.length = r.key.size := Array.length_toList
  unfold putRec putText
  rw [List.length_append, List.length_append]
  split
  · omega
  · rename_i hg
    simp only [hg, Bool.false_eq_true, if_false] at hv
    have hp1 := put_len hk.1 hk.2
    have hp2 := put_len hn.1 hn.2
    have hp3 := put_len (n := (r.val.s.size : Int)) (by omega) (by omega)
    have hsl2 : r.val.s.data.toList.length = r.val.s.size := Array.length_toList
    unfold putVal putText
    rw [List.length_append]
    rcases mayRaw_of hv with ⟨h, _⟩ | ⟨h, _, h2⟩
    · rw [if_pos h]; omega
    · rw [if_neg (by omega), List.length_append]; omega
def tagB (k : ByteArray) : List UInt8 := [UInt8.ofNat (tagOf (kH k) / 256), UInt8.ofNat (tagOf (kH k) % 256)]
def slB (x : SlT) : List UInt8 := if x.has then tagB x.r.key ++ putRec x.r else []
def recsB (ts : List SlT) : List UInt8 := ts.flatMap slB
def encT (ts : List SlT) : List UInt8 := byts (ts.map (·.has)) 4 ++ recsB ts
def wfT (ts : List SlT) : Prop := ∀ x ∈ ts, wfRec x.r
theorem wfT.small {ts : List SlT} (h : wfT ts) : kSmall ts := fun x hx => (h x hx).2.2.2
theorem slB_len {x : SlT} (hw : wfRec x.r) (hm : x.has = true → mayRec x.r = true) : (slB x).length ≤ 102 := by
  unfold slB
  split
  · rename_i h
    have := putRec_len3 (hm h) hw
    rw [List.length_append]
    show 2 + (putRec x.r).length ≤ 102
    omega
  · simp
theorem recsB_len {ts : List SlT} (hw : wfT ts) (hm : ∀ x ∈ ts, x.has = true → mayRec x.r = true) : (recsB ts).length ≤ 102 * ts.length := by
  induction ts with
  | nil => simp [recsB]
  | cons x ts ih =>
    have h1 := slB_len (hw x (by simp)) (hm x (by simp))
    have h2 := ih (fun y hy => hw y (by simp [hy])) (fun y hy => hm y (by simp [hy]))
    unfold recsB at *
    rw [List.flatMap_cons, List.length_append, List.length_cons]; omega
theorem recsB_succ {ts : List SlT} {k : Nat} {x : SlT} (hx : ts[k]? = some x) : recsB (ts.take (k + 1)) = recsB (ts.take k) ++ slB x := by
  unfold recsB
  rw [List.take_add_one, hx, List.flatMap_append]; simp
theorem has_succ {ts : List SlT} {k : Nat} {x : SlT} (hx : ts[k]? = some x) : (ts.take (k + 1)).map (·.has) = (ts.take k).map (·.has) ++ [x.has] := by
  rw [List.take_add_one, hx, List.map_append]; rfl
theorem mayTab_on {ts : List SlT} (hl : ts.length = 32) (hm : mayTab ts = true) : ∀ x ∈ ts, x.has = true → mayRec x.r = true := fun x hx hh => by
  obtain ⟨j, hj⟩ := List.getElem?_of_mem hx
  have hjl := (List.getElem?_eq_some_iff.1 hj).1
  have := (mayTab_iff hl).1 hm j x (by omega) hj
  unfold slOk at this
  rw [hh, if_pos rfl, Bool.and_eq_true] at this
  exact this.1
theorem S_lit2B {l : SE} {H : SH} {K : Value → SH → Prop} {x y : Opd} {z1 z2 : Value} {a b : Nat} (hx : x.lv l = some (.int .u8 (a : Int))) (hy : y.lv l = some (.int .u8 (b : Int))) (ha : a < 256) (hb : b < 256) (kk : ∀ w : SV, K w.toV (SL w.toV TByte [UInt8.ofNat a, UInt8.ofNat b] :: H)) : Step (.lit 5 1 2 [z1, z2] [(0, (1, x)), (1, (1, y))]) l H K := by
  refine S_lit (vs := [.int .u8 (a : Int), .int .u8 (b : Int)]) (by simp [lfill, hx, hy, AM.cells, Value.cells, splice]) rfl rfl (fun w => ?_)
  have := kk w
  rw [enc_B ha, enc_B hb]
  exact this
theorem S_shr8I {l : SE} {H : SH} {K : Value → SH → Prop} {x : Opd} {a : Nat} (hx : x.lv l = some (.int .i64 (a : Int))) (k : K (.int .i64 ((a / 256 : Nat) : Int)) H) : Step (.bin .shr x (.const (.int .u64 8))) l H K :=
  S_pureE (v := .int .i64 ((a : Int).fdiv (2 ^ min (Int.toNat 8) IntKind.i64.bits))) (by
    have h2 : (Opd.const (.int .u64 8)).lv l = some (.int .u64 8) := rfl
    simp only [pev, hx, h2, binV]; rfl) (by
    have e : (2 ^ min (Int.toNat 8) IntKind.i64.bits : Int) = 256 := rfl
    have e2 : (a : Int).fdiv 256 = ((a / 256 : Nat) : Int) := by rw [Int.fdiv_eq_ediv_of_nonneg _ (by omega)]; omega
    rw [e, e2]) k
theorem lp_oL1 {H : SH} {ts : List SlT} {b : Nat} (v8 : Value) (hl : ts.length = 32) (hb : b < 8) : ∀ (m s : Nat) (w : SV), 4 - s = m → s ≤ 4 →
    WC F X (.loop L_order_List_1) [(13, .int .i64 (s : Int)), (12, tabV (bk ts b)), (9, .int .i64 (b : Int)), (8, v8), (3, w.toV)] (SL w.toV TRec (tRecs ts (4 * b + s)) :: H)
      (KPost fun y l' H' => ∃ w : SV, y = .exit 2 ∧ l' = [(9, .int .i64 (b : Int)), (8, v8), (3, w.toV)] ∧ H' = SL w.toV TRec (tRecs ts (4 * b + 4)) :: H) := by
  intro m
  induction m using Nat.strongRecOn with
  | _ m ih =>
    intro s w hm hs
    have hrl : (tRecs ts (4 * b + s)).length ≤ 32 := by
      unfold tRecs
      rw [List.length_map]
      exact Nat.le_trans (List.length_filter_le _ _) (by rw [List.length_take]; omega)
    refine WC_loop (WC_seq (WC_region ?_))
    refine WO_step rfl (S_pure rfl ?_)
    refine WO_nil (KSeq_n (WC_seq ?_))
    refine WC_cond rfl (fun hb1 => ?_) (fun hb1 => ?_)
    ·
     try simp only [bsT] at hb1
     obtain ⟨x, hx⟩ := get_of_lt (show 4 * b + s < ts.length by omega)
     have hsucc := tRecs_succ hx
     refine WC_skip (KSeq_n (WC_seq (WC_block (WC_seq (WC_region ?_)))))
     refine WO_step rfl (S_idxSl (s := s) (z := x) rfl rfl rfl (by omega) (by rw [bk_get (by omega)]; exact hx) ?_)
     refine WO_step rfl (S_newT TSlO slt0 rfl rfl fun i7 => ?_)
     refine WO_step rfl (S_storeT (T := TSlO) (y := x) rfl rfl pkA (by rfl) (by rfl) ?_)
     refine WO_nil (KSeq_n (WC_seq (WC_region ?_)))
     refine WO_step rfl (S_pure rfl ?_)
     refine WO_step rfl (S_loadO rfl pkA (by rfl) (by rfl) ?_)
     refine WO_nil (KSeq_n ?_)
     refine WC_cond rfl (fun hb2 => ?_) (fun hb2 => ?_)
     ·
      try simp only [bsT] at hb2
      refine WC_region ?_
      iterate 2 refine WO_step rfl (S_pure rfl ?_)
      refine WO_step rfl (S_loadO (v := TRec.val x.r) rfl pkA (by rfl) (by rfl) ?_)
      refine WO_step rfl (S_lit1 (T := TRec) (y := x.r) rfl rfl rfl rfl fun w21 => ?_)
      refine WO_step rfl (S_app rfl rfl pkA (by first | exact SRC.str rfl rfl | (apply RD.src; repeat (first | assumption | exact RD.head | exact RD.nil | apply RD.tail))) (by rfl) (by rfl) (by (try simp only [List.length_append, List.length_cons, List.length_nil]); omega) fun w22 => ?_)
      refine WO_step rfl (S_pure rfl ?_)
      refine WO_nil (KBlock_n (KSeq_n (WC_region ?_)))
      first | refine WO_step rfl (S_addN (b := 1) rfl rfl (by omega) ?_) | refine WO_step rfl (S_pure rfl ?_)
      refine WO_step rfl (S_pure rfl ?_)
      refine WO_nil (KLoop_n ?_)
      rw [hb2] at hsucc
      simp only [if_true] at hsucc
      have := ih (4 - (s + 1)) (by omega) (s + 1) w22 rfl (by omega)
      rw [show 4 * b + (s + 1) = 4 * b + s + 1 by omega, hsucc] at this
      exact WC_weak this seA hsA
     ·
      try simp only [bsT] at hb2
      refine WC_skip (KBlock_n (KSeq_n (WC_region ?_)))
      first | refine WO_step rfl (S_addN (b := 1) rfl rfl (by omega) ?_) | refine WO_step rfl (S_pure rfl ?_)
      refine WO_step rfl (S_pure rfl ?_)
      refine WO_nil (KLoop_n ?_)
      rw [hb2] at hsucc
      simp only [Bool.false_eq_true, if_false, List.append_nil] at hsucc
      have := ih (4 - (s + 1)) (by omega) (s + 1) w rfl (by omega)
      rw [show 4 * b + (s + 1) = 4 * b + s + 1 by omega, hsucc] at this
      exact WC_weak this seA hsA
    ·
     try simp only [bsT] at hb1
     refine WC_exit (KSeq_x (KLoop_x ?_))
     have e4 : s = 4 := by omega
     subst e4
     exact KPost_i seA hsA ⟨w, rfl, rfl, rfl⟩
theorem lp_oL0 {H : SH} {ts : List SlT} (hl : ts.length = 32) : ∀ (m b : Nat) (w : SV), 8 - b = m → b ≤ 8 →
    WC F X (.loop L_order_List_0) [(9, .int .i64 (b : Int)), (8, tabV ts), (3, w.toV)] (SL w.toV TRec (tRecs ts (4 * b)) :: H)
      (KPost fun y l' H' => ∃ w : SV, y = .exit 0 ∧ l' = [(3, w.toV)] ∧ H' = SL w.toV TRec (tRecs ts 32) :: H) := by
  intro m
  induction m using Nat.strongRecOn with
  | _ m ih =>
    intro b w hm hb
    refine WC_loop (WC_seq (WC_region ?_))
    refine WO_step rfl (S_pure rfl ?_)
    refine WO_nil (KSeq_n (WC_seq ?_))
    refine WC_cond rfl (fun hb1 => ?_) (fun hb1 => ?_)
    ·
     try simp only [bsT] at hb1
     have hb8 : b < 8 := by omega
     have hbkl := bk_len hl hb8
     refine WC_skip (KSeq_n (WC_seq (WC_block (WC_seq (WC_region ?_)))))
     refine WO_step rfl (S_idxBk (b := b) rfl rfl rfl hb8 hl ?_)
     refine WO_step rfl (S_new fun i5 => ?_)
     refine WO_step rfl (S_storeAll (T := TSlT) (xs := bk ts b) rfl rfl pkA (by rfl) (by rw [hbkl]; rfl) ?_)
     refine WO_nil (KSeq_n (WC_seq (WC_region ?_)))
     refine WO_step rfl (S_loadAll (T := TSlT) (xs := bk ts b) rfl pkA (by rw [hbkl]; rfl) ?_)
     refine WO_step rfl (S_pure rfl ?_)
     refine WO_nil (KSeq_n (WC_block ?_))
     --out x2
     refine WC_post (WC_weak (lp_oL1 (H := H) (ts := ts) (b := b) (tabV ts) hl hb8 4 0 w (by omega) (by omega)) seA hsA) ?_
     rintro y l' _ ⟨w', rfl, rfl, rfl⟩
     refine KBlock_h (KBlock_n (KSeq_n (WC_region ?_)))
     first | refine WO_step rfl (S_addN (b := 1) rfl rfl (by omega) ?_) | refine WO_step rfl (S_pure rfl ?_)
     refine WO_step rfl (S_pure rfl ?_)
     refine WO_nil (KLoop_n ?_)
     have := ih (8 - (b + 1)) (by omega) (b + 1) w' rfl (by omega)
     rw [show 4 * (b + 1) = 4 * b + 4 by omega] at this
     exact WC_weak this seA hsA
    ·
     try simp only [bsT] at hb1
     refine WC_exit (KSeq_x (KLoop_x ?_))
     have e8 : b = 8 := by omega
     subst e8
     exact KPost_i (H' := SL w.toV TRec (tRecs ts 32) :: H) seA hsA ⟨w, rfl, rfl, rfl⟩
theorem tRecs_len (ts : List SlT) (k : Nat) : (tRecs ts k).length ≤ k := by
  unfold tRecs
  rw [List.length_map]
  exact Nat.le_trans (List.length_filter_le _ _) (by rw [List.length_take]; omega)
theorem sp_oList {H : SH} {ts : List SlT} (hl : ts.length = 32) (hk : kSmall ts) : WF F X f_order_List [tabV ts] H (fun r H' => ∃ u : SV, r = u.toV ∧ H' = SL u.toV TRec (newest (tRecs ts 32)) :: H) := by
  have hrl := tRecs_len ts 32
  refine WF_addNil (T := TRec) ?_
  refine WF_fn F_order_List ?_
  refine WC_seq (WC_region ?_)
  refine WO_step rfl (S_boxA (T := TSlT) (xs := ts) rfl fun i1 => ?_)
  refine WO_step rfl (S_pure rfl ?_)
  refine WO_nil (KSeq_n (WC_seq (WC_region ?_)))
  refine WO_step rfl (S_pure rfl ?_)
  refine WO_nil (KSeq_n (WC_seq (WC_seq (WC_region ?_))))
  refine WO_step rfl (S_loadAll (T := TSlT) (xs := ts) rfl pkA (by rw [hl]; rfl) ?_)
  refine WO_step rfl (S_pure rfl ?_)
  refine WO_nil (KSeq_n (WC_block ?_))
  --out x0
  refine WC_post (WC_weak (lp_oL0 (H := H) (ts := ts) hl 8 0 .nil (by omega) (by omega)) seA hsA) ?_
  rintro y l' _ ⟨w, rfl, rfl, rfl⟩
  refine KBlock_h (KSeq_n (WC_seq (WC_region ?_)))
  refine WO_step rfl (S_pure rfl ?_)
  refine WO_call rfl rfl rfl ?_
  refine (sp_rNewest (l := tRecs ts 32) rdA (by omega) (fun x hx => ?_)).mono ?_
  · unfold tRecs at hx
    obtain ⟨y, hy, rfl⟩ := List.mem_map.1 hx
    exact Nat.le_trans (hk y (List.mem_of_mem_take (List.mem_filter.1 hy).1)) (by decide)
  rintro _ _ ⟨u, rfl, rfl⟩
  refine WO_step rfl (S_pure rfl ?_)
  refine WO_nil (KSeq_n (WC_ret ?_))
  refine KFn_r (ResL.tmp rfl ResL.nil) ?_
  exact ⟨_, hsA, u, rfl, rfl⟩
theorem lp_TB {H : SH} {ts : List SlT} {i1 : Nat} (hl : ts.length = 32) (hw : wfT ts) (hm : ∀ x ∈ ts, x.has = true → mayRec x.r = true) : ∀ (n k : Nat) (w3 w4 : SV), 32 - k = n → k ≤ 32 →
    WC F X (.loop L_loessref10_TableBytes_0) [(5, .int .i64 (k : Int)), (1, .pointer (some ⟨i1, 0, none⟩)), (3, w3.toV), (4, w4.toV)] (SL w3.toV TBool ((ts.take k).map (·.has)) :: SL w4.toV TByte (recsB (ts.take k)) :: AO i1 33 TSlT ts :: H)
      (KPost fun y l' H' => ∃ w3 w4 : SV, y = .exit 0 ∧ l' = [(3, w3.toV), (4, w4.toV)] ∧ H' = SL w3.toV TBool (ts.map (·.has)) :: SL w4.toV TByte (recsB ts) :: H) := by
  intro n
  induction n using Nat.strongRecOn with
  | _ n ih =>
    intro k w3 w4 hn hk
    have hbl : ((ts.take k).map (·.has)).length ≤ 32 := by simp; omega
    have hrl := recsB_len (ts := ts.take k) (fun x hx => hw x (List.mem_of_mem_take hx)) (fun x hx => hm x (List.mem_of_mem_take hx))
    have htl : (ts.take k).length ≤ 32 := by rw [List.length_take]; omega
    refine WC_loop (WC_seq (WC_seq (WC_region ?_)))
    iterate 2 refine WO_step rfl (S_pure rfl ?_)
    refine WO_nil (KSeq_n ?_)
    refine WC_cond rfl (fun hb1 => ?_) (fun hb1 => ?_)
    ·
     try simp only [bsT] at hb1
     obtain ⟨x, hx⟩ := get_of_lt (show k < ts.length by omega)
     have hxm := List.mem_of_getElem? hx
     have hwx := hw x hxm
     have hhs := has_succ hx
     have hrs := recsB_succ hx
     refine WC_skip (KSeq_n (WC_seq (WC_block (WC_seq (WC_region ?_)))))
     refine WO_step rfl (S_pure rfl ?_)
     refine WO_step rfl (S_quoN (a := k) (m := 4) rfl rfl (by omega) (by omega) ?_)
     refine WO_step rfl (S_pure rfl ?_)
     refine WO_step rfl (S_remU (a := k) (m := 4) rfl rfl (by omega) ?_)
     refine WO_step rfl (S_idxA (j := k / 4) rfl rfl rfl (by omega) ?_)
     refine WO_step rfl (S_idxA (j := k % 4) rfl rfl rfl (by omega) ?_)
     refine WO_step rfl (S_loadA (T := TSlT) (k := k) rfl pkA (by show _ = k * 6; omega) hx rfl rfl ?_)
     refine WO_step rfl (S_newT TSlT slt0 rfl rfl fun i6 => ?_)
     refine WO_step rfl (S_storeT (T := TSlT) (y := x) rfl rfl pkA (by rfl) (by rfl) ?_)
     refine WO_nil (KSeq_n (WC_seq (WC_region ?_)))
     iterate 2 refine WO_step rfl (S_pure rfl ?_)
     refine WO_step rfl (S_loadO rfl pkA (by rfl) (by rfl) ?_)
     refine WO_step rfl (S_lit1 (T := TBool) (y := x.has) rfl rfl rfl rfl fun w25 => ?_)
     refine WO_step rfl (S_app rfl rfl pkA (by first | exact SRC.str rfl rfl | (apply RD.src; repeat (first | assumption | exact RD.head | exact RD.nil | apply RD.tail))) (by rfl) (by rfl) (by (try simp only [List.length_append, List.length_cons, List.length_nil]); omega) fun w26 => ?_)
     refine WO_step rfl (S_pure rfl ?_)
     refine WO_nil (KSeq_n (WC_seq (WC_region ?_)))
     refine WO_step rfl (S_pure rfl ?_)
     refine WO_step rfl (S_loadO rfl pkA (by rfl) (by rfl) ?_)
     refine WO_nil (KSeq_n ?_)
     refine WC_cond rfl (fun hb2 => ?_) (fun hb2 => ?_)
     ·
      try simp only [bsT] at hb2
      have hht : x.has = true := hb2
      have hmr := hm x hxm hht
      have hks : x.r.key.size ≤ 1000000 := by have := may_key hmr; omega
      have hkl2 := kH_lt x.r.key
      have ht8 := tagOf_lt (kH x.r.key)
      have hpl := putRec_len3 hmr hwx
      refine WC_seq (WC_region ?_)
      iterate 2 refine WO_step rfl (S_pure rfl ?_)
      refine WO_step rfl (S_loadO rfl pkA (by rfl) (by rfl) ?_)
      refine WO_call rfl rfl rfl ?_
      refine (sp_RHash (s := x.r.key) hks).mono ?_
      rintro _ _ ⟨rfl, rfl⟩
      rw [kH_eq]
      refine WO_call rfl rfl rfl ?_
      refine (sp_rTag (by omega)).mono ?_
      rintro _ _ ⟨rfl, rfl⟩
      refine WO_step rfl (S_pure rfl ?_)
      refine WO_nil (KSeq_n (WC_drawn ?_))
      refine WD_step rfl (S_pure rfl ?_)
      refine WD_step rfl (S_pure rfl ?_)
      refine WD_step rfl (S_quoN (a := tagOf (kH x.r.key)) (m := 256) rfl rfl (by omega) (by omega) ?_)
      refine WD_step rfl (S_toB (a := tagOf (kH x.r.key) / 256) rfl ?_)
      refine WD_step rfl (S_pure rfl ?_)
      refine WD_step rfl (S_remU (a := tagOf (kH x.r.key)) (m := 256) rfl rfl (by omega) ?_)
      refine WD_step rfl (S_toB (a := tagOf (kH x.r.key) % 256) rfl ?_)
      rw [show tagOf (kH x.r.key) / 256 % 256 = tagOf (kH x.r.key) / 256 by omega, show tagOf (kH x.r.key) % 256 % 256 = tagOf (kH x.r.key) % 256 by omega]
      refine WD_step rfl (S_lit2B (a := tagOf (kH x.r.key) / 256) (b := tagOf (kH x.r.key) % 256) rfl rfl (by omega) (by omega) fun w41 => ?_)
      refine WD_step rfl (S_app rfl rfl pkA (by first | exact SRC.str rfl rfl | (apply RD.src; repeat (first | assumption | exact RD.head | exact RD.nil | apply RD.tail))) (by rfl) (by rfl) (by simp only [List.length_cons, List.length_nil]; omega) fun w42 => ?_)
      refine WD_step rfl (S_pure rfl ?_)
      refine WD_step rfl (S_loadO (v := TRec.val x.r) rfl pkA (by rfl) (by rfl) ?_)
      refine WD_call rfl rfl rfl ?_
      refine (sp_Bytes (r := x.r) hwx).mono ?_
      rintro _ _ ⟨w45, rfl, rfl⟩
      refine WD_step rfl (S_app rfl rfl pkA (by first | exact SRC.str rfl rfl | (apply RD.src; repeat (first | assumption | exact RD.head | exact RD.nil | apply RD.tail))) (by rfl) (by rfl) (by simp only [List.length_append, List.length_cons, List.length_nil]; omega) fun w46 => ?_)
      refine WD_step rfl (S_pure rfl ?_)
      refine WD_nil ?_
      refine ⟨?_, ?_⟩
      ·
       refine ⟨?_, ?_, trivial⟩ <;> exact ObR.of_step rfl (S_loadO (v := TRec.val x.r) rfl pkA (by rfl) (by rfl) (by simp [eqV, eqVs, eqV0, TRec, Ty.ofAgg, AM.cells, Value.cells]))
      ·
       refine KBlock_n (KSeq_n (WC_region ?_))
       refine WO_step rfl (S_pure rfl ?_)
       first | refine WO_step rfl (S_addN (b := 1) rfl rfl (by omega) ?_) | refine WO_step rfl (S_pure rfl ?_)
       refine WO_step rfl (S_pure rfl ?_)
       refine WO_nil (KLoop_n ?_)
       have := ih (32 - (k + 1)) (by omega) (k + 1) w26 w46 rfl (by omega)
       rw [hhs, hrs, show slB x = tagB x.r.key ++ putRec x.r by unfold slB; rw [if_pos hht], ← List.append_assoc] at this
       exact WC_weak this seA hsA
     ·
      try simp only [bsT] at hb2
      refine WC_skip (KBlock_n (KSeq_n (WC_region ?_)))
      refine WO_step rfl (S_pure rfl ?_)
      first | refine WO_step rfl (S_addN (b := 1) rfl rfl (by omega) ?_) | refine WO_step rfl (S_pure rfl ?_)
      refine WO_step rfl (S_pure rfl ?_)
      refine WO_nil (KLoop_n ?_)
      have hhf : x.has = false := hb2
      have := ih (32 - (k + 1)) (by omega) (k + 1) w26 w4 rfl (by omega)
      rw [hhs, hrs, show slB x = [] by unfold slB; rw [hhf]; rfl, List.append_nil] at this
      exact WC_weak this seA hsA
    ·
     try simp only [bsT] at hb1
     refine WC_exit (KSeq_x (KLoop_x ?_))
     have ek : k = 32 := by omega
     subst ek
     rw [List.take_of_length_le (by omega)]
     exact KPost_i (H' := SL w3.toV TBool (ts.map (·.has)) :: SL w4.toV TByte (recsB ts) :: H) seA hsA ⟨w3, w4, rfl, rfl, rfl⟩
theorem sp_TB {H : SH} {ts : List SlT} (hl : ts.length = 32) (hw : wfT ts) : WF F X f_loessref10_TableBytes [tabV ts] H (fun r H' => ∃ w : SV, r = w.toV ∧ (mayTab ts = false → w = .nil) ∧ H' = SL w.toV TByte (if mayTab ts = true then encT ts else []) :: H) := by
  refine WF_addNil (T := TByte) (WF_addNil (T := TBool) ?_)
  refine WF_fn F_loessref10_TableBytes ?_
  refine WC_seq (WC_region ?_)
  refine WO_step rfl (S_boxA (T := TSlT) (xs := ts) rfl fun i1 => ?_)
  refine WO_step rfl (S_pure rfl ?_)
  refine WO_nil (KSeq_n (WC_seq (WC_seq (WC_region ?_))))
  refine WO_step rfl (S_loadAll (T := TSlT) (xs := ts) rfl pkA (by rw [hl]; rfl) ?_)
  refine WO_call rfl rfl rfl ?_
  refine (sp_rMayT hl hw.small).mono ?_
  rintro _ _ ⟨rfl, rfl⟩
  refine WO_step rfl (S_pure rfl ?_)
  refine WO_nil (KSeq_n ?_)
  refine WC_cond rfl (fun hb1 => ?_) (fun hb1 => ?_)
  ·
   try simp only [bsT] at hb1
   refine WC_seq (WC_region ?_)
   refine WO_step rfl (S_pure rfl ?_)
   refine WO_nil (KSeq_n (WC_ret (KSeq_r ?_)))
   refine KFn_r (ResL.tmp rfl ResL.nil) ?_
   have hf : mayTab ts = false := by simpa using hb1
   refine ⟨SL (SV.toV .nil) TByte [] :: H, hsA, .nil, rfl, fun _ => rfl, ?_⟩
   rw [if_neg (by rw [hf]; decide)]
  ·
   try simp only [bsT] at hb1
   have hmt : mayTab ts = true := by simpa using hb1
   have hon := mayTab_on hl hmt
   have hrl := recsB_len hw hon
   have hhl : (ts.map (·.has)).length = 32 := by simp [hl]
   refine WC_skip (KSeq_n (WC_seq (WC_region ?_)))
   refine WO_step rfl (S_pure rfl ?_)
   refine WO_nil (KSeq_n (WC_seq (WC_region ?_)))
   refine WO_step rfl (S_pure rfl ?_)
   refine WO_nil (KSeq_n (WC_seq (WC_seq (WC_region ?_))))
   refine WO_step rfl (S_pure rfl ?_)
   refine WO_nil (KSeq_n (WC_block ?_))
   --out x0
   refine WC_post (WC_weak (lp_TB (H := H) (ts := ts) (i1 := i1) hl hw hon 32 0 .nil .nil (by omega) (by omega)) seA hsA) ?_
   rintro y l' _ ⟨w3, w4, rfl, rfl, rfl⟩
   refine KBlock_h (KSeq_n (WC_seq (WC_region ?_)))
   refine WO_step rfl (S_pure rfl ?_)
   refine WO_call rfl rfl rfl ?_
   refine (sp_rBy (bs := ts.map (·.has)) rdA (by omega)).mono ?_
   rintro _ _ ⟨w48, rfl, rfl⟩
   rw [hhl, show nby 32 = 4 from rfl]
   have hbl := byts_len (ts.map (·.has)) 4
   refine WO_step rfl (S_pure rfl ?_)
   refine WO_step rfl (S_app rfl rfl pkA (by first | exact SRC.str rfl rfl | (apply RD.src; repeat (first | assumption | exact RD.head | exact RD.nil | apply RD.tail))) (by rfl) (by rfl) (by (try simp only [List.length_append, List.length_cons, List.length_nil]); omega) fun w50 => ?_)
   refine WO_step rfl (S_pure rfl ?_)
   refine WO_nil (KSeq_n (WC_ret ?_))
   refine KFn_r (ResL.tmp rfl ResL.nil) ?_
   refine ⟨SL w50.toV TByte (byts (ts.map (·.has)) 4 ++ recsB ts) :: H, hsA, w50, rfl, fun h => absurd (hmt.symm.trans h) (by decide), ?_⟩
   rw [if_pos hmt]; rfl
theorem lp_oE1 {H : SH} {ts : List SlT} {b i3 : Nat} (v15 : Value) (hl : ts.length = 32) (hw : wfT ts) (hm : ∀ x ∈ ts, x.has = true → mayRec x.r = true) (hb : b < 8) : ∀ (m s : Nat) (w w4 : SV), 4 - s = m → s ≤ 4 →
    WC F X (.loop L_order_Encode_1) [(20, .int .i64 (s : Int)), (19, tabV (bk ts b)), (16, .int .i64 (b : Int)), (15, v15), (3, .pointer (some ⟨i3, 0, none⟩)), (4, w4.toV)] (SL w4.toV TByte (recsB (ts.take (4 * b + s))) :: BB i3 w ((ts.take (4 * b + s)).map (·.has)) H)
      (KPost fun y l' H' => ∃ w w4 : SV, y = .exit 2 ∧ l' = [(16, .int .i64 (b : Int)), (15, v15), (3, .pointer (some ⟨i3, 0, none⟩)), (4, w4.toV)] ∧ H' = SL w4.toV TByte (recsB (ts.take (4 * b + 4))) :: BB i3 w ((ts.take (4 * b + 4)).map (·.has)) H) := by
  intro m
  induction m using Nat.strongRecOn with
  | _ m ih =>
    intro s w w4 hn hs
    have hbl : ((ts.take (4 * b + s)).map (·.has)).length ≤ 32 := by simp; omega
    have hrl := recsB_len (ts := ts.take (4 * b + s)) (fun x hx => hw x (List.mem_of_mem_take hx)) (fun x hx => hm x (List.mem_of_mem_take hx))
    have htl : (ts.take (4 * b + s)).length ≤ 32 := by rw [List.length_take]; omega
    unfold BB
    refine WC_loop (WC_seq (WC_region ?_))
    refine WO_step rfl (S_pure rfl ?_)
    refine WO_nil (KSeq_n (WC_seq ?_))
    refine WC_cond rfl (fun hb1 => ?_) (fun hb1 => ?_)
    ·
     try simp only [bsT] at hb1
     obtain ⟨x, hx⟩ := get_of_lt (show 4 * b + s < ts.length by omega)
     have hxm := List.mem_of_getElem? hx
     have hwx := hw x hxm
     have hhs := has_succ hx
     have hrs := recsB_succ hx
     refine WC_skip (KSeq_n (WC_seq (WC_block (WC_seq (WC_region ?_)))))
     refine WO_step rfl (S_idxSl (s := s) (z := x) rfl rfl rfl (by omega) (by rw [bk_get (by omega)]; exact hx) ?_)
     refine WO_step rfl (S_newT TSlO slt0 rfl rfl fun i8 => ?_)
     refine WO_step rfl (S_storeT (T := TSlO) (y := x) rfl rfl pkA (by rfl) (by rfl) ?_)
     refine WO_nil (KSeq_n (WC_seq (WC_region ?_)))
     iterate 2 refine WO_step rfl (S_pure rfl ?_)
     refine WO_step rfl (S_loadO rfl pkA (by rfl) (by rfl) ?_)
     refine WO_call rfl rfl rfl ?_
     refine (sp_bPut (i := i3) (w := w) (bs := (ts.take (4 * b + s)).map (·.has)) (b := x.has) (H0 := OB i8 TSlO x :: SL w4.toV TByte (recsB (ts.take (4 * b + s))) :: H) (by unfold BB; exact hsA) (by omega)).mono ?_
     rintro _ _ ⟨w', rfl⟩
     rw [← hhs]
     unfold BB
     refine WO_nil (KSeq_n (WC_seq (WC_region ?_)))
     refine WO_step rfl (S_pure rfl ?_)
     refine WO_step rfl (S_loadO rfl pkA (by rfl) (by rfl) ?_)
     refine WO_nil (KSeq_n ?_)
     refine WC_cond rfl (fun hb2 => ?_) (fun hb2 => ?_)
     ·
      try simp only [bsT] at hb2
      have hht : x.has = true := hb2
      have hmr := hm x hxm hht
      have hks : x.r.key.size ≤ 1000000 := by have := may_key hmr; omega
      have hkl2 := kH_lt x.r.key
      have ht8 := tagOf_lt (kH x.r.key)
      refine WC_seq (WC_region ?_)
      iterate 2 refine WO_step rfl (S_pure rfl ?_)
      refine WO_step rfl (S_loadO rfl pkA (by rfl) (by rfl) ?_)
      refine WO_call rfl rfl rfl ?_
      refine (sp_HashOf (s := x.r.key) hks).mono ?_
      rintro _ _ ⟨rfl, rfl⟩
      rw [kH_eq]
      refine WO_call rfl rfl rfl ?_
      refine (sp_hTag (by omega)).mono ?_
      rintro _ _ ⟨rfl, rfl⟩
      refine WO_step rfl (S_pure rfl ?_)
      refine WO_nil (KSeq_n (WC_drawn ?_))
      refine WD_step rfl (S_pure rfl ?_)
      refine WD_step rfl (S_pure rfl ?_)
      refine WD_step rfl (S_shr8I (a := tagOf (kH x.r.key)) rfl ?_)
      refine WD_step rfl (S_toB (a := tagOf (kH x.r.key) / 256) rfl ?_)
      refine WD_step rfl (S_pure rfl ?_)
      refine WD_step rfl (S_toB (a := tagOf (kH x.r.key)) rfl ?_)
      rw [show tagOf (kH x.r.key) / 256 % 256 = tagOf (kH x.r.key) / 256 by omega]
      refine WD_step rfl (S_lit2B (a := tagOf (kH x.r.key) / 256) (b := tagOf (kH x.r.key) % 256) rfl rfl (by omega) (by omega) fun w40 => ?_)
      refine WD_step rfl (S_app rfl rfl pkA (by first | exact SRC.str rfl rfl | (apply RD.src; repeat (first | assumption | exact RD.head | exact RD.nil | apply RD.tail))) (by rfl) (by rfl) (by simp only [List.length_cons, List.length_nil]; omega) fun w41 => ?_)
      refine WD_step rfl (S_pure rfl ?_)
      refine WD_step rfl (S_loadO (v := TRec.val x.r) rfl pkA (by rfl) (by rfl) ?_)
      refine WD_call rfl rfl rfl ?_
      refine (sp_rPut (w := w41) (bs := recsB (ts.take (4 * b + s)) ++ [UInt8.ofNat (tagOf (kH x.r.key) / 256), UInt8.ofNat (tagOf (kH x.r.key) % 256)]) (r := x.r) pkA hwx (by simp only [List.length_append, List.length_cons, List.length_nil]; omega)).mono ?_
      rintro _ _ ⟨w44, rfl, rfl⟩
      refine WD_step rfl (S_pure rfl ?_)
      refine WD_nil ?_
      refine ⟨?_, ?_⟩
      ·
       refine ⟨?_, ?_, trivial⟩ <;> exact ObR.of_step rfl (S_loadO (v := TRec.val x.r) rfl pkA (by rfl) (by rfl) (by simp [eqV, eqVs, eqV0, TRec, Ty.ofAgg, AM.cells, Value.cells]))
      ·
       refine KBlock_n (KSeq_n (WC_region ?_))
       first | refine WO_step rfl (S_addN (b := 1) rfl rfl (by omega) ?_) | refine WO_step rfl (S_pure rfl ?_)
       refine WO_step rfl (S_pure rfl ?_)
       refine WO_nil (KLoop_n ?_)
       have := ih (4 - (s + 1)) (by omega) (s + 1) w' w44 rfl (by omega)
       rw [show 4 * b + (s + 1) = 4 * b + s + 1 by omega, hrs, show slB x = tagB x.r.key ++ putRec x.r by unfold slB; rw [if_pos hht], ← List.append_assoc] at this
       unfold BB at this
       exact WC_weak this seA hsA
     ·
      try simp only [bsT] at hb2
      refine WC_skip (KBlock_n (KSeq_n (WC_region ?_)))
      first | refine WO_step rfl (S_addN (b := 1) rfl rfl (by omega) ?_) | refine WO_step rfl (S_pure rfl ?_)
      refine WO_step rfl (S_pure rfl ?_)
      refine WO_nil (KLoop_n ?_)
      have hhf : x.has = false := hb2
      have := ih (4 - (s + 1)) (by omega) (s + 1) w' w4 rfl (by omega)
      rw [show 4 * b + (s + 1) = 4 * b + s + 1 by omega, hrs, show slB x = [] by unfold slB; rw [hhf]; rfl, List.append_nil] at this
      unfold BB at this
      exact WC_weak this seA hsA
    ·
     try simp only [bsT] at hb1
     refine WC_exit (KSeq_x (KLoop_x ?_))
     have e4 : s = 4 := by omega
     subst e4
     exact KPost_i (H' := SL w4.toV TByte (recsB (ts.take (4 * b + 4))) :: BB i3 w ((ts.take (4 * b + 4)).map (·.has)) H) seA (by unfold BB; exact hsA) ⟨w, w4, rfl, rfl, rfl⟩
theorem lp_oE0 {H : SH} {ts : List SlT} {i3 : Nat} (hl : ts.length = 32) (hw : wfT ts) (hm : ∀ x ∈ ts, x.has = true → mayRec x.r = true) : ∀ (m b : Nat) (w w4 : SV), 8 - b = m → b ≤ 8 →
    WC F X (.loop L_order_Encode_0) [(16, .int .i64 (b : Int)), (15, tabV ts), (3, .pointer (some ⟨i3, 0, none⟩)), (4, w4.toV)] (SL w4.toV TByte (recsB (ts.take (4 * b))) :: BB i3 w ((ts.take (4 * b)).map (·.has)) H)
      (KPost fun y l' H' => ∃ w w4 : SV, y = .exit 0 ∧ l' = [(3, .pointer (some ⟨i3, 0, none⟩)), (4, w4.toV)] ∧ H' = SL w4.toV TByte (recsB ts) :: BB i3 w (ts.map (·.has)) H) := by
  intro m
  induction m using Nat.strongRecOn with
  | _ m ih =>
    intro b w w4 hn hb
    unfold BB
    refine WC_loop (WC_seq (WC_region ?_))
    refine WO_step rfl (S_pure rfl ?_)
    refine WO_nil (KSeq_n (WC_seq ?_))
    refine WC_cond rfl (fun hb1 => ?_) (fun hb1 => ?_)
    ·
     try simp only [bsT] at hb1
     have hb8 : b < 8 := by omega
     have hbkl := bk_len hl hb8
     refine WC_skip (KSeq_n (WC_seq (WC_block (WC_seq (WC_region ?_)))))
     refine WO_step rfl (S_idxBk (b := b) rfl rfl rfl hb8 hl ?_)
     refine WO_step rfl (S_new fun i6 => ?_)
     refine WO_step rfl (S_storeAll (T := TSlT) (xs := bk ts b) rfl rfl pkA (by rfl) (by rw [hbkl]; rfl) ?_)
     refine WO_nil (KSeq_n (WC_seq (WC_region ?_)))
     refine WO_step rfl (S_loadAll (T := TSlT) (xs := bk ts b) rfl pkA (by rw [hbkl]; rfl) ?_)
     refine WO_step rfl (S_pure rfl ?_)
     refine WO_nil (KSeq_n (WC_block ?_))
     --out x2
     refine WC_post (WC_weak (lp_oE1 (H := H) (ts := ts) (b := b) (i3 := i3) (tabV ts) hl hw hm hb8 4 0 w w4 (by omega) (by omega)) seA (by unfold BB; exact hsA)) ?_
     rintro y l' _ ⟨w', w4', rfl, rfl, rfl⟩
     refine KBlock_h (KBlock_n (KSeq_n (WC_region ?_)))
     first | refine WO_step rfl (S_addN (b := 1) rfl rfl (by omega) ?_) | refine WO_step rfl (S_pure rfl ?_)
     refine WO_step rfl (S_pure rfl ?_)
     refine WO_nil (KLoop_n ?_)
     have := ih (8 - (b + 1)) (by omega) (b + 1) w' w4' rfl (by omega)
     rw [show 4 * (b + 1) = 4 * b + 4 by omega] at this
     exact WC_weak this seA HSub.refl
    ·
     try simp only [bsT] at hb1
     refine WC_exit (KSeq_x (KLoop_x ?_))
     have e8 : b = 8 := by omega
     subst e8
     have et : ts.take (4 * 8) = ts := List.take_of_length_le (by omega)
     rw [et]
     exact KPost_i (H' := SL w4.toV TByte (recsB ts) :: BB i3 w (ts.map (·.has)) H) seA (by unfold BB; exact hsA) ⟨w, w4, rfl, rfl, rfl⟩
theorem sp_oEnc {H : SH} {ts : List SlT} (hl : ts.length = 32) (hw : wfT ts) : WF F X f_order_Encode [tabV ts] H (fun r H' => ∃ w : SV, r = w.toV ∧ (mayTab ts = false → w = .nil) ∧ H' = SL w.toV TByte (if mayTab ts = true then encT ts else []) :: H) := by
  refine WF_addNil (T := TByte) (WF_addNil (T := TByte) ?_)
  refine WF_fn F_order_Encode ?_
  refine WC_seq (WC_region ?_)
  refine WO_step rfl (S_boxA (T := TSlT) (xs := ts) rfl fun i1 => ?_)
  refine WO_step rfl (S_pure rfl ?_)
  refine WO_nil (KSeq_n (WC_seq (WC_seq (WC_region ?_))))
  refine WO_step rfl (S_loadAll (T := TSlT) (xs := ts) rfl pkA (by rw [hl]; rfl) ?_)
  refine WO_call rfl rfl rfl ?_
  refine (sp_oMay hl hw.small).mono ?_
  rintro _ _ ⟨rfl, rfl⟩
  refine WO_step rfl (S_pure rfl ?_)
  refine WO_nil (KSeq_n ?_)
  refine WC_cond rfl (fun hb1 => ?_) (fun hb1 => ?_)
  ·
   try simp only [bsT] at hb1
   refine WC_seq (WC_region ?_)
   refine WO_step rfl (S_pure rfl ?_)
   refine WO_nil (KSeq_n (WC_ret (KSeq_r ?_)))
   refine KFn_r (ResL.tmp rfl ResL.nil) ?_
   have hf : mayTab ts = false := by simpa using hb1
   refine ⟨SL (SV.toV .nil) TByte [] :: H, hsA, .nil, rfl, fun _ => rfl, ?_⟩
   rw [if_neg (by rw [hf]; decide)]
  ·
   try simp only [bsT] at hb1
   have hmt : mayTab ts = true := by simpa using hb1
   have hon := mayTab_on hl hmt
   have hrl := recsB_len hw hon
   have hhl : (ts.map (·.has)).length = 32 := by simp [hl]
   refine WC_skip (KSeq_n (WC_seq (WC_region ?_)))
   refine WO_step rfl (S_pure rfl ?_)
   refine WO_step rfl (S_box rfl rfl fun i14 => ?_)
   refine WO_step rfl (S_pure rfl ?_)
   refine WO_nil (KSeq_n (WC_seq (WC_region ?_)))
   refine WO_step rfl (S_pure rfl ?_)
   refine WO_nil (KSeq_n (WC_seq (WC_seq (WC_region ?_))))
   refine WO_step rfl (S_loadAll (T := TSlT) (xs := ts) rfl pkA (by rw [hl]; rfl) ?_)
   refine WO_step rfl (S_pure rfl ?_)
   refine WO_nil (KSeq_n (WC_block ?_))
   --out x0
   have e0 : BB i14 .nil ((ts.take (4 * 0)).map (·.has)) H = BI i14 .nil 0 :: SL (SV.toV .nil) TByte [] :: H := by simp [BB, byts, nby]
   refine WC_post (WC_weak (lp_oE0 (H := H) (ts := ts) (i3 := i14) hl hw hon 8 0 .nil .nil (by omega) (by omega)) seA (by rw [e0]; exact hsA)) ?_
   rintro y l' _ ⟨w, w4, rfl, rfl, rfl⟩
   refine KBlock_h (KSeq_n (WC_seq (WC_region ?_)))
   refine WO_step rfl (S_pure rfl ?_)
   refine WO_call rfl rfl rfl ?_
   refine (sp_bBytes (i := i14) (w := w) (bs := ts.map (·.has)) (H0 := SL w4.toV TByte (recsB ts) :: H) (by unfold BB; exact hsA) (by omega) (by omega)).mono ?_
   rintro _ _ ⟨w48, rfl, rfl⟩
   rw [hhl, show nby 32 = 4 from rfl]
   unfold BB
   have hbl := byts_len (ts.map (·.has)) 4
   refine WO_step rfl (S_pure rfl ?_)
   refine WO_step rfl (S_app rfl rfl pkA (by first | exact SRC.str rfl rfl | (apply RD.src; repeat (first | assumption | exact RD.head | exact RD.nil | apply RD.tail))) (by rfl) (by rfl) (by (try simp only [List.length_append, List.length_cons, List.length_nil]); omega) fun w50 => ?_)
   refine WO_step rfl (S_pure rfl ?_)
   refine WO_nil (KSeq_n (WC_ret ?_))
   refine KFn_r (ResL.tmp rfl ResL.nil) ?_
   refine ⟨SL w50.toV TByte (byts (ts.map (·.has)) 4 ++ recsB ts) :: H, hsA, w50, rfl, fun h => absurd (hmt.symm.trans h) (by decide), ?_⟩
   rw [if_pos hmt]; rfl
/-! ### Tables from bytes -/
theorem getR_range : ∀ (L : List UInt8) (i u : Nat), i ≤ 9 → u < 2 ^ (7 * i) → -9223372036854775808 ≤ (getR L i u).1 ∧ (getR L i u).1 < 9223372036854775808
  | [], i, u, _, _ => by simp [getR]
  | c :: L, i, u, hi, hu => by
    unfold getR
    split
    · simp
    · rename_i h
      have h9 : i = 9 → c.toNat ≤ 1 := fun e => by
        by_cases hc : 1 < c.toNat
        · exact absurd (.inl ⟨e, hc⟩) h
        · omega
      have htp := pow_top (i := i) (c := c.toNat % 128) hi (by omega) (fun e => by have := h9 e; omega)
      split
      · simp only []
        unfold unzz
        split <;> omega
      · have hnx := pow_next (i := i) (c := c.toNat % 128) (by omega)
        exact getR_range L (i + 1) _ (by
          by_cases e : i = 9
          · have := h9 e; omega
          · omega) (by omega)
theorem get_range (bs : List UInt8) : -9223372036854775808 ≤ (get bs).1 ∧ (get bs).1 < 9223372036854775808 := getR_range bs 0 0 (by omega) (by decide)
theorem getRec_wf (bs : List UInt8) : wfRec (getRec bs).1 := by
  have h0 : wfRec rec0 := by unfold wfRec; decide
  have i0 : (-9223372036854775808 : Int) ≤ 0 ∧ (0 : Int) < 9223372036854775808 := by decide
  have i1 : (-9223372036854775808 : Int) ≤ 1 ∧ (1 : Int) < 9223372036854775808 := by decide
  have i2 : (-9223372036854775808 : Int) ≤ 2 ∧ (2 : Int) < 9223372036854775808 := by decide
  have s0 : es0.size ≤ 100000 := by decide
  unfold getRec
  split
  rename_i q k e _
  split
  · exact h0
  · split
    · exact h0
    · rename_i hmk
      have hq : q.size ≤ 100000 := by
        cases hm : mayKey q with
        | false => exact absurd hm hmk
        | true => unfold mayKey at hm; simp at hm; omega
      split
      rename_i kd m f _
      split
      · exact h0
      · split
        · exact ⟨i0, i0, s0, hq⟩
        · split
          rename_i v m2 f2 hgv
          split
          · exact h0
          · have hv : (-9223372036854775808 ≤ v.kind ∧ v.kind < 9223372036854775808) ∧ (-9223372036854775808 ≤ v.n ∧ v.n < 9223372036854775808) ∧ v.s.size ≤ 100000 := by
              have hr0 : (-9223372036854775808 ≤ raw0.kind ∧ raw0.kind < 9223372036854775808) ∧ (-9223372036854775808 ≤ raw0.n ∧ raw0.n < 9223372036854775808) ∧ raw0.s.size ≤ 100000 := by decide
              have hgv1 : v = (getVal (bs.drop k)).1 := by rw [hgv]
              rw [hgv1]
              unfold getVal
              split
              rename_i kd' k' e' _
              split
              · exact hr0
              · split
                · split
                  rename_i n' m' f' hn'
                  split
                  · exact hr0
                  · have := get_range ((bs.drop k).drop k')
                    rw [hn'] at this
                    exact ⟨i1, this, s0⟩
                · split
                  · split
                    rename_i s' m' f' _
                    split
                    · exact hr0
                    · split
                      · rename_i hmr
                        refine ⟨i2, i0, ?_⟩
                        unfold mayRaw at hmr
                        simp at hmr
                        show s'.size ≤ 100000
                        omega
                      · exact hr0
                  · exact hr0
            exact ⟨hv.1, hv.2.1, hv.2.2, hq⟩
theorem getRec_le (bs : List UInt8) : (getRec bs).2.1 ≤ bs.length := by
  have h := getT_le bs
  unfold getRec
  generalize getT bs = p at *
  obtain ⟨n, k, e⟩ := p
  have h1 := get_le (bs.drop k)
  have h2 := getVal_le (bs.drop k)
  rw [List.length_drop] at h1 h2
  simp only [] at h ⊢
  revert h1 h2
  generalize get (bs.drop k) = p1
  generalize getVal (bs.drop k) = p2
  intro h1 h2
  obtain ⟨n1, k1, e1⟩ := p1
  obtain ⟨n2, k2, e2⟩ := p2
  simp only [] at *
  repeat' split
  all_goals (simp only []; omega)
def zeroT : List SlT := List.replicate 32 slt0
theorem zeroT_len : zeroT.length = 32 := by simp [zeroT]
theorem zeroT_wf : wfT zeroT := fun x hx => by
  obtain ⟨_, rfl⟩ := List.mem_replicate.1 hx
  show wfRec rec0
  unfold wfRec; decide
/-- A table's bytes: what was read of them so far. -/
structure IsT (bs : List UInt8) (ts' : List SlT) : Prop where
  len : ts'.length = 32
  wf : wfT ts'
  may : mayTab ts' = true
  eq : bs = encT ts'
def InvT (bs : List UInt8) (k a : Nat) (ts : List SlT) : Prop := ∀ ts', IsT bs ts' → (∀ j, j < k → ts[j]? = ts'[j]?) ∧ bs.drop a = recsB (ts'.drop k)
theorem IsT.has {bs : List UInt8} {ts' : List SlT} (h : IsT bs ts') {k : Nat} {x : SlT} (hx : ts'[k]? = some x) : bitAt (bs.take 4) k = x.has := by
  have hk := (List.getElem?_eq_some_iff.1 hx).1
  have hl := h.len
  have e : bs.take 4 = byts (ts'.map (·.has)) 4 := by
    rw [h.eq]; unfold encT
    rw [List.take_append_of_le_length (by rw [byts_len]; omega), List.take_of_length_le (by rw [byts_len]; omega)]
  rw [e, bitAt_byts (by omega), List.getD_eq_getElem?_getD, List.getElem?_map, hx]; rfl
theorem IsT.l4 {bs : List UInt8} {ts' : List SlT} (h : IsT bs ts') : 4 ≤ bs.length := by
  rw [h.eq]; unfold encT
  rw [List.length_append, byts_len]; omega
theorem InvT.start (bs : List UInt8) (ts : List SlT) : InvT bs 0 4 ts := fun ts' h => by
  refine ⟨fun j hj => absurd hj (Nat.not_lt_zero _), ?_⟩
  rw [h.eq]; unfold encT
  rw [List.drop_append_of_le_length (by rw [byts_len]; omega), List.drop_of_length_le (by rw [byts_len]; omega)]; rfl
theorem recsB_drop {ts : List SlT} {k : Nat} {x : SlT} (hx : ts[k]? = some x) : recsB (ts.drop k) = slB x ++ recsB (ts.drop (k + 1)) := by
  rw [drop_get hx]; rfl
/-- A slot without a record. -/
theorem InvT.off {bs : List UInt8} {k a : Nat} {ts : List SlT} (h : InvT bs k a ts) (hk : k < 32) (hz : ts[k]? = some slt0) (hb : bitAt (bs.take 4) k = false) : InvT bs (k + 1) a ts := fun ts' h' => by
  obtain ⟨h1, h2⟩ := h ts' h'
  have hl := h'.len
  obtain ⟨x, hx⟩ := get_of_lt (l := ts') (a := k) (by omega)
  have hxh : x.has = false := by rw [← h'.has hx]; exact hb
  have hx0 : x = slt0 := by
    have := (mayTab_iff h'.len).1 h'.may k x hk hx
    unfold slOk at this
    rw [hxh] at this
    have hr : x.r = rec0 := by simpa using this
    obtain ⟨hh, r⟩ := x
    simp at hxh hr
    subst hxh hr; rfl
  refine ⟨fun j hj => ?_, ?_⟩
  · by_cases e : j = k
    · subst e; rw [hz, hx, hx0]
    · exact h1 j (by omega)
  · rw [h2, recsB_drop hx]
    unfold slB; rw [hxh]; rfl
/-- A slot with a record. -/
theorem InvT.on {bs : List UInt8} {k a : Nat} {ts : List SlT} (h : InvT bs k a ts) (hk : k < 32) (hb : bitAt (bs.take 4) k = true) {ts' : List SlT} (h' : IsT bs ts') : ∃ x rest, ts'[k]? = some x ∧ x.has = true ∧ bs.drop a = tagB x.r.key ++ (putRec x.r ++ rest) ∧ rest = recsB (ts'.drop (k + 1)) ∧ getRec (bs.drop (a + 2)) = (x.r, (putRec x.r).length, 0) := by
  obtain ⟨h1, h2⟩ := h ts' h'
  have hl := h'.len
  obtain ⟨x, hx⟩ := get_of_lt (l := ts') (a := k) (by omega)
  have hxh : x.has = true := by rw [← h'.has hx]; exact hb
  have hm := mayTab_on h'.len h'.may x (List.mem_of_getElem? hx) hxh
  have hw := h'.wf x (List.mem_of_getElem? hx)
  have e : bs.drop a = tagB x.r.key ++ (putRec x.r ++ recsB (ts'.drop (k + 1))) := by
    rw [h2, recsB_drop hx]
    unfold slB; rw [if_pos hxh, List.append_assoc]
  refine ⟨x, _, hx, hxh, e, rfl, ?_⟩
  have e2 : bs.drop (a + 2) = putRec x.r ++ recsB (ts'.drop (k + 1)) := by
    rw [← List.drop_drop, e]; rfl
  rw [e2]
  exact getRec_put hm hw.2.1 _
theorem InvT.next {bs : List UInt8} {k a n : Nat} {r : Rec} {ts : List SlT} (h : InvT bs k a ts) (hk : k < 32) (hl : ts.length = 32) (hb : bitAt (bs.take 4) k = true) (hg : getRec (bs.drop (a + 2)) = (r, n, 0)) : InvT bs (k + 1) (a + (2 + n)) (ts.set k ⟨true, r⟩) := fun ts' h' => by
  obtain ⟨x, rest, hx, hxh, e, hrest, hg'⟩ := h.on hk hb h'
  obtain ⟨h1, h2⟩ := h ts' h'
  rw [hg] at hg'
  simp only [Prod.mk.injEq, and_true] at hg'
  obtain ⟨rfl, rfl⟩ := hg'
  refine ⟨fun j hj => ?_, ?_⟩
  · rw [List.getElem?_set]
    by_cases ej : k = j
    · subst ej
      rw [if_pos rfl, if_pos (by omega), hx]
      obtain ⟨hh, r⟩ := x
      simp at hxh; subst hxh; rfl
    · rw [if_neg ej]; exact h1 j (by omega)
  · rw [← hrest, ← List.drop_drop, ← List.drop_drop, e, List.drop_append_of_le_length (by simp [tagB])]
    have : (tagB x.r.key).drop 2 = [] := rfl
    rw [this, List.nil_append, List.drop_left]
theorem InvT.done {bs : List UInt8} {a : Nat} {ts : List SlT} (h : InvT bs 32 a ts) (hl : ts.length = 32) {ts' : List SlT} (h' : IsT bs ts') : ts = ts' := by
  obtain ⟨h1, _⟩ := h ts' h'
  refine List.ext_getElem? fun j => ?_
  by_cases hj : j < 32
  · exact h1 j hj
  · rw [List.getElem?_eq_none (by omega), List.getElem?_eq_none (by rw [h'.len]; omega)]
theorem ResL.tab {l : SE} {H H0 : SH} {t i : Nat} {ty : TypeId} {xs : List SlT} {rs : List (Nat × Option (Bool × Nat))} {vs : List Value} (h : lk l t = some (.pointer (some ⟨i, 0, none⟩))) (hm : Pick (AO i ty TSlT xs) H H0) (hl : xs.length = 32) (hr : ResL l H rs vs) : ResL l H ((t, some (true, 192)) :: rs) (tabV xs :: vs) := by
  have hc : (TSlT.cells xs).length = 192 := by rw [TSlT.cells_len, hl]; rfl
  refine ResL.cell h hm (by omega) ?_ hr
  rw [List.take_of_length_le (by omega)]; rfl
theorem S_storeTab {l : SE} {H H0 : SH} {K : Value → SH → Prop} {i : Nat} {t : TypeId} {a y : Opd} {ts0 ts : List SlT} (ha : a.lv l = some (.pointer (some ⟨i, 0, none⟩))) (hy : y.lv l = some (tabV ts)) (hp : Pick (AO i t TSlT ts0) H H0) (h0 : ts0.length = 32) (hl : ts.length = 32) (kk : K undef (AO i t TSlT ts :: H0)) : Step (.store 192 a y) l H K :=
  S_storeAll (T := TSlT) ha hy hp (by rw [TSlT.cells_len, h0]; rfl) (by rw [hl]; rfl) kk
theorem HAg.zeroT {i : Nat} {t : TypeId} {H : SH} {a : AH} (h : HAg (AO i t TSlT (List.replicate 32 slt0) :: H) a) : HAg (AO i t TSlT AM.zeroT :: H) a := h
theorem WO_no {os : List RO} {l : SE} {H : SH} {Q : SE → SH → Prop} (h : ∀ a, HAg H a → False) : WO F X os l H Q := fun e a hA hH => absurd hH (h a)
theorem HAg.nilSL {α : Type} {T : Ty α} {H : SH} {xs : List α} {a : AH} (h : HAg (SL (SV.toV .nil) T xs :: H) a) : xs = [] := by
  have hw : Window a false T.t (SV.toV .nil) T.es xs.length (T.cells xs) := h.1 _ (List.mem_cons_self ..)
  rcases hw.2 with ⟨_, h0⟩ | ⟨i, o, c, e, _⟩
  · exact List.length_eq_zero_iff.1 h0
  · cases e
theorem encT_len {ts : List SlT} (hl : ts.length = 32) (hw : wfT ts) (hm : mayTab ts = true) : 4 ≤ (encT ts).length ∧ (encT ts).length ≤ 4000 := by
  have := recsB_len hw (mayTab_on hl hm)
  unfold encT
  rw [List.length_append, byts_len]; omega
theorem lp_oD {H : SH} {v : Value} {bs : List UInt8} {i2 i4 i6 : Nat} {w4 : SV} (hv : RD H v TByte bs) (hl : bs.length ≤ 100000) (h4 : 4 ≤ bs.length) : ∀ (m k a : Nat) (ts : List SlT), 32 - k = m → k ≤ 32 → 4 ≤ a → a ≤ bs.length → ts.length = 32 → wfT ts → (∀ j, k ≤ j → j < 32 → ts[j]? = some slt0) → InvT bs k a ts →
    WC F X (.loop L_order_Decode_0) [(23, .int .i64 (k : Int)), (4, .pointer (some ⟨i4, 0, none⟩)), (0, v), (7, .int .i64 (a : Int)), (6, .pointer (some ⟨i6, 0, none⟩)), (2, .pointer (some ⟨i2, 0, none⟩))]
      (BB i4 w4 ((List.range 32).map (bitAt (bs.take 4))) (AO i6 43 TSlT ts :: AO i2 43 TSlT zeroT :: H))
      (KPost fun y l' H' => (∃ ts a, y = .exit 0 ∧ l' = [(0, v), (6, .pointer (some ⟨i6, 0, none⟩)), (2, .pointer (some ⟨i2, 0, none⟩))] ∧ H' = AO i6 43 TSlT ts :: AO i2 43 TSlT zeroT :: H ∧ ts.length = 32 ∧ wfT ts ∧ InvT bs 32 a ts) ∨
        (y = .ret ∧ l' = [(2, .pointer (some ⟨i2, 0, none⟩)), (3, .int .i64 8)] ∧ H' = AO i2 43 TSlT zeroT :: H ∧ ∀ ts', ¬ IsT bs ts')) := by
  intro m
  induction m using Nat.strongRecOn with
  | _ m ih =>
    intro k a ts hm hk ha4 ha hlt hwt hz hinv
    have hbl : ((List.range 32).map (bitAt (bs.take 4))).length = 32 := by simp
    unfold BB
    refine WC_loop (WC_seq (WC_region ?_))
    refine WO_step rfl (S_pure rfl ?_)
    refine WO_nil (KSeq_n (WC_seq ?_))
    refine WC_cond rfl (fun hb1 => ?_) (fun hb1 => ?_)
    ·
     try simp only [bsT] at hb1
     have hk32 : k < 32 := by omega
     refine WC_skip (KSeq_n (WC_seq (WC_block (WC_seq (WC_region ?_)))))
     iterate 2 refine WO_step rfl (S_pure rfl ?_)
     refine WO_nil (KSeq_n (WC_seq (WC_seq (WC_region ?_))))
     iterate 2 refine WO_step rfl (S_pure rfl ?_)
     refine WO_call rfl rfl rfl ?_
     refine (sp_bAt (i := i4) (k := k) (w := w4) (bs := (List.range 32).map (bitAt (bs.take 4))) (H0 := AO i6 43 TSlT ts :: AO i2 43 TSlT zeroT :: H) (by unfold BB; exact hsA) (by omega) (by omega)).mono ?_
     rintro _ _ ⟨rfl, rfl⟩
     rw [show ((List.range 32).map (bitAt (bs.take 4))).getD k false = bitAt (bs.take 4) k by rw [List.getD_eq_getElem?_getD, List.getElem?_map, List.getElem?_range hk32]; rfl]
     unfold BB
     refine WO_step rfl (S_pure rfl ?_)
     refine WO_nil (KSeq_n ?_)
     refine WC_cond rfl (fun hb2 => ?_) (fun hb2 => ?_)
     ·
      try simp only [bsT] at hb2
      refine WC_exit (KSeq_x (KBlock_h (KSeq_n (WC_region ?_))))
      first | refine WO_step rfl (S_addN (b := 1) rfl rfl (by omega) ?_) | refine WO_step rfl (S_pure rfl ?_)
      refine WO_step rfl (S_pure rfl ?_)
      refine WO_nil (KLoop_n ?_)
      have hbf : bitAt (bs.take 4) k = false := by simpa using hb2
      have := ih (32 - (k + 1)) (by omega) (k + 1) a ts rfl (by omega) ha4 ha hlt hwt (fun j h1 h2 => hz j (by omega) h2) (hinv.off hk32 (hz k (Nat.le_refl _) hk32) hbf)
      unfold BB at this
      exact WC_weak this seA hsA
     ·
      try simp only [bsT] at hb2
      have hbt : bitAt (bs.take 4) k = true := by simpa using hb2
      refine WC_skip (KSeq_n (WC_seq (WC_seq (WC_region ?_))))
      refine WO_step rfl (S_pure rfl ?_)
      first | refine WO_step rfl (S_pure rfl ?_) | refine WO_step rfl (S_lenS rfl rdA ?_)
      refine WO_step rfl (S_pure rfl ?_)
      refine WO_step rfl (S_subN (a := bs.length) (b := a) rfl rfl (by omega) ?_)
      refine WO_step rfl (S_pure rfl ?_)
      refine WO_nil (KSeq_n ?_)
      refine WC_cond rfl (fun hb3 => ?_) (fun hb3 => ?_)
      ·
       try simp only [bsT] at hb3
       refine WC_seq (WC_region ?_)
       refine WO_step rfl (S_pure rfl ?_)
       refine WO_step rfl (S_storeTab (ts0 := zeroT) (ts := zeroT) rfl rfl pkA zeroT_len zeroT_len ?_)
       refine WO_step rfl (S_pure rfl ?_)
       refine WO_nil (KSeq_n (WC_ret (KSeq_r (KBlock_r (KSeq_r (KLoop_r ?_))))))
       refine KPost_i (l' := [(2, .pointer (some ⟨i2, 0, none⟩)), (3, .int .i64 8)]) (H' := AO i2 43 TSlT zeroT :: H) seA hsA (.inr ⟨rfl, rfl, rfl, fun ts' h' => ?_⟩)
       obtain ⟨x, rest, _, _, e, _⟩ := hinv.on hk32 hbt h'
       have := congrArg List.length e
       rw [List.length_drop, List.length_append, List.length_append] at this
       have h2 : (tagB x.r.key).length = 2 := rfl
       omega
      ·
       try simp only [bsT] at hb3
       have ha2 : a + 2 ≤ bs.length := by omega
       have hsub := hv.subSl (es := 1) (lo := a + 2) (n := bs.length - (a + 2)) rfl (by omega)
       rw [show (bs.drop (a + 2)).take (bs.length - (a + 2)) = bs.drop (a + 2) by rw [List.take_of_length_le]; rw [List.length_drop]; omega] at hsub
       refine WC_skip (KSeq_n (WC_seq (WC_region ?_)))
       iterate 2 refine WO_step rfl (S_pure rfl ?_)
       refine WO_step rfl (S_addN (a := a) (b := 2) rfl rfl (by omega) ?_)
       refine WO_step rfl (S_cutV (a := a + 2) (b := bs.length) rfl rdA (by rfl) (LB.mk rfl rfl) LB.dflt LB.dflt (by omega) (by omega) (by omega) ?_)
       refine WO_call rfl rfl rfl ?_
       refine (sp_rGet (bs := bs.drop (a + 2)) rdA (by rw [List.length_drop]; omega)).mono ?_
       rintro _ _ ⟨rfl, rfl⟩
       have hwg := getRec_wf (bs.drop (a + 2))
       have hgl := getRec_le (bs.drop (a + 2))
       rw [List.length_drop] at hgl
       obtain ⟨r, n, e, hg⟩ : ∃ r n e, getRec (bs.drop (a + 2)) = (r, n, e) := ⟨_, _, _, rfl⟩
       rw [hg] at hgl hwg ⊢
       simp only [] at hgl hwg
       rw [getRecV_mk]
       iterate 4 refine WO_step rfl (S_pure rfl ?_)
       refine WO_step rfl (S_newT TRec rec0 rfl rfl fun i9 => ?_)
       refine WO_step rfl (S_storeT (T := TRec) (y := r) rfl rfl pkA (by rfl) (by rfl) ?_)
       iterate 2 refine WO_step rfl (S_pure rfl ?_)
       refine WO_nil (KSeq_n (WC_seq (WC_seq (WC_region ?_))))
       refine WO_step rfl (S_pure rfl ?_)
       first | refine WO_step rfl (S_neS rfl rfl ?_) | refine WO_step rfl (S_pure rfl ?_)
       refine WO_nil (KSeq_n ?_)
       refine WC_cond rfl (fun hb4 => ?_) (fun hb4 => ?_)
       ·
        try simp only [bsT] at hb4
        refine WC_seq (WC_region ?_)
        refine WO_step rfl (S_pure rfl ?_)
        refine WO_step rfl (S_storeTab (ts0 := zeroT) (ts := zeroT) rfl rfl pkA zeroT_len zeroT_len ?_)
        refine WO_step rfl (S_pure rfl ?_)
        refine WO_nil (KSeq_n (WC_ret (KSeq_r (KBlock_r (KSeq_r (KLoop_r ?_))))))
        refine KPost_i (l' := [(2, .pointer (some ⟨i2, 0, none⟩)), (3, .int .i64 8)]) (H' := AO i2 43 TSlT zeroT :: H) seA hsA (.inr ⟨rfl, rfl, rfl, fun ts' h' => ?_⟩)
        obtain ⟨x, rest, _, _, _, _, hg'⟩ := hinv.on hk32 hbt h'
        rw [hg] at hg'
        simp only [Prod.mk.injEq] at hg'
        exact absurd hg'.2.2 (by simpa using hb4)
       ·
        try simp only [bsT] at hb4
        have e0 : e = 0 := by simpa using hb4
        subst e0
        refine WC_skip (KSeq_n (WC_seq (WC_region ?_)))
        refine WO_step rfl (S_pure rfl ?_)
        refine WO_step rfl (S_quoN (a := k) (m := 4) rfl rfl (by omega) (by omega) ?_)
        refine WO_step rfl (S_pure rfl ?_)
        refine WO_step rfl (S_remU (a := k) (m := 4) rfl rfl (by omega) ?_)
        refine WO_step rfl (S_loadT (T := TRec) (z := r) rfl pkA (by rfl) (by rfl) ?_)
        refine WO_step rfl (S_pure rfl ?_)
        refine WO_step rfl (S_idxA (j := k / 4) rfl rfl rfl (by omega) ?_)
        refine WO_step rfl (S_idxA (j := k % 4) rfl rfl rfl (by omega) ?_)
        refine WO_step rfl (S_storeA (T := TSlT) (k := k) (x := ⟨true, r⟩) rfl rfl pkA (by show _ = k * 6; omega) (by omega) (by rfl) rfl ?_)
        refine WO_nil (KSeq_n (WC_region ?_))
        iterate 2 refine WO_step rfl (S_pure rfl ?_)
        refine WO_step rfl (S_addN (a := 2) (b := n) rfl rfl (by omega) ?_)
        refine WO_step rfl (S_addN (a := a) (b := 2 + n) rfl rfl (by omega) ?_)
        refine WO_step rfl (S_pure rfl ?_)
        refine WO_nil (KBlock_n (KSeq_n (WC_region ?_)))
        first | refine WO_step rfl (S_addN (b := 1) rfl rfl (by omega) ?_) | refine WO_step rfl (S_pure rfl ?_)
        refine WO_step rfl (S_pure rfl ?_)
        refine WO_nil (KLoop_n ?_)
        have := ih (32 - (k + 1)) (by omega) (k + 1) (a + (2 + n)) (ts.set k ⟨true, r⟩) rfl (by omega) (by omega) (by omega) (by rw [List.length_set]; exact hlt) (fun y hy => by
          rcases List.mem_or_eq_of_mem_set hy with hy | rfl
          · exact hwt y hy
          · exact hwg) (fun j h1 h2 => by rw [List.getElem?_set, if_neg (by omega)]; exact hz j (by omega) h2) (hinv.next hk32 hlt hbt hg)
        unfold BB at this
        exact WC_weak this seA hsA
    ·
     try simp only [bsT] at hb1
     refine WC_exit (KSeq_x (KLoop_x ?_))
     have ek : k = 32 := by omega
     subst ek
     exact KPost_i seA hsA (.inl ⟨ts, a, rfl, rfl, rfl, hlt, hwt, hinv⟩)
theorem sp_oDec {H : SH} {v : Value} {bs : List UInt8} (hv : RD H v TByte bs) (hl : bs.length ≤ 100000) : WF F X f_order_Decode [v] H (fun r H' => ∃ (ts : List SlT) (e : Int), H' = H ∧ r = .tuple #[tabV ts, .int .i64 e] ∧ ts.length = 32 ∧ wfT ts ∧ ((e = 0 ∧ mayTab ts = true ∧ bs = encT ts ∧ ∀ ts', IsT bs ts' → ts = ts') ∨ (e = 8 ∧ ts = zeroT ∧ ∀ ts', ¬ IsT bs ts'))) := by
  refine WF_fn F_order_Decode ?_
  refine WC_seq (WC_region ?_)
  refine WO_step rfl (S_new fun i2 => ?_)
  refine WO_step rfl (S_pure rfl ?_)
  refine WO_nil (KSeq_n (WC_seq (WC_seq (WC_region ?_))))
  refine WO_step rfl (S_pure rfl ?_)
  first | refine WO_step rfl (S_pure rfl ?_) | refine WO_step rfl (S_lenS rfl rdA ?_)
  refine WO_step rfl (S_pure rfl ?_)
  refine WO_nil (KSeq_n ?_)
  refine WC_cond rfl (fun hb1 => ?_) (fun hb1 => ?_)
  ·
   try simp only [bsT] at hb1
   refine WC_seq (WC_region ?_)
   refine WO_step rfl (S_pure rfl ?_)
   first | refine WO_step rfl (S_storeTab (ts0 := zeroT) (ts := zeroT) rfl rfl pkA zeroT_len zeroT_len ?_) | refine WO_step rfl (S_storeTab (ts0 := zeroT) (ts := ts) rfl rfl pkA zeroT_len hlt ?_)
   refine WO_step rfl (S_pure rfl ?_)
   refine WO_nil (KSeq_n (WC_ret (KSeq_r ?_)))
   refine KFn_r (ResL.tab rfl pkA (by first | assumption | exact zeroT_len) (ResL.tmp rfl ResL.nil)) ?_
   exact ⟨H, hsA, zeroT, 8, rfl, rfl, zeroT_len, zeroT_wf, .inr ⟨rfl, rfl, fun ts' h' => by have := h'.l4; omega⟩⟩
  ·
   try simp only [bsT] at hb1
   have hl4 : 4 ≤ bs.length := by omega
   have hp4 : (bs.take 4).length = 4 := by rw [List.length_take]; omega
   have hsub := hv.subSl (es := 1) (lo := 0) (n := 4) rfl (by omega)
   rw [List.drop_zero] at hsub
   refine WC_skip (KSeq_n (WC_seq (WC_region ?_)))
   refine WO_step rfl (S_pure rfl ?_)
   refine WO_step rfl (S_cutV (a := 0) (b := 4) rfl rdA (by rfl) LB.dflt (LB.mk rfl rfl) LB.dflt (by omega) (by omega) (by omega) ?_)
   refine WO_call rfl rfl rfl ?_
   have hbo := sp_bOf (X := X) (H := AO i2 43 TSlT zeroT :: H) (p := bs.take 4) hsub.tail (by omega)
   rw [hp4] at hbo
   refine hbo.mono ?_
   rintro _ _ ⟨i4, w4, rfl, rfl⟩
   unfold BB
   iterate 5 refine WO_step rfl (S_pure rfl ?_)
   refine WO_nil (KSeq_n (WC_seq (WC_region ?_)))
   refine WO_step rfl (S_new fun i6 => ?_)
   refine WO_nil (KSeq_n (WC_seq (WC_region ?_)))
   refine WO_step rfl (S_pure rfl ?_)
   refine WO_nil (KSeq_n (WC_seq (WC_seq (WC_region ?_))))
   refine WO_step rfl (S_pure rfl ?_)
   refine WO_nil (KSeq_n (WC_block ?_))
   --out r x0
   refine WC_post (WC_weak (lp_oD (H := H) (bs := bs) (i2 := i2) (i4 := i4) (i6 := i6) (w4 := w4) hv hl hl4 32 0 4 zeroT (by omega) (by omega) (by omega) hl4 zeroT_len zeroT_wf (fun j _ h2 => by unfold zeroT; rw [List.getElem?_replicate, if_pos h2]) (InvT.start bs zeroT)) seA (by unfold BB; exact hsA)) ?_
   rintro y l' _ (⟨ts, a, rfl, rfl, rfl, hlt, hwt, hinv⟩ | ⟨rfl, rfl, rfl, hno⟩)
   rotate_left
   ·
    refine KBlock_r (KSeq_r ?_)
    refine KFn_r (ResL.tab rfl pkA (by first | assumption | exact zeroT_len) (ResL.tmp rfl ResL.nil)) ?_
    exact ⟨H, hsA, zeroT, 8, rfl, rfl, zeroT_len, zeroT_wf, .inr ⟨rfl, rfl, hno⟩⟩
   ·
    refine KBlock_h (KSeq_n (WC_seq (WC_seq (WC_region ?_))))
    refine WO_step rfl (S_loadAll (T := TSlT) (xs := ts) rfl pkA (by rw [hlt]; rfl) ?_)
    refine WO_call rfl rfl rfl ?_
    refine (sp_oEnc hlt hwt).mono ?_
    rintro _ _ ⟨w62, rfl, hn62, rfl⟩
    by_cases hbad : mayTab ts = true ∧ w62 = .nil
    · obtain ⟨hb1, rfl⟩ := hbad
      refine WO_no fun a ha => ?_
      have h0 := ha.nilSL
      rw [if_pos hb1] at h0
      have := encT_len hlt hwt hb1
      rw [h0] at this
      simp at this
    have hbn : eqNil 1 w62.toV (.slice none 0 0) = some (!mayTab ts) := by
      cases w62 with
      | nil => cases hb : mayTab ts with
        | true => exact absurd ⟨hb, rfl⟩ hbad
        | false => rfl
      | mk i o m e => cases hb : mayTab ts with
        | true => rfl
        | false => exact absurd (hn62 hb) (by intro h; cases h)
    generalize hmt : mayTab ts = b at *
    refine WO_step rfl (S_pure rfl ?_)
    refine WO_nil (KSeq_n (WC_seq (WC_region ?_)))
    refine WO_step rfl (S_pure rfl ?_)
    refine WO_step rfl (S_pureE (v := .bool (!b)) (by show (match eqNil 1 w62.toV (.slice none 0 0) with | some r => some (Value.bool (if false then !r else r)) | none => none) = some (.bool (!b)); rw [hbn]; rfl) rfl ?_)
    refine WO_step rfl (S_pure rfl ?_)
    refine WO_cases (t := 65) rfl (fun hg1 => ?_) (fun hg1 => ?_)
    ·
     try simp only [bsT] at hg1
     iterate 4 refine WO_off rfl ?_
     refine WO_step rfl (S_pure rfl ?_)
     refine WO_nil (KSeq_n ?_)
     refine WC_cond rfl (fun _ => ?_) (fun h => ?_)
     rotate_left
     · exact absurd h (by decide)
     refine WC_seq (WC_region ?_)
     refine WO_step rfl (S_pure rfl ?_)
     first | refine WO_step rfl (S_storeTab (ts0 := zeroT) (ts := zeroT) rfl rfl pkA zeroT_len zeroT_len ?_) | refine WO_step rfl (S_storeTab (ts0 := zeroT) (ts := ts) rfl rfl pkA zeroT_len hlt ?_)
     refine WO_step rfl (S_pure rfl ?_)
     refine WO_nil (KSeq_n (WC_ret (KSeq_r ?_)))
     refine KFn_r (ResL.tab rfl pkA (by first | assumption | exact zeroT_len) (ResL.tmp rfl ResL.nil)) ?_
     refine ⟨H, hsA, zeroT, 8, rfl, rfl, zeroT_len, zeroT_wf, .inr ⟨rfl, rfl, fun ts' h' => ?_⟩⟩
     have e := hinv.done hlt h'
     have := h'.may
     rw [← e, hmt] at this
     rw [this] at hg1; cases hg1
    ·
     try simp only [bsT] at hg1
     iterate 2 refine WO_step rfl (S_pure rfl ?_)
     refine WO_call rfl rfl rfl ?_
     refine (sp_BEq rdA rdA).mono ?_
     rintro _ _ ⟨rfl, rfl⟩
     iterate 2 refine WO_step rfl (S_pure rfl ?_)
     refine WO_nil (KSeq_n ?_)
     refine WC_cond rfl (fun hb2 => ?_) (fun hb2 => ?_)
     ·
      try simp only [bsT] at hb2
      refine WC_seq (WC_region ?_)
      refine WO_step rfl (S_pure rfl ?_)
      first | refine WO_step rfl (S_storeTab (ts0 := zeroT) (ts := zeroT) rfl rfl pkA zeroT_len zeroT_len ?_) | refine WO_step rfl (S_storeTab (ts0 := zeroT) (ts := ts) rfl rfl pkA zeroT_len hlt ?_)
      refine WO_step rfl (S_pure rfl ?_)
      refine WO_nil (KSeq_n (WC_ret (KSeq_r ?_)))
      refine KFn_r (ResL.tab rfl pkA (by first | assumption | exact zeroT_len) (ResL.tmp rfl ResL.nil)) ?_
      refine ⟨H, hsA, zeroT, 8, rfl, rfl, zeroT_len, zeroT_wf, .inr ⟨rfl, rfl, fun ts' h' => ?_⟩⟩
      have e := hinv.done hlt h'
      rw [if_pos hg1] at hb2
      exact hb2 (by rw [e]; exact h'.eq.symm)
     ·
      try simp only [bsT] at hb2
      refine WC_skip (KSeq_n (WC_seq (WC_region ?_)))
      refine WO_step rfl (S_loadAll (T := TSlT) (xs := ts) rfl pkA (by rw [hlt]; rfl) ?_)
      first | refine WO_step rfl (S_storeTab (ts0 := zeroT) (ts := zeroT) rfl rfl pkA zeroT_len zeroT_len ?_) | refine WO_step rfl (S_storeTab (ts0 := zeroT) (ts := ts) rfl rfl pkA zeroT_len hlt ?_)
      refine WO_step rfl (S_pure rfl ?_)
      refine WO_nil (KSeq_n (WC_ret ?_))
      refine KFn_r (ResL.tab rfl pkA (by first | assumption | exact zeroT_len) (ResL.tmp rfl ResL.nil)) ?_
      rw [if_pos hg1] at hb2
      exact ⟨H, hsA, ts, 0, rfl, rfl, hlt, hwt, .inl ⟨rfl, by rw [hmt]; exact hg1, hb2.symm, fun ts' h' => hinv.done hlt h'⟩⟩

end Go.Proofs.YtpnmeednimpjdaaGreat.AM
