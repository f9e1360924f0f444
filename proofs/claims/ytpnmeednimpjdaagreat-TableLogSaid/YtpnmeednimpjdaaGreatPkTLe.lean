/- Texts of this repo, laid together. -/
import Derived.Test.YtpnmeednimpjdaaGreatPkTLa
import Derived.Test.YtpnmeednimpjdaaGreatShelf
import Derived.Test.YtpnmeednimpjdaaGreatPkTLb
import Derived.Test.YtpnmeednimpjdaaGreatPkTLc
import Derived.Test.YtpnmeednimpjdaaGreatPkTLd
import Derived.Carry
import Derived.KernelRfl
namespace Go.Proofs.YtpnmeednimpjdaaGreat.AM
open Go
set_option linter.unusedSimpArgs false
set_option linter.unusedVariables false
set_option maxRecDepth 4000
set_option linter.unusedSectionVars false
variable {X : Exts} [HX X]
theorem may_key {r : Rec} (h : mayRec r = true) : r.key.size ≤ 16 := by
  unfold mayRec mayKey at h
  simp only [Bool.and_eq_true, decide_eq_true_eq] at h
  exact h.1.2
theorem putRec_len3 {r : Rec} (hm : mayRec r = true) (hw : wfRec r) : (putRec r).length ≤ 100 := by
  obtain ⟨hk, hn, hs, hq⟩ := hw
  simp only [mayRec, Bool.and_eq_true] at hm
  obtain ⟨hk1, hv⟩ := hm
  have hks : r.key.size ≤ 16 := by simp [mayKey] at hk1; omega
  have hpl := put_len (n := (r.key.size : Int)) (by omega) (by omega)
  have hpl0 := put_len (n := 0) (by omega) (by omega)
  have hsl : r.key.data.toList.length = r.key.size := Array.length_toList
  unfold putRec putText
  rw [List.length_append, List.length_append]
  split
  · omega
  · rename_i hg
    simp only [hg, Bool.false_eq_true, if_false] at hv
    have hp1 := put_len hk.1 hk.2
    have hp2 := put_len hn.1 hn.2
    have hp3 := put_len (n := (r.val.s.size : Int)) (by omega) (by omega)
    have hsl2 : r.val.s.data.toList.length = r.val.s.size := Array.length_toList
    unfold putVal putText
    rw [List.length_append]
    rcases mayRaw_of hv with ⟨h, _⟩ | ⟨h, _, h2⟩
    · rw [if_pos h]; omega
    · rw [if_neg (by omega), List.length_append]; omega
def tagB (k : ByteArray) : List UInt8 := [UInt8.ofNat (tagOf (kH k) / 256), UInt8.ofNat (tagOf (kH k) % 256)]
def slB (x : SlT) : List UInt8 := if x.has then tagB x.r.key ++ putRec x.r else []
def recsB (ts : List SlT) : List UInt8 := ts.flatMap slB
def encT (ts : List SlT) : List UInt8 := byts (ts.map (·.has)) 4 ++ recsB ts
def wfT (ts : List SlT) : Prop := ∀ x ∈ ts, wfRec x.r
theorem wfT.small {ts : List SlT} (h : wfT ts) : kSmall ts := fun x hx => (h x hx).2.2.2
theorem slB_len {x : SlT} (hw : wfRec x.r) (hm : x.has = true → mayRec x.r = true) : (slB x).length ≤ 102 := by
  unfold slB
  split
  · rename_i h
    have := putRec_len3 (hm h) hw
    rw [List.length_append]
    show 2 + (putRec x.r).length ≤ 102
    omega
  · simp
theorem recsB_len {ts : List SlT} (hw : wfT ts) (hm : ∀ x ∈ ts, x.has = true → mayRec x.r = true) : (recsB ts).length ≤ 102 * ts.length := by
  induction ts with
  | nil => simp [recsB]
  | cons x ts ih =>
    have h1 := slB_len (hw x (by simp)) (hm x (by simp))
    have h2 := ih (fun y hy => hw y (by simp [hy])) (fun y hy => hm y (by simp [hy]))
    unfold recsB at *
    rw [List.flatMap_cons, List.length_append, List.length_cons]; omega
theorem recsB_succ {ts : List SlT} {k : Nat} {x : SlT} (hx : ts[k]? = some x) : recsB (ts.take (k + 1)) = recsB (ts.take k) ++ slB x := by
  unfold recsB
  rw [List.take_add_one, hx, List.flatMap_append]; simp
theorem has_succ {ts : List SlT} {k : Nat} {x : SlT} (hx : ts[k]? = some x) : (ts.take (k + 1)).map (·.has) = (ts.take k).map (·.has) ++ [x.has] := by
  rw [List.take_add_one, hx, List.map_append]; rfl
theorem mayTab_on {ts : List SlT} (hl : ts.length = 32) (hm : mayTab ts = true) : ∀ x ∈ ts, x.has = true → mayRec x.r = true := fun x hx hh => by
  obtain ⟨j, hj⟩ := List.getElem?_of_mem hx
  have hjl := (List.getElem?_eq_some_iff.1 hj).1
  have := (mayTab_iff hl).1 hm j x (by omega) hj
  unfold slOk at this
  rw [hh, if_pos rfl, Bool.and_eq_true] at this
  exact this.1
theorem S_lit2B {l : SE} {H : SH} {K : Value → SH → Prop} {x y : Opd} {z1 z2 : Value} {a b : Nat} (hx : x.lv l = some (.int .u8 (a : Int))) (hy : y.lv l = some (.int .u8 (b : Int))) (ha : a < 256) (hb : b < 256) (kk : ∀ w : SV, K w.toV (SL w.toV TByte [UInt8.ofNat a, UInt8.ofNat b] :: H)) : Step (.lit 5 1 2 [z1, z2] [(0, (1, x)), (1, (1, y))]) l H K := by
  refine S_lit (vs := [.int .u8 (a : Int), .int .u8 (b : Int)]) (by simp [lfill, hx, hy, AM.cells, Value.cells, splice]) rfl rfl (fun w => ?_)
  have := kk w
  rw [enc_B ha, enc_B hb]
  exact this
theorem S_shr8I {l : SE} {H : SH} {K : Value → SH → Prop} {x : Opd} {a : Nat} (hx : x.lv l = some (.int .i64 (a : Int))) (k : K (.int .i64 ((a / 256 : Nat) : Int)) H) : Step (.bin .shr x (.const (.int .u64 8))) l H K :=
  S_pureE (v := .int .i64 ((a : Int).fdiv (2 ^ min (Int.toNat 8) IntKind.i64.bits))) (by
    have h2 : (Opd.const (.int .u64 8)).lv l = some (.int .u64 8) := rfl
    simp only [pev, hx, h2, binV]; rfl) (by
    have e : (2 ^ min (Int.toNat 8) IntKind.i64.bits : Int) = 256 := rfl
    have e2 : (a : Int).fdiv 256 = ((a / 256 : Nat) : Int) := by rw [Int.fdiv_eq_ediv_of_nonneg _ (by omega)]; omega
    rw [e, e2]) k
theorem lp_oL1 {H : SH} {ts : List SlT} {b : Nat} (v8 : Value) (hl : ts.length = 32) (hb : b < 8) : ∀ (m s : Nat) (w : SV), 4 - s = m → s ≤ 4 →
    WC F X (.loop L_order_List_1) [(13, .int .i64 (s : Int)), (12, tabV (bk ts b)), (9, .int .i64 (b : Int)), (8, v8), (3, w.toV)] (SL w.toV TRec (tRecs ts (4 * b + s)) :: H)
      (KPost fun y l' H' => ∃ w : SV, y = .exit 2 ∧ l' = [(9, .int .i64 (b : Int)), (8, v8), (3, w.toV)] ∧ H' = SL w.toV TRec (tRecs ts (4 * b + 4)) :: H) := by
  intro m
  induction m using Nat.strongRecOn with
  | _ m ih =>
    intro s w hm hs
    have hrl : (tRecs ts (4 * b + s)).length ≤ 32 := by
      unfold tRecs
      rw [List.length_map]
      exact Nat.le_trans (List.length_filter_le _ _) (by rw [List.length_take]; omega)
    refine WC_loop (WC_seq (WC_region ?_))
    refine WO_step rfl (S_pure rfl ?_)
    refine WO_nil (KSeq_n (WC_seq ?_))
    refine WC_cond rfl (fun hb1 => ?_) (fun hb1 => ?_)
    ·
     try simp only [bsT] at hb1
     obtain ⟨x, hx⟩ := get_of_lt (show 4 * b + s < ts.length by omega)
     have hsucc := tRecs_succ hx
     refine WC_skip (KSeq_n (WC_seq (WC_block (WC_seq (WC_region ?_)))))
     refine WO_step rfl (S_idxSl (s := s) (z := x) rfl rfl rfl (by omega) (by rw [bk_get (by omega)]; exact hx) ?_)
     refine WO_step rfl (S_newT TSlO slt0 rfl rfl fun i7 => ?_)
     refine WO_step rfl (S_storeT (T := TSlO) (y := x) rfl rfl pkA (by rfl) (by rfl) ?_)
     refine WO_nil (KSeq_n (WC_seq (WC_region ?_)))
     refine WO_step rfl (S_pure rfl ?_)
     refine WO_step rfl (S_loadO rfl pkA (by rfl) (by rfl) ?_)
     refine WO_nil (KSeq_n ?_)
     refine WC_cond rfl (fun hb2 => ?_) (fun hb2 => ?_)
     ·
      try simp only [bsT] at hb2
      refine WC_region ?_
      iterate 2 refine WO_step rfl (S_pure rfl ?_)
      refine WO_step rfl (S_loadO (v := TRec.val x.r) rfl pkA (by rfl) (by rfl) ?_)
      refine WO_step rfl (S_lit1 (T := TRec) (y := x.r) rfl rfl rfl rfl fun w21 => ?_)
      refine WO_step rfl (S_app rfl rfl pkA (by first | exact SRC.str rfl rfl | (apply RD.src; repeat (first | assumption | exact RD.head | exact RD.nil | apply RD.tail))) (by rfl) (by rfl) (by (try simp only [List.length_append, List.length_cons, List.length_nil]); omega) fun w22 => ?_)
      refine WO_step rfl (S_pure rfl ?_)
      refine WO_nil (KBlock_n (KSeq_n (WC_region ?_)))
      first | refine WO_step rfl (S_addN (b := 1) rfl rfl (by omega) ?_) | refine WO_step rfl (S_pure rfl ?_)
      refine WO_step rfl (S_pure rfl ?_)
      refine WO_nil (KLoop_n ?_)
      rw [hb2] at hsucc
      simp only [if_true] at hsucc
      have := ih (4 - (s + 1)) (by omega) (s + 1) w22 rfl (by omega)
      rw [show 4 * b + (s + 1) = 4 * b + s + 1 by omega, hsucc] at this
      exact WC_weak this seA hsA
     ·
      try simp only [bsT] at hb2
      refine WC_skip (KBlock_n (KSeq_n (WC_region ?_)))
      first | refine WO_step rfl (S_addN (b := 1) rfl rfl (by omega) ?_) | refine WO_step rfl (S_pure rfl ?_)
      refine WO_step rfl (S_pure rfl ?_)
      refine WO_nil (KLoop_n ?_)
      rw [hb2] at hsucc
      simp only [Bool.false_eq_true, if_false, List.append_nil] at hsucc
      have := ih (4 - (s + 1)) (by omega) (s + 1) w rfl (by omega)
      rw [show 4 * b + (s + 1) = 4 * b + s + 1 by omega, hsucc] at this
      exact WC_weak this seA hsA
    ·
     try simp only [bsT] at hb1
     refine WC_exit (KSeq_x (KLoop_x ?_))
     have e4 : s = 4 := by omega
     subst e4
     exact KPost_i seA hsA ⟨w, rfl, rfl, rfl⟩
theorem lp_oL0 {H : SH} {ts : List SlT} (hl : ts.length = 32) : ∀ (m b : Nat) (w : SV), 8 - b = m → b ≤ 8 →
    WC F X (.loop L_order_List_0) [(9, .int .i64 (b : Int)), (8, tabV ts), (3, w.toV)] (SL w.toV TRec (tRecs ts (4 * b)) :: H)
      (KPost fun y l' H' => ∃ w : SV, y = .exit 0 ∧ l' = [(3, w.toV)] ∧ H' = SL w.toV TRec (tRecs ts 32) :: H) := by
  intro m
  induction m using Nat.strongRecOn with
  | _ m ih =>
    intro b w hm hb
    refine WC_loop (WC_seq (WC_region ?_))
    refine WO_step rfl (S_pure rfl ?_)
    refine WO_nil (KSeq_n (WC_seq ?_))
    refine WC_cond rfl (fun hb1 => ?_) (fun hb1 => ?_)
    ·
     try simp only [bsT] at hb1
     have hb8 : b < 8 := by omega
     have hbkl := bk_len hl hb8
     refine WC_skip (KSeq_n (WC_seq (WC_block (WC_seq (WC_region ?_)))))
     refine WO_step rfl (S_idxBk (b := b) rfl rfl rfl hb8 hl ?_)
     refine WO_step rfl (S_new fun i5 => ?_)
     refine WO_step rfl (S_storeAll (T := TSlT) (xs := bk ts b) rfl rfl pkA (by rfl) (by rw [hbkl]; rfl) ?_)
     refine WO_nil (KSeq_n (WC_seq (WC_region ?_)))
     refine WO_step rfl (S_loadAll (T := TSlT) (xs := bk ts b) rfl pkA (by rw [hbkl]; rfl) ?_)
     refine WO_step rfl (S_pure rfl ?_)
     refine WO_nil (KSeq_n (WC_block ?_))
     refine WC_post (WC_weak (lp_oL1 (H := H) (ts := ts) (b := b) (tabV ts) hl hb8 4 0 w (by omega) (by omega)) seA hsA) ?_
     rintro y l' _ ⟨w', rfl, rfl, rfl⟩
     refine KBlock_h (KBlock_n (KSeq_n (WC_region ?_)))
     first | refine WO_step rfl (S_addN (b := 1) rfl rfl (by omega) ?_) | refine WO_step rfl (S_pure rfl ?_)
     refine WO_step rfl (S_pure rfl ?_)
     refine WO_nil (KLoop_n ?_)
     have := ih (8 - (b + 1)) (by omega) (b + 1) w' rfl (by omega)
     rw [show 4 * (b + 1) = 4 * b + 4 by omega] at this
     exact WC_weak this seA hsA
    ·
     try simp only [bsT] at hb1
     refine WC_exit (KSeq_x (KLoop_x ?_))
     have e8 : b = 8 := by omega
     subst e8
     exact KPost_i (H' := SL w.toV TRec (tRecs ts 32) :: H) seA hsA ⟨w, rfl, rfl, rfl⟩
theorem tRecs_len (ts : List SlT) (k : Nat) : (tRecs ts k).length ≤ k := by
  unfold tRecs
  rw [List.length_map]
  exact Nat.le_trans (List.length_filter_le _ _) (by rw [List.length_take]; omega)
theorem sp_oList {H : SH} {ts : List SlT} (hl : ts.length = 32) (hk : kSmall ts) : WF F X f_order_List [tabV ts] H (fun r H' => ∃ u : SV, r = u.toV ∧ H' = SL u.toV TRec (newest (tRecs ts 32)) :: H) := by
  have hrl := tRecs_len ts 32
  refine WF_addNil (T := TRec) ?_
  refine WF_fn F_order_List ?_
  refine WC_seq (WC_region ?_)
  refine WO_step rfl (S_boxA (T := TSlT) (xs := ts) rfl fun i1 => ?_)
  refine WO_step rfl (S_pure rfl ?_)
  refine WO_nil (KSeq_n (WC_seq (WC_region ?_)))
  refine WO_step rfl (S_pure rfl ?_)
  refine WO_nil (KSeq_n (WC_seq (WC_seq (WC_region ?_))))
  refine WO_step rfl (S_loadAll (T := TSlT) (xs := ts) rfl pkA (by rw [hl]; rfl) ?_)
  refine WO_step rfl (S_pure rfl ?_)
  refine WO_nil (KSeq_n (WC_block ?_))
  refine WC_post (WC_weak (lp_oL0 (H := H) (ts := ts) hl 8 0 .nil (by omega) (by omega)) seA hsA) ?_
  rintro y l' _ ⟨w, rfl, rfl, rfl⟩
  refine KBlock_h (KSeq_n (WC_seq (WC_region ?_)))
  refine WO_step rfl (S_pure rfl ?_)
  refine WO_call rfl rfl rfl ?_
  refine (sp_rNewest (l := tRecs ts 32) rdA (by omega) (fun x hx => ?_)).mono ?_
  · unfold tRecs at hx
    obtain ⟨y, hy, rfl⟩ := List.mem_map.1 hx
    exact Nat.le_trans (hk y (List.mem_of_mem_take (List.mem_filter.1 hy).1)) (by decide)
  rintro _ _ ⟨u, rfl, rfl⟩
  refine WO_step rfl (S_pure rfl ?_)
  refine WO_nil (KSeq_n (WC_ret ?_))
  refine KFn_r (ResL.tmp rfl ResL.nil) ?_
  exact ⟨_, hsA, u, rfl, rfl⟩
theorem lp_oE1 {H : SH} {ts : List SlT} {b i3 : Nat} (v15 : Value) (hl : ts.length = 32) (hw : wfT ts) (hm : ∀ x ∈ ts, x.has = true → mayRec x.r = true) (hb : b < 8) : ∀ (m s : Nat) (w w4 : SV), 4 - s = m → s ≤ 4 →
    WC F X (.loop L_order_Encode_1) [(20, .int .i64 (s : Int)), (19, tabV (bk ts b)), (16, .int .i64 (b : Int)), (15, v15), (3, .pointer (some ⟨i3, 0, none⟩)), (4, w4.toV)] (SL w4.toV TByte (recsB (ts.take (4 * b + s))) :: BB i3 w ((ts.take (4 * b + s)).map (·.has)) H)
      (KPost fun y l' H' => ∃ w w4 : SV, y = .exit 2 ∧ l' = [(16, .int .i64 (b : Int)), (15, v15), (3, .pointer (some ⟨i3, 0, none⟩)), (4, w4.toV)] ∧ H' = SL w4.toV TByte (recsB (ts.take (4 * b + 4))) :: BB i3 w ((ts.take (4 * b + 4)).map (·.has)) H) := by
  intro m
  induction m using Nat.strongRecOn with
  | _ m ih =>
    intro s w w4 hn hs
    have hbl : ((ts.take (4 * b + s)).map (·.has)).length ≤ 32 := by simp; omega
    have hrl := recsB_len (ts := ts.take (4 * b + s)) (fun x hx => hw x (List.mem_of_mem_take hx)) (fun x hx => hm x (List.mem_of_mem_take hx))
    have htl : (ts.take (4 * b + s)).length ≤ 32 := by rw [List.length_take]; omega
    unfold BB
    refine WC_loop (WC_seq (WC_region ?_))
    refine WO_step rfl (S_pure rfl ?_)
    refine WO_nil (KSeq_n (WC_seq ?_))
    refine WC_cond rfl (fun hb1 => ?_) (fun hb1 => ?_)
    ·
     try simp only [bsT] at hb1
     obtain ⟨x, hx⟩ := get_of_lt (show 4 * b + s < ts.length by omega)
     have hxm := List.mem_of_getElem? hx
     have hwx := hw x hxm
     have hhs := has_succ hx
     have hrs := recsB_succ hx
     refine WC_skip (KSeq_n (WC_seq (WC_block (WC_seq (WC_region ?_)))))
     refine WO_step rfl (S_idxSl (s := s) (z := x) rfl rfl rfl (by omega) (by rw [bk_get (by omega)]; exact hx) ?_)
     refine WO_step rfl (S_newT TSlO slt0 rfl rfl fun i8 => ?_)
     refine WO_step rfl (S_storeT (T := TSlO) (y := x) rfl rfl pkA (by rfl) (by rfl) ?_)
     refine WO_nil (KSeq_n (WC_seq (WC_region ?_)))
     iterate 2 refine WO_step rfl (S_pure rfl ?_)
     refine WO_step rfl (S_loadO rfl pkA (by rfl) (by rfl) ?_)
     refine WO_call rfl rfl rfl ?_
     refine (sp_bPut (i := i3) (w := w) (bs := (ts.take (4 * b + s)).map (·.has)) (b := x.has) (H0 := OB i8 TSlO x :: SL w4.toV TByte (recsB (ts.take (4 * b + s))) :: H) (by unfold BB; exact hsA) (by omega)).mono ?_
     rintro _ _ ⟨w', rfl⟩
     rw [← hhs]
     unfold BB
     refine WO_nil (KSeq_n (WC_seq (WC_region ?_)))
     refine WO_step rfl (S_pure rfl ?_)
     refine WO_step rfl (S_loadO rfl pkA (by rfl) (by rfl) ?_)
     refine WO_nil (KSeq_n ?_)
     refine WC_cond rfl (fun hb2 => ?_) (fun hb2 => ?_)
     ·
      try simp only [bsT] at hb2
      have hht : x.has = true := hb2
      have hmr := hm x hxm hht
      have hks : x.r.key.size ≤ 1000000 := by have := may_key hmr; omega
      have hkl2 := kH_lt x.r.key
      have ht8 := tagOf_lt (kH x.r.key)
      refine WC_seq (WC_region ?_)
      iterate 2 refine WO_step rfl (S_pure rfl ?_)
      refine WO_step rfl (S_loadO rfl pkA (by rfl) (by rfl) ?_)
      refine WO_call rfl rfl rfl ?_
      refine (sp_HashOf (s := x.r.key) hks).mono ?_
      rintro _ _ ⟨rfl, rfl⟩
      rw [kH_eq]
      refine WO_call rfl rfl rfl ?_
      refine (sp_hTag (by omega)).mono ?_
      rintro _ _ ⟨rfl, rfl⟩
      refine WO_step rfl (S_pure rfl ?_)
      refine WO_nil (KSeq_n (WC_drawn ?_))
      refine WD_step rfl (S_pure rfl ?_)
      refine WD_step rfl (S_pure rfl ?_)
      refine WD_step rfl (S_shr8I (a := tagOf (kH x.r.key)) rfl ?_)
      refine WD_step rfl (S_toB (a := tagOf (kH x.r.key) / 256) rfl ?_)
      refine WD_step rfl (S_pure rfl ?_)
      refine WD_step rfl (S_toB (a := tagOf (kH x.r.key)) rfl ?_)
      rw [show tagOf (kH x.r.key) / 256 % 256 = tagOf (kH x.r.key) / 256 by omega]
      refine WD_step rfl (S_lit2B (a := tagOf (kH x.r.key) / 256) (b := tagOf (kH x.r.key) % 256) rfl rfl (by omega) (by omega) fun w40 => ?_)
      refine WD_step rfl (S_app rfl rfl pkA (by first | exact SRC.str rfl rfl | (apply RD.src; repeat (first | assumption | exact RD.head | exact RD.nil | apply RD.tail))) (by rfl) (by rfl) (by simp only [List.length_cons, List.length_nil]; omega) fun w41 => ?_)
      refine WD_step rfl (S_pure rfl ?_)
      refine WD_step rfl (S_loadO (v := TRec.val x.r) rfl pkA (by rfl) (by rfl) ?_)
      refine WD_call rfl rfl rfl ?_
      refine (sp_rPut (w := w41) (bs := recsB (ts.take (4 * b + s)) ++ [UInt8.ofNat (tagOf (kH x.r.key) / 256), UInt8.ofNat (tagOf (kH x.r.key) % 256)]) (r := x.r) pkA hwx (by simp only [List.length_append, List.length_cons, List.length_nil]; omega)).mono ?_
      rintro _ _ ⟨w44, rfl, rfl⟩
      refine WD_step rfl (S_pure rfl ?_)
      refine WD_nil ?_
      refine ⟨?_, ?_⟩
      ·
       refine ⟨?_, ?_, trivial⟩ <;> exact ObR.of_step rfl (S_loadO (v := TRec.val x.r) rfl pkA (by rfl) (by rfl) (by simp [eqV, eqVs, eqV0, TRec, Ty.ofAgg, AM.cells, Value.cells]))
      ·
       refine KBlock_n (KSeq_n (WC_region ?_))
       first | refine WO_step rfl (S_addN (b := 1) rfl rfl (by omega) ?_) | refine WO_step rfl (S_pure rfl ?_)
       refine WO_step rfl (S_pure rfl ?_)
       refine WO_nil (KLoop_n ?_)
       have := ih (4 - (s + 1)) (by omega) (s + 1) w' w44 rfl (by omega)
       rw [show 4 * b + (s + 1) = 4 * b + s + 1 by omega, hrs, show slB x = tagB x.r.key ++ putRec x.r by unfold slB; rw [if_pos hht], ← List.append_assoc] at this
       unfold BB at this
       exact WC_weak this seA hsA
     ·
      try simp only [bsT] at hb2
      refine WC_skip (KBlock_n (KSeq_n (WC_region ?_)))
      first | refine WO_step rfl (S_addN (b := 1) rfl rfl (by omega) ?_) | refine WO_step rfl (S_pure rfl ?_)
      refine WO_step rfl (S_pure rfl ?_)
      refine WO_nil (KLoop_n ?_)
      have hhf : x.has = false := hb2
      have := ih (4 - (s + 1)) (by omega) (s + 1) w' w4 rfl (by omega)
      rw [show 4 * b + (s + 1) = 4 * b + s + 1 by omega, hrs, show slB x = [] by unfold slB; rw [hhf]; rfl, List.append_nil] at this
      unfold BB at this
      exact WC_weak this seA hsA
    ·
     try simp only [bsT] at hb1
     refine WC_exit (KSeq_x (KLoop_x ?_))
     have e4 : s = 4 := by omega
     subst e4
     exact KPost_i (H' := SL w4.toV TByte (recsB (ts.take (4 * b + 4))) :: BB i3 w ((ts.take (4 * b + 4)).map (·.has)) H) seA (by unfold BB; exact hsA) ⟨w, w4, rfl, rfl, rfl⟩
theorem lp_oE0 {H : SH} {ts : List SlT} {i3 : Nat} (hl : ts.length = 32) (hw : wfT ts) (hm : ∀ x ∈ ts, x.has = true → mayRec x.r = true) : ∀ (m b : Nat) (w w4 : SV), 8 - b = m → b ≤ 8 →
    WC F X (.loop L_order_Encode_0) [(16, .int .i64 (b : Int)), (15, tabV ts), (3, .pointer (some ⟨i3, 0, none⟩)), (4, w4.toV)] (SL w4.toV TByte (recsB (ts.take (4 * b))) :: BB i3 w ((ts.take (4 * b)).map (·.has)) H)
      (KPost fun y l' H' => ∃ w w4 : SV, y = .exit 0 ∧ l' = [(3, .pointer (some ⟨i3, 0, none⟩)), (4, w4.toV)] ∧ H' = SL w4.toV TByte (recsB ts) :: BB i3 w (ts.map (·.has)) H) := by
  intro m
  induction m using Nat.strongRecOn with
  | _ m ih =>
    intro b w w4 hn hb
    unfold BB
    refine WC_loop (WC_seq (WC_region ?_))
    refine WO_step rfl (S_pure rfl ?_)
    refine WO_nil (KSeq_n (WC_seq ?_))
    refine WC_cond rfl (fun hb1 => ?_) (fun hb1 => ?_)
    ·
     try simp only [bsT] at hb1
     have hb8 : b < 8 := by omega
     have hbkl := bk_len hl hb8
     refine WC_skip (KSeq_n (WC_seq (WC_block (WC_seq (WC_region ?_)))))
     refine WO_step rfl (S_idxBk (b := b) rfl rfl rfl hb8 hl ?_)
     refine WO_step rfl (S_new fun i6 => ?_)
     refine WO_step rfl (S_storeAll (T := TSlT) (xs := bk ts b) rfl rfl pkA (by rfl) (by rw [hbkl]; rfl) ?_)
     refine WO_nil (KSeq_n (WC_seq (WC_region ?_)))
     refine WO_step rfl (S_loadAll (T := TSlT) (xs := bk ts b) rfl pkA (by rw [hbkl]; rfl) ?_)
     refine WO_step rfl (S_pure rfl ?_)
     refine WO_nil (KSeq_n (WC_block ?_))
     refine WC_post (WC_weak (lp_oE1 (H := H) (ts := ts) (b := b) (i3 := i3) (tabV ts) hl hw hm hb8 4 0 w w4 (by omega) (by omega)) seA (by unfold BB; exact hsA)) ?_
     rintro y l' _ ⟨w', w4', rfl, rfl, rfl⟩
     refine KBlock_h (KBlock_n (KSeq_n (WC_region ?_)))
     first | refine WO_step rfl (S_addN (b := 1) rfl rfl (by omega) ?_) | refine WO_step rfl (S_pure rfl ?_)
     refine WO_step rfl (S_pure rfl ?_)
     refine WO_nil (KLoop_n ?_)
     have := ih (8 - (b + 1)) (by omega) (b + 1) w' w4' rfl (by omega)
     rw [show 4 * (b + 1) = 4 * b + 4 by omega] at this
     exact WC_weak this seA HSub.refl
    ·
     try simp only [bsT] at hb1
     refine WC_exit (KSeq_x (KLoop_x ?_))
     have e8 : b = 8 := by omega
     subst e8
     have et : ts.take (4 * 8) = ts := List.take_of_length_le (by omega)
     rw [et]
     exact KPost_i (H' := SL w4.toV TByte (recsB ts) :: BB i3 w (ts.map (·.has)) H) seA (by unfold BB; exact hsA) ⟨w, w4, rfl, rfl, rfl⟩
theorem sp_oEnc {H : SH} {ts : List SlT} (hl : ts.length = 32) (hw : wfT ts) : WF F X f_order_Encode [tabV ts] H (fun r H' => ∃ w : SV, r = w.toV ∧ (mayTab ts = false → w = .nil) ∧ H' = SL w.toV TByte (if mayTab ts = true then encT ts else []) :: H) := by
  refine WF_addNil (T := TByte) (WF_addNil (T := TByte) ?_)
  refine WF_fn F_order_Encode ?_
  refine WC_seq (WC_region ?_)
  refine WO_step rfl (S_boxA (T := TSlT) (xs := ts) rfl fun i1 => ?_)
  refine WO_step rfl (S_pure rfl ?_)
  refine WO_nil (KSeq_n (WC_seq (WC_seq (WC_region ?_))))
  refine WO_step rfl (S_loadAll (T := TSlT) (xs := ts) rfl pkA (by rw [hl]; rfl) ?_)
  refine WO_call rfl rfl rfl ?_
  refine (sp_oMay hl hw.small).mono ?_
  rintro _ _ ⟨rfl, rfl⟩
  refine WO_step rfl (S_pure rfl ?_)
  refine WO_nil (KSeq_n ?_)
  refine WC_cond rfl (fun hb1 => ?_) (fun hb1 => ?_)
  ·
   try simp only [bsT] at hb1
   refine WC_seq (WC_region ?_)
   refine WO_step rfl (S_pure rfl ?_)
   refine WO_nil (KSeq_n (WC_ret (KSeq_r ?_)))
   refine KFn_r (ResL.tmp rfl ResL.nil) ?_
   have hf : mayTab ts = false := by simpa using hb1
   refine ⟨SL (SV.toV .nil) TByte [] :: H, hsA, .nil, rfl, fun _ => rfl, ?_⟩
   rw [if_neg (by rw [hf]; decide)]
  ·
   try simp only [bsT] at hb1
   have hmt : mayTab ts = true := by simpa using hb1
   have hon := mayTab_on hl hmt
   have hrl := recsB_len hw hon
   have hhl : (ts.map (·.has)).length = 32 := by simp [hl]
   refine WC_skip (KSeq_n (WC_seq (WC_region ?_)))
   refine WO_step rfl (S_pure rfl ?_)
   refine WO_step rfl (S_box rfl rfl fun i14 => ?_)
   refine WO_step rfl (S_pure rfl ?_)
   refine WO_nil (KSeq_n (WC_seq (WC_region ?_)))
   refine WO_step rfl (S_pure rfl ?_)
   refine WO_nil (KSeq_n (WC_seq (WC_seq (WC_region ?_))))
   refine WO_step rfl (S_loadAll (T := TSlT) (xs := ts) rfl pkA (by rw [hl]; rfl) ?_)
   refine WO_step rfl (S_pure rfl ?_)
   refine WO_nil (KSeq_n (WC_block ?_))
   have e0 : BB i14 .nil ((ts.take (4 * 0)).map (·.has)) H = BI i14 .nil 0 :: SL (SV.toV .nil) TByte [] :: H := by simp [BB, byts, nby]
   refine WC_post (WC_weak (lp_oE0 (H := H) (ts := ts) (i3 := i14) hl hw hon 8 0 .nil .nil (by omega) (by omega)) seA (by rw [e0]; exact hsA)) ?_
   rintro y l' _ ⟨w, w4, rfl, rfl, rfl⟩
   refine KBlock_h (KSeq_n (WC_seq (WC_region ?_)))
   refine WO_step rfl (S_pure rfl ?_)
   refine WO_call rfl rfl rfl ?_
   refine (sp_bBytes (i := i14) (w := w) (bs := ts.map (·.has)) (H0 := SL w4.toV TByte (recsB ts) :: H) (by unfold BB; exact hsA) (by omega) (by omega)).mono ?_
   rintro _ _ ⟨w48, rfl, rfl⟩
   rw [hhl, show nby 32 = 4 from rfl]
   unfold BB
   have hbl := byts_len (ts.map (·.has)) 4
   refine WO_step rfl (S_pure rfl ?_)
   refine WO_step rfl (S_app rfl rfl pkA (by first | exact SRC.str rfl rfl | (apply RD.src; repeat (first | assumption | exact RD.head | exact RD.nil | apply RD.tail))) (by rfl) (by rfl) (by (try simp only [List.length_append, List.length_cons, List.length_nil]); omega) fun w50 => ?_)
   refine WO_step rfl (S_pure rfl ?_)
   refine WO_nil (KSeq_n (WC_ret ?_))
   refine KFn_r (ResL.tmp rfl ResL.nil) ?_
   refine ⟨SL w50.toV TByte (byts (ts.map (·.has)) 4 ++ recsB ts) :: H, hsA, w50, rfl, fun h => absurd (hmt.symm.trans h) (by decide), ?_⟩
   rw [if_pos hmt]; rfl
theorem getR_range : ∀ (L : List UInt8) (i u : Nat), i ≤ 9 → u < 2 ^ (7 * i) → -9223372036854775808 ≤ (getR L i u).1 ∧ (getR L i u).1 < 9223372036854775808
  | [], i, u, _, _ => by simp [getR]
  | c :: L, i, u, hi, hu => by
    unfold getR
    split
    · simp
    · rename_i h
      have h9 : i = 9 → c.toNat ≤ 1 := fun e => by
        by_cases hc : 1 < c.toNat
        · exact absurd (.inl ⟨e, hc⟩) h
        · omega
      have htp := pow_top (i := i) (c := c.toNat % 128) hi (by omega) (fun e => by have := h9 e; omega)
      split
      · simp only []
        unfold unzz
        split <;> omega
      · have hnx := pow_next (i := i) (c := c.toNat % 128) (by omega)
        exact getR_range L (i + 1) _ (by
          by_cases e : i = 9
          · have := h9 e; omega
          · omega) (by omega)
theorem get_range (bs : List UInt8) : -9223372036854775808 ≤ (get bs).1 ∧ (get bs).1 < 9223372036854775808 := getR_range bs 0 0 (by omega) (by decide)
theorem getRec_wf (bs : List UInt8) : wfRec (getRec bs).1 := by
  have h0 : wfRec rec0 := by unfold wfRec; decide
  have i0 : (-9223372036854775808 : Int) ≤ 0 ∧ (0 : Int) < 9223372036854775808 := by decide
  have i1 : (-9223372036854775808 : Int) ≤ 1 ∧ (1 : Int) < 9223372036854775808 := by decide
  have i2 : (-9223372036854775808 : Int) ≤ 2 ∧ (2 : Int) < 9223372036854775808 := by decide
  have s0 : es0.size ≤ 100000 := by decide
  unfold getRec
  split
  rename_i q k e _
  split
  · exact h0
  · split
    · exact h0
    · rename_i hmk
      have hq : q.size ≤ 100000 := by
        cases hm : mayKey q with
        | false => exact absurd hm hmk
        | true => unfold mayKey at hm; simp at hm; omega
      split
      rename_i kd m f _
      split
      · exact h0
      · split
        · exact ⟨i0, i0, s0, hq⟩
        · split
          rename_i v m2 f2 hgv
          split
          · exact h0
          · have hv : (-9223372036854775808 ≤ v.kind ∧ v.kind < 9223372036854775808) ∧ (-9223372036854775808 ≤ v.n ∧ v.n < 9223372036854775808) ∧ v.s.size ≤ 100000 := by
              have hr0 : (-9223372036854775808 ≤ raw0.kind ∧ raw0.kind < 9223372036854775808) ∧ (-9223372036854775808 ≤ raw0.n ∧ raw0.n < 9223372036854775808) ∧ raw0.s.size ≤ 100000 := by decide
              have hgv1 : v = (getVal (bs.drop k)).1 := by rw [hgv]
              rw [hgv1]
              unfold getVal
              split
              rename_i kd' k' e' _
              split
              · exact hr0
              · split
                · split
                  rename_i n' m' f' hn'
                  split
                  · exact hr0
                  · have := get_range ((bs.drop k).drop k')
                    rw [hn'] at this
                    exact ⟨i1, this, s0⟩
                · split
                  · split
                    rename_i s' m' f' _
                    split
                    · exact hr0
                    · split
                      · rename_i hmr
                        refine ⟨i2, i0, ?_⟩
                        unfold mayRaw at hmr
                        simp at hmr
                        show s'.size ≤ 100000
                        omega
                      · exact hr0
                  · exact hr0
            exact ⟨hv.1, hv.2.1, hv.2.2, hq⟩
theorem getRec_le (bs : List UInt8) : (getRec bs).2.1 ≤ bs.length := by
  have h := getT_le bs
  unfold getRec
  generalize getT bs = p at *
  obtain ⟨n, k, e⟩ := p
  have h1 := get_le (bs.drop k)
  have h2 := getVal_le (bs.drop k)
  rw [List.length_drop] at h1 h2
  simp only [] at h ⊢
  revert h1 h2
  generalize get (bs.drop k) = p1
  generalize getVal (bs.drop k) = p2
  intro h1 h2
  obtain ⟨n1, k1, e1⟩ := p1
  obtain ⟨n2, k2, e2⟩ := p2
  simp only [] at *
  repeat' split
  all_goals (simp only []; omega)
def zeroT : List SlT := List.replicate 32 slt0
theorem zeroT_len : zeroT.length = 32 := by simp [zeroT]
theorem zeroT_wf : wfT zeroT := fun x hx => by
  obtain ⟨_, rfl⟩ := List.mem_replicate.1 hx
  show wfRec rec0
  unfold wfRec; decide
structure IsT (bs : List UInt8) (ts' : List SlT) : Prop where
  len : ts'.length = 32
  wf : wfT ts'
  may : mayTab ts' = true
  eq : bs = encT ts'
def InvT (bs : List UInt8) (k a : Nat) (ts : List SlT) : Prop := ∀ ts', IsT bs ts' → (∀ j, j < k → ts[j]? = ts'[j]?) ∧ bs.drop a = recsB (ts'.drop k)
theorem IsT.has {bs : List UInt8} {ts' : List SlT} (h : IsT bs ts') {k : Nat} {x : SlT} (hx : ts'[k]? = some x) : bitAt (bs.take 4) k = x.has := by
  have hk := (List.getElem?_eq_some_iff.1 hx).1
  have hl := h.len
  have e : bs.take 4 = byts (ts'.map (·.has)) 4 := by
    rw [h.eq]; unfold encT
    rw [List.take_append_of_le_length (by rw [byts_len]; omega), List.take_of_length_le (by rw [byts_len]; omega)]
  rw [e, bitAt_byts (by omega), List.getD_eq_getElem?_getD, List.getElem?_map, hx]; rfl
theorem IsT.l4 {bs : List UInt8} {ts' : List SlT} (h : IsT bs ts') : 4 ≤ bs.length := by
  rw [h.eq]; unfold encT
  rw [List.length_append, byts_len]; omega
theorem InvT.start (bs : List UInt8) (ts : List SlT) : InvT bs 0 4 ts := fun ts' h => by
  refine ⟨fun j hj => absurd hj (Nat.not_lt_zero _), ?_⟩
  rw [h.eq]; unfold encT
  rw [List.drop_append_of_le_length (by rw [byts_len]; omega), List.drop_of_length_le (by rw [byts_len]; omega)]; rfl
theorem recsB_drop {ts : List SlT} {k : Nat} {x : SlT} (hx : ts[k]? = some x) : recsB (ts.drop k) = slB x ++ recsB (ts.drop (k + 1)) := by
  rw [drop_get hx]; rfl
theorem InvT.off {bs : List UInt8} {k a : Nat} {ts : List SlT} (h : InvT bs k a ts) (hk : k < 32) (hz : ts[k]? = some slt0) (hb : bitAt (bs.take 4) k = false) : InvT bs (k + 1) a ts := fun ts' h' => by
  obtain ⟨h1, h2⟩ := h ts' h'
  have hl := h'.len
  obtain ⟨x, hx⟩ := get_of_lt (l := ts') (a := k) (by omega)
  have hxh : x.has = false := by rw [← h'.has hx]; exact hb
  have hx0 : x = slt0 := by
    have := (mayTab_iff h'.len).1 h'.may k x hk hx
    unfold slOk at this
    rw [hxh] at this
    have hr : x.r = rec0 := by simpa using this
    obtain ⟨hh, r⟩ := x
    simp at hxh hr
    subst hxh hr; rfl
  refine ⟨fun j hj => ?_, ?_⟩
  · by_cases e : j = k
    · subst e; rw [hz, hx, hx0]
    · exact h1 j (by omega)
  · rw [h2, recsB_drop hx]
    unfold slB; rw [hxh]; rfl
theorem InvT.on {bs : List UInt8} {k a : Nat} {ts : List SlT} (h : InvT bs k a ts) (hk : k < 32) (hb : bitAt (bs.take 4) k = true) {ts' : List SlT} (h' : IsT bs ts') : ∃ x rest, ts'[k]? = some x ∧ x.has = true ∧ bs.drop a = tagB x.r.key ++ (putRec x.r ++ rest) ∧ rest = recsB (ts'.drop (k + 1)) ∧ getRec (bs.drop (a + 2)) = (x.r, (putRec x.r).length, 0) := by
  obtain ⟨h1, h2⟩ := h ts' h'
  have hl := h'.len
  obtain ⟨x, hx⟩ := get_of_lt (l := ts') (a := k) (by omega)
  have hxh : x.has = true := by rw [← h'.has hx]; exact hb
  have hm := mayTab_on h'.len h'.may x (List.mem_of_getElem? hx) hxh
  have hw := h'.wf x (List.mem_of_getElem? hx)
  have e : bs.drop a = tagB x.r.key ++ (putRec x.r ++ recsB (ts'.drop (k + 1))) := by
    rw [h2, recsB_drop hx]
    unfold slB; rw [if_pos hxh, List.append_assoc]
  refine ⟨x, _, hx, hxh, e, rfl, ?_⟩
  have e2 : bs.drop (a + 2) = putRec x.r ++ recsB (ts'.drop (k + 1)) := by
    rw [← List.drop_drop, e]; rfl
  rw [e2]
  exact getRec_put hm hw.2.1 _
theorem InvT.next {bs : List UInt8} {k a n : Nat} {r : Rec} {ts : List SlT} (h : InvT bs k a ts) (hk : k < 32) (hl : ts.length = 32) (hb : bitAt (bs.take 4) k = true) (hg : getRec (bs.drop (a + 2)) = (r, n, 0)) : InvT bs (k + 1) (a + (2 + n)) (ts.set k ⟨true, r⟩) := fun ts' h' => by
  obtain ⟨x, rest, hx, hxh, e, hrest, hg'⟩ := h.on hk hb h'
  obtain ⟨h1, h2⟩ := h ts' h'
  rw [hg] at hg'
  simp only [Prod.mk.injEq, and_true] at hg'
  obtain ⟨rfl, rfl⟩ := hg'
  refine ⟨fun j hj => ?_, ?_⟩
  · rw [List.getElem?_set]
    by_cases ej : k = j
    · subst ej
      rw [if_pos rfl, if_pos (by omega), hx]
      obtain ⟨hh, r⟩ := x
      simp at hxh; subst hxh; rfl
    · rw [if_neg ej]; exact h1 j (by omega)
  · rw [← hrest, ← List.drop_drop, ← List.drop_drop, e, List.drop_append_of_le_length (by simp [tagB])]
    have : (tagB x.r.key).drop 2 = [] := rfl
    rw [this, List.nil_append, List.drop_left]
theorem InvT.done {bs : List UInt8} {a : Nat} {ts : List SlT} (h : InvT bs 32 a ts) (hl : ts.length = 32) {ts' : List SlT} (h' : IsT bs ts') : ts = ts' := by
  obtain ⟨h1, _⟩ := h ts' h'
  refine List.ext_getElem? fun j => ?_
  by_cases hj : j < 32
  · exact h1 j hj
  · rw [List.getElem?_eq_none (by omega), List.getElem?_eq_none (by rw [h'.len]; omega)]
theorem ResL.tab {l : SE} {H H0 : SH} {t i : Nat} {ty : TypeId} {xs : List SlT} {rs : List (Nat × Option (Bool × Nat))} {vs : List Value} (h : lk l t = some (.pointer (some ⟨i, 0, none⟩))) (hm : Pick (AO i ty TSlT xs) H H0) (hl : xs.length = 32) (hr : ResL l H rs vs) : ResL l H ((t, some (true, 192)) :: rs) (tabV xs :: vs) := by
  have hc : (TSlT.cells xs).length = 192 := by rw [TSlT.cells_len, hl]; rfl
  refine ResL.cell h hm (by omega) ?_ hr
  rw [List.take_of_length_le (by omega)]; rfl
theorem S_storeTab {l : SE} {H H0 : SH} {K : Value → SH → Prop} {i : Nat} {t : TypeId} {a y : Opd} {ts0 ts : List SlT} (ha : a.lv l = some (.pointer (some ⟨i, 0, none⟩))) (hy : y.lv l = some (tabV ts)) (hp : Pick (AO i t TSlT ts0) H H0) (h0 : ts0.length = 32) (hl : ts.length = 32) (kk : K undef (AO i t TSlT ts :: H0)) : Step (.store 192 a y) l H K :=
  S_storeAll (T := TSlT) ha hy hp (by rw [TSlT.cells_len, h0]; rfl) (by rw [hl]; rfl) kk
theorem HAg.zeroT {i : Nat} {t : TypeId} {H : SH} {a : AH} (h : HAg (AO i t TSlT (List.replicate 32 slt0) :: H) a) : HAg (AO i t TSlT AM.zeroT :: H) a := h
theorem WO_no {os : List RO} {l : SE} {H : SH} {Q : SE → SH → Prop} (h : ∀ a, HAg H a → False) : WO F X os l H Q := fun e a hA hH => absurd hH (h a)
theorem HAg.nilSL {α : Type} {T : Ty α} {H : SH} {xs : List α} {a : AH} (h : HAg (SL (SV.toV .nil) T xs :: H) a) : xs = [] := by
  have hw : Window a false T.t (SV.toV .nil) T.es xs.length (T.cells xs) := h.1 _ (List.mem_cons_self ..)
  rcases hw.2 with ⟨_, h0⟩ | ⟨i, o, c, e, _⟩
  · exact List.length_eq_zero_iff.1 h0
  · cases e
theorem encT_len {ts : List SlT} (hl : ts.length = 32) (hw : wfT ts) (hm : mayTab ts = true) : 4 ≤ (encT ts).length ∧ (encT ts).length ≤ 4000 := by
  have := recsB_len hw (mayTab_on hl hm)
  unfold encT
  rw [List.length_append, byts_len]; omega
theorem lp_oD {H : SH} {v : Value} {bs : List UInt8} {i2 i4 i6 : Nat} {w4 : SV} (hv : RD H v TByte bs) (hl : bs.length ≤ 100000) (h4 : 4 ≤ bs.length) : ∀ (m k a : Nat) (ts : List SlT), 32 - k = m → k ≤ 32 → 4 ≤ a → a ≤ bs.length → ts.length = 32 → wfT ts → (∀ j, k ≤ j → j < 32 → ts[j]? = some slt0) → InvT bs k a ts →
    WC F X (.loop L_order_Decode_0) [(23, .int .i64 (k : Int)), (4, .pointer (some ⟨i4, 0, none⟩)), (0, v), (7, .int .i64 (a : Int)), (6, .pointer (some ⟨i6, 0, none⟩)), (2, .pointer (some ⟨i2, 0, none⟩))]
      (BB i4 w4 ((List.range 32).map (bitAt (bs.take 4))) (AO i6 43 TSlT ts :: AO i2 43 TSlT zeroT :: H))
      (KPost fun y l' H' => (∃ ts a, y = .exit 0 ∧ l' = [(0, v), (6, .pointer (some ⟨i6, 0, none⟩)), (2, .pointer (some ⟨i2, 0, none⟩))] ∧ H' = AO i6 43 TSlT ts :: AO i2 43 TSlT zeroT :: H ∧ ts.length = 32 ∧ wfT ts ∧ InvT bs 32 a ts) ∨
        (y = .ret ∧ l' = [(2, .pointer (some ⟨i2, 0, none⟩)), (3, .int .i64 8)] ∧ H' = AO i2 43 TSlT zeroT :: H ∧ ∀ ts', ¬ IsT bs ts')) := by
  intro m
  induction m using Nat.strongRecOn with
  | _ m ih =>
    intro k a ts hm hk ha4 ha hlt hwt hz hinv
    have hbl : ((List.range 32).map (bitAt (bs.take 4))).length = 32 := by simp
    unfold BB
    refine WC_loop (WC_seq (WC_region ?_))
    refine WO_step rfl (S_pure rfl ?_)
    refine WO_nil (KSeq_n (WC_seq ?_))
    refine WC_cond rfl (fun hb1 => ?_) (fun hb1 => ?_)
    ·
     try simp only [bsT] at hb1
     have hk32 : k < 32 := by omega
     refine WC_skip (KSeq_n (WC_seq (WC_block (WC_seq (WC_region ?_)))))
     iterate 2 refine WO_step rfl (S_pure rfl ?_)
     refine WO_nil (KSeq_n (WC_seq (WC_seq (WC_region ?_))))
     iterate 2 refine WO_step rfl (S_pure rfl ?_)
     refine WO_call rfl rfl rfl ?_
     refine (sp_bAt (i := i4) (k := k) (w := w4) (bs := (List.range 32).map (bitAt (bs.take 4))) (H0 := AO i6 43 TSlT ts :: AO i2 43 TSlT zeroT :: H) (by unfold BB; exact hsA) (by omega) (by omega)).mono ?_
     rintro _ _ ⟨rfl, rfl⟩
     rw [show ((List.range 32).map (bitAt (bs.take 4))).getD k false = bitAt (bs.take 4) k by rw [List.getD_eq_getElem?_getD, List.getElem?_map, List.getElem?_range hk32]; rfl]
     unfold BB
     refine WO_step rfl (S_pure rfl ?_)
     refine WO_nil (KSeq_n ?_)
     refine WC_cond rfl (fun hb2 => ?_) (fun hb2 => ?_)
     ·
      try simp only [bsT] at hb2
      refine WC_exit (KSeq_x (KBlock_h (KSeq_n (WC_region ?_))))
      first | refine WO_step rfl (S_addN (b := 1) rfl rfl (by omega) ?_) | refine WO_step rfl (S_pure rfl ?_)
      refine WO_step rfl (S_pure rfl ?_)
      refine WO_nil (KLoop_n ?_)
      have hbf : bitAt (bs.take 4) k = false := by simpa using hb2
      have := ih (32 - (k + 1)) (by omega) (k + 1) a ts rfl (by omega) ha4 ha hlt hwt (fun j h1 h2 => hz j (by omega) h2) (hinv.off hk32 (hz k (Nat.le_refl _) hk32) hbf)
      unfold BB at this
      exact WC_weak this seA hsA
     ·
      try simp only [bsT] at hb2
      have hbt : bitAt (bs.take 4) k = true := by simpa using hb2
      refine WC_skip (KSeq_n (WC_seq (WC_seq (WC_region ?_))))
      refine WO_step rfl (S_pure rfl ?_)
      first | refine WO_step rfl (S_pure rfl ?_) | refine WO_step rfl (S_lenS rfl rdA ?_)
      refine WO_step rfl (S_pure rfl ?_)
      refine WO_step rfl (S_subN (a := bs.length) (b := a) rfl rfl (by omega) ?_)
      refine WO_step rfl (S_pure rfl ?_)
      refine WO_nil (KSeq_n ?_)
      refine WC_cond rfl (fun hb3 => ?_) (fun hb3 => ?_)
      ·
       try simp only [bsT] at hb3
       refine WC_seq (WC_region ?_)
       refine WO_step rfl (S_pure rfl ?_)
       refine WO_step rfl (S_storeTab (ts0 := zeroT) (ts := zeroT) rfl rfl pkA zeroT_len zeroT_len ?_)
       refine WO_step rfl (S_pure rfl ?_)
       refine WO_nil (KSeq_n (WC_ret (KSeq_r (KBlock_r (KSeq_r (KLoop_r ?_))))))
       refine KPost_i (l' := [(2, .pointer (some ⟨i2, 0, none⟩)), (3, .int .i64 8)]) (H' := AO i2 43 TSlT zeroT :: H) seA hsA (.inr ⟨rfl, rfl, rfl, fun ts' h' => ?_⟩)
       obtain ⟨x, rest, _, _, e, _⟩ := hinv.on hk32 hbt h'
       have := congrArg List.length e
       rw [List.length_drop, List.length_append, List.length_append] at this
       have h2 : (tagB x.r.key).length = 2 := rfl
       omega
      ·
       try simp only [bsT] at hb3
       have ha2 : a + 2 ≤ bs.length := by omega
       have hsub := hv.subSl (es := 1) (lo := a + 2) (n := bs.length - (a + 2)) rfl (by omega)
       rw [show (bs.drop (a + 2)).take (bs.length - (a + 2)) = bs.drop (a + 2) by rw [List.take_of_length_le]; rw [List.length_drop]; omega] at hsub
       refine WC_skip (KSeq_n (WC_seq (WC_region ?_)))
       iterate 2 refine WO_step rfl (S_pure rfl ?_)
       refine WO_step rfl (S_addN (a := a) (b := 2) rfl rfl (by omega) ?_)
       refine WO_step rfl (S_cutV (a := a + 2) (b := bs.length) rfl rdA (by rfl) (LB.mk rfl rfl) LB.dflt LB.dflt (by omega) (by omega) (by omega) ?_)
       refine WO_call rfl rfl rfl ?_
       refine (sp_rGet (bs := bs.drop (a + 2)) rdA (by rw [List.length_drop]; omega)).mono ?_
       rintro _ _ ⟨rfl, rfl⟩
       have hwg := getRec_wf (bs.drop (a + 2))
       have hgl := getRec_le (bs.drop (a + 2))
       rw [List.length_drop] at hgl
       obtain ⟨r, n, e, hg⟩ : ∃ r n e, getRec (bs.drop (a + 2)) = (r, n, e) := ⟨_, _, _, rfl⟩
       rw [hg] at hgl hwg ⊢
       simp only [] at hgl hwg
       rw [getRecV_mk]
       iterate 4 refine WO_step rfl (S_pure rfl ?_)
       refine WO_step rfl (S_newT TRec rec0 rfl rfl fun i9 => ?_)
       refine WO_step rfl (S_storeT (T := TRec) (y := r) rfl rfl pkA (by rfl) (by rfl) ?_)
       iterate 2 refine WO_step rfl (S_pure rfl ?_)
       refine WO_nil (KSeq_n (WC_seq (WC_seq (WC_region ?_))))
       refine WO_step rfl (S_pure rfl ?_)
       first | refine WO_step rfl (S_neS rfl rfl ?_) | refine WO_step rfl (S_pure rfl ?_)
       refine WO_nil (KSeq_n ?_)
       refine WC_cond rfl (fun hb4 => ?_) (fun hb4 => ?_)
       ·
        try simp only [bsT] at hb4
        refine WC_seq (WC_region ?_)
        refine WO_step rfl (S_pure rfl ?_)
        refine WO_step rfl (S_storeTab (ts0 := zeroT) (ts := zeroT) rfl rfl pkA zeroT_len zeroT_len ?_)
        refine WO_step rfl (S_pure rfl ?_)
        refine WO_nil (KSeq_n (WC_ret (KSeq_r (KBlock_r (KSeq_r (KLoop_r ?_))))))
        refine KPost_i (l' := [(2, .pointer (some ⟨i2, 0, none⟩)), (3, .int .i64 8)]) (H' := AO i2 43 TSlT zeroT :: H) seA hsA (.inr ⟨rfl, rfl, rfl, fun ts' h' => ?_⟩)
        obtain ⟨x, rest, _, _, _, _, hg'⟩ := hinv.on hk32 hbt h'
        rw [hg] at hg'
        simp only [Prod.mk.injEq] at hg'
        exact absurd hg'.2.2 (by simpa using hb4)
       ·
        try simp only [bsT] at hb4
        have e0 : e = 0 := by simpa using hb4
        subst e0
        refine WC_skip (KSeq_n (WC_seq (WC_region ?_)))
        refine WO_step rfl (S_pure rfl ?_)
        refine WO_step rfl (S_quoN (a := k) (m := 4) rfl rfl (by omega) (by omega) ?_)
        refine WO_step rfl (S_pure rfl ?_)
        refine WO_step rfl (S_remU (a := k) (m := 4) rfl rfl (by omega) ?_)
        refine WO_step rfl (S_loadT (T := TRec) (z := r) rfl pkA (by rfl) (by rfl) ?_)
        refine WO_step rfl (S_pure rfl ?_)
        refine WO_step rfl (S_idxA (j := k / 4) rfl rfl rfl (by omega) ?_)
        refine WO_step rfl (S_idxA (j := k % 4) rfl rfl rfl (by omega) ?_)
        refine WO_step rfl (S_storeA (T := TSlT) (k := k) (x := ⟨true, r⟩) rfl rfl pkA (by show _ = k * 6; omega) (by omega) (by rfl) rfl ?_)
        refine WO_nil (KSeq_n (WC_region ?_))
        iterate 2 refine WO_step rfl (S_pure rfl ?_)
        refine WO_step rfl (S_addN (a := 2) (b := n) rfl rfl (by omega) ?_)
        refine WO_step rfl (S_addN (a := a) (b := 2 + n) rfl rfl (by omega) ?_)
        refine WO_step rfl (S_pure rfl ?_)
        refine WO_nil (KBlock_n (KSeq_n (WC_region ?_)))
        first | refine WO_step rfl (S_addN (b := 1) rfl rfl (by omega) ?_) | refine WO_step rfl (S_pure rfl ?_)
        refine WO_step rfl (S_pure rfl ?_)
        refine WO_nil (KLoop_n ?_)
        have := ih (32 - (k + 1)) (by omega) (k + 1) (a + (2 + n)) (ts.set k ⟨true, r⟩) rfl (by omega) (by omega) (by omega) (by rw [List.length_set]; exact hlt) (fun y hy => by
          rcases List.mem_or_eq_of_mem_set hy with hy | rfl
          · exact hwt y hy
          · exact hwg) (fun j h1 h2 => by rw [List.getElem?_set, if_neg (by omega)]; exact hz j (by omega) h2) (hinv.next hk32 hlt hbt hg)
        unfold BB at this
        exact WC_weak this seA hsA
    ·
     try simp only [bsT] at hb1
     refine WC_exit (KSeq_x (KLoop_x ?_))
     have ek : k = 32 := by omega
     subst ek
     exact KPost_i seA hsA (.inl ⟨ts, a, rfl, rfl, rfl, hlt, hwt, hinv⟩)
theorem sp_oDec {H : SH} {v : Value} {bs : List UInt8} (hv : RD H v TByte bs) (hl : bs.length ≤ 100000) : WF F X f_order_Decode [v] H (fun r H' => ∃ (ts : List SlT) (e : Int), H' = H ∧ r = .tuple #[tabV ts, .int .i64 e] ∧ ts.length = 32 ∧ wfT ts ∧ ((e = 0 ∧ mayTab ts = true ∧ bs = encT ts ∧ ∀ ts', IsT bs ts' → ts = ts') ∨ (e = 8 ∧ ts = zeroT ∧ ∀ ts', ¬ IsT bs ts'))) := by
  refine WF_fn F_order_Decode ?_
  refine WC_seq (WC_region ?_)
  refine WO_step rfl (S_new fun i2 => ?_)
  refine WO_step rfl (S_pure rfl ?_)
  refine WO_nil (KSeq_n (WC_seq (WC_seq (WC_region ?_))))
  refine WO_step rfl (S_pure rfl ?_)
  first | refine WO_step rfl (S_pure rfl ?_) | refine WO_step rfl (S_lenS rfl rdA ?_)
  refine WO_step rfl (S_pure rfl ?_)
  refine WO_nil (KSeq_n ?_)
  refine WC_cond rfl (fun hb1 => ?_) (fun hb1 => ?_)
  ·
   try simp only [bsT] at hb1
   refine WC_seq (WC_region ?_)
   refine WO_step rfl (S_pure rfl ?_)
   first | refine WO_step rfl (S_storeTab (ts0 := zeroT) (ts := zeroT) rfl rfl pkA zeroT_len zeroT_len ?_) | refine WO_step rfl (S_storeTab (ts0 := zeroT) (ts := ts) rfl rfl pkA zeroT_len hlt ?_)
   refine WO_step rfl (S_pure rfl ?_)
   refine WO_nil (KSeq_n (WC_ret (KSeq_r ?_)))
   refine KFn_r (ResL.tab rfl pkA (by first | assumption | exact zeroT_len) (ResL.tmp rfl ResL.nil)) ?_
   exact ⟨H, hsA, zeroT, 8, rfl, rfl, zeroT_len, zeroT_wf, .inr ⟨rfl, rfl, fun ts' h' => by have := h'.l4; omega⟩⟩
  ·
   try simp only [bsT] at hb1
   have hl4 : 4 ≤ bs.length := by omega
   have hp4 : (bs.take 4).length = 4 := by rw [List.length_take]; omega
   have hsub := hv.subSl (es := 1) (lo := 0) (n := 4) rfl (by omega)
   rw [List.drop_zero] at hsub
   refine WC_skip (KSeq_n (WC_seq (WC_region ?_)))
   refine WO_step rfl (S_pure rfl ?_)
   refine WO_step rfl (S_cutV (a := 0) (b := 4) rfl rdA (by rfl) LB.dflt (LB.mk rfl rfl) LB.dflt (by omega) (by omega) (by omega) ?_)
   refine WO_call rfl rfl rfl ?_
   have hbo := sp_bOf (X := X) (H := AO i2 43 TSlT zeroT :: H) (p := bs.take 4) hsub.tail (by omega)
   rw [hp4] at hbo
   refine hbo.mono ?_
   rintro _ _ ⟨i4, w4, rfl, rfl⟩
   unfold BB
   iterate 5 refine WO_step rfl (S_pure rfl ?_)
   refine WO_nil (KSeq_n (WC_seq (WC_region ?_)))
   refine WO_step rfl (S_new fun i6 => ?_)
   refine WO_nil (KSeq_n (WC_seq (WC_region ?_)))
   refine WO_step rfl (S_pure rfl ?_)
   refine WO_nil (KSeq_n (WC_seq (WC_seq (WC_region ?_))))
   refine WO_step rfl (S_pure rfl ?_)
   refine WO_nil (KSeq_n (WC_block ?_))
   refine WC_post (WC_weak (lp_oD (H := H) (bs := bs) (i2 := i2) (i4 := i4) (i6 := i6) (w4 := w4) hv hl hl4 32 0 4 zeroT (by omega) (by omega) (by omega) hl4 zeroT_len zeroT_wf (fun j _ h2 => by unfold zeroT; rw [List.getElem?_replicate, if_pos h2]) (InvT.start bs zeroT)) seA (by unfold BB; exact hsA)) ?_
   rintro y l' _ (⟨ts, a, rfl, rfl, rfl, hlt, hwt, hinv⟩ | ⟨rfl, rfl, rfl, hno⟩)
   rotate_left
   ·
    refine KBlock_r (KSeq_r ?_)
    refine KFn_r (ResL.tab rfl pkA (by first | assumption | exact zeroT_len) (ResL.tmp rfl ResL.nil)) ?_
    exact ⟨H, hsA, zeroT, 8, rfl, rfl, zeroT_len, zeroT_wf, .inr ⟨rfl, rfl, hno⟩⟩
   ·
    refine KBlock_h (KSeq_n (WC_seq (WC_seq (WC_region ?_))))
    refine WO_step rfl (S_loadAll (T := TSlT) (xs := ts) rfl pkA (by rw [hlt]; rfl) ?_)
    refine WO_call rfl rfl rfl ?_
    refine (sp_oEnc hlt hwt).mono ?_
    rintro _ _ ⟨w62, rfl, hn62, rfl⟩
    by_cases hbad : mayTab ts = true ∧ w62 = .nil
    · obtain ⟨hb1, rfl⟩ := hbad
      refine WO_no fun a ha => ?_
      have h0 := ha.nilSL
      rw [if_pos hb1] at h0
      have := encT_len hlt hwt hb1
      rw [h0] at this
      simp at this
    have hbn : eqNil 1 w62.toV (.slice none 0 0) = some (!mayTab ts) := by
      cases w62 with
      | nil => cases hb : mayTab ts with
        | true => exact absurd ⟨hb, rfl⟩ hbad
        | false => rfl
      | mk i o m e => cases hb : mayTab ts with
        | true => rfl
        | false => exact absurd (hn62 hb) (by intro h; cases h)
    generalize hmt : mayTab ts = b at *
    refine WO_step rfl (S_pure rfl ?_)
    refine WO_nil (KSeq_n (WC_seq (WC_region ?_)))
    refine WO_step rfl (S_pure rfl ?_)
    refine WO_step rfl (S_pureE (v := .bool (!b)) (by show (match eqNil 1 w62.toV (.slice none 0 0) with | some r => some (Value.bool (if false then !r else r)) | none => none) = some (.bool (!b)); rw [hbn]; rfl) rfl ?_)
    refine WO_step rfl (S_pure rfl ?_)
    refine WO_cases (t := 65) rfl (fun hg1 => ?_) (fun hg1 => ?_)
    ·
     try simp only [bsT] at hg1
     iterate 4 refine WO_off rfl ?_
     refine WO_step rfl (S_pure rfl ?_)
     refine WO_nil (KSeq_n ?_)
     refine WC_cond rfl (fun _ => ?_) (fun h => ?_)
     rotate_left
     · exact absurd h (by decide)
     refine WC_seq (WC_region ?_)
     refine WO_step rfl (S_pure rfl ?_)
     first | refine WO_step rfl (S_storeTab (ts0 := zeroT) (ts := zeroT) rfl rfl pkA zeroT_len zeroT_len ?_) | refine WO_step rfl (S_storeTab (ts0 := zeroT) (ts := ts) rfl rfl pkA zeroT_len hlt ?_)
     refine WO_step rfl (S_pure rfl ?_)
     refine WO_nil (KSeq_n (WC_ret (KSeq_r ?_)))
     refine KFn_r (ResL.tab rfl pkA (by first | assumption | exact zeroT_len) (ResL.tmp rfl ResL.nil)) ?_
     refine ⟨H, hsA, zeroT, 8, rfl, rfl, zeroT_len, zeroT_wf, .inr ⟨rfl, rfl, fun ts' h' => ?_⟩⟩
     have e := hinv.done hlt h'
     have := h'.may
     rw [← e, hmt] at this
     rw [this] at hg1; cases hg1
    ·
     try simp only [bsT] at hg1
     iterate 2 refine WO_step rfl (S_pure rfl ?_)
     refine WO_call rfl rfl rfl ?_
     refine (sp_BEq rdA rdA).mono ?_
     rintro _ _ ⟨rfl, rfl⟩
     iterate 2 refine WO_step rfl (S_pure rfl ?_)
     refine WO_nil (KSeq_n ?_)
     refine WC_cond rfl (fun hb2 => ?_) (fun hb2 => ?_)
     ·
      try simp only [bsT] at hb2
      refine WC_seq (WC_region ?_)
      refine WO_step rfl (S_pure rfl ?_)
      first | refine WO_step rfl (S_storeTab (ts0 := zeroT) (ts := zeroT) rfl rfl pkA zeroT_len zeroT_len ?_) | refine WO_step rfl (S_storeTab (ts0 := zeroT) (ts := ts) rfl rfl pkA zeroT_len hlt ?_)
      refine WO_step rfl (S_pure rfl ?_)
      refine WO_nil (KSeq_n (WC_ret (KSeq_r ?_)))
      refine KFn_r (ResL.tab rfl pkA (by first | assumption | exact zeroT_len) (ResL.tmp rfl ResL.nil)) ?_
      refine ⟨H, hsA, zeroT, 8, rfl, rfl, zeroT_len, zeroT_wf, .inr ⟨rfl, rfl, fun ts' h' => ?_⟩⟩
      have e := hinv.done hlt h'
      rw [if_pos hg1] at hb2
      exact hb2 (by rw [e]; exact h'.eq.symm)
     ·
      try simp only [bsT] at hb2
      refine WC_skip (KSeq_n (WC_seq (WC_region ?_)))
      refine WO_step rfl (S_loadAll (T := TSlT) (xs := ts) rfl pkA (by rw [hlt]; rfl) ?_)
      first | refine WO_step rfl (S_storeTab (ts0 := zeroT) (ts := zeroT) rfl rfl pkA zeroT_len zeroT_len ?_) | refine WO_step rfl (S_storeTab (ts0 := zeroT) (ts := ts) rfl rfl pkA zeroT_len hlt ?_)
      refine WO_step rfl (S_pure rfl ?_)
      refine WO_nil (KSeq_n (WC_ret ?_))
      refine KFn_r (ResL.tab rfl pkA (by first | assumption | exact zeroT_len) (ResL.tmp rfl ResL.nil)) ?_
      rw [if_pos hg1] at hb2
      exact ⟨H, hsA, ts, 0, rfl, rfl, hlt, hwt, .inl ⟨rfl, by rw [hmt]; exact hg1, hb2.symm, fun ts' h' => hinv.done hlt h'⟩⟩
end Go.Proofs.YtpnmeednimpjdaaGreat.AM
namespace Go.Proofs.YtpnmeednimpjdaaGreat.AM
open Go
set_option linter.unusedSimpArgs false
set_option linter.unusedVariables false
set_option maxRecDepth 4000
set_option linter.unusedSectionVars false
variable {X : Exts} [HX X]
def rk (ts : List SlT) (i : Nat) : Nat := ((ts.take i).filter (·.has)).length
def ranksL (ts : List SlT) (n : Nat) : List Int := (List.range n).map fun i => ((rk ts i : Nat) : Int)
theorem ranksL_len (ts : List SlT) (n : Nat) : (ranksL ts n).length = n := by simp [ranksL]
theorem ranksL_get {ts : List SlT} {n i : Nat} (h : i < n) : (ranksL ts n)[i]? = some ((rk ts i : Nat) : Int) := by
  unfold ranksL; rw [List.getElem?_map, List.getElem?_range h]; rfl
theorem ranksL_snoc (ts : List SlT) (n : Nat) : ranksL ts n ++ [((rk ts n : Nat) : Int)] = ranksL ts (n + 1) := by
  unfold ranksL; rw [List.range_succ, List.map_append]; rfl
theorem rk_succ {ts : List SlT} {k : Nat} {x : SlT} (hx : ts[k]? = some x) : rk ts (k + 1) = rk ts k + if x.has then 1 else 0 := by
  unfold rk
  rw [List.take_add_one, hx, List.filter_append, List.length_append]
  congr 1
  cases h : x.has <;> simp [h]
theorem rk_le (ts : List SlT) (k : Nat) : rk ts k ≤ k := by
  unfold rk
  exact Nat.le_trans (List.length_filter_le _ _) (by rw [List.length_take]; omega)
theorem rk_tRecs (ts : List SlT) (k : Nat) : (tRecs ts k).length = rk ts k := by unfold tRecs rk; rw [List.length_map]
def tgs (l : List Rec) : List Int := l.map fun r => ((tagOf (kH r.key) : Nat) : Int)
theorem tgs_len (l : List Rec) : (tgs l).length = l.length := by simp [tgs]
theorem tgs_snoc (l : List Rec) (r : Rec) : tgs (l ++ [r]) = tgs l ++ [((tagOf (kH r.key) : Nat) : Int)] := by simp [tgs]
abbrev RKO (i : Nat) (w : SV) : Res := .obj i (.row false 113 [w.toV])
theorem S_max0 {l : SE} {H : SH} {K : Value → SH → Prop} {x : Opd} {a : Nat} (hx : x.lv l = some (.int .i64 (a : Int))) (k : K (.int .i64 (a : Int)) H) : Step (.mm true [x, .const (.int .i64 0)]) l H K :=
  S_pureE (v := .int .i64 (if (0 : Int) > (a : Int) then 0 else (a : Int))) (by
    have h2 : (Opd.const (.int .i64 0)).lv l = some (.int .i64 0) := rfl
    simp only [pev, lvs, hx, h2, mmV]; rfl) (by rw [if_neg (by omega)]) k
theorem S_max0L {l : SE} {H : SH} {K : Value → SH → Prop} {x : Opd} {a : Nat} (hx : x.lv l = some (.int .i64 (a : Int))) (k : K (.int .i64 (a : Int)) H) : Step (.mm true [.const (.int .i64 0), x]) l H K :=
  S_pureE (v := .int .i64 (if (a : Int) > (0 : Int) then (a : Int) else 0)) (by
    have h2 : (Opd.const (.int .i64 0)).lv l = some (.int .i64 0) := rfl
    simp only [pev, lvs, hx, h2, mmV]; rfl) (by congr 1; split <;> omega) k
theorem S_minL {l : SE} {H : SH} {K : Value → SH → Prop} {x y : Opd} {a b : Nat} (hx : x.lv l = some (.int .i64 (a : Int))) (hy : y.lv l = some (.int .i64 (b : Int))) (hab : a ≤ b) (k : K (.int .i64 (a : Int)) H) : Step (.mm false [x, y]) l H K :=
  S_pureE (v := .int .i64 (if (b : Int) < (a : Int) then (b : Int) else (a : Int))) (by
    simp only [pev, lvs, hx, hy, mmV]; rfl) (by rw [if_neg (by omega)]) k
theorem sp_rkLen {H H0 : SH} {i : Nat} {w : SV} {l : List Int} (hp : Pick (RKO i w) H H0) (hv : RD H w.toV TInt l) (hl : 0 < l.length ∧ l.length ≤ 1000) : WF F X f_rank_Rank_Len [.pointer (some ⟨i, 0, none⟩)] H (fun r H' => H' = H ∧ r = .int .i64 ((l.length - 1 : Nat) : Int)) := by
  refine WF_fn F_rank_Rank_Len ?_
  refine WC_seq (WC_region ?_)
  refine WO_step rfl (S_pure rfl ?_)
  refine WO_nil (KSeq_n (WC_seq (WC_seq (WC_region ?_))))
  iterate 2 refine WO_step rfl (S_pure rfl ?_)
  refine WO_nil (KSeq_n ?_)
  refine WC_cond rfl (fun hb1 => ?_) (fun hb1 => ?_)
  ·
   try simp only [bsT] at hb1
   exact absurd hb1 (by simp)
   --stop
  ·
   try simp only [bsT] at hb1
   refine WC_skip (KSeq_n (WC_seq (WC_region ?_)))
   iterate 3 refine WO_step rfl (S_pure rfl ?_)
   refine WO_step rfl (S_loadO rfl hp (by rfl) (by rfl) ?_)
   first | refine WO_step rfl (S_pure rfl ?_) | refine WO_step rfl (S_lenS rfl rdA ?_)
   refine WO_step rfl (S_subN (a := l.length) (b := 1) rfl rfl (by omega) ?_)
   refine WO_step rfl (S_max0L (a := l.length - 1) rfl ?_)
   refine WO_step rfl (S_pure rfl ?_)
   refine WO_nil (KSeq_n (WC_ret ?_))
   refine KFn_r (ResL.tmp rfl ResL.nil) ?_
   exact ⟨_, hsA, rfl, rfl⟩
theorem sp_Ones {H H0 : SH} {i k : Nat} {w : SV} {ts : List SlT} (hp : Pick (RKO i w) H H0) (hv : RD H w.toV TInt (ranksL ts 33)) (hk : k ≤ 32) : WF F X f_rank_Rank_Ones [.pointer (some ⟨i, 0, none⟩), .int .i64 (k : Int)] H (fun r H' => H' = H ∧ r = .int .i64 ((rk ts k : Nat) : Int)) := by
  have hl := ranksL_len ts 33
  have hg := ranksL_get (ts := ts) (n := 33) (i := k) (by omega)
  refine WF_fn F_rank_Rank_Ones ?_
  refine WC_seq (WC_region ?_)
  refine WO_step rfl (S_pure rfl ?_)
  refine WO_nil (KSeq_n (WC_seq (WC_seq (WC_region ?_))))
  iterate 3 refine WO_step rfl (S_pure rfl ?_)
  refine WO_cases (t := 7) rfl (fun hg1 => ?_) (fun hg1 => ?_)
  ·
   try simp only [bsT] at hg1
   exact absurd hg1 (by simp)
   --stop
  ·
   try simp only [bsT] at hg1
   iterate 3 refine WO_step rfl (S_pure rfl ?_)
   refine WO_step rfl (S_loadO rfl hp (by rfl) (by rfl) ?_)
   first | refine WO_step rfl (S_pure rfl ?_) | refine WO_step rfl (S_lenS rfl rdA ?_)
   first | refine WO_step rfl (S_eqS rfl rfl ?_) | refine WO_step rfl (S_pure rfl ?_)
   refine WO_step rfl (S_pure rfl ?_)
   refine WO_nil (KSeq_n ?_)
   refine WC_cond rfl (fun hb1 => ?_) (fun hb1 => ?_)
   ·
    try simp only [bsT] at hb1
    exfalso
    revert hb1
    rw [hl]; simp
    --stop
   ·
    try simp only [bsT] at hb1
    refine WC_skip (KSeq_n (WC_seq (WC_drawn ?_)))
    refine WD_step rfl (S_pure rfl ?_)
    refine WD_step rfl (S_pure rfl ?_)
    refine WD_step rfl (S_pure rfl ?_)
    refine WD_step rfl (S_loadO rfl hp (by rfl) (by rfl) ?_)
    refine WD_step rfl (S_pure rfl ?_)
    refine WD_step rfl (S_max0 (a := k) rfl ?_)
    refine WD_step rfl (S_pure rfl ?_)
    refine WD_call rfl rfl rfl ?_
    refine (sp_rkLen (l := ranksL ts 33) hp hv (by omega)).mono ?_
    rintro _ _ ⟨rfl, rfl⟩
    rw [hl]
    refine WD_step rfl (S_minL (a := k) (b := 33 - 1) rfl rfl (by omega) ?_)
    refine WD_step rfl (S_idx rfl rfl rdA (by first | rfl | assumption | (symm; assumption)) (by rfl) (by first | assumption | omega | exact lt_of_get (by assumption) | (simp only [List.length_set]; first | assumption | omega | exact lt_of_get (by assumption))) fun hp24 => ?_)
    refine WD_step rfl (S_loadE rfl rdA (by first | rfl | assumption | (symm; assumption)) (by first | rfl | assumption | (symm; assumption)) (by first | rfl | assumption | (symm; assumption)) hg ?_)
    refine WD_step rfl (S_pure rfl ?_)
    refine WD_nil ?_
    refine ⟨?_, ?_⟩
    ·
     exact ⟨ObR.of_step rfl (S_loadO rfl hp (by rfl) (by rfl) (by cases w <;> simp [eqV, eqV0, SV.toV])), trivial⟩
    ·
     refine KSeq_n (WC_ret ?_)
     refine KFn_r (ResL.tmp rfl ResL.nil) ?_
     exact ⟨_, HSub.refl, rfl, rfl⟩
theorem lp_rkN {H : SH} {ts : List SlT} {i3 i0 : Nat} {w0 : SV} (hl : ts.length = 32) : ∀ (m k : Nat) (w : SV), 32 - k = m → k ≤ 32 →
    WC F X (.loop L_rank_New_0) [(11, .int .i64 (k : Int)), (10, .int .i64 ((32 : Nat) : Int)), (0, .pointer (some ⟨i0, 0, none⟩)), (3, .pointer (some ⟨i3, 0, none⟩))] (RKO i3 w :: SL w.toV TInt (ranksL ts (k + 1)) :: BB i0 w0 (ts.map (·.has)) H)
      (KPost fun y l' H' => ∃ w : SV, y = .exit 0 ∧ l' = [(3, .pointer (some ⟨i3, 0, none⟩))] ∧ H' = RKO i3 w :: SL w.toV TInt (ranksL ts 33) :: H) := by
  intro m
  induction m using Nat.strongRecOn with
  | _ m ih =>
    intro k w hm hk
    have hrl := ranksL_len ts (k + 1)
    have hhl : (ts.map (·.has)).length = 32 := by simp [hl]
    have hrk := rk_le ts k
    unfold BB
    refine WC_loop (WC_seq (WC_region ?_))
    refine WO_step rfl (S_pure rfl ?_)
    refine WO_nil (KSeq_n (WC_seq ?_))
    refine WC_cond rfl (fun hb1 => ?_) (fun hb1 => ?_)
    ·
     try simp only [bsT] at hb1
     obtain ⟨x, hx⟩ := get_of_lt (show k < ts.length by omega)
     have hg := ranksL_get (ts := ts) (n := k + 1) (i := k) (by omega)
     have hsn := ranksL_snoc ts (k + 1)
     have hrs := rk_succ hx
     refine WC_skip (KSeq_n (WC_seq (WC_block (WC_seq (WC_region ?_)))))
     iterate 2 refine WO_step rfl (S_pure rfl ?_)
     refine WO_nil (KSeq_n (WC_seq (WC_region ?_)))
     iterate 3 refine WO_step rfl (S_pure rfl ?_)
     refine WO_step rfl (S_loadO rfl pkA (by rfl) (by rfl) ?_)
     refine WO_step rfl (S_pure rfl ?_)
     refine WO_step rfl (S_idx rfl rfl rdA (by first | rfl | assumption | (symm; assumption)) (by rfl) (by first | assumption | omega | exact lt_of_get (by assumption) | (simp only [List.length_set]; first | assumption | omega | exact lt_of_get (by assumption))) fun hp19 => ?_)
     refine WO_step rfl (S_loadE rfl rdA (by first | rfl | assumption | (symm; assumption)) (by first | rfl | assumption | (symm; assumption)) (by first | rfl | assumption | (symm; assumption)) hg ?_)
     refine WO_step rfl (S_pure rfl ?_)
     refine WO_nil (KSeq_n (WC_seq ?_))
     refine WC_post (P := fun y l' H' => y = .normal ∧ l' = [(11, .int .i64 (k : Int)), (10, .int .i64 ((32 : Nat) : Int)), (0, .pointer (some ⟨i0, 0, none⟩)), (3, .pointer (some ⟨i3, 0, none⟩)), (5, .int .i64 ((rk ts (k + 1) : Nat) : Int))] ∧ H' = RKO i3 w :: SL w.toV TInt (ranksL ts (k + 1)) :: BB i0 w0 (ts.map (·.has)) H) ?_ ?_
     ·
      refine WC_seq (WC_region ?_)
      iterate 2 refine WO_step rfl (S_pure rfl ?_)
      refine WO_call rfl rfl rfl ?_
      refine (sp_bAt (i := i0) (k := k) (w := w0) (bs := ts.map (·.has)) (H0 := RKO i3 w :: SL w.toV TInt (ranksL ts (k + 1)) :: H) (by unfold BB; exact hsA) (by omega) (by omega)).mono ?_
      rintro _ _ ⟨rfl, rfl⟩
      rw [show (ts.map (·.has)).getD k false = x.has by rw [List.getD_eq_getElem?_getD, List.getElem?_map, hx]; rfl]
      unfold BB
      refine WO_nil (KSeq_n ?_)
      refine WC_cond rfl (fun hb2 => ?_) (fun hb2 => ?_)
      ·
       try simp only [bsT] at hb2
       refine WC_region ?_
       refine WO_step rfl (S_pure rfl ?_)
       refine WO_step rfl (S_addN (a := rk ts k) (b := 1) rfl rfl (by omega) ?_)
       refine WO_step rfl (S_pure rfl ?_)
       refine WO_nil ?_
       have e : rk ts (k + 1) = rk ts k + 1 := by rw [hrs, hb2]; rfl
       exact KPost_i (H' := RKO i3 w :: SL w.toV TInt (ranksL ts (k + 1)) :: BB i0 w0 (ts.map (·.has)) H) (l' := [(11, .int .i64 (k : Int)), (10, .int .i64 ((32 : Nat) : Int)), (0, .pointer (some ⟨i0, 0, none⟩)), (3, .pointer (some ⟨i3, 0, none⟩)), (5, .int .i64 ((rk ts k + 1 : Nat) : Int))]) seA (by unfold BB; exact hsA) ⟨rfl, by rw [e], rfl⟩
      ·
       try simp only [bsT] at hb2
       refine WC_skip ?_
       have e : rk ts (k + 1) = rk ts k := by rw [hrs, hb2]; rfl
       exact KPost_i (H' := RKO i3 w :: SL w.toV TInt (ranksL ts (k + 1)) :: BB i0 w0 (ts.map (·.has)) H) (l' := [(11, .int .i64 (k : Int)), (10, .int .i64 ((32 : Nat) : Int)), (0, .pointer (some ⟨i0, 0, none⟩)), (3, .pointer (some ⟨i3, 0, none⟩)), (5, .int .i64 ((rk ts k : Nat) : Int))]) seA (by unfold BB; exact hsA) ⟨rfl, by rw [e], rfl⟩
     ·
      rintro y l' H' ⟨rfl, rfl, rfl⟩
      unfold BB
      refine KSeq_n (WC_region ?_)
      iterate 4 refine WO_step rfl (S_pure rfl ?_)
      refine WO_step rfl (S_loadO rfl pkA (by rfl) (by rfl) ?_)
      refine WO_step rfl (S_pure rfl ?_)
      refine WO_step rfl (S_lit1 (T := TInt) (y := ((rk ts (k + 1) : Nat) : Int)) rfl rfl rfl rfl fun w32 => ?_)
      refine WO_step rfl (S_app rfl rfl pkA (by first | exact SRC.str rfl rfl | (apply RD.src; repeat (first | assumption | exact RD.head | exact RD.nil | apply RD.tail))) (by rfl) (by rfl) (by (try simp only [List.length_append, List.length_cons, List.length_nil]); omega) fun w33 => ?_)
      iterate 2 refine WO_step rfl (S_pure rfl ?_)
      refine WO_step rfl (S_storeO rfl rfl pkA (SV.cells1 _) (by rfl) (SV.ones _) ?_)
      refine WO_nil (KBlock_n (KSeq_n (WC_region ?_)))
      first | refine WO_step rfl (S_addN (b := 1) rfl rfl (by omega) ?_) | refine WO_step rfl (S_pure rfl ?_)
      refine WO_step rfl (S_pure rfl ?_)
      refine WO_nil (KLoop_n ?_)
      have := ih (32 - (k + 1)) (by omega) (k + 1) w33 rfl (by omega)
      rw [← hsn] at this
      unfold BB at this
      refine WC_weak this seA ?_
      rw [show splice [w.toV] 0 (AM.cells w33.toV) = [w33.toV] by rw [SV.cells]; rfl]
      exact hsA
    ·
     try simp only [bsT] at hb1
     refine WC_exit (KSeq_x (KLoop_x ?_))
     have ek : k = 32 := by omega
     subst ek
     exact KPost_i (H' := RKO i3 w :: SL w.toV TInt (ranksL ts 33) :: H) seA hsA ⟨w, rfl, rfl, rfl⟩
theorem sp_rkNew {H : SH} {ts : List SlT} {i0 : Nat} {w0 : SV} (hl : ts.length = 32) : WF F X f_rank_New [.pointer (some ⟨i0, 0, none⟩)] (BB i0 w0 (ts.map (·.has)) H) (fun r H' => ∃ (i : Nat) (w : SV), r = .pointer (some ⟨i, 0, none⟩) ∧ H' = RKO i w :: SL w.toV TInt (ranksL ts 33) :: H) := by
  have hhl : (ts.map (·.has)).length = 32 := by simp [hl]
  unfold BB
  refine WF_fn F_rank_New ?_
  refine WC_seq (WC_region ?_)
  refine WO_step rfl (S_pure rfl ?_)
  refine WO_nil (KSeq_n (WC_seq (WC_region ?_)))
  refine WO_step rfl (S_lit1 (T := TInt) (y := 0) rfl rfl rfl rfl fun w6 => ?_)
  refine WO_step rfl (S_pureE (v := .agg #[w6.toV]) (by cases w6 <;> rfl) rfl ?_)
  refine WO_step rfl (S_box rfl (by cases w6 <;> rfl) fun i8 => ?_)
  refine WO_step rfl (S_pure rfl ?_)
  refine WO_nil (KSeq_n (WC_seq (WC_seq (WC_region ?_))))
  refine WO_step rfl (S_pure rfl ?_)
  refine WO_call rfl rfl rfl ?_
  refine (sp_bLen (n := (ts.map (·.has)).length) (w := w0) pkA).mono ?_
  rintro _ _ ⟨rfl, rfl⟩
  rw [hhl]
  refine WO_step rfl (S_pure rfl ?_)
  refine WO_nil (KSeq_n (WC_block ?_))
  refine WC_post (WC_weak (lp_rkN (H := H) (ts := ts) (i3 := i8) (i0 := i0) (w0 := w0) hl 32 0 w6 (by omega) (by omega)) seA (by rw [show ranksL ts (0 + 1) = [0] from rfl]; unfold BB; rw [hhl]; exact hsA)) ?_
  rintro y l' _ ⟨w, rfl, rfl, rfl⟩
  refine KBlock_h (KSeq_n (WC_seq (WC_region ?_)))
  iterate 2 refine WO_step rfl (S_pure rfl ?_)
  refine WO_nil (KSeq_n (WC_ret ?_))
  refine KFn_r (ResL.tmp rfl ResL.nil) ?_
  exact ⟨_, HSub.refl, i8, w, rfl, rfl⟩
def SO (i : Nat) (ts : List SlT) (L : List Value) : Res := .obj i (.row false 77 (TSlT.cells ts ++ L))
theorem tc_len {ts : List SlT} (hl : ts.length = 32) : (TSlT.cells ts).length = 192 := by rw [TSlT.cells_len, hl]; rfl
theorem S_loadSO {l : SE} {H H0 : SH} {K : Value → SH → Prop} {i o j : Nat} {a : Opd} {ts : List SlT} {L : List Value} {v : Value} (hl : ts.length = 32) (ha : a.lv l = some (.pointer (some ⟨i, o, none⟩))) (hp : Pick (SO i ts L) H H0) (ho : o = 192 + j) (hv : L[j]? = some v) (k : K v H) : Step (.load false 1 a) l H K := by
  have hc := tc_len hl
  have hj := (List.getElem?_eq_some_iff.1 hv).1
  subst ho
  refine S_loadO ha hp (by rw [Nat.ble_eq, List.length_append, hc]; omega) ?_ k
  rw [List.drop_append, List.drop_of_length_le (by omega), List.nil_append, hc, show 192 + j - 192 = j by omega, drop_get hv]
  rfl
theorem S_loadSOt {l : SE} {H H0 : SH} {K : Value → SH → Prop} {i : Nat} {a : Opd} {ts : List SlT} {L : List Value} (hl : ts.length = 32) (ha : a.lv l = some (.pointer (some ⟨i, 0, none⟩))) (hp : Pick (SO i ts L) H H0) (k : K (tabV ts) H) : Step (.load true 192 a) l H K := by
  have hc := tc_len hl
  refine S_loadO ha hp (by rw [Nat.ble_eq, List.length_append, hc]; omega) ?_ k
  rw [List.drop_zero, List.take_append_of_le_length (by omega), List.take_of_length_le (by omega)]; rfl
theorem S_storeSO {l : SE} {H H0 : SH} {K : Value → SH → Prop} {i o j : Nat} {a x : Opd} {ts : List SlT} {L : List Value} {v : Value} (hl : ts.length = 32) (ha : a.lv l = some (.pointer (some ⟨i, o, none⟩))) (hx : x.lv l = some v) (hp : Pick (SO i ts L) H H0) (ho : o = 192 + j) (hj : j < L.length) (hv : AM.cells v = [v]) (h1 : AM.one v = true) (k : K undef (SO i ts (L.set j v) :: H0)) : Step (.store 1 a x) l H K := by
  have hc := tc_len hl
  subst ho
  refine S_storeO ha hx hp (by rw [hv]; rfl) (by rw [Nat.ble_eq, List.length_append, hc]; omega) (by rw [hv]; simp [h1]) ?_
  have e : splice (TSlT.cells ts ++ L) (192 + j) (AM.cells v) = TSlT.cells ts ++ L.set j v := by
    have h2 := splice_mid (P := TSlT.cells ts) (M := L) (S := []) (vs := [v]) (off := j) (by simp; omega)
    rw [List.append_nil, List.append_nil, hc] at h2
    rw [hv, h2]
    congr 1
    unfold splice
    rw [List.set_eq_take_append_cons_drop, if_pos hj]
    simp
  rw [e]; exact k
theorem S_buildSO {l : SE} {H : SH} {K : Value → SH → Prop} {zs : List Value} {x : Opd} {ts : List SlT} {p q r : Value} (hx : x.lv l = some (tabV ts)) (hl : ts.length = 32) (hz : zs.length = 195) (hd : zs.drop 192 = [p, q, r]) (k : K (.agg (TSlT.cells ts ++ [p, q, r]).toArray) H) : Step (.build zs [(0, (192, x))]) l H K := by
  have hc := tc_len hl
  have e : AM.cells (tabV ts) = TSlT.cells ts := by simp [AM.cells, Value.cells]
  refine S_pureE (v := .agg (splice zs 0 (TSlT.cells ts)).toArray) ?_ ?_ k
  · simp only [pev, lfill, hx]
    rw [e, if_pos ⟨hc, by omega⟩]
  · unfold splice
    rw [List.take_zero, List.nil_append, hc, hd]
theorem S_boxSO {l : SE} {H : SH} {K : Value → SH → Prop} {x : Opd} {ts : List SlT} {L : List Value} (hx : x.lv l = some (.agg (TSlT.cells ts ++ L).toArray)) (hL : L.all AM.one = true) (k : ∀ i, K (.pointer (some ⟨i, 0, none⟩)) (SO i ts L :: H)) : Step (.box 77 x) l H K := by
  have e : AM.cells (.agg (TSlT.cells ts ++ L).toArray) = TSlT.cells ts ++ L := by simp [AM.cells, Value.cells]
  refine S_box hx (by rw [e, List.all_append, TSlT.cells_all, hL]; rfl) fun i => ?_
  rw [e]; exact k i
def STO (i : Nat) (ts : List SlT) (i2 : Nat) (wk wr wt : SV) (H : SH) : SH := SO i ts [.pointer (some ⟨i2, 0, none⟩), wr.toV, wt.toV] :: RKO i2 wk :: SL wk.toV TInt (ranksL ts 33) :: SL wr.toV TRec (tRecs ts 32) :: SL wt.toV TInt (tgs (tRecs ts 32)) :: H
theorem lp_hN1 {H : SH} {ts : List SlT} {b i4 i5 : Nat} (v18 : Value) (hl : ts.length = 32) (hk : kSmall ts) (hb : b < 8) : ∀ (m s : Nat) (w wr wt : SV), 4 - s = m → s ≤ 4 →
    WC F X (.loop L_hashstore_New_1) [(23, .int .i64 (s : Int)), (22, tabV (bk ts b)), (19, .int .i64 (b : Int)), (18, v18), (4, .pointer (some ⟨i4, 0, none⟩)), (5, .pointer (some ⟨i5, 0, none⟩))] (SO i4 ts [.pointer none, wr.toV, wt.toV] :: SL wr.toV TRec (tRecs ts (4 * b + s)) :: SL wt.toV TInt (tgs (tRecs ts (4 * b + s))) :: BB i5 w ((ts.take (4 * b + s)).map (·.has)) H)
      (KPost fun y l' H' => ∃ w wr wt : SV, y = .exit 2 ∧ l' = [(19, .int .i64 (b : Int)), (18, v18), (4, .pointer (some ⟨i4, 0, none⟩)), (5, .pointer (some ⟨i5, 0, none⟩))] ∧ H' = SO i4 ts [.pointer none, wr.toV, wt.toV] :: SL wr.toV TRec (tRecs ts (4 * b + 4)) :: SL wt.toV TInt (tgs (tRecs ts (4 * b + 4))) :: BB i5 w ((ts.take (4 * b + 4)).map (·.has)) H) := by
  intro m
  induction m using Nat.strongRecOn with
  | _ m ih =>
    intro s w wr wt hn hs
    have hbl : ((ts.take (4 * b + s)).map (·.has)).length ≤ 32 := by simp; omega
    have hrl := tRecs_len ts (4 * b + s)
    have htl := tgs_len (tRecs ts (4 * b + s))
    unfold BB
    refine WC_loop (WC_seq (WC_region ?_))
    refine WO_step rfl (S_pure rfl ?_)
    refine WO_nil (KSeq_n (WC_seq ?_))
    refine WC_cond rfl (fun hb1 => ?_) (fun hb1 => ?_)
    ·
     try simp only [bsT] at hb1
     obtain ⟨x, hx⟩ := get_of_lt (show 4 * b + s < ts.length by omega)
     have hks := hk x (List.mem_of_getElem? hx)
     have hhs := has_succ hx
     have hrs := tRecs_succ hx
     have hkl2 := kH_lt x.r.key
     have ht8 := tagOf_lt (kH x.r.key)
     refine WC_skip (KSeq_n (WC_seq (WC_block (WC_seq (WC_region ?_)))))
     refine WO_step rfl (S_idxSl (s := s) (z := x) rfl rfl rfl (by omega) (by rw [bk_get (by omega)]; exact hx) ?_)
     refine WO_step rfl (S_newT TSlO slt0 rfl rfl fun i9 => ?_)
     refine WO_step rfl (S_storeT (T := TSlO) (y := x) rfl rfl pkA (by rfl) (by rfl) ?_)
     refine WO_nil (KSeq_n (WC_seq (WC_region ?_)))
     iterate 2 refine WO_step rfl (S_pure rfl ?_)
     refine WO_step rfl (S_loadO rfl pkA (by rfl) (by rfl) ?_)
     refine WO_call rfl rfl rfl ?_
     refine (sp_bPut (i := i5) (w := w) (bs := (ts.take (4 * b + s)).map (·.has)) (b := x.has) (H0 := OB i9 TSlO x :: SO i4 ts [.pointer none, wr.toV, wt.toV] :: SL wr.toV TRec (tRecs ts (4 * b + s)) :: SL wt.toV TInt (tgs (tRecs ts (4 * b + s))) :: H) (by unfold BB; exact hsA) (by omega)).mono ?_
     rintro _ _ ⟨w', rfl⟩
     rw [← hhs]
     unfold BB
     refine WO_nil (KSeq_n (WC_seq (WC_region ?_)))
     refine WO_step rfl (S_pure rfl ?_)
     refine WO_step rfl (S_loadO rfl pkA (by rfl) (by rfl) ?_)
     refine WO_nil (KSeq_n ?_)
     refine WC_cond rfl (fun hb2 => ?_) (fun hb2 => ?_)
     ·
      try simp only [bsT] at hb2
      refine WC_seq (WC_region ?_)
      iterate 4 refine WO_step rfl (S_pure rfl ?_)
      refine WO_step rfl (S_loadSO (j := 1) hl rfl pkA rfl rfl ?_)
      refine WO_step rfl (S_pure rfl ?_)
      refine WO_step rfl (S_loadO (v := TRec.val x.r) rfl pkA (by rfl) (by rfl) ?_)
      refine WO_step rfl (S_lit1 (T := TRec) (y := x.r) rfl rfl rfl rfl fun w39 => ?_)
      refine WO_step rfl (S_app rfl rfl pkA (by first | exact SRC.str rfl rfl | (apply RD.src; repeat (first | assumption | exact RD.head | exact RD.nil | apply RD.tail))) (by rfl) (by rfl) (by (try simp only [List.length_append, List.length_cons, List.length_nil]); omega) fun w40 => ?_)
      iterate 2 refine WO_step rfl (S_pure rfl ?_)
      refine WO_step rfl (S_storeSO (j := 1) hl rfl rfl pkA rfl (by simp) (SV.cells _) (SV.one _) ?_)
      refine WO_nil (KSeq_n (WC_drawn ?_))
      refine WD_step rfl (S_pure rfl ?_)
      refine WD_step rfl (S_pure rfl ?_)
      refine WD_step rfl (S_pure rfl ?_)
      refine WD_step rfl (S_pure rfl ?_)
      refine WD_step rfl (S_loadSO (j := 2) hl rfl pkA rfl rfl ?_)
      refine WD_step rfl (S_pure rfl ?_)
      refine WD_step rfl (S_pure rfl ?_)
      refine WD_step rfl (S_loadO rfl pkA (by rfl) (by rfl) ?_)
      refine WD_call rfl rfl rfl ?_
      refine (sp_HashOf (s := x.r.key) (by omega)).mono ?_
      rintro _ _ ⟨rfl, rfl⟩
      rw [kH_eq]
      refine WD_call rfl rfl rfl ?_
      refine (sp_hTag (by omega)).mono ?_
      rintro _ _ ⟨rfl, rfl⟩
      refine WD_step rfl (S_lit1 (T := TInt) (y := ((tagOf (kH x.r.key) : Nat) : Int)) rfl rfl rfl rfl fun w53 => ?_)
      refine WD_step rfl (S_app rfl rfl pkA (by first | exact SRC.str rfl rfl | (apply RD.src; repeat (first | assumption | exact RD.head | exact RD.nil | apply RD.tail))) (by rfl) (by rfl) (by (try simp only [List.length_append, List.length_cons, List.length_nil]); omega) fun w54 => ?_)
      refine WD_step rfl (S_pure rfl ?_)
      refine WD_step rfl (S_pure rfl ?_)
      refine WD_step rfl (S_storeSO (j := 2) hl rfl rfl pkA rfl (by simp) (SV.cells _) (SV.one _) ?_)
      refine WD_nil ?_
      refine ⟨?_, ?_⟩
      ·
       refine ⟨?_, ?_, ?_, trivial⟩ <;> exact ObR.of_step rfl (S_loadSO (j := 2) hl rfl pkA rfl rfl (by cases wt <;> simp [eqV, eqV0, SV.toV]))
      ·
       refine KBlock_n (KSeq_n (WC_region ?_))
       first | refine WO_step rfl (S_addN (b := 1) rfl rfl (by omega) ?_) | refine WO_step rfl (S_pure rfl ?_)
       refine WO_step rfl (S_pure rfl ?_)
       refine WO_nil (KLoop_n ?_)
       rw [hb2, if_pos rfl] at hrs
       have := ih (4 - (s + 1)) (by omega) (s + 1) w' w40 w54 rfl (by omega)
       rw [show 4 * b + (s + 1) = 4 * b + s + 1 by omega, hrs, tgs_snoc] at this
       unfold BB at this
       exact WC_weak this seA hsA
     ·
      try simp only [bsT] at hb2
      refine WC_skip (KBlock_n (KSeq_n (WC_region ?_)))
      first | refine WO_step rfl (S_addN (b := 1) rfl rfl (by omega) ?_) | refine WO_step rfl (S_pure rfl ?_)
      refine WO_step rfl (S_pure rfl ?_)
      refine WO_nil (KLoop_n ?_)
      rw [hb2, if_neg (by decide), List.append_nil] at hrs
      have := ih (4 - (s + 1)) (by omega) (s + 1) w' wr wt rfl (by omega)
      rw [show 4 * b + (s + 1) = 4 * b + s + 1 by omega, hrs] at this
      unfold BB at this
      exact WC_weak this seA hsA
    ·
     try simp only [bsT] at hb1
     refine WC_exit (KSeq_x (KLoop_x ?_))
     have e4 : s = 4 := by omega
     subst e4
     exact KPost_i (H' := SO i4 ts [.pointer none, wr.toV, wt.toV] :: SL wr.toV TRec (tRecs ts (4 * b + 4)) :: SL wt.toV TInt (tgs (tRecs ts (4 * b + 4))) :: BB i5 w ((ts.take (4 * b + 4)).map (·.has)) H) seA (by unfold BB; exact hsA) ⟨w, wr, wt, rfl, rfl, rfl⟩
theorem lp_hN0 {H : SH} {ts : List SlT} {i4 i5 : Nat} (hl : ts.length = 32) (hk : kSmall ts) : ∀ (m b : Nat) (w wr wt : SV), 8 - b = m → b ≤ 8 →
    WC F X (.loop L_hashstore_New_0) [(19, .int .i64 (b : Int)), (18, tabV ts), (4, .pointer (some ⟨i4, 0, none⟩)), (5, .pointer (some ⟨i5, 0, none⟩))] (SO i4 ts [.pointer none, wr.toV, wt.toV] :: SL wr.toV TRec (tRecs ts (4 * b)) :: SL wt.toV TInt (tgs (tRecs ts (4 * b))) :: BB i5 w ((ts.take (4 * b)).map (·.has)) H)
      (KPost fun y l' H' => ∃ w wr wt : SV, y = .exit 0 ∧ l' = [(4, .pointer (some ⟨i4, 0, none⟩)), (5, .pointer (some ⟨i5, 0, none⟩))] ∧ H' = SO i4 ts [.pointer none, wr.toV, wt.toV] :: SL wr.toV TRec (tRecs ts 32) :: SL wt.toV TInt (tgs (tRecs ts 32)) :: BB i5 w (ts.map (·.has)) H) := by
  intro m
  induction m using Nat.strongRecOn with
  | _ m ih =>
    intro b w wr wt hn hb
    unfold BB
    refine WC_loop (WC_seq (WC_region ?_))
    refine WO_step rfl (S_pure rfl ?_)
    refine WO_nil (KSeq_n (WC_seq ?_))
    refine WC_cond rfl (fun hb1 => ?_) (fun hb1 => ?_)
    ·
     try simp only [bsT] at hb1
     have hb8 : b < 8 := by omega
     have hbkl := bk_len hl hb8
     refine WC_skip (KSeq_n (WC_seq (WC_block (WC_seq (WC_region ?_)))))
     refine WO_step rfl (S_idxBk (b := b) rfl rfl rfl hb8 hl ?_)
     refine WO_step rfl (S_new fun i7 => ?_)
     refine WO_step rfl (S_storeAll (T := TSlT) (xs := bk ts b) rfl rfl pkA (by rfl) (by rw [hbkl]; rfl) ?_)
     refine WO_nil (KSeq_n (WC_seq (WC_region ?_)))
     refine WO_step rfl (S_loadAll (T := TSlT) (xs := bk ts b) rfl pkA (by rw [hbkl]; rfl) ?_)
     refine WO_step rfl (S_pure rfl ?_)
     refine WO_nil (KSeq_n (WC_block ?_))
     refine WC_post (WC_weak (lp_hN1 (H := H) (ts := ts) (b := b) (i4 := i4) (i5 := i5) (tabV ts) hl hk hb8 4 0 w wr wt (by omega) (by omega)) seA (by unfold BB; exact hsA)) ?_
     rintro y l' _ ⟨w', wr', wt', rfl, rfl, rfl⟩
     refine KBlock_h (KBlock_n (KSeq_n (WC_region ?_)))
     first | refine WO_step rfl (S_addN (b := 1) rfl rfl (by omega) ?_) | refine WO_step rfl (S_pure rfl ?_)
     refine WO_step rfl (S_pure rfl ?_)
     refine WO_nil (KLoop_n ?_)
     have := ih (8 - (b + 1)) (by omega) (b + 1) w' wr' wt' rfl (by omega)
     rw [show 4 * (b + 1) = 4 * b + 4 by omega] at this
     exact WC_weak this seA HSub.refl
    ·
     try simp only [bsT] at hb1
     refine WC_exit (KSeq_x (KLoop_x ?_))
     have e8 : b = 8 := by omega
     subst e8
     have et : ts.take (4 * 8) = ts := List.take_of_length_le (by omega)
     rw [et]
     exact KPost_i (H' := SO i4 ts [.pointer none, wr.toV, wt.toV] :: SL wr.toV TRec (tRecs ts 32) :: SL wt.toV TInt (tgs (tRecs ts 32)) :: BB i5 w (ts.map (·.has)) H) seA (by unfold BB; exact hsA) ⟨w, wr, wt, rfl, rfl, rfl⟩
theorem sp_hNewOk {H : SH} {ts : List SlT} (hl : ts.length = 32) (hw : wfT ts) (hm : mayTab ts = true) : WF F X f_hashstore_New [tabV ts] H (fun r H' => ∃ (i i2 : Nat) (wk wr wt : SV), r = .tuple #[.pointer (some ⟨i, 0, none⟩), .int .i64 0] ∧ H' = STO i ts i2 wk wr wt H) := by
  refine WF_addNil (T := TByte) (WF_addNil (T := TRec) (WF_addNil (T := TInt) ?_))
  refine WF_fn F_hashstore_New ?_
  refine WC_seq (WC_region ?_)
  refine WO_step rfl (S_boxA (T := TSlT) (xs := ts) rfl fun i1 => ?_)
  iterate 2 refine WO_step rfl (S_pure rfl ?_)
  refine WO_nil (KSeq_n (WC_seq (WC_seq (WC_region ?_))))
  refine WO_step rfl (S_loadAll (T := TSlT) (xs := ts) rfl pkA (by rw [hl]; rfl) ?_)
  refine WO_call rfl rfl rfl ?_
  refine (sp_oMay hl hw.small).mono ?_
  rintro _ _ ⟨rfl, rfl⟩
  rw [hm]
  refine WO_step rfl (S_pure rfl ?_)
  refine WO_nil (KSeq_n ?_)
  refine WC_cond rfl (fun hb1 => ?_) (fun hb1 => ?_)
  ·
   try simp only [bsT] at hb1
   exact absurd hb1 (by simp)
   --stop
  ·
   try simp only [bsT] at hb1
   refine WC_skip (KSeq_n (WC_seq (WC_region ?_)))
   refine WO_step rfl (S_loadAll (T := TSlT) (xs := ts) rfl pkA (by rw [hl]; rfl) ?_)
   refine WO_step rfl (S_buildSO (p := .pointer none) (q := .slice none 0 0) (r := .slice none 0 0) rfl hl rfl rfl ?_)
   refine WO_step rfl (S_boxSO rfl (by rfl) fun i15 => ?_)
   refine WO_step rfl (S_pure rfl ?_)
   refine WO_nil (KSeq_n (WC_seq (WC_region ?_)))
   refine WO_step rfl (S_pure rfl ?_)
   refine WO_step rfl (S_box rfl rfl fun i17 => ?_)
   refine WO_step rfl (S_pure rfl ?_)
   refine WO_nil (KSeq_n (WC_seq (WC_seq (WC_region ?_))))
   refine WO_step rfl (S_loadAll (T := TSlT) (xs := ts) rfl pkA (by rw [hl]; rfl) ?_)
   refine WO_step rfl (S_pure rfl ?_)
   refine WO_nil (KSeq_n (WC_block ?_))
   have e0 : BB i17 .nil ((ts.take (4 * 0)).map (·.has)) H = BI i17 .nil 0 :: SL (SV.toV .nil) TByte [] :: H := by simp [BB, byts, nby]
   refine WC_post (WC_weak (lp_hN0 (H := H) (ts := ts) (i4 := i15) (i5 := i17) hl hw.small 8 0 .nil .nil .nil (by omega) (by omega)) seA (by rw [e0]; exact hsA)) ?_
   rintro y l' _ ⟨w, wr, wt, rfl, rfl, rfl⟩
   refine KBlock_h (KSeq_n (WC_seq (WC_region ?_)))
   iterate 2 refine WO_step rfl (S_pure rfl ?_)
   refine WO_call rfl rfl rfl ?_
   refine (WF.weak (sp_rkNew (H := SO i15 ts [.pointer none, wr.toV, wt.toV] :: SL wr.toV TRec (tRecs ts 32) :: SL wt.toV TInt (tgs (tRecs ts 32)) :: H) (ts := ts) (i0 := i17) (w0 := w) hl) (by unfold BB; exact hsA)).mono ?_
   rintro _ _ ⟨i2, wk, rfl, rfl⟩
   iterate 2 refine WO_step rfl (S_pure rfl ?_)
   refine WO_step rfl (S_storeSO (j := 0) hl rfl rfl pkA rfl (by simp) rfl rfl ?_)
   refine WO_nil (KSeq_n (WC_seq (WC_region ?_)))
   iterate 3 refine WO_step rfl (S_pure rfl ?_)
   refine WO_nil (KSeq_n (WC_ret ?_))
   refine KFn_r (ResL.tmp rfl (ResL.tmp rfl ResL.nil)) ?_
   exact ⟨STO i15 ts i2 wk wr wt H, (by unfold STO; exact hsA), i15, i2, wk, wr, wt, rfl, rfl⟩
def bkR (ts : List SlT) (b : Nat) : List Rec := ((bk ts b).filter (·.has)).map (·.r)
theorem tRecs_bk (ts : List SlT) (b : Nat) : tRecs ts (4 * b + 4) = tRecs ts (4 * b) ++ bkR ts b := by
  unfold tRecs bkR bk
  rw [List.take_add, List.filter_append, List.map_append]
theorem tRecs_pre (ts : List SlT) {a b : Nat} (h : a ≤ b) : ∃ R, tRecs ts b = tRecs ts a ++ R := by
  obtain ⟨c, rfl⟩ := Nat.exists_eq_add_of_le h
  unfold tRecs
  rw [List.take_add, List.filter_append, List.map_append]
  exact ⟨_, rfl⟩
theorem bkR_sub {ts : List SlT} {b : Nat} (hb : b < 8) : ((tRecs ts 32).drop (rk ts (4 * b))).take (rk ts (4 * b + 4) - rk ts (4 * b)) = bkR ts b := by
  obtain ⟨R, hR⟩ := tRecs_pre ts (a := 4 * b + 4) (b := 32) (by omega)
  have e := tRecs_bk ts b
  have h1 := rk_tRecs ts (4 * b)
  have h2 := rk_tRecs ts (4 * b + 4)
  rw [e, List.length_append] at h2
  rw [hR, e, List.append_assoc, List.drop_append_of_le_length (by omega), List.drop_of_length_le (by omega), List.nil_append, List.take_append_of_le_length (by omega), List.take_of_length_le (by omega)]
theorem rk_mono {ts : List SlT} {a b : Nat} (h : a ≤ b) : rk ts a ≤ rk ts b := by
  obtain ⟨R, hR⟩ := tRecs_pre ts h
  have := congrArg List.length hR
  rw [List.length_append, rk_tRecs, rk_tRecs] at this
  omega
def likeB (L : List Rec) (t : Nat) : List Rec := L.filter fun r => decide (tagOf (kH r.key) = t)
theorem likeB_len (L : List Rec) (t : Nat) : (likeB L t).length ≤ L.length := List.length_filter_le _ _
theorem likeB_snoc (L : List Rec) (r : Rec) (t : Nat) : likeB (L ++ [r]) t = likeB L t ++ if tagOf (kH r.key) = t then [r] else [] := by
  unfold likeB
  rw [List.filter_append]
  congr 1
  by_cases h : tagOf (kH r.key) = t <;> simp [h]
def likeL (ts : List SlT) (k : ByteArray) : List Rec := likeB (bkR ts (frst (kH k))) (tagOf (kH k)) ++ likeB (bkR ts (oth (frst (kH k)) (tagOf (kH k)))) (tagOf (kH k))
theorem bkR_len {ts : List SlT} (b : Nat) : (bkR ts b).length ≤ 4 := by
  unfold bkR bk
  rw [List.length_map]
  exact Nat.le_trans (List.length_filter_le _ _) (by rw [List.length_take]; omega)
theorem likeL_len (ts : List SlT) (k : ByteArray) : (likeL ts k).length ≤ 8 := by
  unfold likeL
  have h1 := likeB_len (bkR ts (frst (kH k))) (tagOf (kH k))
  have h2 := likeB_len (bkR ts (oth (frst (kH k)) (tagOf (kH k)))) (tagOf (kH k))
  have h3 := bkR_len (ts := ts) (frst (kH k))
  have h4 := bkR_len (ts := ts) (oth (frst (kH k)) (tagOf (kH k)))
  rw [List.length_append]; omega
def accN (ts : List SlT) (b0 b1 t : Nat) : Nat → List Rec
  | 0 => []
  | 1 => likeB (bkR ts b0) t
  | _ => likeB (bkR ts b0) t ++ likeB (bkR ts b1) t
theorem S_idxV2 {l : SE} {H : SH} {K : Value → SH → Prop} {j : Nat} {x y : Opd} {kd : IntKind} {J a b : Int} (hx : x.lv l = some (.agg #[.int .i64 a, .int .i64 b])) (hy : y.lv l = some (.int kd J)) (hJ : J = (j : Int)) (hj : j < 2) (k : K (.int .i64 (if j = 0 then a else b)) H) : Step (.idxV 2 false 1 x y) l H K :=
  fun e h hA hH => by
    subst hJ
    refine ⟨_, h, H, ?_, hH, k⟩
    simp only [ev, Opd.lv_ev hA hx, Opd.lv_ev hA hy]
    have : j = 0 ∨ j = 1 := by omega
    rcases this with rfl | rfl <;> rfl
theorem lp_like1 {H : SH} {ts : List SlT} {i i2 b t : Nat} {wk wr wt : SV} {acc : List Rec} (v1 v5 v23 v24 : Value) (hl : ts.length = 32) (hb : b < 8) (hacc : acc.length ≤ 8) : ∀ (m p : Nat) (w7 : SV), rk ts (4 * b + 4) - p = m → rk ts (4 * b) ≤ p → p ≤ rk ts (4 * b + 4) →
    WC F X (.loop L_hashstore_Store_like_1) [(10, .int .i64 (p : Int)), (0, .pointer (some ⟨i, 0, none⟩)), (9, .int .i64 (b : Int)), (6, .int .i64 (t : Int)), (7, w7.toV), (1, v1), (5, v5), (23, v23), (24, v24)] (SL w7.toV TRec (acc ++ likeB (((tRecs ts 32).drop (rk ts (4 * b))).take (p - rk ts (4 * b))) t) :: STO i ts i2 wk wr wt H)
      (KPost fun y l' H' => ∃ w7 : SV, y = .exit 2 ∧ l' = [(0, .pointer (some ⟨i, 0, none⟩)), (6, .int .i64 (t : Int)), (7, w7.toV), (1, v1), (5, v5), (23, v23), (24, v24)] ∧ H' = SL w7.toV TRec (acc ++ likeB (bkR ts b) t) :: STO i ts i2 wk wr wt H) := by
  have hR := rk_tRecs ts 32
  have hRl := rk_le ts 32
  have hmono := rk_mono (ts := ts) (a := 4 * b + 4) (b := 32) (by omega)
  have htg := tgs_len (tRecs ts 32)
  have hrkl := rk_le ts (4 * b)
  have hrk4 := rk_mono (ts := ts) (a := 4 * b) (b := 4 * b + 4) (by omega)
  intro m
  induction m using Nat.strongRecOn with
  | _ m ih =>
    intro p w7 hn hp1 hp2
    have hlk := likeB_len (((tRecs ts 32).drop (rk ts (4 * b))).take (p - rk ts (4 * b))) t
    have htk : (((tRecs ts 32).drop (rk ts (4 * b))).take (p - rk ts (4 * b))).length ≤ 32 := by rw [List.length_take, List.length_drop]; omega
    unfold STO
    refine WC_loop (WC_seq (WC_seq (WC_region ?_)))
    iterate 4 refine WO_step rfl (S_pure rfl ?_)
    refine WO_step rfl (S_loadSO (j := 0) hl rfl pkA rfl rfl ?_)
    refine WO_step rfl (S_pure rfl ?_)
    first | refine WO_step rfl (S_addN (b := 1) rfl rfl (by omega) ?_) | refine WO_step rfl (S_pure rfl ?_)
    refine WO_step rfl (S_mulN (a := b + 1) (b := 4) rfl rfl (by omega) ?_)
    refine WO_call rfl rfl rfl ?_
    refine (sp_Ones (i := i2) (k := (b + 1) * 4) (w := wk) (ts := ts) pkA rdA (by omega)).mono ?_
    rintro _ _ ⟨rfl, rfl⟩
    rw [show (b + 1) * 4 = 4 * b + 4 by omega]
    refine WO_step rfl (S_pure rfl ?_)
    refine WO_nil (KSeq_n ?_)
    refine WC_cond rfl (fun hb1 => ?_) (fun hb1 => ?_)
    ·
     try simp only [bsT] at hb1
     obtain ⟨x, hx⟩ := get_of_lt (show p < (tRecs ts 32).length by omega)
     have hxt : (tgs (tRecs ts 32))[p]? = some ((tagOf (kH x.key) : Nat) : Int) := by unfold tgs; rw [List.getElem?_map, hx]; rfl
     have hsn : ((tRecs ts 32).drop (rk ts (4 * b))).take (p + 1 - rk ts (4 * b)) = ((tRecs ts 32).drop (rk ts (4 * b))).take (p - rk ts (4 * b)) ++ [x] := by
       rw [show p + 1 - rk ts (4 * b) = (p - rk ts (4 * b)) + 1 by omega, List.take_add_one, List.getElem?_drop, show rk ts (4 * b) + (p - rk ts (4 * b)) = p by omega, hx]; rfl
     refine WC_skip (KSeq_n (WC_seq (WC_block (WC_seq (WC_region ?_)))))
     iterate 3 refine WO_step rfl (S_pure rfl ?_)
     refine WO_step rfl (S_loadSO (j := 2) hl rfl pkA rfl rfl ?_)
     refine WO_step rfl (S_pure rfl ?_)
     refine WO_step rfl (S_idx rfl rfl rdA (by first | rfl | assumption | (symm; assumption)) (by rfl) (by first | assumption | omega | exact lt_of_get (by assumption) | (simp only [List.length_set]; first | assumption | omega | exact lt_of_get (by assumption))) fun hp51 => ?_)
     refine WO_step rfl (S_loadE rfl rdA (by first | rfl | assumption | (symm; assumption)) (by first | rfl | assumption | (symm; assumption)) (by first | rfl | assumption | (symm; assumption)) hxt ?_)
     refine WO_step rfl (S_pure rfl ?_)
     first | refine WO_step rfl (S_eqS rfl rfl ?_) | refine WO_step rfl (S_pure rfl ?_)
     refine WO_nil (KSeq_n ?_)
     refine WC_cond rfl (fun hb2 => ?_) (fun hb2 => ?_)
     ·
      try simp only [bsT] at hb2
      refine WC_region ?_
      iterate 4 refine WO_step rfl (S_pure rfl ?_)
      refine WO_step rfl (S_loadSO (j := 1) hl rfl pkA rfl rfl ?_)
      refine WO_step rfl (S_pure rfl ?_)
      refine WO_step rfl (S_idx rfl rfl rdA (by first | rfl | assumption | (symm; assumption)) (by rfl) (by first | assumption | omega | exact lt_of_get (by assumption) | (simp only [List.length_set]; first | assumption | omega | exact lt_of_get (by assumption))) fun hp61 => ?_)
      refine WO_step rfl (S_loadE rfl rdA (by first | rfl | assumption | (symm; assumption)) (by first | rfl | assumption | (symm; assumption)) (by first | rfl | assumption | (symm; assumption)) hx ?_)
      refine WO_step rfl (S_lit1 (T := TRec) (y := x) rfl rfl rfl rfl fun w63 => ?_)
      refine WO_step rfl (S_app rfl rfl pkA (by first | exact SRC.str rfl rfl | (apply RD.src; repeat (first | assumption | exact RD.head | exact RD.nil | apply RD.tail))) (by rfl) (by rfl) (by simp only [List.length_append, List.length_cons, List.length_nil]; omega) fun w64 => ?_)
      refine WO_step rfl (S_pure rfl ?_)
      refine WO_nil (KBlock_n (KSeq_n (WC_region ?_)))
      refine WO_step rfl (S_pure rfl ?_)
      first | refine WO_step rfl (S_addN (b := 1) rfl rfl (by omega) ?_) | refine WO_step rfl (S_pure rfl ?_)
      refine WO_step rfl (S_pure rfl ?_)
      refine WO_nil (KLoop_n ?_)
      have he : tagOf (kH x.key) = t := by first | omega | simpa [TInt, Ty.ofOne] using hb2
      have := ih (rk ts (4 * b + 4) - (p + 1)) (by omega) (p + 1) w64 rfl (by omega) (by omega)
      rw [hsn, likeB_snoc, if_pos he, ← List.append_assoc] at this
      unfold STO at this
      exact WC_weak this seA hsA
     ·
      try simp only [bsT] at hb2
      refine WC_skip (KBlock_n (KSeq_n (WC_region ?_)))
      refine WO_step rfl (S_pure rfl ?_)
      first | refine WO_step rfl (S_addN (b := 1) rfl rfl (by omega) ?_) | refine WO_step rfl (S_pure rfl ?_)
      refine WO_step rfl (S_pure rfl ?_)
      refine WO_nil (KLoop_n ?_)
      have he : ¬ tagOf (kH x.key) = t := by first | omega | simpa [TInt, Ty.ofOne] using hb2
      have := ih (rk ts (4 * b + 4) - (p + 1)) (by omega) (p + 1) w7 rfl (by omega) (by omega)
      rw [hsn, likeB_snoc, if_neg he, List.append_nil] at this
      unfold STO at this
      exact WC_weak this seA hsA
    ·
     try simp only [bsT] at hb1
     refine WC_exit (KSeq_x (KLoop_x ?_))
     have ep : p = rk ts (4 * b + 4) := by omega
     subst ep
     rw [bkR_sub hb]
     exact KPost_i (H' := SL w7.toV TRec (acc ++ likeB (bkR ts b) t) :: STO i ts i2 wk wr wt H) seA (by unfold STO; exact hsA) ⟨w7, rfl, rfl, rfl⟩
theorem lp_like0 {H : SH} {ts : List SlT} {i i2 b0 b1 t : Nat} {wk wr wt : SV} (v1 v5 : Value) (hl : ts.length = 32) (h0 : b0 < 8) (h1 : b1 < 8) : ∀ (m j : Nat) (w7 : SV), 2 - j = m → j ≤ 2 →
    WC F X (.loop L_hashstore_Store_like_0) [(24, .int .i64 (j : Int)), (23, .agg #[.int .i64 (b0 : Int), .int .i64 (b1 : Int)]), (0, .pointer (some ⟨i, 0, none⟩)), (6, .int .i64 (t : Int)), (7, w7.toV), (1, v1), (5, v5)] (SL w7.toV TRec (accN ts b0 b1 t j) :: STO i ts i2 wk wr wt H)
      (KPost fun y l' H' => ∃ w7 : SV, y = .exit 0 ∧ l' = [(7, w7.toV)] ∧ H' = SL w7.toV TRec (accN ts b0 b1 t 2) :: STO i ts i2 wk wr wt H) := by
  intro m
  induction m using Nat.strongRecOn with
  | _ m ih =>
    intro j w7 hn hj
    unfold STO
    refine WC_loop (WC_seq (WC_region ?_))
    refine WO_step rfl (S_pure rfl ?_)
    refine WO_nil (KSeq_n (WC_seq ?_))
    refine WC_cond rfl (fun hb1 => ?_) (fun hb1 => ?_)
    ·
     try simp only [bsT] at hb1
     obtain ⟨b, hb⟩ : ∃ b : Nat, (if j = 0 then b0 else b1) = b := ⟨_, rfl⟩
     have hb8 : b < 8 := by rw [← hb]; split <;> assumption
     have hbI : (if j = 0 then (b0 : Int) else (b1 : Int)) = (b : Int) := by rw [← hb]; split <;> rfl
     have hac : accN ts b0 b1 t (j + 1) = accN ts b0 b1 t j ++ likeB (bkR ts b) t := by
       have : j = 0 ∨ j = 1 := by omega
       rcases this with rfl | rfl
       · simp at hb; subst hb; rfl
       · simp at hb; subst hb; rfl
     have hal : (accN ts b0 b1 t j).length ≤ 8 := by
       have : j = 0 ∨ j = 1 := by omega
       rcases this with rfl | rfl
       · exact Nat.zero_le _
       · have h1 := likeB_len (bkR ts b0) t
         have h3 := bkR_len (ts := ts) b0
         show (likeB (bkR ts b0) t).length ≤ 8
         omega
     refine WC_skip (KSeq_n (WC_seq (WC_block (WC_seq (WC_region ?_)))))
     refine WO_step rfl (S_idxV2 (j := j) rfl rfl rfl (by omega) ?_)
     rw [hbI]
     refine WO_step rfl (S_pure rfl ?_)
     refine WO_nil (KSeq_n (WC_seq (WC_region ?_)))
     iterate 3 refine WO_step rfl (S_pure rfl ?_)
     refine WO_step rfl (S_loadSO (j := 0) hl rfl pkA rfl rfl ?_)
     refine WO_step rfl (S_pure rfl ?_)
     refine WO_step rfl (S_mulN (a := b) (b := 4) rfl rfl (by omega) ?_)
     refine WO_call rfl rfl rfl ?_
     refine (sp_Ones (i := i2) (k := b * 4) (w := wk) (ts := ts) pkA rdA (by omega)).mono ?_
     rintro _ _ ⟨rfl, rfl⟩
     rw [show b * 4 = 4 * b by omega]
     refine WO_step rfl (S_pure rfl ?_)
     refine WO_nil (KSeq_n (WC_block ?_))
     have hz : accN ts b0 b1 t j = accN ts b0 b1 t j ++ likeB (((tRecs ts 32).drop (rk ts (4 * b))).take (rk ts (4 * b) - rk ts (4 * b))) t := by rw [Nat.sub_self]; simp [likeB]
     have hrk4 := rk_mono (ts := ts) (a := 4 * b) (b := 4 * b + 4) (by omega)
     refine WC_post (WC_weak (lp_like1 (H := H) (ts := ts) (i := i) (i2 := i2) (b := b) (t := t) (wk := wk) (wr := wr) (wt := wt) (acc := accN ts b0 b1 t j) v1 v5 (.agg #[.int .i64 (b0 : Int), .int .i64 (b1 : Int)]) (.int .i64 (j : Int)) hl hb8 hal (rk ts (4 * b + 4) - rk ts (4 * b)) (rk ts (4 * b)) w7 rfl (Nat.le_refl _) hrk4) seA (by rw [← hz]; unfold STO; exact hsA)) ?_
     rintro y l' _ ⟨w', rfl, rfl, rfl⟩
     rw [← hac]
     refine KBlock_h (KBlock_n (KSeq_n (WC_region ?_)))
     first | refine WO_step rfl (S_addN (b := 1) rfl rfl (by omega) ?_) | refine WO_step rfl (S_pure rfl ?_)
     refine WO_step rfl (S_pure rfl ?_)
     refine WO_nil (KLoop_n ?_)
     exact WC_weak (ih (2 - (j + 1)) (by omega) (j + 1) w' rfl (by omega)) seA HSub.refl
    ·
     try simp only [bsT] at hb1
     refine WC_exit (KSeq_x (KLoop_x ?_))
     have ej : j = 2 := by omega
     subst ej
     exact KPost_i (H' := SL w7.toV TRec (accN ts b0 b1 t 2) :: STO i ts i2 wk wr wt H) seA (by unfold STO; exact hsA) ⟨w7, rfl, rfl, rfl⟩
theorem sp_like {H : SH} {ts : List SlT} {i i2 : Nat} {wk wr wt : SV} {k : ByteArray} (hl : ts.length = 32) (hk : k.size ≤ 1000000) : WF F X f_hashstore_Store_like [.pointer (some ⟨i, 0, none⟩), .string k] (STO i ts i2 wk wr wt H) (fun r H' => ∃ w : SV, r = w.toV ∧ H' = SL w.toV TRec (likeL ts k) :: STO i ts i2 wk wr wt H) := by
  refine WF_addNil (T := TRec) ?_
  have hkl2 := kH_lt k
  have hf8 := frst_lt (kH k)
  have ht8 := tagOf_lt (kH k)
  have ho8 := oth_lt (t := tagOf (kH k)) hf8
  unfold STO
  refine WF_fn F_hashstore_Store_like ?_
  refine WC_seq (WC_region ?_)
  refine WO_step rfl (S_pure rfl ?_)
  refine WO_nil (KSeq_n (WC_seq (WC_seq (WC_region ?_))))
  iterate 2 refine WO_step rfl (S_pure rfl ?_)
  refine WO_nil (KSeq_n ?_)
  refine WC_cond rfl (fun hb1 => ?_) (fun hb1 => ?_)
  ·
   try simp only [bsT] at hb1
   exact absurd hb1 (by simp)
   --stop
  ·
   try simp only [bsT] at hb1
   refine WC_skip (KSeq_n (WC_seq (WC_region ?_)))
   refine WO_step rfl (S_pure rfl ?_)
   refine WO_call rfl rfl rfl ?_
   refine (sp_HashOf (s := k) hk).mono ?_
   rintro _ _ ⟨rfl, rfl⟩
   rw [kH_eq]
   refine WO_step rfl (S_pure rfl ?_)
   refine WO_nil (KSeq_n (WC_seq (WC_region ?_)))
   refine WO_step rfl (S_pure rfl ?_)
   refine WO_call rfl rfl rfl ?_
   refine (sp_hTag (by omega)).mono ?_
   rintro _ _ ⟨rfl, rfl⟩
   refine WO_step rfl (S_pure rfl ?_)
   refine WO_nil (KSeq_n (WC_seq (WC_region ?_)))
   refine WO_step rfl (S_pure rfl ?_)
   refine WO_nil (KSeq_n (WC_seq (WC_seq (WC_region ?_))))
   refine WO_step rfl (S_pure rfl ?_)
   refine WO_call rfl rfl rfl ?_
   refine (sp_hFirst (by omega)).mono ?_
   rintro _ _ ⟨rfl, rfl⟩
   refine WO_step rfl (S_pure rfl ?_)
   refine WO_call rfl rfl rfl ?_
   refine (sp_hFirst (by omega)).mono ?_
   rintro _ _ ⟨rfl, rfl⟩
   refine WO_step rfl (S_pure rfl ?_)
   refine WO_call rfl rfl rfl ?_
   refine (sp_hOther (by assumption) (by assumption)).mono ?_
   rintro _ _ ⟨rfl, rfl⟩
   iterate 2 refine WO_step rfl (S_pure rfl ?_)
   refine WO_nil (KSeq_n (WC_block ?_))
   refine WC_post (WC_weak (lp_like0 (H := H) (ts := ts) (i := i) (i2 := i2) (b0 := frst (kH k)) (b1 := oth (frst (kH k)) (tagOf (kH k))) (t := tagOf (kH k)) (wk := wk) (wr := wr) (wt := wt) (.string k) (.int .u64 ((kH k : Nat) : Int)) hl hf8 ho8 2 0 .nil (by omega) (by omega)) seA (by unfold STO; exact hsA)) ?_
   rintro y l' _ ⟨w', rfl, rfl, rfl⟩
   refine KBlock_h (KSeq_n (WC_seq (WC_region ?_)))
   iterate 2 refine WO_step rfl (S_pure rfl ?_)
   refine WO_nil (KSeq_n (WC_ret ?_))
   refine KFn_r (ResL.tmp rfl ResL.nil) ?_
   exact ⟨_, HSub.refl, w', rfl, rfl⟩
def getP (i4 : Nat) (H : SH) (o : Option Rec) : KP := fun x l' H' => match o with
  | some q => x = .ret ∧ l' = [(4, .pointer (some ⟨i4, 0, none⟩)), (5, .bool true)] ∧ H' = OB i4 TRec q :: H
  | none => x = .exit 0 ∧ l' = [(4, .pointer (some ⟨i4, 0, none⟩))] ∧ H' = OB i4 TRec rec0 :: H
theorem lp_hGet {H : SH} {v : Value} {l : List Rec} {k : ByteArray} (hv : RD H v TRec l) (hb : l.length ≤ 8) (i4 : Nat) : ∀ (n a : Nat), l.length - a = n → a ≤ l.length → fnd (l.drop a) k = fnd l k →
    WC F X (.loop L_hashstore_Store_Get_0) [(12, .int .i64 (a : Int)), (11, .int .i64 (l.length : Int)), (10, v), (1, .string k), (4, .pointer (some ⟨i4, 0, none⟩))] (OB i4 TRec rec0 :: H) (KPost (getP i4 H (fnd l k))) := by
  intro n
  induction n using Nat.strongRecOn with
  | _ n ih =>
    intro a hn ha hf
    refine WC_loop (WC_seq (WC_region ?_))
    refine WO_step rfl (S_pure rfl ?_)
    refine WO_nil (KSeq_n (WC_seq ?_))
    refine WC_cond rfl (fun hb1 => ?_) (fun hb1 => ?_)
    ·
     try simp only [bsT] at hb1
     obtain ⟨x, hx⟩ := get_of_lt (show a < l.length by omega)
     rw [drop_get hx] at hf
     refine WC_skip (KSeq_n (WC_seq (WC_block (WC_seq (WC_region ?_)))))
     refine WO_step rfl (S_idx rfl rfl rdA (by first | rfl | assumption | (symm; assumption)) (by rfl) (by first | assumption | omega | exact lt_of_get (by assumption) | (simp only [List.length_set]; first | assumption | omega | exact lt_of_get (by assumption))) fun hp14 => ?_)
     refine WO_step rfl (S_loadE (T := TRec) rfl rdA (by first | rfl | assumption | (symm; assumption)) (by first | rfl | assumption | (symm; assumption)) (by first | rfl | assumption | (symm; assumption)) hx ?_)
     refine WO_step rfl (S_new fun i7 => ?_)
     first | refine WO_step rfl (S_storeT rfl rfl pkA (by rfl) (by rfl) ?_) | refine WO_step rfl (S_storeO rfl rfl pkA (by first | rfl | exact SV.cells1 _) (by rfl) (by first | rfl | exact SV.ones _) ?_)
     refine WO_nil (KSeq_n (WC_seq (WC_region ?_)))
     refine WO_step rfl (S_pure rfl ?_)
     refine WO_step rfl (S_loadO rfl pkA (by rfl) (by rfl) ?_)
     refine WO_step rfl (S_pure rfl ?_)
     first | refine WO_step rfl (S_eqS rfl rfl ?_) | refine WO_step rfl (S_pure rfl ?_)
     refine WO_nil (KSeq_n ?_)
     refine WC_cond rfl (fun hb2 => ?_) (fun hb2 => ?_)
     ·
      try simp only [bsT] at hb2
      refine WC_seq (WC_region ?_)
      first | refine WO_step rfl (S_loadT rfl pkA (by rfl) (by rfl) ?_) | refine WO_step rfl (S_loadO rfl pkA (by rfl) (by rfl) ?_)
      refine WO_step rfl (S_storeO rfl rfl pkA (by first | rfl | exact SV.cells1 _) (by rfl) (by first | rfl | exact SV.ones _) ?_)
      refine WO_step rfl (S_pure rfl ?_)
      refine WO_nil (KSeq_n (WC_ret (KBlock_r (KSeq_r (KLoop_r ?_)))))
      rw [← hf]; simp only [fnd, hb2, if_true]
      exact KPost_i seA hsA ⟨rfl, rfl, rfl⟩
     ·
      try simp only [bsT] at hb2
      refine WC_skip (KBlock_n (KSeq_n (WC_region ?_)))
      first | refine WO_step rfl (S_addN (b := 1) rfl rfl (by omega) ?_) | refine WO_step rfl (S_pure rfl ?_)
      refine WO_step rfl (S_pure rfl ?_)
      refine WO_nil (KLoop_n ?_)
      simp only [fnd, hb2, if_false] at hf
      exact WC_weak (ih (l.length - (a + 1)) (by omega) (a + 1) rfl (by omega) hf) seA hsA
    ·
     try simp only [bsT] at hb1
     refine WC_exit (KSeq_x (KLoop_x ?_))
     rw [← hf, List.drop_of_length_le (by omega)]
     exact KPost_i seA hsA ⟨rfl, rfl, rfl⟩
theorem sp_hGet {H : SH} {ts : List SlT} {i i2 : Nat} {wk wr wt : SV} {k : ByteArray} (hl : ts.length = 32) (hk : k.size ≤ 1000000) : WF F X f_hashstore_Store_Get [.pointer (some ⟨i, 0, none⟩), .string k] (STO i ts i2 wk wr wt H) (fun r H' => H' = STO i ts i2 wk wr wt H ∧ r = .tuple #[TRec.val ((fnd (likeL ts k) k).getD rec0), .bool (fnd (likeL ts k) k).isSome]) := by
  have hll := likeL_len ts k
  obtain ⟨L, hL⟩ : ∃ L, likeL ts k = L := ⟨_, rfl⟩
  rw [hL] at hll ⊢
  refine WF_fn F_hashstore_Store_Get ?_
  refine WC_seq (WC_region ?_)
  refine WO_step rfl (S_new fun i4 => ?_)
  refine WO_step rfl (S_pure rfl ?_)
  refine WO_nil (KSeq_n (WC_seq (WC_seq (WC_region ?_))))
  iterate 2 refine WO_step rfl (S_pure rfl ?_)
  refine WO_call rfl rfl rfl ?_
  refine (WF.weak (sp_like (X := X) (H := OB i4 TRec rec0 :: H) (i := i) (i2 := i2) (wk := wk) (wr := wr) (wt := wt) hl hk) (by unfold STO; exact hsA)).mono ?_
  rintro _ _ ⟨w10, rfl, rfl⟩
  rw [hL]
  unfold STO
  first | refine WO_step rfl (S_pure rfl ?_) | refine WO_step rfl (S_lenS rfl rdA ?_)
  refine WO_step rfl (S_pure rfl ?_)
  refine WO_nil (KSeq_n (WC_block ?_))
  refine WC_post (WC_weak (lp_hGet (X := X) (H := SL w10.toV TRec L :: STO i ts i2 wk wr wt H) (v := w10.toV) (l := L) (k := k) rdA (by omega) i4 L.length 0 (by omega) (by omega) rfl) seA (by unfold STO; exact hsA)) ?_
  intro x l' H' hp
  unfold getP at hp
  split at hp
  ·
   rename_i q hq
   obtain ⟨rfl, rfl, rfl⟩ := hp
   rw [hq]
   refine KBlock_r (KSeq_r ?_)
   refine KFn_r (ResL.cell rfl pkA (Nat.le_of_ble_eq_true rfl) rfl (ResL.tmp rfl ResL.nil)) ?_
   exact ⟨_, hsA, rfl, rfl⟩
  ·
   rename_i hq
   obtain ⟨rfl, rfl, rfl⟩ := hp
   rw [hq]
   refine KBlock_h (KSeq_n (WC_seq (WC_region ?_)))
   refine WO_step rfl (S_pure rfl ?_)
   first | refine WO_step rfl (S_storeT rfl rfl pkA (by rfl) (by rfl) ?_) | refine WO_step rfl (S_storeO rfl rfl pkA (by first | rfl | exact SV.cells1 _) (by rfl) (by first | rfl | exact SV.ones _) ?_)
   refine WO_step rfl (S_pure rfl ?_)
   refine WO_nil (KSeq_n (WC_ret ?_))
   refine KFn_r (ResL.cell rfl pkA (Nat.le_of_ble_eq_true rfl) rfl (ResL.tmp rfl ResL.nil)) ?_
   exact ⟨_, hsA, rfl, rfl⟩
theorem sp_hReads {H : SH} {ts : List SlT} {i i2 : Nat} {wk wr wt : SV} {k : ByteArray} (hl : ts.length = 32) (hk : k.size ≤ 1000000) : WF F X f_hashstore_Store_Reads [.pointer (some ⟨i, 0, none⟩), .string k] (STO i ts i2 wk wr wt H) (fun r H' => H' = STO i ts i2 wk wr wt H ∧ r = .int .i64 ((likeL ts k).length : Int)) := by
  have hll := likeL_len ts k
  refine WF_fn F_hashstore_Store_Reads ?_
  refine WC_seq (WC_region ?_)
  refine WO_step rfl (S_pure rfl ?_)
  refine WO_nil (KSeq_n (WC_seq (WC_region ?_)))
  iterate 2 refine WO_step rfl (S_pure rfl ?_)
  refine WO_call rfl rfl rfl ?_
  refine (sp_like (X := X) hl hk).mono ?_
  rintro _ _ ⟨w10, rfl, rfl⟩
  first | refine WO_step rfl (S_pure rfl ?_) | refine WO_step rfl (S_lenS rfl rdA ?_)
  refine WO_step rfl (S_pure rfl ?_)
  refine WO_nil (KSeq_n (WC_ret ?_))
  refine KFn_r (ResL.tmp rfl ResL.nil) ?_
  exact ⟨_, hsA, rfl, rfl⟩
theorem sp_hList {H : SH} {ts : List SlT} {i i2 : Nat} {wk wr wt : SV} (hl : ts.length = 32) (hs : kSmall ts) : WF F X f_hashstore_Store_List [.pointer (some ⟨i, 0, none⟩)] (STO i ts i2 wk wr wt H) (fun r H' => ∃ u : SV, r = u.toV ∧ H' = SL u.toV TRec (newest (tRecs ts 32)) :: STO i ts i2 wk wr wt H) := by
  unfold STO
  refine WF_fn F_hashstore_Store_List ?_
  refine WC_seq (WC_region ?_)
  refine WO_step rfl (S_pure rfl ?_)
  refine WO_nil (KSeq_n (WC_seq (WC_seq (WC_region ?_))))
  iterate 2 refine WO_step rfl (S_pure rfl ?_)
  refine WO_nil (KSeq_n ?_)
  refine WC_cond rfl (fun hb1 => ?_) (fun hb1 => ?_)
  ·
   try simp only [bsT] at hb1
   exact absurd hb1 (by simp)
   --stop
  ·
   try simp only [bsT] at hb1
   refine WC_skip (KSeq_n (WC_seq (WC_region ?_)))
   iterate 3 refine WO_step rfl (S_pure rfl ?_)
   refine WO_step rfl (S_loadSOt hl rfl pkA ?_)
   refine WO_call rfl rfl rfl ?_
   refine (sp_oList hl hs).mono ?_
   rintro _ _ ⟨u, rfl, rfl⟩
   refine WO_step rfl (S_pure rfl ?_)
   refine WO_nil (KSeq_n (WC_ret ?_))
   refine KFn_r (ResL.tmp rfl ResL.nil) ?_
   exact ⟨_, hsA, u, rfl, rfl⟩
theorem sp_hLen {H : SH} {ts : List SlT} {i i2 : Nat} {wk wr wt : SV} (hl : ts.length = 32) : WF F X f_hashstore_Store_Len [.pointer (some ⟨i, 0, none⟩)] (STO i ts i2 wk wr wt H) (fun r H' => H' = STO i ts i2 wk wr wt H ∧ r = .int .i64 ((tRecs ts 32).length : Int)) := by
  have hrl := rk_tRecs ts 32
  unfold STO
  refine WF_fn F_hashstore_Store_Len ?_
  refine WC_seq (WC_region ?_)
  refine WO_step rfl (S_pure rfl ?_)
  refine WO_nil (KSeq_n (WC_seq (WC_seq (WC_region ?_))))
  iterate 2 refine WO_step rfl (S_pure rfl ?_)
  refine WO_nil (KSeq_n ?_)
  refine WC_cond rfl (fun hb1 => ?_) (fun hb1 => ?_)
  ·
   try simp only [bsT] at hb1
   exact absurd hb1 (by simp)
   --stop
  ·
   try simp only [bsT] at hb1
   refine WC_skip (KSeq_n (WC_seq (WC_region ?_)))
   iterate 3 refine WO_step rfl (S_pure rfl ?_)
   refine WO_step rfl (S_loadSO (j := 1) hl rfl pkA rfl rfl ?_)
   first | refine WO_step rfl (S_pure rfl ?_) | refine WO_step rfl (S_lenS rfl rdA ?_)
   refine WO_step rfl (S_pure rfl ?_)
   refine WO_nil (KSeq_n (WC_ret ?_))
   refine KFn_r (ResL.tmp rfl ResL.nil) ?_
   exact ⟨_, hsA, rfl, rfl⟩
   /-! ### No store -/
end Go.Proofs.YtpnmeednimpjdaaGreat.AM
namespace Go.Proofs.YtpnmeednimpjdaaGreat.AM
open Go Go.RowKit
set_option linter.unusedSimpArgs false
set_option linter.unusedVariables false
theorem inL_mem : ∀ {l : List Nat} {t : Nat}, inL l t = true → t ∈ l
  | [], t, h => by simp [inL] at h
  | k :: l, t, h => by
    simp only [inL] at h
    cases hb : Nat.beq k t with
    | true => have := Nat.eq_of_beq_eq_true hb; simp [this]
    | false => rw [hb] at h; exact List.mem_cons_of_mem _ (inL_mem h)
theorem inL_all {l : List Nat} {t : Nat} {p : Nat → Bool} (ha : l.all p = true) (h : inL l t = true) : p t = true := List.all_eq_true.1 ha t (inL_mem h)
structure DE where
  i : Nat
  o : RO
  t : Tr1
def OkS (F : Funs) (X : Exts) (o : RO) (e : Env) (h : AH) (v : Value) (h1 : AH) : Prop :=
  (wants o.guard e = some false ∧ v = undef ∧ h1 = h) ∨ (wants o.guard e = some true ∧ ((o.op.isCall = false ∧ ev o.op e h = some (v, h1)) ∨
    ∃ f args g vs, o.op = .call f args ∧ callee f args e = some (g, vs) ∧ Ok F X (.fn g vs h v h1)))
def TrO (F : Funs) (X : Exts) (l : List RO) : RTree → List DE → Env → AH → (Env → AH → Prop) → Prop
  | .leaf, _, e, h, Q => Q e h
  | .q i t, D, e, h, Q => ∃ o v h1, l[i]? = some o ∧ OkS F X o e h v h1 ∧ TrO F X l t D (putD e o.dst v) h1 Q
  | .r i t, D, e, h, Q => ∃ o v h1, l[i]? = some o ∧ OkS F X o e h v h1 ∧ TrO F X l t (⟨i, o, ⟨e, h, v, h1⟩⟩ :: D) (putD e o.dst v) h1 Q
  | .m i dp t, D, e, h, Q => ∃ o v h1, l[i]? = some o ∧ OkS F X o e h v h1 ∧ (∀ d ∈ D, inL dp d.i = false → reread d.o d.t h1 = true) ∧ TrO F X l t (D.filter fun d => !inL dp d.i) (putD e o.dst v) h1 Q
  | .alt a b, D, e, h, Q => TrO F X l a D e h Q ∧ TrO F X l b D e h Q
structure FE where
  i : Nat
  o : RO
  env : Env
  v : Value
def foldF : List FE → Env → Env
  | [], e => e
  | f :: fs, e => foldF fs (putD e f.o.dst f.v)
def AGR : List FE → Env → Prop
  | [], _ => True
  | f :: fs, ep => (∀ t ∈ f.o.tm, ep.get t = f.env.get t) ∧ AGR fs (putD ep f.o.dst f.v)
structure AP (x y : RO) : Prop where
  a : ∀ t ∈ y.tm, x.dst ≠ some t
  b : ∀ t ∈ x.tm, y.dst ≠ some t
  c : ∀ t, x.dst = some t → y.dst ≠ some t
theorem AP.symm {x y : RO} (h : AP x y) : AP y x := ⟨h.b, h.a, fun t h1 h2 => h.c t h2 h1⟩
theorem AP.of {x y : RO} (h : apartB x y = true) : AP x y := let ⟨a, b, c⟩ := apart_spec h; ⟨a, b, c⟩
theorem foldF_append : ∀ (A B : List FE) (e : Env), foldF (A ++ B) e = foldF B (foldF A e)
  | [], _, _ => rfl
  | _ :: A, B, e => foldF_append A B _
theorem foldF_get : ∀ {A : List FE} {e : Env} {t : Nat}, (∀ g ∈ A, g.o.dst ≠ some t) → (foldF A e).get t = e.get t
  | [], _, _, _ => rfl
  | f :: A, e, t, h => by
    show (foldF A (putD e f.o.dst f.v)).get t = _
    rw [foldF_get (fun g hg => h g (List.mem_cons_of_mem _ hg)), putD_get (h f (List.mem_cons_self ..))]
theorem AGR.put : ∀ {A : List FE} {ep : Env} {o : RO} {v : Value}, AGR A ep → (∀ f ∈ A, AP f.o o) → AGR A (putD ep o.dst v) ∧ foldF A (putD ep o.dst v) = putD (foldF A ep) o.dst v
  | [], _, _, _, _, _ => ⟨trivial, rfl⟩
  | f :: A, ep, o, v, h, ha => by
    have h1 := ha f (List.mem_cons_self ..)
    have e1 : putD (putD ep o.dst v) f.o.dst f.v = putD (putD ep f.o.dst f.v) o.dst v := putD_comm _ _ _ (h1.symm.c)
    obtain ⟨k1, k2⟩ := AGR.put (v := v) h.2 (fun g hg => ha g (List.mem_cons_of_mem _ hg))
    refine ⟨⟨fun t ht => ?_, by rw [e1]; exact k1⟩, ?_⟩
    · rw [putD_get (h1.b t ht)]; exact h.1 t ht
    · show foldF A (putD (putD ep o.dst v) f.o.dst f.v) = _
      rw [e1]; exact k2
theorem AGR.snoc : ∀ {A : List FE} {ep : Env} {f : FE}, AGR A ep → (∀ t ∈ f.o.tm, (foldF A ep).get t = f.env.get t) → AGR (A ++ [f]) ep
  | [], _, _, _, h => ⟨h, trivial⟩
  | g :: A, ep, f, h, k => ⟨h.1, AGR.snoc h.2 k⟩
theorem AGR.pull : ∀ {A B : List FE} {f : FE} {ep : Env}, AGR (A ++ f :: B) ep → (∀ g ∈ A, AP g.o f.o) → (∀ t ∈ f.o.tm, ep.get t = f.env.get t) ∧ AGR (A ++ B) (putD ep f.o.dst f.v) ∧ foldF (A ++ f :: B) ep = foldF (A ++ B) (putD ep f.o.dst f.v)
  | [], B, f, ep, h, _ => ⟨h.1, h.2, rfl⟩
  | g :: A, B, f, ep, h, ha => by
    have h1 := ha g (List.mem_cons_self ..)
    have e1 : putD (putD ep f.o.dst f.v) g.o.dst g.v = putD (putD ep g.o.dst g.v) f.o.dst f.v := putD_comm _ _ _ (h1.symm.c)
    obtain ⟨k1, k2, k3⟩ := AGR.pull (A := A) (B := B) (f := f) h.2 (fun x hx => ha x (List.mem_cons_of_mem _ hx))
    refine ⟨fun t ht => ?_, ⟨fun t ht => ?_, ?_⟩, ?_⟩
    · rw [← k1 t ht, putD_get (h1.a t ht)]
    · rw [putD_get (h1.b t ht)]; exact h.1 t ht
    · show AGR (A ++ B) (putD (putD ep f.o.dst f.v) g.o.dst g.v)
      rw [e1]; exact k2
    · show foldF (A ++ f :: B) (putD ep g.o.dst g.v) = foldF (A ++ B) (putD (putD ep f.o.dst f.v) g.o.dst g.v)
      rw [e1]; exact k3
theorem mem_without {L : List Nat} {i k : Nat} : k ∈ without L i ↔ k ∈ L ∧ k ≠ i := by
  unfold without
  rw [List.mem_filter]
  refine and_congr Iff.rfl ?_
  cases h : Nat.beq k i with
  | true => have := Nat.eq_of_beq_eq_true h; simp [this]
  | false => have := Nat.ne_of_beq_eq_false h; simp [this]
theorem without_len {L : List Nat} {i : Nat} (h : i ∈ L) : (without L i).length + 1 ≤ L.length := by
  have : (without L i).length < L.length := by
    unfold without
    rw [List.length_filter_lt_length_iff_exists]
    exact ⟨i, h, by simp [Nat.beq_refl]⟩
  omega
section
variable {P : Program} {F : Funs} {X : Exts} {pur : List FuncId}
theorem OkS.sts (OK : XOK P F X pur) (hF : FOK P pur F) {o : RO} {e : Env} {h h1 : AH} {v : Value} (hs : OkS F X o e h v h1) : StS P X pur o e h v h1 := by
  rcases hs with h | ⟨hw, h | ⟨f, args, g, vs, ho, hc, hk⟩⟩
  · exact .inl h
  · exact .inr ⟨hw, .inl h⟩
  · exact .inr ⟨hw, .inr ⟨f, args, g, vs, ho, hc, sound OK hF hk⟩⟩
structure MI (P : Program) (X : Exts) (pur : List FuncId) (ops : Array Oper) (l : List RO) (L : List Nat) (Fl : List FE) (D : List DE) (e ep : Env) (h : AH) (ls : Array Bool) : Prop where
  lt : ∀ i ∈ L, i < ops.size
  nd : (Fl.map FE.i).Nodup
  dj : ∀ f ∈ Fl, f.i ∉ L
  at_ : ∀ f ∈ Fl, l[f.i]? = some f.o
  env : e = foldF Fl ep
  agr : AGR Fl ep
  ob : ∀ f ∈ Fl, StS P X pur f.o f.env h f.v h
  fd : ∀ f ∈ Fl, f.o.op.cls pur = 2 ∨ (f.o.op.cls pur = 1 ∧ ∃ hb ha, (⟨f.i, f.o, ⟨f.env, hb, f.v, ha⟩⟩ : DE) ∈ D)
  ord : Fl.Pairwise fun f g => ¬ Dep ops f.i g.i
  clL : ∀ i, i < ops.size → i ∉ L → ∀ k ∈ bindL ops i, k ∉ L
  sz : ls.size = ops.size
  lsd : ∀ i, i < ops.size → (ls.getD i true = false ↔ i ∈ L ∨ i ∈ Fl.map FE.i)
  cl : ∀ i o, ls.getD i false = true → ops[i]? = some o → ∀ k ∈ binding o, ls.getD k false = true
theorem dep_L {ops : Array Oper} {L : List Nat} (hc : ∀ i, i < ops.size → i ∉ L → ∀ k ∈ bindL ops i, k ∉ L) {i j : Nat} (h : Dep ops i j) : i ∉ L → j ∉ L := by
  induction h with
  | one h1 h2 => exact fun hi => hc _ (Array.getElem?_eq_some_iff.1 h1).1 hi _ (by simp [bindL, h1, h2])
  | more h1 h2 h3 ih => exact fun hi => ih (hc _ (Array.getElem?_eq_some_iff.1 h1).1 hi _ (by simp [bindL, h1, h2]))
theorem readyL_spec {ops : Array Oper} {L : List Nat} {i : Nat} (h : readyL ops L i = true) : ∀ k ∈ bindL ops i, k ∉ L := by
  intro k hk hm
  have := List.all_eq_true.1 h k hk
  simp [hm] at this
theorem clL_without {ops : Array Oper} {L : List Nat} {i : Nat} (hc : ∀ i, i < ops.size → i ∉ L → ∀ k ∈ bindL ops i, k ∉ L) (hr : readyL ops L i = true) : ∀ j, j < ops.size → j ∉ without L i → ∀ k ∈ bindL ops j, k ∉ without L i := by
  intro j hj hn k hk hm
  rw [mem_without] at hm hn
  by_cases e : j = i
  · subst e; exact readyL_spec hr k hk hm.1
  · exact hc j hj (fun h => hn ⟨h, e⟩) k hk hm.1
def Prs (ops : Array Oper) (l : List RO) : Prop := ∀ i j r q, l[i]? = some r → l[j]? = some q → i ≠ j → ¬ Dep ops i j → ¬ Dep ops j i → AP q r
theorem prs_of {ops : Array Oper} {l : List RO} (h : pairsA ops l = true) : Prs ops l := by
  have key : ∀ i j r q, l[i]? = some r → l[j]? = some q → j < i → ¬ Dep ops i j → AP q r := by
    intro i j r q hi hj hlt hd
    have h1 := List.all_eq_true.1 (List.all_eq_true.1 h i (List.mem_range.2 (List.getElem?_eq_some_iff.1 hi).1)) j (List.mem_range.2 hlt)
    rw [hi, hj, Bool.or_eq_true] at h1
    rcases h1 with h1 | h1
    · exact absurd (predsGo_spec ops ops.toList [] (by intro i m hm; simp at hm) (by intro k o hk; simpa using hk) i j h1) hd
    · exact AP.of h1
  intro i j r q hi hj hne h1 h2
  rcases Nat.lt_or_gt_of_ne hne with hlt | hlt
  · exact (key j i q r hj hi hlt h2).symm
  · exact key i j r q hi hj hlt h1
theorem heads_at {ps : List Nat} {ops : Array Oper} {l : List RO} {L : List Nat} {D : List DE} {e : Env} {h : AH} {Q : Env → AH → Prop} {j : Nat} : ∀ {t : RTree}, chkT pur ps ops l false t L = true → TrO F X l t D e h Q → j ∈ heads t → ∃ dp t', j ∈ L ∧ readyL ops L j = true ∧ (dp.all fun k => (ps.getD j 0).testBit k) = true ∧ chkT pur ps ops l true t' (without L j) = true ∧ TrO F X l (.m j dp t') D e h Q
  | .leaf, hc, _, _ => by simp [chkT] at hc
  | .q _ _, hc, _, _ => by simp [chkT] at hc
  | .r _ _, hc, _, _ => by simp [chkT] at hc
  | .m i dp t, hc, ht, hj => by
    simp only [heads, List.mem_singleton] at hj
    subst hj
    simp only [chkT, Bool.and_eq_true] at hc
    obtain ⟨⟨⟨⟨h1, h2⟩, h3⟩, h4⟩, _⟩ := hc
    exact ⟨dp, t, by simpa using h1, h2, h3, h4, ht⟩
  | .alt a b, hc, ht, hj => by
    simp only [chkT, Bool.and_eq_true] at hc
    simp only [heads, List.mem_append] at hj
    rcases hj with hj | hj
    · exact heads_at hc.1.1 ht.1 hj
    · exact heads_at hc.1.2 ht.2 hj
theorem chkT_nil {ps : List Nat} {ops : Array Oper} {l : List RO} : ∀ {t : RTree}, chkT pur ps ops l false t [] = false
  | .leaf => rfl
  | .q _ _ => rfl
  | .r _ _ => rfl
  | .m i dp t => by simp [chkT]
  | .alt a b => by simp [chkT, chkT_nil (t := a)]
theorem chkT_leaf {ps : List Nat} {ops : Array Oper} {l : List RO} {t : RTree} (h : chkT pur ps ops l true t [] = true) : t = .leaf := by
  cases t with
  | leaf => rfl
  | q i t => simp [chkT] at h
  | r i t => simp [chkT] at h
  | m i dp t => simp [chkT] at h
  | alt a b => simp [chkT, chkT_nil (t := a)] at h
theorem all_listed {ops : Array Oper} (he : early ops = true) {ls : Array Bool} (hsz : ls.size = ops.size) (hre : Region.ready .any ops ls = []) (i : Nat) : i < ops.size → ls.getD i true ≠ false := by
  induction i using Nat.strongRecOn with
  | _ i ih =>
    intro hi hf
    have hmem : i ∈ Region.ready .any ops ls := by
      rw [mem_ready]
      refine ⟨hf, ops[i], Array.getElem?_eq_getElem hi, fun ed hed hb => ?_⟩
      have hk : ed.on < i := by
        have h1 := List.all_eq_true.1 he i (List.mem_range.2 hi)
        rw [Array.getElem?_eq_getElem hi] at h1
        exact of_decide_eq_true (List.all_eq_true.1 h1 ed.on (mem_binding.2 ⟨ed, hed, hb, rfl⟩))
      have h2 := ih ed.on hk (by omega)
      have hk2 : ed.on < ls.size := by omega
      rw [Array.getD_eq_getD_getElem?, Array.getElem?_eq_getElem hk2] at h2 ⊢
      simpa using h2
    rw [hre] at hmem
    cases hmem
theorem lsd_ne {ls : Array Bool} {j : Nat} (h1 : ls.getD j false = true) (h2 : ls.getD j true = false) : False := by
  rw [Array.getD_eq_getD_getElem?] at h1 h2
  cases hx : ls[j]? with
  | none => rw [hx] at h1; simp at h1
  | some x => rw [hx] at h1 h2; simp at h1 h2; rw [h1] at h2; cases h2
section
variable {ops : Array Oper} {l : List RO} {L : List Nat} {D : List DE} {e ep : Env} {h : AH} {ls : Array Bool}
theorem MI.float {Fl : List FE} (M : MI P X pur ops l L Fl D e ep h ls) {i : Nat} {o : RO} {v : Value} (hi : i ∈ L) (hl : l[i]? = some o) (hr : readyL ops L i = true) (hs : StS P X pur o e h v h) {D' : List DE} (hD : ∀ d ∈ D, d ∈ D')
    (hc : o.op.cls pur = 2 ∨ (o.op.cls pur = 1 ∧ ∃ hb ha, (⟨i, o, ⟨e, hb, v, ha⟩⟩ : DE) ∈ D')) : MI P X pur ops l (without L i) (Fl ++ [⟨i, o, e, v⟩]) D' (putD e o.dst v) ep h ls := by
  have hne : ∀ f ∈ Fl, f.i ≠ i := fun f hf x => M.dj f hf (x ▸ hi)
  refine ⟨fun j hj => M.lt j (mem_without.1 hj).1, ?_, ?_, ?_, ?_, ?_, ?_, ?_, ?_, clL_without M.clL hr, M.sz, fun j hj => ?_, M.cl⟩
  · rw [List.map_append, List.nodup_append]
    refine ⟨M.nd, by simp, fun a ha c hc => ?_⟩
    obtain ⟨f, hf, rfl⟩ := List.mem_map.1 ha
    simp at hc; subst hc; exact hne f hf
  · intro f hf hm
    rw [mem_without] at hm
    rcases List.mem_append.1 hf with hf | hf
    · exact M.dj f hf hm.1
    · simp at hf; subst hf; exact hm.2 rfl
  · intro f hf
    rcases List.mem_append.1 hf with hf | hf
    · exact M.at_ f hf
    · simp at hf; subst hf; exact hl
  · rw [foldF_append, ← M.env]; rfl
  · exact M.agr.snoc fun t _ => by rw [← M.env]
  · intro f hf
    rcases List.mem_append.1 hf with hf | hf
    · exact M.ob f hf
    · simp at hf; subst hf; exact hs
  · intro f hf
    rcases List.mem_append.1 hf with hf | hf
    · exact (M.fd f hf).imp id (And.imp id fun ⟨hb, ha, k⟩ => ⟨hb, ha, hD _ k⟩)
    · simp at hf; subst hf; exact hc
  · refine List.pairwise_append.2 ⟨M.ord, by simp, fun f hf g hg hd => ?_⟩
    simp at hg; subst hg
    exact dep_L M.clL hd (M.dj f hf) hi
  · rw [M.lsd j hj, mem_without, List.map_append, List.mem_append]
    by_cases e : j = i
    · subst e; simp [hi]
    · simp [e]
theorem nodep (hcl : ∀ i o, ls.getD i false = true → ops[i]? = some o → ∀ k ∈ binding o, ls.getD k false = true) {i : Nat} (hdl : ∀ k ∈ bindL ops i, ls.getD k false = true) : ∀ j, ls.getD j true = false → j < ops.size → ¬ Dep ops i j :=
  fun j hj _ hd => lsd_ne (hd.listed hcl fun o ho k hk => hdl k (by simp [bindL, ho, hk])) hj
theorem MI.doneF {A B : List FE} {f : FE} (M : MI P X pur ops l L (A ++ f :: B) D e ep h ls) (hpr : Prs ops l) (hlen : l.length = ops.size) (hdl : ∀ k ∈ bindL ops f.i, ls.getD k false = true) :
    StS P X pur f.o ep h f.v h ∧ MI P X pur ops l L (A ++ B) D e (putD ep f.o.dst f.v) h (ls.setIfInBounds f.i true) := by
  have hf : f ∈ A ++ f :: B := by simp
  have hnd := nodep M.cl hdl
  have sub : ∀ g, g ∈ A ++ B → g ∈ A ++ f :: B := fun g hg => by
    rcases List.mem_append.1 hg with h | h <;> simp [h]
  have lt : ∀ g ∈ A ++ f :: B, g.i < ops.size ∧ ls.getD g.i true = false := fun g hg => by
    have hlt : g.i < ops.size := by rw [← hlen]; exact (List.getElem?_eq_some_iff.1 (M.at_ g hg)).1
    exact ⟨hlt, (M.lsd _ hlt).2 (.inr (List.mem_map.2 ⟨g, hg, rfl⟩))⟩
  have hnd2 := M.nd
  rw [List.map_append, List.map_cons] at hnd2
  have hnd3 := List.nodup_append.1 hnd2
  have hord := List.pairwise_append.1 M.ord
  have hne : ∀ g ∈ A ++ B, g.i ≠ f.i := by
    intro g hg
    rcases List.mem_append.1 hg with h | h
    · exact hnd3.2.2 _ (List.mem_map.2 ⟨g, h, rfl⟩) _ (by simp)
    · intro x
      exact (List.nodup_cons.1 hnd3.2.1).1 (List.mem_map.2 ⟨g, h, x⟩)
  have ap : ∀ g ∈ A, AP g.o f.o := fun g hg => by
    have hg' : g ∈ A ++ f :: B := by simp [hg]
    exact hpr f.i g.i f.o g.o (M.at_ f hf) (M.at_ g hg') (Ne.symm (hne g (by simp [hg]))) (hnd _ (lt g hg').2 (lt g hg').1) (hord.2.2 g hg f (by simp))
  obtain ⟨k1, k2, k3⟩ := M.agr.pull ap
  refine ⟨(M.ob f hf).env k1, M.lt, ?_, fun g hg => M.dj g (sub g hg), fun g hg => M.at_ g (sub g hg), by rw [← k3]; exact M.env, k2, fun g hg => M.ob g (sub g hg), fun g hg => M.fd g (sub g hg), ?_, M.clL, by simpa using M.sz, fun j hj => ?_, ?_⟩
  · rw [List.map_append]
    refine List.nodup_append.2 ⟨hnd3.1, (List.nodup_cons.1 hnd3.2.1).2, fun a ha c hc => hnd3.2.2 a ha c (by simp [hc])⟩
  · exact List.pairwise_append.2 ⟨hord.1, (List.pairwise_cons.1 hord.2.1).2, fun x hx y hy => hord.2.2 x hx y (by simp [hy])⟩
  · by_cases hji : f.i = j
    · subst hji
      have hlt2 : f.i < ls.size := by rw [M.sz]; exact hj
      rw [Array.getD_eq_getD_getElem?]
      simp only [Array.getElem?_setIfInBounds_self_of_lt hlt2, Option.getD_some]
      constructor
      · intro h; cases h
      · rintro (h | h)
        · exact absurd h (M.dj f hf)
        · obtain ⟨g, hg, hgi⟩ := List.mem_map.1 h
          exact absurd hgi (hne g hg)
    · rw [getD_set_ne _ hji, M.lsd j hj]
      simp only [List.map_append, List.map_cons, List.mem_append, List.mem_cons]
      constructor
      · rintro (h | h | h | h)
        · exact .inl h
        · exact .inr (.inl h)
        · exact absurd h.symm hji
        · exact .inr (.inr h)
      · rintro (h | h | h)
        · exact .inl h
        · exact .inr (.inl h)
        · exact .inr (.inr (.inr h))
  · intro j oj hj hoj k hk
    by_cases hji : f.i = j
    · subst hji
      exact getD_set_true (hdl k (by simp [bindL, hoj, hk]))
    · rw [getD_set_ne _ hji] at hj
      exact getD_set_true (M.cl j oj hj hoj k hk)
theorem MI.doneM (OK : XOK P F X pur) {Fl : List FE} (M : MI P X pur ops l L Fl D e ep h ls) (hpr : Prs ops l) (hlen : l.length = ops.size) {i : Nat} {o : RO} {v : Value} {h1 : AH} (hi : i ∈ L) (hl : l[i]? = some o) (hr : readyL ops L i = true) (hdl : ∀ k ∈ bindL ops i, ls.getD k false = true)
    (hs : StS P X pur o e h v h1) {dp : List Nat} (hdp : (dp.all fun k => ((predsGo [] ops.toList).getD i 0).testBit k) = true) (hob : ∀ d ∈ D, inL dp d.i = false → reread d.o d.t h1 = true) :
    StS P X pur o ep h v h1 ∧ MI P X pur ops l (without L i) Fl (D.filter fun d => !inL dp d.i) (putD e o.dst v) (putD ep o.dst v) h1 (ls.setIfInBounds i true) := by
  have hnd := nodep M.cl hdl
  have ils : i < ops.size := M.lt i hi
  have hne : ∀ f ∈ Fl, f.i ≠ i := fun f hf x => M.dj f hf (x ▸ hi)
  have lt : ∀ g ∈ Fl, g.i < ops.size ∧ ls.getD g.i true = false := fun g hg => by
    have hlt : g.i < ops.size := by rw [← hlen]; exact (List.getElem?_eq_some_iff.1 (M.at_ g hg)).1
    exact ⟨hlt, (M.lsd _ hlt).2 (.inr (List.mem_map.2 ⟨g, hg, rfl⟩))⟩
  have ndi : ∀ f ∈ Fl, ¬ Dep ops i f.i := fun f hf => hnd _ (lt f hf).2 (lt f hf).1
  have ap : ∀ f ∈ Fl, AP f.o o := fun f hf => hpr i f.i o f.o hl (M.at_ f hf) (Ne.symm (hne f hf)) (ndi f hf) (fun hd => dep_L M.clL hd (M.dj f hf) hi)
  obtain ⟨k1, k2⟩ := M.agr.put (v := v) ap
  refine ⟨hs.env fun t ht => ?_, fun j hj => M.lt j (mem_without.1 hj).1, M.nd, fun f hf hm => M.dj f hf (mem_without.1 hm).1, M.at_, by rw [k2, ← M.env], k1, fun f hf => ?_, fun f hf => ?_, M.ord, clL_without M.clL hr, by simpa using M.sz, fun j hj => ?_, ?_⟩
  · rw [M.env]
    exact (foldF_get fun g hg => (ap g hg).a t ht).symm
  · rcases M.fd f hf with hc | ⟨hc, hb, ha, hd⟩
    · exact (M.ob f hf).free OK hc h1
    · refine reread_sound (t := ⟨f.env, hb, f.v, ha⟩) (M.ob f hf) hc (hob _ hd ?_)
      cases hx : inL dp f.i with
      | false => rfl
      | true =>
        exfalso
        have hx := inL_all hdp hx
        exact ndi f hf (predsGo_spec ops ops.toList [] (by intro i m hm; simp at hm) (by intro k o hk; simpa using hk) i f.i hx)
  · refine (M.fd f hf).imp id (And.imp id fun ⟨hb, ha, hd⟩ => ⟨hb, ha, List.mem_filter.2 ⟨hd, ?_⟩⟩)
    cases hx : inL dp f.i with
    | false => simp [hx]
    | true =>
      exfalso
      have hx := inL_all hdp hx
      exact ndi f hf (predsGo_spec ops ops.toList [] (by intro i m hm; simp at hm) (by intro k o hk; simpa using hk) i f.i hx)
  · by_cases hji : i = j
    · subst hji
      have hlt2 : i < ls.size := by rw [M.sz]; exact hj
      rw [Array.getD_eq_getD_getElem?]
      simp only [Array.getElem?_setIfInBounds_self_of_lt hlt2, Option.getD_some]
      constructor
      · intro h; cases h
      · rintro (h | h)
        · exact absurd rfl (mem_without.1 h).2
        · obtain ⟨g, hg, hgi⟩ := List.mem_map.1 h
          exact absurd hgi (hne g hg)
    · rw [getD_set_ne _ hji, M.lsd j hj, mem_without]
      constructor
      · rintro (h | h)
        · exact .inl ⟨h, fun x => hji x.symm⟩
        · exact .inr h
      · rintro (h | h)
        · exact .inl h.1
        · exact .inr h
  · intro j oj hj hoj k hk
    by_cases hji : i = j
    · subst hji
      exact getD_set_true (hdl k (by simp [bindL, hoj, hk]))
    · rw [getD_set_ne _ hji] at hj
      exact getD_set_true (M.cl j oj hj hoj k hk)
end
theorem any_opsM (OK : XOK P F X pur) (hF : FOK P pur F) {n : Nat} {ops : Array Oper} {l : List RO} (he : early ops = true) (hpr : Prs ops l) (hlen : l.length = ops.size)
    (hspec : ∀ (i : Nat) (o : Oper) (r : RO), ops[i]? = some o → l[i]? = some r → rOper P n ops o = some r) {Qp : Env → AH → Prop} {base : Nat} {w0 : World} {Q : Exit → Act → World → Prop} :
    ∀ (fuel : Nat) (t : RTree) (L : List Nat) (Fl : List FE) (D : List DE) (ls : Array Bool) {b : Bt} {h : AH} {w : World} {e ep : Env} {a : Act},
    MI P X pur ops l L Fl D e ep h ls → L.length + Fl.length ≤ fuel → chkT pur (predsGo [] ops.toList) ops l true t L = true → TrO F X l t D e h Qp →
    Sim b h base w0 w → Rl b ep w a n → a.defers = [] → (∀ e' h', Qp e' h' → ∀ c a' w1, Rl (b ++ c) e' w1 a' n → SLe w.shape? w1.shape? → Sim (b ++ c) h' base w0 w1 → a'.defers = [] → Q .normal a' w1) →
    wpAny P .any ops Q fuel ls a w := by
  have fin : ∀ {t : RTree} {L : List Nat} {Fl : List FE} {D : List DE} {ls : Array Bool} {b : Bt} {h : AH} {w : World} {e ep : Env} {a : Act}, MI P X pur ops l L Fl D e ep h ls → L = [] → Fl = [] → chkT pur (predsGo [] ops.toList) ops l true t L = true → TrO F X l t D e h Qp →
      Sim b h base w0 w → Rl b ep w a n → a.defers = [] → (∀ e' h', Qp e' h' → ∀ c a' w1, Rl (b ++ c) e' w1 a' n → SLe w.shape? w1.shape? → Sim (b ++ c) h' base w0 w1 → a'.defers = [] → Q .normal a' w1) → Q .normal a w := by
    intro t L Fl D ls b h w e ep a M h1 h2 hc ht H R hd hQ
    subst h1 h2
    have := chkT_leaf hc
    subst this
    have he := M.env
    simp only [foldF] at he
    subst he
    exact hQ _ _ ht [] a w (by rw [List.append_nil]; exact R) (SLe.refl _) (by rw [List.append_nil]; exact H) hd
  intro fuel
  induction fuel with
  | zero =>
    intro t L Fl D ls b h w e ep a M hlf hc ht H R hd hQ
    have h1 : L = [] := List.length_eq_zero_iff.1 (by omega)
    have h2 : Fl = [] := List.length_eq_zero_iff.1 (by omega)
    refine ⟨?_, fin M h1 h2 hc ht H R hd hQ⟩
    apply List.eq_nil_iff_forall_not_mem.2
    intro i hi
    rw [mem_ready] at hi
    obtain ⟨h3, o, h4, _⟩ := hi
    have := (M.lsd i (Array.getElem?_eq_some_iff.1 h4).1).1 h3
    subst h1 h2
    simp at this
  | succ fuel ih =>
    have stuck : ∀ (t : RTree) (L : List Nat) (Fl : List FE) (D : List DE) (ls : Array Bool) {b : Bt} {h : AH} {w : World} {e ep : Env} {a : Act},
        MI P X pur ops l L Fl D e ep h ls → L.length + Fl.length ≤ fuel + 1 → chkT pur (predsGo [] ops.toList) ops l true t L = true → TrO F X l t D e h Qp →
        (∀ j ∈ L, readyL ops L j = true → ∃ dp t', (dp.all fun k => ((predsGo [] ops.toList).getD j 0).testBit k) = true ∧ chkT pur (predsGo [] ops.toList) ops l true t' (without L j) = true ∧ TrO F X l (.m j dp t') D e h Qp) →
        Sim b h base w0 w → Rl b ep w a n → a.defers = [] → (∀ e' h', Qp e' h' → ∀ c a' w1, Rl (b ++ c) e' w1 a' n → SLe w.shape? w1.shape? → Sim (b ++ c) h' base w0 w1 → a'.defers = [] → Q .normal a' w1) →
        wpAny P .any ops Q (fuel + 1) ls a w := by
      intro t L Fl D ls b h w e ep a M hlf hc ht hcov H R hd hQ
      refine ⟨fun hre => ?_, fun i hi => ?_⟩
      · have hall := all_listed he M.sz hre
        have h1 : L = [] := List.eq_nil_iff_forall_not_mem.2 fun i hi => hall i (M.lt i hi) ((M.lsd i (M.lt i hi)).2 (.inl hi))
        have h2 : Fl = [] := List.eq_nil_iff_forall_not_mem.2 fun f hf => by
          have hlt : f.i < ops.size := by rw [← hlen]; exact (List.getElem?_eq_some_iff.1 (M.at_ f hf)).1
          exact hall _ hlt ((M.lsd _ hlt).2 (.inr (List.mem_map.2 ⟨f, hf, rfl⟩)))
        exact fin M h1 h2 hc ht H R hd hQ
      · rw [mem_ready] at hi
        obtain ⟨h1, o, ho, hdeps⟩ := hi
        have hlt : i < ops.size := (Array.getElem?_eq_some_iff.1 ho).1
        have hdl : ∀ k ∈ bindL ops i, ls.getD k false = true := by
          intro k hk
          simp only [bindL, ho] at hk
          obtain ⟨ed, h3, h4, rfl⟩ := mem_binding.1 hk
          exact hdeps ed h3 h4
        rcases (M.lsd i hlt).1 h1 with hL | hFl
        · have hrL : readyL ops L i = true := List.all_eq_true.2 fun k hk => by
            have h2 := hdl k hk
            have hne : k ∉ L := fun hm => lsd_ne h2 ((M.lsd k (M.lt k hm)).2 (.inl hm))
            simp [hne]
          obtain ⟨dp, t', hdp, hc', r, v, h1', hl, hs, hob, ht'⟩ := hcov i hL hrL
          have hs' := hs.sts OK hF
          obtain ⟨hsp, M'⟩ := M.doneM OK hpr hlen hL hl hrL hdl hs' hdp hob
          have hro := hspec i o r ho hl
          refine step_sound H R ho hro hsp fun c v' w1 hv hS HS => ?_
          refine ih t' _ _ _ _ M' (by have := without_len hL; omega) hc' ht' HS (R.put hS hv (rOper_spec hro).2.2) (by rw [put_defers]; exact hd) fun e' h' hq c' a' w2 R2 hS2 HS2 hd2 => ?_
          exact hQ e' h' hq (c ++ c') a' w2 (by rw [← List.append_assoc]; exact R2) (hS.trans hS2) (by rw [← List.append_assoc]; exact HS2) hd2
        · obtain ⟨f, hf, rfl⟩ := List.mem_map.1 hFl
          obtain ⟨A, B, hsp⟩ := List.append_of_mem hf
          subst hsp
          have hl := M.at_ f hf
          obtain ⟨hs', M'⟩ := M.doneF hpr hlen hdl
          have hro := hspec f.i o f.o ho hl
          refine step_sound H R ho hro hs' fun c v' w1 hv hS HS => ?_
          refine ih t _ _ _ _ M' (by simp at hlf ⊢; omega) hc ht HS (R.put hS hv (rOper_spec hro).2.2) (by rw [put_defers]; exact hd) fun e' h' hq c' a' w2 R2 hS2 HS2 hd2 => ?_
          exact hQ e' h' hq (c ++ c') a' w2 (by rw [← List.append_assoc]; exact R2) (hS.trans hS2) (by rw [← List.append_assoc]; exact HS2) hd2
    intro t
    induction t with
    | leaf =>
      intro L Fl D ls b h w e ep a M hlf hc ht H R hd hQ
      refine stuck _ L Fl D ls M hlf hc ht (fun j hj _ => ?_) H R hd hQ
      simp [chkT] at hc
      subst hc; cases hj
    | q i t iht =>
      intro L Fl D ls b h w e ep a M hlf hc ht H R hd hQ
      have hc0 := hc
      simp only [chkT, Bool.true_and, Bool.and_eq_true] at hc
      obtain ⟨⟨⟨h1, h2⟩, h3⟩, h4⟩ := hc
      have hi : i ∈ L := by simpa using h1
      obtain ⟨o, v, h1', hl, hs, ht'⟩ := ht
      have hs' := hs.sts OK hF
      have hcl : o.op.cls pur = 2 := by have := Nat.eq_of_beq_eq_true h3; simpa [qOf, hl] using this
      have := hs'.quiet OK (by omega)
      subst this
      have M' := M.float hi hl h2 hs' (D' := D) (fun _ h => h) (.inl hcl)
      exact iht _ _ _ _ M' (by have := without_len hi; simp; omega) h4 ht' H R hd hQ
    | r i t iht =>
      intro L Fl D ls b h w e ep a M hlf hc ht H R hd hQ
      simp only [chkT, Bool.true_and, Bool.and_eq_true] at hc
      obtain ⟨⟨⟨h1, h2⟩, h3⟩, h4⟩ := hc
      have hi : i ∈ L := by simpa using h1
      obtain ⟨o, v, h1', hl, hs, ht'⟩ := ht
      have hs' := hs.sts OK hF
      have hcl : o.op.cls pur = 1 := by have := Nat.eq_of_beq_eq_true h3; simpa [qOf, hl] using this
      have := hs'.quiet OK (by omega)
      subst this
      have M' := M.float hi hl h2 hs' (D' := ⟨i, o, ⟨e, h1', v, h1'⟩⟩ :: D) (fun _ h => List.mem_cons_of_mem _ h) (.inr ⟨hcl, _, _, List.mem_cons_self ..⟩)
      exact iht _ _ _ _ M' (by have := without_len hi; simp; omega) h4 ht' H R hd hQ
    | m i dp t iht =>
      intro L Fl D ls b h w e ep a M hlf hc ht H R hd hQ
      refine stuck _ L Fl D ls M hlf hc ht (fun j hj hr => ?_) H R hd hQ
      simp only [chkT, Bool.and_eq_true, Bool.not_true, Bool.false_or] at hc
      obtain ⟨⟨⟨⟨h1, h2⟩, h3⟩, h4⟩, h5⟩ := hc
      have := List.all_eq_true.1 h5 j hj
      rw [hr] at this
      have hji : j = i := Nat.eq_of_beq_eq_true (by simpa using this)
      subst hji
      exact ⟨dp, t, h3, h4, ht⟩
    | alt x y ihx ihy =>
      intro L Fl D ls b h w e ep a M hlf hc ht H R hd hQ
      refine stuck _ L Fl D ls M hlf hc ht (fun j hj hr => ?_) H R hd hQ
      simp only [chkT, Bool.and_eq_true, Bool.not_true, Bool.false_or] at hc
      obtain ⟨⟨h1, h2⟩, h5⟩ := hc
      have := List.all_eq_true.1 h5 j hj
      rw [hr] at this
      have hm : j ∈ heads x ++ heads y := by simpa using this
      rcases List.mem_append.1 hm with hm | hm
      · obtain ⟨dp, t', _, _, k1, k2, k3⟩ := heads_at h1 ht.1 hm; exact ⟨dp, t', k1, k2, k3⟩
      · obtain ⟨dp, t', _, _, k1, k2, k3⟩ := heads_at h2 ht.2 hm; exact ⟨dp, t', k1, k2, k3⟩
theorem regionM_sound (OK : XOK P F X pur) (hF : FOK P pur F) {id n : Nat} {ops : Array Oper} {draw : Bool} {l : List RO} {t : RTree} (hr : rRegion P pur n ops draw = some (.many l t)) {b : Bt} {h : AH} {base : Nat} {w0 w : World} {e : Env} {a : Act} {Q : Exit → Act → World → Prop} {Qp : Env → AH → Prop}
    (H : Sim b h base w0 w) (R : Rl b e w a n) (hd : a.defers = []) (ht : TrO F X l t [] e h Qp)
    (hQ : ∀ e' h', Qp e' h' → ∀ c a' w1, Rl (b ++ c) e' w1 a' n → SLe w.shape? w1.shape? → Sim (b ++ c) h' base w0 w1 → a'.defers = [] → Q .normal a' w1) :
    (Code.region id ops draw).wp P Q a w := by
  unfold rRegion at hr
  split at hr
  · rename_i l' hl
    obtain ⟨hlen, hspec⟩ := rOps_spec hl
    have hlen' : l'.length = ops.size := by simpa using hlen
    cases draw with
    | false => simp at hr
    | true =>
      simp only [if_true] at hr
      split at hr
      · simp at hr
      · split at hr
        · simp at hr
        · rcases manyOf_cases P pur ops l' with hm | ⟨t', hm, hmx, he, hpa, hck⟩
          · rw [hm] at hr; simp at hr
          · rw [hm] at hr
            simp only [Option.some.injEq, RCode.many.injEq] at hr
            obtain ⟨rfl, rfl⟩ := hr
            apply wp_region_any hmx
            have R' : Rl b e w.drew a n := ⟨R.get, R.size⟩
            show wpAny P .any ops Q ops.size _ a w.drew
            refine any_opsM OK hF he (prs_of hpa) hlen' (fun i o r ho hr => hspec i o r (by simpa using ho) hr) ops.size t' (List.range ops.size) [] [] _ ?_ (by simp) hck ht H.drew R' hd hQ
            refine ⟨fun i hi => List.mem_range.1 hi, by simp, by simp, by simp, rfl, trivial, by simp, by simp, by simp, fun i hi hn => absurd (List.mem_range.2 hi) hn, by simp, fun i hi => ?_, fun i o hi _ => ?_⟩
            · rw [Array.getD_eq_getD_getElem?]
              simp [hi]
            · exfalso
              rw [Array.getD_eq_getD_getElem?, Array.getElem?_replicate] at hi
              split at hi <;> simp at hi
  · exact absurd hr (by simp)
end
end Go.Proofs.YtpnmeednimpjdaaGreat.AM
namespace Go.Proofs.YtpnmeednimpjdaaGreat.AM
open Go Go.RowKit
set_option linter.unusedSimpArgs false
set_option linter.unusedVariables false
section
variable {F : Funs} {X : Exts}
def SQ (P : Program) (pur : List FuncId) (c : RCode) (e : Env) (h : AH) (R : Ex → Env → AH → Prop) : Prop :=
  ∀ (n : Nat) (code : Code) (b : Bt) (base : Nat) (w0 w : World) (a : Act) (Q : Exit → Act → World → Prop), rCode P pur n code = some c → Sim b h base w0 w → Rl b e w a n → a.defers = [] →
    (∀ x e' h', R x e' h' → ∀ c' a' w1, Rl (b ++ c') e' w1 a' n → SLe w.shape? w1.shape? → Sim (b ++ c') h' base w0 w1 → a'.defers = [] → Q (exOf x) a' w1) → CodeS P Q code a w
def RQ (Q : KP) : Ex → Env → AH → Prop := fun x e' h' => ∃ l' H', Ag l' e' ∧ HAg H' h' ∧ Q x l' H'
def WQ (F : Funs) (X : Exts) (c : RCode) (l : SE) (H : SH) (Q : KP) : Prop :=
  ∀ (P : Program) (pur : List FuncId), XOK P F X pur → FOK P pur F → ∀ e h, Ag l e → HAg H h → SQ P pur c e h (RQ Q)
def QSeq (F : Funs) (X : Exts) (b : RCode) (Q : KP) : KP := fun x l H => match x with
  | .normal => WQ F X b l H Q
  | x => Q x l H
def QLoop (F : Funs) (X : Exts) (c : RCode) (Q : KP) : KP := fun x l H => match x with
  | .normal => WQ F X (.loop c) l H Q
  | x => Q x l H
theorem QSeq_n {b : RCode} {Q : KP} {l : SE} {H : SH} (h : WQ F X b l H Q) : QSeq F X b Q .normal l H := h
theorem QSeq_x {b : RCode} {Q : KP} {l : SE} {H : SH} {j : Nat} (h : Q (.exit j) l H) : QSeq F X b Q (.exit j) l H := h
theorem QSeq_r {b : RCode} {Q : KP} {l : SE} {H : SH} (h : Q .ret l H) : QSeq F X b Q .ret l H := h
theorem QLoop_n {c : RCode} {Q : KP} {l : SE} {H : SH} (h : WQ F X (.loop c) l H Q) : QLoop F X c Q .normal l H := h
theorem QLoop_x {c : RCode} {Q : KP} {l : SE} {H : SH} {j : Nat} (h : Q (.exit j) l H) : QLoop F X c Q (.exit j) l H := h
theorem QLoop_r {c : RCode} {Q : KP} {l : SE} {H : SH} (h : Q .ret l H) : QLoop F X c Q .ret l H := h
theorem WQ_of {c : RCode} {l : SE} {H : SH} {Q : KP} (h : WC F X c l H Q) : WQ F X c l H Q := fun P pur OK hF e a hA hH => by
  obtain ⟨x, e2, h2, l2, H2, ho, x1, x2, x3⟩ := h e a hA hH
  intro n code b base w0 w act Q' hc HS R hd hQ
  exact sound OK hF ho n code b base w0 w act Q' hc HS R hd fun c' a' w1 R1 S1 H1 d1 => hQ x e2 h2 ⟨l2, H2, x1, x2, x3⟩ c' a' w1 R1 S1 H1 d1
theorem WQ_skip {l : SE} {H : SH} {Q : KP} (h : Q .normal l H) : WQ F X .skip l H Q := WQ_of (WC_skip h)
theorem WQ_ret {l : SE} {H : SH} {Q : KP} (h : Q .ret l H) : WQ F X .ret l H Q := WQ_of (WC_ret h)
theorem WQ_exit {id : Nat} {l : SE} {H : SH} {Q : KP} (h : Q (.exit id) l H) : WQ F X (.exit id) l H Q := WQ_of (WC_exit h)
theorem WQ_region {os : List RO} {l : SE} {H : SH} {Q : KP} (h : WO F X os l H (Q .normal)) : WQ F X (.region os) l H Q := WQ_of (WC_region h)
theorem WQ_seq {a b : RCode} {l : SE} {H : SH} {Q : KP} (h : WQ F X a l H (QSeq F X b Q)) : WQ F X (.seq a b) l H Q := fun P pur OK hF e g hA hH => by
  intro n code bt base w0 w act Q' hc HS R hd hQ
  obtain ⟨c1, c2, rfl, hc1, hc2⟩ := rCode_cases hc
  refine wp_seq (h P pur OK hF e g hA hH n c1 bt base w0 w act _ hc1 HS R hd fun x e2 h2 hr c a' w1 R1 hS1 H1 hd1 => ?_).wp
  obtain ⟨l2, H2, x1, x2, x3⟩ := hr
  cases x with
  | normal =>
    show c2.wp P Q' a' w1
    exact (x3 P pur OK hF e2 h2 x1 x2 n c2 _ base w0 w1 a' _ hc2 H1 R1 hd1 fun y e3 h3 hr3 c' a2 w2 R2 hS2 H2 hd2 => hQ y e3 h3 hr3 (c ++ c') a2 w2 (by rw [← List.append_assoc]; exact R2) (hS1.trans hS2) (by rw [← List.append_assoc]; exact H2) hd2).wp
  | exit id => exact hQ (.exit id) e2 h2 ⟨l2, H2, x1, x2, x3⟩ c a' w1 R1 hS1 H1 hd1
  | ret => exact hQ .ret e2 h2 ⟨l2, H2, x1, x2, x3⟩ c a' w1 R1 hS1 H1 hd1
theorem WQ_cond {c : Opd} {v : Bool} {a b : RCode} {l : SE} {H : SH} {Q : KP} (hc : c.lv l = some (.bool v)) (h1 : v = true → WQ F X a l H Q) (h2 : v = false → WQ F X b l H Q) : WQ F X (.cond c a b) l H Q := fun P pur OK hF e g hA hH => by
  intro n code bt base w0 w act Q' hcode HS R hd hQ
  obtain ⟨z, c1, c2, rfl, hz, hc1, hc2⟩ := rCode_cases hcode
  have hcv := Opd.lv_ev hA hc
  cases v with
  | true => exact wp_cond_true (opd_sound R hz hcv).bool_inv (h1 rfl P pur OK hF e g hA hH n c1 bt base w0 w act _ hc1 HS R hd hQ).wp
  | false => exact wp_cond_false (opd_sound R hz hcv).bool_inv (h2 rfl P pur OK hF e g hA hH n c2 bt base w0 w act _ hc2 HS R hd hQ).wp
theorem WQ_block {id : Nat} {c : RCode} {l : SE} {H : SH} {Q : KP} (h : WQ F X c l H (KBlock id Q)) : WQ F X (.block id c) l H Q := fun P pur OK hF e g hA hH => by
  intro n code bt base w0 w act Q' hc HS R hd hQ
  obtain ⟨c1, rfl, hc1⟩ := rCode_cases hc
  refine wp_block (h P pur OK hF e g hA hH n c1 bt base w0 w act _ hc1 HS R hd fun x e2 h2 hr c a' w1 R1 hS1 H1 hd1 => ?_).wp
  obtain ⟨l2, H2, x1, x2, x3⟩ := hr
  cases x with
  | normal => exact hQ .normal e2 h2 ⟨l2, H2, x1, x2, x3⟩ c a' w1 R1 hS1 H1 hd1
  | ret => exact hQ .ret e2 h2 ⟨l2, H2, x1, x2, x3⟩ c a' w1 R1 hS1 H1 hd1
  | exit i =>
    show Exit.inBlock id Q' (.exit i) a' w1
    simp only [Exit.inBlock]
    by_cases hi : i = id
    · subst hi
      rw [if_pos rfl]
      simp only [KBlock, if_pos] at x3
      exact hQ .normal e2 h2 ⟨l2, H2, x1, x2, x3⟩ c a' w1 R1 hS1 H1 hd1
    · rw [if_neg hi]
      simp only [KBlock, if_neg hi] at x3
      exact hQ (.exit i) e2 h2 ⟨l2, H2, x1, x2, x3⟩ c a' w1 R1 hS1 H1 hd1
theorem WQ_loop {c : RCode} {l : SE} {H : SH} {Q : KP} (h : WQ F X c l H (QLoop F X c Q)) : WQ F X (.loop c) l H Q := fun P pur OK hF e g hA hH => by
  intro n code bt base w0 w act Q' hc HS R hd hQ
  obtain ⟨c1, rfl, hc1⟩ := rCode_cases hc
  refine loop_once (h P pur OK hF e g hA hH n c1 bt base w0 w act _ hc1 HS R hd fun x e2 h2 hr c a' w1 R1 hS1 H1 hd1 => ?_).wp
  obtain ⟨l2, H2, x1, x2, x3⟩ := hr
  cases x with
  | normal =>
    exact x3 P pur OK hF e2 h2 x1 x2 n (.loop c1) _ base w0 w1 a' Q' hc H1 R1 hd1 fun y e3 h3 hr3 c' a2 w2 R2 hS2 H2 hd2 => hQ y e3 h3 hr3 (c ++ c') a2 w2 (by rw [← List.append_assoc]; exact R2) (hS1.trans hS2) (by rw [← List.append_assoc]; exact H2) hd2
  | exit id => exact hQ (.exit id) e2 h2 ⟨l2, H2, x1, x2, x3⟩ c a' w1 R1 hS1 H1 hd1
  | ret => exact hQ .ret e2 h2 ⟨l2, H2, x1, x2, x3⟩ c a' w1 R1 hS1 H1 hd1
theorem WQ_weak {c : RCode} {l l' : SE} {H H' : SH} {Q : KP} (h : WQ F X c l' H' Q) (h1 : SubE l l') (h2 : HSub H H') : WQ F X c l H Q := fun P pur OK hF e a hA hH => h P pur OK hF e a (h1.ag hA) (h2.hag hH)
theorem WQ_view {c : RCode} {l : SE} {H H' : SH} {Q : KP} (hv : ∀ h, HAg H h → HAg H' h) (h : WQ F X c l H' Q) : WQ F X c l H Q := fun P pur OK hF e a hA hH => h P pur OK hF e a hA (hv _ hH)
theorem WQ_conseq {c : RCode} {l : SE} {H : SH} {P Q : KP} (h : WQ F X c l H (KPost P)) (hk : ∀ x l' H', P x l' H' → ∀ a, HAg H' a → ∃ H'', HAg H'' a ∧ Q x l' H'') : WQ F X c l H Q := fun Pr pur OK hF e a hA hH => by
  intro n code bt base w0 w act Q' hc HS R hd hQ
  refine h Pr pur OK hF e a hA hH n code bt base w0 w act Q' hc HS R hd fun x e2 h2 hr c' a' w1 R1 hS1 H1 hd1 => ?_
  obtain ⟨l2, H2, x1, x2, l3, H3, s1, s2, hp⟩ := hr
  obtain ⟨H4, y2, y3⟩ := hk x l3 H3 hp h2 (s2.hag x2)
  exact hQ x e2 h2 ⟨l3, H4, s1.ag x1, y2, y3⟩ c' a' w1 R1 hS1 H1 hd1
theorem WQ_post {c : RCode} {l : SE} {H : SH} {P Q : KP} (h : WQ F X c l H (KPost P)) (hk : ∀ x l' H', P x l' H' → Q x l' H') : WQ F X c l H Q := WQ_conseq h fun x l' H' hp a ha => ⟨H', ha, hk x l' H' hp⟩
structure SD where
  i : Nat
  o : RO
  l : SE
  v : Value
def DAg : List SD → List DE → Prop
  | [], [] => True
  | s :: ss, d :: ds => (d.i = s.i ∧ d.o = s.o ∧ Ag s.l d.t.env ∧ d.t.v = s.v) ∧ DAg ss ds
  | _, _ => False
def WT (F : Funs) (X : Exts) (os : List RO) (t : RTree) (D : List SD) (l : SE) (H : SH) (Q : SE → SH → Prop) : Prop :=
  ∀ e h D', Ag l e → HAg H h → DAg D D' → TrO F X os t D' e h (fun e' h' => ∃ l' H', Ag l' e' ∧ HAg H' h' ∧ Q l' H')
def obT (dp : List Nat) (H : SH) : List SD → Prop
  | [] => True
  | d :: ds => (inL dp d.i = false → ObR d.o d.l H d.v) ∧ obT dp H ds
theorem obT_nil {dp : List Nat} {H : SH} : obT dp H [] := trivial
theorem obT_skip {dp : List Nat} {H : SH} {d : SD} {ds : List SD} (h : inL dp d.i = true) (k : obT dp H ds) : obT dp H (d :: ds) := ⟨fun x => absurd (h.symm.trans x) (by decide), k⟩
theorem obT_ob {dp : List Nat} {H : SH} {d : SD} {ds : List SD} (h : ObR d.o d.l H d.v) (k : obT dp H ds) : obT dp H (d :: ds) := ⟨fun _ => h, k⟩
theorem obT_all {dp : List Nat} {H : SH} {h : AH} (hH : HAg H h) (D : List SD) : ∀ (D' : List DE), DAg D D' → obT dp H D → ∀ d ∈ D', inL dp d.i = false → reread d.o d.t h = true := by
  induction D with
  | nil =>
    intro D' ha _ d hd
    cases D' with
    | nil => cases hd
    | cons x y => exact absurd ha id
  | cons s ss ih =>
    intro D' ha ho d hd hb
    cases D' with
    | nil => exact absurd ha id
    | cons d0 ds =>
      obtain ⟨⟨e1, e2, e3, e4⟩, ha2⟩ := ha
      rcases List.mem_cons.1 hd with rfl | hd
      · rw [e2]
        exact ho.1 (by rw [← e1]; exact hb) d.t h e3 e4 hH
      · exact ih ds ha2 ho.2 d hd hb
theorem DAg.filter {dp : List Nat} {D : List SD} : ∀ {D' : List DE}, DAg D D' → DAg (D.filter fun d => !inL dp d.i) (D'.filter fun d => !inL dp d.i) := by
  induction D with
  | nil =>
    intro D' ha
    cases D' with
    | nil => exact trivial
    | cons x y => exact absurd ha id
  | cons s ss ih =>
    intro D' ha
    cases D' with
    | nil => exact absurd ha id
    | cons d ds =>
      obtain ⟨⟨e1, e2, e3, e4⟩, hr⟩ := ha
      have hb : ∀ x, inL dp s.i = x → inL dp d.i = x := fun x h => by rw [e1]; exact h
      cases hx : inL dp s.i with
      | false =>
        rw [List.filter_cons_of_pos (by simp [hx]), List.filter_cons_of_pos (by simp [hb _ hx])]
        exact ⟨⟨e1, e2, e3, e4⟩, ih hr⟩
      | true =>
        rw [List.filter_cons_of_neg (by simp [hx]), List.filter_cons_of_neg (by simp [hb _ hx])]
        exact ih hr
variable {os : List RO} {D : List SD} {l : SE} {H : SH} {Q : SE → SH → Prop} {t : RTree} {i : Nat} {dp : List Nat} {o : RO}
theorem WT_leaf (h : Q l H) : WT F X os .leaf D l H Q := fun e a D' hA hH hD => ⟨l, H, hA, hH, h⟩
theorem WT_alt {a b : RTree} (h1 : WT F X os a D l H Q) (h2 : WT F X os b D l H Q) : WT F X os (.alt a b) D l H Q := fun e a D' hA hH hD => ⟨h1 e a D' hA hH hD, h2 e a D' hA hH hD⟩
theorem step_nocall {op : ROp} {e : Env} {a h1 : AH} {v : Value} (h : ev op e a = some (v, h1)) : op.isCall = false := by
  cases op <;> first | rfl | (simp [ev] at h)
theorem WTq_step (hw : os[i]? = some o ∧ wantsL o.guard l = some true) (hs : Step o.op l H (fun v H1 => WT F X os t D (putL l o.dst v) H1 Q)) : WT F X os (.q i t) D l H Q := fun e a D' hA hH hD => by
  obtain ⟨v, h1, H1, hv, hH1, k⟩ := hs e a hA hH
  exact ⟨o, v, h1, hw.1, .inr ⟨wantsL_ev hA hw.2, .inl ⟨step_nocall hv, hv⟩⟩, k _ h1 D' (hA.put o.dst v) hH1 hD⟩
theorem WTr_step (hw : os[i]? = some o ∧ wantsL o.guard l = some true) (hs : Step o.op l H (fun v H1 => WT F X os t (⟨i, o, l, v⟩ :: D) (putL l o.dst v) H1 Q)) : WT F X os (.r i t) D l H Q := fun e a D' hA hH hD => by
  obtain ⟨v, h1, H1, hv, hH1, k⟩ := hs e a hA hH
  exact ⟨o, v, h1, hw.1, .inr ⟨wantsL_ev hA hw.2, .inl ⟨step_nocall hv, hv⟩⟩, k _ h1 (⟨i, o, ⟨e, a, v, h1⟩⟩ :: D') (hA.put o.dst v) hH1 ⟨⟨rfl, rfl, hA, rfl⟩, hD⟩⟩
theorem WTm_step (hw : os[i]? = some o ∧ wantsL o.guard l = some true) (hs : Step o.op l H (fun v H1 => obT dp H1 D ∧ WT F X os t (D.filter fun d => !inL dp d.i) (putL l o.dst v) H1 Q)) : WT F X os (.m i dp t) D l H Q := fun e a D' hA hH hD => by
  obtain ⟨v, h1, H1, hv, hH1, ho, k⟩ := hs e a hA hH
  exact ⟨o, v, h1, hw.1, .inr ⟨wantsL_ev hA hw.2, .inl ⟨step_nocall hv, hv⟩⟩, obT_all hH1 _ _ hD ho, k _ h1 _ (hA.put o.dst v) hH1 hD.filter⟩
theorem WTm_call {f : Opd} {args : List Opd} {g : FuncId} {vs : List Value} (h0 : os[i]? = some o) (ho : o.op = .call f args) (hw : wantsL o.guard l = some true) (hc : lcallee l f args = some (g, vs)) (hs : WF F X g vs H (fun v H1 => obT dp H1 D ∧ WT F X os t (D.filter fun d => !inL dp d.i) (putL l o.dst v) H1 Q)) : WT F X os (.m i dp t) D l H Q := fun e a D' hA hH hD => by
  obtain ⟨v, h1, H1, hv, hH1, hob, k⟩ := hs a hH
  exact ⟨o, v, h1, h0, .inr ⟨wantsL_ev hA hw, .inr ⟨f, args, g, vs, ho, lcallee_ev hA hc, hv⟩⟩, obT_all hH1 _ _ hD hob, k _ h1 _ (hA.put o.dst v) hH1 hD.filter⟩
theorem WQ_many {os : List RO} {t : RTree} {l : SE} {H : SH} {Q : KP} (h : WT F X os t [] l H (Q .normal)) : WQ F X (.many os t) l H Q := fun P pur OK hF e a hA hH => by
  intro n code bt base w0 w act Q' hc HS R hd hQ
  obtain ⟨id, ops, draw, rfl, hr⟩ := rCode_cases hc
  exact regionM_sound OK hF hr HS R hd (h e a [] hA hH trivial) fun e' h' hq c a' w1 R1 S1 H1 d1 => hQ .normal e' h' hq c a' w1 R1 S1 H1 d1
def WFQ (F : Funs) (X : Exts) (f : FuncId) (vs : List Value) (H : SH) (Q : Value → SH → Prop) : Prop := ∃ r, F f = some r ∧ WQ F X r.code (initL 0 vs) H (KFn r.results Q)
theorem WFQ_fn {f : FuncId} {r : RFunc} {vs : List Value} {H : SH} {Q : Value → SH → Prop} (hF : F f = some r) (h : WQ F X r.code (initL 0 vs) H (KFn r.results Q)) : WFQ F X f vs H Q := ⟨r, hF, h⟩
end
theorem WFQ.calls {P : Program} {F : Funs} {X : Exts} {pur : List FuncId} (OK : XOK P F X pur) (hF : FOK P pur F) {f : FuncId} {vs : List Value} {H : SH} {Q : Value → SH → Prop} (hw : WFQ F X f vs H Q) {b : Bt} {h : AH} {base : Nat} {w0 w : World} {args : List Value} (hh : HAg H h) (HS : Sim b h base w0 w) (hl : LR (VR b w.shape?) vs args) :
    Bodied P f ∧ Calls P f args.toArray w (fun en w1 => ∃ v h1 H1, HAg H1 h1 ∧ Q v H1 ∧ Post b h1 base w0 w v en w1) := by
  obtain ⟨r, hf, hq⟩ := hw
  have hrf := hF _ _ hf
  unfold rFunc at hrf
  split at hrf
  · rename_i fn hfn
    split at hrf
    · rename_i code hbody
      split at hrf
      · exact absurd hrf (by simp)
      · rename_i hname
        split at hrf
        · rename_i rs c hrs hcode
          simp only [Option.some.injEq] at hrf; subst hrf
          refine ⟨⟨fn, code, hfn, hbody, by simpa using hname⟩, ?_⟩
          refine calls_of_wp hfn hbody (hq P pur OK hF _ h (initL_ag vs Env.empty 0) hh fn.ntmps code b base w0 w _ _ hcode HS (Rl.init hl _) rfl fun x e2 h2 hr c' a' w1 R1 hS1 H1 hd1 => ?_).wp
          obtain ⟨l2, H2, x1, x2, x3, us, H3, x4, x5, x6⟩ := hr
          obtain ⟨v, k1, k2⟩ := fn_post hrs (x4 e2 h2 x1 x2) R1 hS1 H1
          cases x with
          | normal => exact ⟨hd1, v, k1, _, h2, H3, x5.hag x2, x6, k2⟩
          | ret => exact ⟨hd1, v, k1, _, h2, H3, x5.hag x2, x6, k2⟩
          | exit id => exact absurd rfl (x3 id)
        · exact absurd hrf (by simp)
    · exact absurd hrf (by simp)
  · exact absurd hrf (by simp)
end Go.Proofs.YtpnmeednimpjdaaGreat.AM
namespace Go.Proofs.YtpnmeednimpjdaaGreat.AM
open Go Go.RowKit
set_option linter.unusedSimpArgs false
set_option linter.unusedVariables false
def frzO : AObj → AObj
  | .row _ t c => .row true t c
  | _ => .dead
def Tr.mapT {α β : Type} (g : α → β) : Tr α → Tr β
  | .lf => .lf
  | .nd l o r => .nd (l.mapT g) (o.map g) (r.mapT g)
theorem Tr.getB_mapT {α β : Type} (g : α → β) : ∀ (t : Tr α) (bs : List Bool), (t.mapT g).getB bs = (t.getB bs).map g
  | .lf, bs => by rw [Tr.mapT, Tr.get_lf, Tr.get_lf]; rfl
  | .nd l o r, [] => rfl
  | .nd l o r, true :: bs => Tr.getB_mapT g r bs
  | .nd l o r, false :: bs => Tr.getB_mapT g l bs
def frz (h : AH) : AH := ⟨h.next, h.tr.mapT frzO⟩
theorem frz_get (h : AH) (i : Nat) : (frz h).get i = (h.get i).map frzO := Tr.getB_mapT _ _ _
theorem Sim.frz {b : Bt} {h : AH} {base : Nat} {w0 w : World} (H : Sim b h base w0 w) : Sim b (frz h) w.heap.size w w := by
  refine ⟨H.len, fun i hi => ?_, Below.refl _ _, Nat.le_refl _, fun i o hi => ?_, fun i j o o' k s s' _ h1 _ l1 => ?_, H.gd.here H.bel⟩
  · rw [frz_get, H.out i hi]; rfl
  · rw [frz_get] at hi
    simp only [Option.map_eq_some_iff] at hi
    obtain ⟨o0, hi, rfl⟩ := hi
    obtain ⟨k, s, hb, ho⟩ := H.obj i o0 hi
    refine ⟨k, s, hb, ?_⟩
    cases o0 with
    | row ro t c =>
      obtain ⟨h1, cs, t', fr, h2, h3, h4, _⟩ := ho
      refine ⟨h1, cs, t', fr, h2, h3, h4, ?_⟩
      rw [if_pos rfl]
      exact (Array.getElem?_eq_some_iff.1 h2).1
    | _ => trivial
  · rw [frz_get] at h1
    simp only [Option.map_eq_some_iff] at h1
    obtain ⟨o0, _, rfl⟩ := h1
    cases o0 <;> cases l1
def resAt (h : AH) (i : Nat) : Option Res := match h.get i with
  | some (.row true t c) => some (.ro i t c)
  | some .dead => some (.gone i)
  | _ => none
def HF (h : AH) : SH := (List.range h.next).filterMap (resAt h)
theorem HF_hag (h : AH) : HAg (HF h) h := by
  have key : ∀ r ∈ HF h, r.holds h ∧ r.foot = [] := by
    intro r hr
    unfold HF at hr
    obtain ⟨i, hi, hri⟩ := List.mem_filterMap.1 hr
    have hlt := List.mem_range.1 hi
    unfold resAt at hri
    split at hri
    · rename_i t c hg; cases hri; exact ⟨⟨hlt, hg⟩, rfl⟩
    · rename_i hg; cases hri; exact ⟨⟨hlt, hg⟩, rfl⟩
    · cases hri
  refine ⟨fun r hr => (key r hr).1, ?_⟩
  have : (HF h).flatMap Res.foot = [] := by
    rw [List.flatMap_eq_nil_iff]
    exact fun r hr => (key r hr).2
  rw [this]; exact List.nodup_nil
theorem Rd.frz {H : SH} {h : AH} {v : Value} {es n : Nat} {cs : List Value} (hH : HAg H h) (hr : Rd H v es n cs) : Rd (HF (AM.frz h)) v es n cs := by
  refine ⟨hr.1, fun a ha => ?_⟩
  rcases hr.2 h hH with ⟨ro, t, hlen, hw⟩ | ⟨h1, h2, i, o, h3, h4, h5⟩
  · refine .inl ⟨true, t, hlen, ?_⟩
    rcases hw with hw | ⟨i, o, c, h1, h2, h3, h4, h5⟩
    · exact .inl hw
    · have hg : (AM.frz h).get i = some (.row true t c) := by rw [frz_get, h3]; rfl
      have hm : Res.ro i t c ∈ HF (AM.frz h) := by
        unfold HF
        refine List.mem_filterMap.2 ⟨i, List.mem_range.2 h2, ?_⟩
        unfold resAt; rw [hg]
      obtain ⟨k1, k2⟩ := ha.1 _ hm
      exact .inr ⟨i, o, c, h1, k1, k2, h4, h5⟩
  · have hg : (AM.frz h).get i = some .dead := by rw [frz_get, h5]; rfl
    have hm : Res.gone i ∈ HF (AM.frz h) := by
      unfold HF
      refine List.mem_filterMap.2 ⟨i, List.mem_range.2 h4, ?_⟩
      unfold resAt; rw [hg]
    obtain ⟨k1, k2⟩ := ha.1 _ hm
    exact .inr ⟨h1, h2, i, o, h3, k1, k2⟩
theorem RD.frz {α : Type} {H : SH} {h : AH} {v : Value} {T : Ty α} {xs : List α} (hH : HAg H h) (hr : RD H v T xs) : RD (HF (AM.frz h)) v T xs := Rd.frz hH hr
section
variable {P : Program} {F : Funs} {X : Exts} {pur : List FuncId}
theorem WFQ.bodied (hF : FOK P pur F) {f : FuncId} {vs : List Value} {H : SH} {Q : Value → SH → Prop} (hw : WFQ F X f vs H Q) : Bodied P f := by
  obtain ⟨r, hf, _⟩ := hw
  have hrf := hF _ _ hf
  unfold rFunc at hrf
  split at hrf
  · rename_i fn hfn
    split at hrf
    · rename_i code hbody
      split at hrf
      · exact absurd hrf (by simp)
      · rename_i hname
        exact ⟨fn, code, hfn, hbody, by simpa using hname⟩
    · exact absurd hrf (by simp)
  · exact absurd hrf (by simp)
def PureAt (F : Funs) (X : Exts) (f : FuncId) (vs : List Value) (h : AH) (v : Value) : Prop := g1 v = true ∧ WFQ F X f vs (HF (frz h)) (fun r _ => r = v)
theorem PureAt.sound (OK : XOK P F X pur) (hF : FOK P pur F) {f : FuncId} {vs : List Value} {h : AH} {v : Value} (hp : PureAt F X f vs h v) : SoundFn P f vs h v h := by
  obtain ⟨hg, hw⟩ := hp
  refine ⟨hw.bodied hF, fun b base w0 w args H hl => ?_⟩
  refine (hw.calls OK hF (HF_hag _) H.frz hl).2.mono fun e w1 hp => ?_
  obtain ⟨u, h1, H1, _, rfl, c, v', rfl, hvr, _, HS⟩ := hp
  rw [hvr.g1_inv hg]
  exact ⟨[], u, rfl, .g1 hg, below_shape HS.bel, by rw [List.append_nil]; exact H.below HS.bel⟩
open Classical in
noncomputable def pureX (F : Funs) (X : Exts) (fs : List FuncId) (R : FuncId → List Value → AH → Value → Prop) : Exts := fun g vs h =>
  if fs.contains g = true then (if hv : ∃ v, R g vs h v ∧ PureAt F X g vs h v then some (hv.choose, h) else none) else X g vs h
theorem pureX_ok {R : FuncId → List Value → AH → Value → Prop} {F' : Funs} (OK : XOK P F X pur) (hF : FOK P pur F) {fs : List FuncId} (hd : ∀ g, pur.contains g = true → fs.contains g = false) (hn : ∀ g, pur.contains g = true → F' g = none) : XOK P F' (pureX F X fs R) pur := by
  refine ⟨fun g vs h v h1 hx => ?_, fun g vs h v h1 hp hx => ?_, hn⟩
  · unfold pureX at hx
    split at hx
    · split at hx
      · rename_i hv
        simp only [Option.some.injEq, Prod.mk.injEq] at hx
        obtain ⟨rfl, rfl⟩ := hx
        exact hv.choose_spec.2.sound OK hF
      · cases hx
    · exact OK.sound g vs h v h1 hx
  · have hf := hd g hp
    have key : ∀ h2, pureX F X fs R g vs h2 = X g vs h2 := fun h2 => by unfold pureX; rw [if_neg (by rw [hf]; decide)]
    rw [key] at hx
    obtain ⟨k1, k2⟩ := OK.pure g vs h v h1 hp hx
    exact ⟨k1, fun h2 => by rw [key]; exact k2 h2⟩
theorem WF_pure {R : FuncId → List Value → AH → Value → Prop} {F' : Funs} {fs : List FuncId} {f : FuncId} {vs : List Value} {H : SH} {v : Value} (hm : fs.contains f = true) (hg : g1 v = true)
    (hw : ∀ h, HAg H h → R f vs h v ∧ WFQ F X f vs (HF (frz h)) (fun r _ => r = v)) (hu : ∀ (h : AH) (u : Value), HAg H h → R f vs h u → u = v) : WF F' (pureX F X fs R) f vs H (fun r H' => H' = H ∧ r = v) := by
  refine WF_ext fun a ha => ?_
  have hex : ∃ u, R f vs a u ∧ PureAt F X f vs a u := ⟨v, (hw a ha).1, hg, (hw a ha).2⟩
  refine ⟨v, a, H, ?_, ha, rfl, rfl⟩
  unfold pureX
  rw [if_pos hm, dif_pos hex, hu a _ ha hex.choose_spec.1]
theorem pureX_off {R : FuncId → List Value → AH → Value → Prop} {fs : List FuncId} {g : FuncId} {vs : List Value} {h : AH} (hm : fs.contains g = false) : pureX F X fs R g vs h = X g vs h := by
  unfold pureX; rw [if_neg (by rw [hm]; decide)]
end
theorem ReadsAt.uniq {h : AH} {v : Value} {es n n' : Nat} {cs cs' : List Value} (h1 : ReadsAt h v es n cs) (h2 : ReadsAt h v es n' cs') : cs = cs' := by
  rcases h1 with ⟨ro, t, l1, w1⟩ | ⟨rfl, rfl, i, o, rfl, k1, k2⟩
  · rcases h2 with ⟨ro', t', l2, w2⟩ | ⟨rfl, rfl, i, o, rfl, k1, k2⟩
    · rcases w1 with ⟨rfl, rfl⟩ | ⟨i, o, c, rfl, a1, a2, a3, rfl⟩
      · rcases w2 with ⟨_, rfl⟩ | ⟨_, _, _, e, _⟩
        · rw [List.length_eq_zero_iff.1 (by omega : cs.length = 0), List.length_eq_zero_iff.1 (by omega : cs'.length = 0)]
        · cases e
      · rcases w2 with ⟨e, _⟩ | ⟨i', o', c', e, b1, b2, b3, rfl⟩
        · cases e
        · cases e
          rw [a2] at b2; cases b2; rfl
    · rcases w1 with ⟨e, _⟩ | ⟨i', o', c', e, b1, b2, b3, rfl⟩
      · cases e
      · cases e; simp
  · rcases h2 with ⟨ro', t', l2, w2⟩ | ⟨_, rfl, _⟩
    · rcases w2 with ⟨e, _⟩ | ⟨i', o', c', e, b1, b2, b3, rfl⟩
      · cases e
      · cases e; simp
    · rfl
theorem Ty.cells_inj {α : Type} {T : Ty α} (hi : ∀ x y, T.enc x = T.enc y → x = y) (he : 0 < T.es) : ∀ {xs ys : List α}, T.cells xs = T.cells ys → xs = ys
  | [], [], _ => rfl
  | [], y :: ys, h => by
    have := congrArg List.length h
    rw [T.cells_len, T.cells_len, List.length_cons, List.length_nil, Nat.succ_mul] at this; omega
  | x :: xs, [], h => by
    have := congrArg List.length h
    rw [T.cells_len, T.cells_len, List.length_cons, List.length_nil, Nat.succ_mul] at this; omega
  | x :: xs, y :: ys, h => by
    have h1 : T.enc x ++ T.cells xs = T.enc y ++ T.cells ys := h
    have h2 := List.append_inj h1 (by rw [T.len, T.len])
    rw [hi x y h2.1, Ty.cells_inj hi he h2.2]
end Go.Proofs.YtpnmeednimpjdaaGreat.AM
namespace Go.Proofs.YtpnmeednimpjdaaGreat.AM
open Go
set_option linter.unusedSimpArgs false
set_option linter.unusedVariables false
set_option maxRecDepth 4000
set_option linter.unusedSectionVars false
variable {X : Exts} [HX X]
instance SlT.dec : DecidableEq SlT := fun a b => decidable_of_iff (a.has = b.has ∧ a.r = b.r) (by cases a; cases b; simp)
theorem TSlT_inj : ∀ x y : SlT, TSlT.enc x = TSlT.enc y → x = y := by
  intro x y h
  obtain ⟨a, ⟨b, c, ⟨d, e, f⟩⟩⟩ := x
  obtain ⟨a', ⟨b', c', ⟨d', e', f'⟩⟩⟩ := y
  simp [TSlT, Ty.ofAgg] at h
  obtain ⟨rfl, rfl, rfl, rfl, rfl, rfl⟩ := h
  rfl
theorem TRec_inj : ∀ x y : Rec, TRec.enc x = TRec.enc y → x = y := by
  intro x y h
  obtain ⟨b, c, ⟨d, e, f⟩⟩ := x
  obtain ⟨b', c', ⟨d', e', f'⟩⟩ := y
  simp [TRec, Ty.ofAgg] at h
  obtain ⟨rfl, rfl, rfl, rfl, rfl⟩ := h
  rfl
theorem tabV_inj {a b : List SlT} (h : tabV a = tabV b) : a = b := by
  injection h with h
  have h2 : TSlT.cells a = TSlT.cells b := by simpa using congrArg Array.toList h
  exact Ty.cells_inj TSlT_inj (by decide) h2
theorem tabV_g1 (a : List SlT) : g1 (tabV a) = true := by
  show ((TSlT.cells a).toArray.toList.all g0) = true
  rw [List.all_eq_true]
  intro v hv
  unfold Ty.cells at hv
  simp only [List.toList_toArray] at hv
  obtain ⟨x, _, hx⟩ := List.mem_flatMap.1 hv
  have : ∀ v ∈ TSlT.enc x, g0 v = true := by
    intro v hv
    simp [TSlT, Ty.ofAgg] at hv
    rcases hv with rfl | rfl | rfl | rfl | rfl | rfl <;> rfl
  exact this v hx
theorem lp_OfT {H : SH} {ts : List SlT} {i1 i2 i3 : Nat} (hl : ts.length = 32) : ∀ (m k : Nat) (xs : List SlT), 32 - k = m → k ≤ 32 → xs.length = 32 → (∀ j, j < k → xs[j]? = ts[j]?) →
    WC F X (.loop L_loesslaw19_Of_0) [(4, .int .i64 (k : Int)), (1, .pointer (some ⟨i1, 0, none⟩)), (2, .pointer (some ⟨i2, 0, none⟩)), (3, .pointer (some ⟨i3, 0, none⟩))] (AO i3 43 TSlT xs :: AO i2 43 TSlT zeroT :: AO i1 33 TSlT ts :: H)
      (KPost fun y l' H' => y = .exit 0 ∧ l' = [(2, .pointer (some ⟨i2, 0, none⟩)), (3, .pointer (some ⟨i3, 0, none⟩))] ∧ H' = AO i3 43 TSlT ts :: AO i2 43 TSlT zeroT :: H) := by
  intro m
  induction m using Nat.strongRecOn with
  | _ m ih =>
    intro k xs hm hk hxl hxs
    refine WC_loop (WC_seq (WC_seq (WC_region ?_)))
    iterate 2 refine WO_step rfl (S_pure rfl ?_)
    refine WO_nil (KSeq_n ?_)
    refine WC_cond rfl (fun hb1 => ?_) (fun hb1 => ?_)
    ·
     try simp only [bsT] at hb1
     obtain ⟨x, hx⟩ := get_of_lt (show k < ts.length by omega)
     refine WC_skip (KSeq_n (WC_seq (WC_block (WC_region ?_))))
     refine WO_step rfl (S_pure rfl ?_)
     refine WO_step rfl (S_quoN (a := k) (m := 4) rfl rfl (by omega) (by omega) ?_)
     refine WO_step rfl (S_pure rfl ?_)
     refine WO_step rfl (S_remU (a := k) (m := 4) rfl rfl (by omega) ?_)
     refine WO_step rfl (S_pure rfl ?_)
     refine WO_step rfl (S_quoN (a := k) (m := 4) rfl rfl (by omega) (by omega) ?_)
     refine WO_step rfl (S_pure rfl ?_)
     refine WO_step rfl (S_remU (a := k) (m := 4) rfl rfl (by omega) ?_)
     refine WO_step rfl (S_idxA (j := k / 4) rfl rfl rfl (by omega) ?_)
     refine WO_step rfl (S_idxA (j := k % 4) rfl rfl rfl (by omega) ?_)
     refine WO_step rfl (S_pure rfl ?_)
     refine WO_step rfl (S_loadAF (T := TSlT) (k := k) (off := 0) (v := .bool x.has) rfl pkA (by show _ = k * 6 + 0; omega) hx (by show 0 + 1 ≤ 6; omega) (by rfl) ?_)
     refine WO_step rfl (S_pure rfl ?_)
     refine WO_step rfl (S_quoN (a := k) (m := 4) rfl rfl (by omega) (by omega) ?_)
     refine WO_step rfl (S_pure rfl ?_)
     refine WO_step rfl (S_remU (a := k) (m := 4) rfl rfl (by omega) ?_)
     refine WO_step rfl (S_idxA (j := k / 4) rfl rfl rfl (by omega) ?_)
     refine WO_step rfl (S_idxA (j := k % 4) rfl rfl rfl (by omega) ?_)
     refine WO_step rfl (S_pure rfl ?_)
     refine WO_step rfl (S_loadAF (T := TSlT) (k := k) (off := 1) (v := TRec.val x.r) rfl pkA (by show _ = k * 6 + 1; omega) hx (by show 1 + 5 ≤ 6; omega) (by rfl) ?_)
     refine WO_step rfl (S_pure rfl ?_)
     refine WO_step rfl (S_idxA (j := k / 4) rfl rfl rfl (by omega) ?_)
     refine WO_step rfl (S_idxA (j := k % 4) rfl rfl rfl (by omega) ?_)
     refine WO_step rfl (S_storeA (T := TSlT) (k := k) (x := x) rfl rfl pkA (by show _ = k * 6; omega) (by omega) (by rfl) rfl ?_)
     refine WO_nil (KBlock_n (KSeq_n (WC_region ?_)))
     refine WO_step rfl (S_pure rfl ?_)
     first | refine WO_step rfl (S_addN (b := 1) rfl rfl (by omega) ?_) | refine WO_step rfl (S_pure rfl ?_)
     refine WO_step rfl (S_pure rfl ?_)
     refine WO_nil (KLoop_n ?_)
     refine WC_weak (ih (32 - (k + 1)) (by omega) (k + 1) (xs.set k x) rfl (by omega) (by rw [List.length_set]; exact hxl) (fun j hj => ?_)) seA hsA
     rw [List.getElem?_set]
     by_cases e : k = j
     · subst e; rw [if_pos rfl, if_pos (by omega), hx]
     · rw [if_neg e]; exact hxs j (by omega)
    ·
     try simp only [bsT] at hb1
     refine WC_exit (KSeq_x (KLoop_x ?_))
     have ek : k = 32 := by omega
     subst ek
     have e : xs = ts := by
       refine List.ext_getElem? fun j => ?_
       by_cases hj : j < 32
       · exact hxs j hj
       · rw [List.getElem?_eq_none (by omega), List.getElem?_eq_none (by omega)]
     subst e
     exact KPost_i seA hsA ⟨rfl, rfl, rfl⟩
theorem sp_OfT {H : SH} {ts : List SlT} (hl : ts.length = 32) : WF F X f_loesslaw19_Of [tabV ts] H (fun r H' => H' = H ∧ r = tabV ts) := by
  refine WF_fn F_loesslaw19_Of ?_
  refine WC_seq (WC_region ?_)
  refine WO_step rfl (S_boxA (T := TSlT) (xs := ts) rfl fun i1 => ?_)
  refine WO_step rfl (S_new fun i2 => ?_)
  refine WO_nil (KSeq_n (WC_seq (WC_region ?_)))
  refine WO_step rfl (S_new fun i3 => ?_)
  refine WO_nil (KSeq_n (WC_seq (WC_seq (WC_region ?_))))
  refine WO_step rfl (S_pure rfl ?_)
  refine WO_nil (KSeq_n (WC_block ?_))
  refine WC_view (H' := AO i3 43 TSlT zeroT :: AO i2 43 TSlT zeroT :: AO i1 33 TSlT ts :: H) (fun h hh => hh) ?_
  refine WC_post (WC_weak (lp_OfT (H := H) (ts := ts) (i1 := i1) (i2 := i2) (i3 := i3) hl 32 0 zeroT (by omega) (by omega) zeroT_len (fun j hj => absurd hj (Nat.not_lt_zero _))) seA HSub.refl) ?_
  rintro y l' _ ⟨rfl, rfl, rfl⟩
  refine KBlock_h (KSeq_n (WC_seq (WC_region ?_)))
  refine WO_step rfl (S_loadAll (T := TSlT) (xs := ts) rfl pkA (by rw [hl]; rfl) ?_)
  refine WO_step rfl (S_storeTab (ts0 := zeroT) (ts := ts) rfl rfl pkA zeroT_len hl ?_)
  refine WO_nil (KSeq_n (WC_ret ?_))
  refine KFn_r (ResL.tab rfl pkA (by first | assumption | exact zeroT_len) ResL.nil) ?_
  exact ⟨H, hsA, rfl, rfl⟩
theorem lp_BkT {H : SH} {ts : List SlT} {i1 i2 i3 : Nat} (hl : ts.length = 32) : ∀ (m k : Nat) (xs : List SlT), 32 - k = m → k ≤ 32 → xs.length = 32 → (∀ j, j < k → xs[j]? = ts[j]?) →
    WC F X (.loop L_loesslaw19_Back_0) [(4, .int .i64 (k : Int)), (1, .pointer (some ⟨i1, 0, none⟩)), (2, .pointer (some ⟨i2, 0, none⟩)), (3, .pointer (some ⟨i3, 0, none⟩))] (AO i3 33 TSlT xs :: AO i2 33 TSlT zeroT :: AO i1 43 TSlT ts :: H)
      (KPost fun y l' H' => y = .exit 0 ∧ l' = [(2, .pointer (some ⟨i2, 0, none⟩)), (3, .pointer (some ⟨i3, 0, none⟩))] ∧ H' = AO i3 33 TSlT ts :: AO i2 33 TSlT zeroT :: H) := by
  intro m
  induction m using Nat.strongRecOn with
  | _ m ih =>
    intro k xs hm hk hxl hxs
    refine WC_loop (WC_seq (WC_seq (WC_region ?_)))
    iterate 2 refine WO_step rfl (S_pure rfl ?_)
    refine WO_nil (KSeq_n ?_)
    refine WC_cond rfl (fun hb1 => ?_) (fun hb1 => ?_)
    ·
     try simp only [bsT] at hb1
     obtain ⟨x, hx⟩ := get_of_lt (show k < ts.length by omega)
     refine WC_skip (KSeq_n (WC_seq (WC_block (WC_region ?_))))
     refine WO_step rfl (S_pure rfl ?_)
     refine WO_step rfl (S_quoN (a := k) (m := 4) rfl rfl (by omega) (by omega) ?_)
     refine WO_step rfl (S_pure rfl ?_)
     refine WO_step rfl (S_remU (a := k) (m := 4) rfl rfl (by omega) ?_)
     refine WO_step rfl (S_pure rfl ?_)
     refine WO_step rfl (S_quoN (a := k) (m := 4) rfl rfl (by omega) (by omega) ?_)
     refine WO_step rfl (S_pure rfl ?_)
     refine WO_step rfl (S_remU (a := k) (m := 4) rfl rfl (by omega) ?_)
     refine WO_step rfl (S_idxA (j := k / 4) rfl rfl rfl (by omega) ?_)
     refine WO_step rfl (S_idxA (j := k % 4) rfl rfl rfl (by omega) ?_)
     refine WO_step rfl (S_pure rfl ?_)
     refine WO_step rfl (S_loadAF (T := TSlT) (k := k) (off := 0) (v := .bool x.has) rfl pkA (by show _ = k * 6 + 0; omega) hx (by show 0 + 1 ≤ 6; omega) (by rfl) ?_)
     refine WO_step rfl (S_pure rfl ?_)
     refine WO_step rfl (S_quoN (a := k) (m := 4) rfl rfl (by omega) (by omega) ?_)
     refine WO_step rfl (S_pure rfl ?_)
     refine WO_step rfl (S_remU (a := k) (m := 4) rfl rfl (by omega) ?_)
     refine WO_step rfl (S_idxA (j := k / 4) rfl rfl rfl (by omega) ?_)
     refine WO_step rfl (S_idxA (j := k % 4) rfl rfl rfl (by omega) ?_)
     refine WO_step rfl (S_pure rfl ?_)
     refine WO_step rfl (S_loadAF (T := TSlT) (k := k) (off := 1) (v := TRec.val x.r) rfl pkA (by show _ = k * 6 + 1; omega) hx (by show 1 + 5 ≤ 6; omega) (by rfl) ?_)
     refine WO_step rfl (S_pure rfl ?_)
     refine WO_step rfl (S_idxA (j := k / 4) rfl rfl rfl (by omega) ?_)
     refine WO_step rfl (S_idxA (j := k % 4) rfl rfl rfl (by omega) ?_)
     refine WO_step rfl (S_storeA (T := TSlT) (k := k) (x := x) rfl rfl pkA (by show _ = k * 6; omega) (by omega) (by rfl) rfl ?_)
     refine WO_nil (KBlock_n (KSeq_n (WC_region ?_)))
     refine WO_step rfl (S_pure rfl ?_)
     first | refine WO_step rfl (S_addN (b := 1) rfl rfl (by omega) ?_) | refine WO_step rfl (S_pure rfl ?_)
     refine WO_step rfl (S_pure rfl ?_)
     refine WO_nil (KLoop_n ?_)
     refine WC_weak (ih (32 - (k + 1)) (by omega) (k + 1) (xs.set k x) rfl (by omega) (by rw [List.length_set]; exact hxl) (fun j hj => ?_)) seA hsA
     rw [List.getElem?_set]
     by_cases e : k = j
     · subst e; rw [if_pos rfl, if_pos (by omega), hx]
     · rw [if_neg e]; exact hxs j (by omega)
    ·
     try simp only [bsT] at hb1
     refine WC_exit (KSeq_x (KLoop_x ?_))
     have ek : k = 32 := by omega
     subst ek
     have e : xs = ts := by
       refine List.ext_getElem? fun j => ?_
       by_cases hj : j < 32
       · exact hxs j hj
       · rw [List.getElem?_eq_none (by omega), List.getElem?_eq_none (by omega)]
     subst e
     exact KPost_i seA hsA ⟨rfl, rfl, rfl⟩
theorem sp_BkT {H : SH} {ts : List SlT} (hl : ts.length = 32) : WF F X f_loesslaw19_Back [tabV ts] H (fun r H' => H' = H ∧ r = tabV ts) := by
  refine WF_fn F_loesslaw19_Back ?_
  refine WC_seq (WC_region ?_)
  refine WO_step rfl (S_boxA (T := TSlT) (xs := ts) rfl fun i1 => ?_)
  refine WO_step rfl (S_new fun i2 => ?_)
  refine WO_nil (KSeq_n (WC_seq (WC_region ?_)))
  refine WO_step rfl (S_new fun i3 => ?_)
  refine WO_nil (KSeq_n (WC_seq (WC_seq (WC_region ?_))))
  refine WO_step rfl (S_pure rfl ?_)
  refine WO_nil (KSeq_n (WC_block ?_))
  refine WC_view (H' := AO i3 33 TSlT zeroT :: AO i2 33 TSlT zeroT :: AO i1 43 TSlT ts :: H) (fun h hh => hh) ?_
  refine WC_post (WC_weak (lp_BkT (H := H) (ts := ts) (i1 := i1) (i2 := i2) (i3 := i3) hl 32 0 zeroT (by omega) (by omega) zeroT_len (fun j hj => absurd hj (Nat.not_lt_zero _))) seA HSub.refl) ?_
  rintro y l' _ ⟨rfl, rfl, rfl⟩
  refine KBlock_h (KSeq_n (WC_seq (WC_region ?_)))
  refine WO_step rfl (S_loadAll (T := TSlT) (xs := ts) rfl pkA (by rw [hl]; rfl) ?_)
  refine WO_step rfl (S_storeTab (ts0 := zeroT) (ts := ts) rfl rfl pkA zeroT_len hl ?_)
  refine WO_nil (KSeq_n (WC_ret ?_))
  refine KFn_r (ResL.tab rfl pkA (by first | assumption | exact zeroT_len) ResL.nil) ?_
  exact ⟨H, hsA, rfl, rfl⟩
theorem lp_eqT {H : SH} {xa xb : List SlT} {i2 i3 : Nat} (ha : xa.length = 32) (hb : xb.length = 32) : ∀ (m k : Nat), 32 - k = m → k ≤ 32 → xa.take k = xb.take k →
    WQ F X (.loop L_loesslaw19_eq_0) [(5, .int .i64 (k : Int)), (2, .pointer (some ⟨i2, 0, none⟩)), (3, .pointer (some ⟨i3, 0, none⟩))] (AO i3 33 TSlT xb :: AO i2 33 TSlT xa :: H)
      (KPost fun y l' H' => H' = H ∧ ((y = .exit 0 ∧ l' = [] ∧ xa = xb) ∨ (y = .ret ∧ l' = [(4, .bool false)] ∧ xa ≠ xb))) := by
  intro m
  induction m using Nat.strongRecOn with
  | _ m ih =>
    intro k hm hk heq
    refine WQ_loop (WQ_seq (WQ_seq (WQ_region ?_)))
    iterate 2 refine WO_step rfl (S_pure rfl ?_)
    refine WO_nil (QSeq_n ?_)
    refine WQ_cond rfl (fun hb1 => ?_) (fun hb1 => ?_)
    ·
     try simp only [bsT] at hb1
     obtain ⟨x, hx⟩ := get_of_lt (show k < xa.length by omega)
     obtain ⟨y, hy⟩ := get_of_lt (show k < xb.length by omega)
     have hne : ¬ x = y → xa ≠ xb := fun h e => by subst e; rw [hx] at hy; cases hy; exact h rfl
     refine WQ_skip (QSeq_n (WQ_seq (WQ_block (WQ_seq ?_))))
     refine WQ_post (P := fun x' l' H' => ∃ i6 i7, x' = .normal ∧ l' = [(5, .int .i64 (k : Int)), (2, .pointer (some ⟨i2, 0, none⟩)), (3, .pointer (some ⟨i3, 0, none⟩)), (6, .pointer (some ⟨i6, 0, none⟩)), (7, .pointer (some ⟨i7, 0, none⟩))] ∧ H' = OB i6 TSlT x :: OB i7 TSlT y :: AO i3 33 TSlT xb :: AO i2 33 TSlT xa :: H) ?_ ?_
     ·
      refine WQ_many ?_
      refine WTq_step ⟨rfl, rfl⟩ (S_pure rfl ?_)
      refine WTq_step ⟨rfl, rfl⟩ (S_quoN (a := k) (m := 4) rfl rfl (by omega) (by omega) ?_)
      refine WTq_step ⟨rfl, rfl⟩ (S_pure rfl ?_)
      refine WTq_step ⟨rfl, rfl⟩ (S_remU (a := k) (m := 4) rfl rfl (by omega) ?_)
      refine WTq_step ⟨rfl, rfl⟩ (S_idxA (j := k / 4) rfl rfl rfl (by omega) ?_)
      refine WTq_step ⟨rfl, rfl⟩ (S_idxA (j := k % 4) rfl rfl rfl (by omega) ?_)
      refine WTr_step ⟨rfl, rfl⟩ (S_loadA (T := TSlT) (k := k) rfl pkA (by show _ = k * 6; omega) hx rfl rfl ?_)
      refine WTq_step ⟨rfl, rfl⟩ (S_pure rfl ?_)
      refine WTq_step ⟨rfl, rfl⟩ (S_quoN (a := k) (m := 4) rfl rfl (by omega) (by omega) ?_)
      refine WTq_step ⟨rfl, rfl⟩ (S_pure rfl ?_)
      refine WTq_step ⟨rfl, rfl⟩ (S_remU (a := k) (m := 4) rfl rfl (by omega) ?_)
      refine WTq_step ⟨rfl, rfl⟩ (S_idxA (j := k / 4) rfl rfl rfl (by omega) ?_)
      refine WTq_step ⟨rfl, rfl⟩ (S_idxA (j := k % 4) rfl rfl rfl (by omega) ?_)
      refine WTr_step ⟨rfl, rfl⟩ (S_loadA (T := TSlT) (k := k) rfl pkA (by show _ = k * 6; omega) hy rfl rfl ?_)
      refine WT_alt ?_ ?_
      ·
       refine WTm_step ⟨rfl, rfl⟩ (S_newT TSlT slt0 rfl rfl fun i6 => ?_)
       refine And.intro ?_ ?_
       ·
        exact (by repeat (first | exact obT_nil | refine obT_skip rfl ?_ | refine obT_ob (ObR.of_step rfl (S_loadA (T := TSlT) (k := k) rfl pkA (by show _ = k * 6; omega) hx rfl rfl (by simp [eqV, eqVs, eqV0, TSlT, Ty.ofAgg, AM.cells, Value.cells]))) ?_ | refine obT_ob (ObR.of_step rfl (S_loadA (T := TSlT) (k := k) rfl pkA (by show _ = k * 6; omega) hy rfl rfl (by simp [eqV, eqVs, eqV0, TSlT, Ty.ofAgg, AM.cells, Value.cells]))) ?_))
       ·
        refine WTm_step ⟨rfl, rfl⟩ (S_newT TSlT slt0 rfl rfl fun i7 => ?_)
        refine And.intro ?_ ?_
        ·
         exact (by repeat (first | exact obT_nil | refine obT_skip rfl ?_ | refine obT_ob (ObR.of_step rfl (S_loadA (T := TSlT) (k := k) rfl pkA (by show _ = k * 6; omega) hx rfl rfl (by simp [eqV, eqVs, eqV0, TSlT, Ty.ofAgg, AM.cells, Value.cells]))) ?_ | refine obT_ob (ObR.of_step rfl (S_loadA (T := TSlT) (k := k) rfl pkA (by show _ = k * 6; omega) hy rfl rfl (by simp [eqV, eqVs, eqV0, TSlT, Ty.ofAgg, AM.cells, Value.cells]))) ?_))
        ·
         refine WTm_step ⟨rfl, rfl⟩ (S_storeT (T := TSlT) (y := x) rfl rfl pkA (by rfl) (by rfl) ?_)
         refine And.intro ?_ ?_
         ·
          exact (by repeat (first | exact obT_nil | refine obT_skip rfl ?_ | refine obT_ob (ObR.of_step rfl (S_loadA (T := TSlT) (k := k) rfl pkA (by show _ = k * 6; omega) hx rfl rfl (by simp [eqV, eqVs, eqV0, TSlT, Ty.ofAgg, AM.cells, Value.cells]))) ?_ | refine obT_ob (ObR.of_step rfl (S_loadA (T := TSlT) (k := k) rfl pkA (by show _ = k * 6; omega) hy rfl rfl (by simp [eqV, eqVs, eqV0, TSlT, Ty.ofAgg, AM.cells, Value.cells]))) ?_))
         ·
          refine WTm_step ⟨rfl, rfl⟩ (S_storeT (T := TSlT) (y := y) rfl rfl pkA (by rfl) (by rfl) ?_)
          refine And.intro ?_ ?_
          ·
           exact (by repeat (first | exact obT_nil | refine obT_skip rfl ?_ | refine obT_ob (ObR.of_step rfl (S_loadA (T := TSlT) (k := k) rfl pkA (by show _ = k * 6; omega) hx rfl rfl (by simp [eqV, eqVs, eqV0, TSlT, Ty.ofAgg, AM.cells, Value.cells]))) ?_ | refine obT_ob (ObR.of_step rfl (S_loadA (T := TSlT) (k := k) rfl pkA (by show _ = k * 6; omega) hy rfl rfl (by simp [eqV, eqVs, eqV0, TSlT, Ty.ofAgg, AM.cells, Value.cells]))) ?_))
          ·
           refine WT_leaf ?_
           exact KPost_i seA hsA ⟨i6, i7, rfl, rfl, rfl⟩
      ·
       refine WTm_step ⟨rfl, rfl⟩ (S_newT TSlT slt0 rfl rfl fun i7 => ?_)
       refine And.intro ?_ ?_
       ·
        exact (by repeat (first | exact obT_nil | refine obT_skip rfl ?_ | refine obT_ob (ObR.of_step rfl (S_loadA (T := TSlT) (k := k) rfl pkA (by show _ = k * 6; omega) hx rfl rfl (by simp [eqV, eqVs, eqV0, TSlT, Ty.ofAgg, AM.cells, Value.cells]))) ?_ | refine obT_ob (ObR.of_step rfl (S_loadA (T := TSlT) (k := k) rfl pkA (by show _ = k * 6; omega) hy rfl rfl (by simp [eqV, eqVs, eqV0, TSlT, Ty.ofAgg, AM.cells, Value.cells]))) ?_))
       ·
        refine WTm_step ⟨rfl, rfl⟩ (S_newT TSlT slt0 rfl rfl fun i6 => ?_)
        refine And.intro ?_ ?_
        ·
         exact (by repeat (first | exact obT_nil | refine obT_skip rfl ?_ | refine obT_ob (ObR.of_step rfl (S_loadA (T := TSlT) (k := k) rfl pkA (by show _ = k * 6; omega) hx rfl rfl (by simp [eqV, eqVs, eqV0, TSlT, Ty.ofAgg, AM.cells, Value.cells]))) ?_ | refine obT_ob (ObR.of_step rfl (S_loadA (T := TSlT) (k := k) rfl pkA (by show _ = k * 6; omega) hy rfl rfl (by simp [eqV, eqVs, eqV0, TSlT, Ty.ofAgg, AM.cells, Value.cells]))) ?_))
        ·
         refine WTm_step ⟨rfl, rfl⟩ (S_storeT (T := TSlT) (y := x) rfl rfl pkA (by rfl) (by rfl) ?_)
         refine And.intro ?_ ?_
         ·
          exact (by repeat (first | exact obT_nil | refine obT_skip rfl ?_ | refine obT_ob (ObR.of_step rfl (S_loadA (T := TSlT) (k := k) rfl pkA (by show _ = k * 6; omega) hx rfl rfl (by simp [eqV, eqVs, eqV0, TSlT, Ty.ofAgg, AM.cells, Value.cells]))) ?_ | refine obT_ob (ObR.of_step rfl (S_loadA (T := TSlT) (k := k) rfl pkA (by show _ = k * 6; omega) hy rfl rfl (by simp [eqV, eqVs, eqV0, TSlT, Ty.ofAgg, AM.cells, Value.cells]))) ?_))
         ·
          refine WTm_step ⟨rfl, rfl⟩ (S_storeT (T := TSlT) (y := y) rfl rfl pkA (by rfl) (by rfl) ?_)
          refine And.intro ?_ ?_
          ·
           exact (by repeat (first | exact obT_nil | refine obT_skip rfl ?_ | refine obT_ob (ObR.of_step rfl (S_loadA (T := TSlT) (k := k) rfl pkA (by show _ = k * 6; omega) hx rfl rfl (by simp [eqV, eqVs, eqV0, TSlT, Ty.ofAgg, AM.cells, Value.cells]))) ?_ | refine obT_ob (ObR.of_step rfl (S_loadA (T := TSlT) (k := k) rfl pkA (by show _ = k * 6; omega) hy rfl rfl (by simp [eqV, eqVs, eqV0, TSlT, Ty.ofAgg, AM.cells, Value.cells]))) ?_))
          ·
           refine WT_leaf ?_
           exact KPost_i seA hsA ⟨i6, i7, rfl, rfl, rfl⟩
     ·
      rintro x' l' H' ⟨i6, i7, rfl, rfl, rfl⟩
      refine QSeq_n (WQ_seq (WQ_region ?_))
      refine WO_step rfl (S_pure rfl ?_)
      refine WO_step rfl (S_loadO rfl pkA (by rfl) (by rfl) ?_)
      refine WO_step rfl (S_pure rfl ?_)
      refine WO_step rfl (S_loadO rfl pkA (by rfl) (by rfl) ?_)
      iterate 2 refine WO_step rfl (S_pure rfl ?_)
      refine WO_cases (t := 31) rfl (fun hg1 => ?_) (fun hg1 => ?_)
      ·
       try simp only [bsT] at hg1
       iterate 6 refine WO_off rfl ?_
       refine WO_step rfl (S_pure rfl ?_)
       refine WO_nil (QSeq_n ?_)
       refine WQ_cond rfl (fun _ => ?_) (fun h => ?_)
       rotate_left
       · exact absurd h (by decide)
       refine WQ_seq (WQ_region ?_)
       refine WO_step rfl (S_pure rfl ?_)
       refine WO_nil (QSeq_n (WQ_ret (KBlock_r (QSeq_r (QLoop_r ?_)))))
       refine KPost_i (l' := [(4, .bool false)]) (H' := H) seA hsA ⟨rfl, .inr ⟨rfl, rfl, hne fun e => ?_⟩⟩
       subst e
       exact absurd hg1 (by simp)
      ·
       try simp only [bsT] at hg1
       refine WO_step rfl (S_pure rfl ?_)
       refine WO_step rfl (S_loadO (v := TRec.val x.r) rfl pkA (by rfl) (by rfl) ?_)
       refine WO_step rfl (S_pure rfl ?_)
       refine WO_step rfl (S_loadO (v := TRec.val y.r) rfl pkA (by rfl) (by rfl) ?_)
       refine WO_call rfl rfl rfl ?_
       refine (sp_Eq (a := x.r) (b := y.r)).mono ?_
       rintro _ _ ⟨rfl, rfl⟩
       iterate 2 refine WO_step rfl (S_pure rfl ?_)
       refine WO_nil (QSeq_n ?_)
       refine WQ_cond rfl (fun hb2 => ?_) (fun hb2 => ?_)
       ·
        try simp only [bsT] at hb2
        refine WQ_seq (WQ_region ?_)
        refine WO_step rfl (S_pure rfl ?_)
        refine WO_nil (QSeq_n (WQ_ret (KBlock_r (QSeq_r (QLoop_r ?_)))))
        refine KPost_i (l' := [(4, .bool false)]) (H' := H) seA hsA ⟨rfl, .inr ⟨rfl, rfl, hne fun e => ?_⟩⟩
        subst e
        exact absurd hb2 (by simp)
       ·
        try simp only [bsT] at hb2
        refine WQ_skip (KBlock_n (QSeq_n (WQ_region ?_)))
        refine WO_step rfl (S_pure rfl ?_)
        first | refine WO_step rfl (S_addN (b := 1) rfl rfl (by omega) ?_) | refine WO_step rfl (S_pure rfl ?_)
        refine WO_step rfl (S_pure rfl ?_)
        refine WO_nil (QLoop_n ?_)
        have e1 : x = y := by
          obtain ⟨h1, r1⟩ := x
          obtain ⟨h2, r2⟩ := y
          have q1 : h1 = h2 := by simpa using hg1
          have q2 : r1 = r2 := by simpa using hb2
          subst q1 q2; rfl
        refine WQ_weak (ih (32 - (k + 1)) (by omega) (k + 1) rfl (by omega) ?_) seA hsA
        rw [List.take_add_one, List.take_add_one, hx, hy, heq, e1]
    ·
     try simp only [bsT] at hb1
     refine WQ_exit (QSeq_x (QLoop_x ?_))
     have ek : k = 32 := by omega
     subst ek
     rw [List.take_of_length_le (by omega), List.take_of_length_le (by omega)] at heq
     exact KPost_i (l' := []) (H' := H) SubE.nil hsA ⟨rfl, .inl ⟨rfl, rfl, heq⟩⟩
theorem sp_eqTQ {H : SH} {xa xb : List SlT} (ha : xa.length = 32) (hb : xb.length = 32) : WFQ F X f_loesslaw19_eq [tabV xa, tabV xb] H (fun r _ => r = .bool (decide (xa = xb))) := by
  refine WFQ_fn F_loesslaw19_eq ?_
  refine WQ_seq (WQ_region ?_)
  refine WO_step rfl (S_boxA (T := TSlT) (xs := xa) rfl fun i2 => ?_)
  refine WO_step rfl (S_boxA (T := TSlT) (xs := xb) rfl fun i3 => ?_)
  refine WO_step rfl (S_pure rfl ?_)
  refine WO_nil (QSeq_n (WQ_seq (WQ_seq (WQ_region ?_))))
  refine WO_step rfl (S_pure rfl ?_)
  refine WO_nil (QSeq_n (WQ_block ?_))
  refine WQ_post (WQ_weak (lp_eqT (H := H) (xa := xa) (xb := xb) (i2 := i2) (i3 := i3) ha hb 32 0 (by omega) (by omega) (by simp)) seA hsA) ?_
  rintro y l' _ ⟨rfl, ⟨rfl, rfl, he⟩ | ⟨rfl, rfl, he⟩⟩
  rotate_left
  ·
   refine KBlock_r (QSeq_r ?_)
   refine KFn_r (ResL.tmp rfl ResL.nil) ?_
   exact ⟨_, HSub.refl, by simp [resV, he]⟩
  ·
   refine KBlock_h (QSeq_n (WQ_seq (WQ_region ?_)))
   refine WO_step rfl (S_pure rfl ?_)
   refine WO_nil (QSeq_n (WQ_ret ?_))
   refine KFn_r (ResL.tmp rfl ResL.nil) ?_
   exact ⟨_, HSub.refl, by simp [resV, he]⟩
theorem eqVs_self : ∀ {l : List Value}, (∀ v ∈ l, eqV0 v v = true) → eqVs l l = true
  | [], _ => rfl
  | v :: l, h => by
    simp only [eqVs, Bool.and_eq_true]
    exact ⟨h v (by simp), eqVs_self fun u hu => h u (by simp [hu])⟩
theorem eqV_tab (ts : List SlT) : eqV (tabV ts) (tabV ts) = true := eqVs_self fun v hv => by
  unfold Ty.cells at hv
  simp only [List.toList_toArray] at hv
  obtain ⟨x, _, hx⟩ := List.mem_flatMap.1 hv
  have : ∀ v ∈ TSlT.enc x, eqV0 v v = true := by
    intro v hv
    simp [TSlT, Ty.ofAgg] at hv
    rcases hv with rfl | rfl | rfl | rfl | rfl | rfl <;> simp [eqV0]
  exact this v hx
def placeN (i b : Nat) (r : Rec) : Nat → List SlT → List SlT
  | 0, ts => ts
  | m + 1, ts => if (ts.getD (4 * b + (4 - (m + 1) + i) % 4) slt0).has then placeN i b r m ts else ts.set (4 * b + (4 - (m + 1) + i) % 4) ⟨true, r⟩
theorem placeN_len (i b : Nat) (r : Rec) : ∀ (m : Nat) (ts : List SlT), (placeN i b r m ts).length = ts.length
  | 0, ts => rfl
  | m + 1, ts => by
    rw [placeN]
    split
    · exact placeN_len i b r m ts
    · rw [List.length_set]
def bktOf (k : ByteArray) (tn : Bool) : Nat := if tn then oth (frst (kH k)) (tagOf (kH k)) else frst (kH k)
theorem bktOf_lt (k : ByteArray) (tn : Bool) : bktOf k tn < 8 := by
  unfold bktOf
  split
  · exact oth_lt (frst_lt _)
  · exact frst_lt _
def skipR (ts : List SlT) (r : Rec) : Bool := (fnd (newest (tRecs ts 32)) r.key).isSome || !mayRec r
def layStep (ts : List SlT) (i : Nat) (r : Rec) (tn : Bool) : List SlT := if skipR ts r then ts else placeN i (bktOf r.key tn) r 4 ts
def layN (l : List Rec) (turn : List Bool) : Nat → List SlT
  | 0 => zeroT
  | i + 1 => match l[i]? with
    | some r => layStep (layN l turn i) i (cutRec r) (turn.getD i false)
    | none => layN l turn i
def lay (l : List Rec) (turn : List Bool) : List SlT := layN l turn 40
theorem layN_len (l : List Rec) (turn : List Bool) : ∀ i, (layN l turn i).length = 32
  | 0 => zeroT_len
  | i + 1 => by
    rw [layN]
    split
    · unfold layStep
      split
      · exact layN_len l turn i
      · rw [placeN_len]; exact layN_len l turn i
    · exact layN_len l turn i
theorem layN_end {l : List Rec} {turn : List Bool} {i : Nat} (h : l.length ≤ i) : ∀ m, layN l turn (i + m) = layN l turn i
  | 0 => rfl
  | m + 1 => by
    rw [← Nat.add_assoc, layN, List.getElem?_eq_none (by omega)]
    exact layN_end h m
theorem lp_Lay1 {H : SH} {i5 i7 b i : Nat} {r : Rec} (v0 v1 v4 : Value) (hb : b < 8) (hi : i < 1000) : ∀ (m s : Nat) (ts : List SlT), 4 - s = m → s ≤ 4 → ts.length = 32 →
    WC F X (.loop L_loesslaw19_Lay_1) [(12, .int .i64 (s : Int)), (6, .int .i64 (i : Int)), (11, .int .i64 (b : Int)), (5, .pointer (some ⟨i5, 0, none⟩)), (7, .pointer (some ⟨i7, 0, none⟩)), (0, v0), (1, v1), (4, v4)] (AO i5 33 TSlT ts :: OB i7 TRec r :: H)
      (KPost fun y l' H' => y = .exit 2 ∧ l' = [(6, .int .i64 (i : Int)), (5, .pointer (some ⟨i5, 0, none⟩)), (0, v0), (1, v1), (4, v4)] ∧ H' = AO i5 33 TSlT (placeN i b r (4 - s) ts) :: H) := by
  intro m
  induction m using Nat.strongRecOn with
  | _ m ih =>
    intro s ts hm hs hl
    refine WC_loop (WC_seq (WC_seq (WC_region ?_)))
    iterate 2 refine WO_step rfl (S_pure rfl ?_)
    refine WO_nil (KSeq_n ?_)
    refine WC_cond rfl (fun hb1 => ?_) (fun hb1 => ?_)
    ·
     try simp only [bsT] at hb1
     have hs4 : s < 4 := by omega
     obtain ⟨x, hx⟩ := get_of_lt (show 4 * b + (s + i) % 4 < ts.length by omega)
     obtain ⟨q, hq⟩ : ∃ q, 4 - s = q + 1 := ⟨4 - s - 1, by omega⟩
     have hpl : placeN i b r (4 - s) ts = if x.has then placeN i b r q ts else ts.set (4 * b + (s + i) % 4) ⟨true, r⟩ := by
       rw [hq, placeN, show 4 - (q + 1) = s by omega, List.getD_eq_getElem?_getD, hx]; rfl
     refine WC_skip (KSeq_n (WC_seq (WC_block (WC_seq (WC_region ?_)))))
     iterate 2 refine WO_step rfl (S_pure rfl ?_)
     refine WO_step rfl (S_addN (a := s) (b := i) rfl rfl (by omega) ?_)
     refine WO_step rfl (S_remU (a := s + i) (m := 4) rfl rfl (by omega) ?_)
     refine WO_step rfl (S_pure rfl ?_)
     refine WO_nil (KSeq_n (WC_seq (WC_region ?_)))
     iterate 2 refine WO_step rfl (S_pure rfl ?_)
     refine WO_step rfl (S_idxA (j := b) rfl rfl rfl hb ?_)
     refine WO_step rfl (S_idxA (j := (s + i) % 4) rfl rfl rfl (by omega) ?_)
     refine WO_step rfl (S_pure rfl ?_)
     refine WO_step rfl (S_loadAF (T := TSlT) (k := 4 * b + (s + i) % 4) (off := 0) (v := .bool x.has) rfl pkA (by show _ = (4 * b + (s + i) % 4) * 6 + 0; omega) hx (by show 0 + 1 ≤ 6; omega) (by rfl) ?_)
     refine WO_step rfl (S_pure rfl ?_)
     refine WO_nil (KSeq_n ?_)
     refine WC_cond rfl (fun hb2 => ?_) (fun hb2 => ?_)
     ·
      try simp only [bsT] at hb2
      refine WC_seq (WC_region ?_)
      iterate 2 refine WO_step rfl (S_pure rfl ?_)
      refine WO_step rfl (S_loadT (T := TRec) (z := r) rfl pkA (by rfl) (by rfl) ?_)
      refine WO_step rfl (S_pure rfl ?_)
      refine WO_step rfl (S_idxA (j := b) rfl rfl rfl hb ?_)
      refine WO_step rfl (S_idxA (j := (s + i) % 4) rfl rfl rfl (by omega) ?_)
      refine WO_step rfl (S_storeA (T := TSlT) (k := 4 * b + (s + i) % 4) (x := ⟨true, r⟩) rfl rfl pkA (by show _ = (4 * b + (s + i) % 4) * 6; omega) (by omega) (by rfl) rfl ?_)
      refine WO_nil (KSeq_n (WC_exit ?_))
      refine KBlock_x (by decide) ?_
      refine KSeq_x (KLoop_x ?_)
      have hf : x.has = false := by simpa using hb2
      rw [hpl, hf]
      exact KPost_i seA hsA ⟨rfl, rfl, rfl⟩
     ·
      try simp only [bsT] at hb2
      refine WC_skip (KBlock_n (KSeq_n (WC_region ?_)))
      refine WO_step rfl (S_pure rfl ?_)
      first | refine WO_step rfl (S_addN (b := 1) rfl rfl (by omega) ?_) | refine WO_step rfl (S_pure rfl ?_)
      refine WO_step rfl (S_pure rfl ?_)
      refine WO_nil (KLoop_n ?_)
      have ht : x.has = true := by simpa using hb2
      rw [hpl, ht, if_pos rfl, show q = 4 - (s + 1) by omega]
      exact WC_weak (ih (4 - (s + 1)) (by omega) (s + 1) ts rfl (by omega) hl) seA hsA
    ·
     try simp only [bsT] at hb1
     refine WC_exit (KSeq_x (KLoop_x ?_))
     have e4 : s = 4 := by omega
     subst e4
     exact KPost_i seA hsA ⟨rfl, rfl, rfl⟩
theorem lp_Lay0 {H : SH} {v0 v1 v4 : Value} {l : List Rec} {turn : List Bool} {i5 : Nat} (N : Nat) (hN : N = 40) (hv : RD H v0 TRec l) (ht : RD H v1 TBool turn) : ∀ (m i : Nat), 40 - i = m → i ≤ 40 → i ≤ l.length →
    WQ F X (.loop L_loesslaw19_Lay_0) [(6, .int .i64 (i : Int)), (0, v0), (1, v1), (5, .pointer (some ⟨i5, 0, none⟩)), (4, v4)] (AO i5 33 TSlT (layN l turn i) :: H)
      (KPost fun y l' H' => y = .exit 0 ∧ l' = [(5, .pointer (some ⟨i5, 0, none⟩)), (4, v4)] ∧ H' = AO i5 33 TSlT (layN l turn N) :: H) := by
  intro m
  induction m using Nat.strongRecOn with
  | _ m ih =>
    intro i hm hi hil
    have hlN := layN_len l turn i
    have htr := tRecs_len (layN l turn i) 32
    have hnl := newest_len (tRecs (layN l turn i) 32)
    refine WQ_loop (WQ_seq (WQ_seq (WQ_region ?_)))
    iterate 2 refine WO_step rfl (S_pure rfl ?_)
    first | refine WO_step rfl (S_pure rfl ?_) | refine WO_step rfl (S_lenS rfl rdA ?_)
    iterate 2 refine WO_step rfl (S_pure rfl ?_)
    refine WO_cases (t := 18) rfl (fun hg1 => ?_) (fun hg1 => ?_)
    ·
     try simp only [bsT] at hg1
     obtain ⟨r0, hx⟩ := get_of_lt hg1
     obtain ⟨r, hr⟩ : ∃ r, cutRec r0 = r := ⟨_, rfl⟩
     have hrs : r.key.size ≤ 20 := by rw [← hr]; exact cut_size _ _
     have hst : layN l turn (i + 1) = layStep (layN l turn i) i r (turn.getD i false) := by rw [layN, hx, ← hr]
     iterate 3 refine WO_step rfl (S_pure rfl ?_)
     refine WO_nil (QSeq_n ?_)
     refine WQ_cond rfl (fun hb1 => ?_) (fun hb1 => ?_)
     ·
      try simp only [bsT] at hb1
      refine WQ_skip (QSeq_n (WQ_seq (WQ_block (WQ_seq (WQ_region ?_)))))
      iterate 2 refine WO_step rfl (S_pure rfl ?_)
      refine WO_step rfl (S_idx rfl rfl rdA (by first | rfl | assumption | (symm; assumption)) (by rfl) (by first | assumption | omega | exact lt_of_get (by assumption) | (simp only [List.length_set]; first | assumption | omega | exact lt_of_get (by assumption))) fun hp26 => ?_)
      refine WO_step rfl (S_loadE rfl rdA (by first | rfl | assumption | (symm; assumption)) (by first | rfl | assumption | (symm; assumption)) (by first | rfl | assumption | (symm; assumption)) (by assumption) ?_)
      refine WO_call rfl rfl rfl ?_
      refine (sp_Cut10 (r := r0)).mono ?_
      rintro _ _ ⟨rfl, rfl⟩
      rw [hr]
      refine WO_step rfl (S_newT TRec rec0 rfl rfl fun i7 => ?_)
      refine WO_step rfl (S_storeT (T := TRec) (y := r) rfl rfl pkA (by rfl) (by rfl) ?_)
      refine WO_nil (QSeq_n (WQ_seq (WQ_seq ?_)))
      refine WQ_post (P := fun x l' H' => ∃ fb : Bool, x = .normal ∧ l' = [(6, .int .i64 (i : Int)), (0, v0), (1, v1), (4, v4), (5, .pointer (some ⟨i5, 0, none⟩)), (7, .pointer (some ⟨i7, 0, none⟩)), (9, .bool fb)] ∧ fb = (fnd (newest (tRecs (layN l turn i) 32)) r.key).isSome ∧ H' = OB i7 TRec r :: AO i5 33 TSlT (layN l turn i) :: H) ?_ ?_
      ·
       refine WQ_many ?_
       refine WTr_step ⟨rfl, rfl⟩ (S_loadAll (T := TSlT) (xs := layN l turn i) rfl pkA (by rw [hlN]; rfl) ?_)
       refine WTq_step ⟨rfl, rfl⟩ (S_pure rfl ?_)
       refine WTr_step ⟨rfl, rfl⟩ (S_loadO (v := .string r.key) rfl pkA (by rfl) (by rfl) ?_)
       refine WT_alt ?_ ?_
       ·
        refine WTm_call rfl rfl rfl rfl ?_
        refine (sp_Records hlN).mono ?_
        rintro _ _ ⟨u31, rfl, rfl⟩
        refine And.intro ?_ ?_
        ·
         exact (by repeat (first | exact obT_nil | refine obT_skip rfl ?_ | refine obT_ob (ObR.of_step rfl (S_loadO (v := .string r.key) rfl pkA (by rfl) (by rfl) (by simp [eqV, eqV0]))) ?_ | refine obT_ob (ObR.of_step rfl (S_loadAll (T := TSlT) (xs := layN l turn i) rfl pkA (by rw [hlN]; rfl) (eqV_tab _))) ?_))
        ·
         refine WT_alt ?_ ?_
         ·
          refine WTm_call rfl rfl rfl rfl ?_
          refine (sp_Find (l := newest (tRecs (layN l turn i) 32)) (k := r.key) rdA (by omega)).mono ?_
          rintro _ _ ⟨rfl, rfl⟩
          refine And.intro ?_ ?_
          ·
           exact (by repeat (first | exact obT_nil | refine obT_skip rfl ?_ | refine obT_ob (ObR.of_step rfl (S_loadO (v := .string r.key) rfl pkA (by rfl) (by rfl) (by simp [eqV, eqV0]))) ?_ | refine obT_ob (ObR.of_step rfl (S_loadAll (T := TSlT) (xs := layN l turn i) rfl pkA (by rw [hlN]; rfl) (eqV_tab _))) ?_))
          ·
           refine WTq_step ⟨rfl, rfl⟩ (S_pure rfl ?_)
           refine WTq_step ⟨rfl, rfl⟩ (S_pure rfl ?_)
           refine WTq_step ⟨rfl, rfl⟩ (S_pure rfl ?_)
           refine WTm_step ⟨rfl, rfl⟩ (S_newT TRec rec0 rfl rfl fun i8 => ?_)
           refine And.intro ?_ ?_
           ·
            exact (by repeat (first | exact obT_nil | refine obT_skip rfl ?_ | refine obT_ob (ObR.of_step rfl (S_loadO (v := .string r.key) rfl pkA (by rfl) (by rfl) (by simp [eqV, eqV0]))) ?_ | refine obT_ob (ObR.of_step rfl (S_loadAll (T := TSlT) (xs := layN l turn i) rfl pkA (by rw [hlN]; rfl) (eqV_tab _))) ?_))
           ·
            refine WTm_step ⟨rfl, rfl⟩ (S_storeT (T := TRec) (y := ((fnd (newest (tRecs (layN l turn i) 32)) r.key).getD rec0)) rfl rfl pkA (by rfl) (by rfl) ?_)
            refine And.intro ?_ ?_
            ·
             exact (by repeat (first | exact obT_nil | refine obT_skip rfl ?_ | refine obT_ob (ObR.of_step rfl (S_loadO (v := .string r.key) rfl pkA (by rfl) (by rfl) (by simp [eqV, eqV0]))) ?_ | refine obT_ob (ObR.of_step rfl (S_loadAll (T := TSlT) (xs := layN l turn i) rfl pkA (by rw [hlN]; rfl) (eqV_tab _))) ?_))
            ·
             refine WTq_step ⟨rfl, rfl⟩ (S_pure rfl ?_)
             refine WT_leaf ?_
             exact KPost_i seA hsA ⟨_, rfl, rfl, rfl, rfl⟩
         ·
          refine WTm_step ⟨rfl, rfl⟩ (S_newT TRec rec0 rfl rfl fun i8 => ?_)
          refine And.intro ?_ ?_
          ·
           exact (by repeat (first | exact obT_nil | refine obT_skip rfl ?_ | refine obT_ob (ObR.of_step rfl (S_loadO (v := .string r.key) rfl pkA (by rfl) (by rfl) (by simp [eqV, eqV0]))) ?_ | refine obT_ob (ObR.of_step rfl (S_loadAll (T := TSlT) (xs := layN l turn i) rfl pkA (by rw [hlN]; rfl) (eqV_tab _))) ?_))
          ·
           refine WTm_call rfl rfl rfl rfl ?_
           refine (sp_Find (l := newest (tRecs (layN l turn i) 32)) (k := r.key) rdA (by omega)).mono ?_
           rintro _ _ ⟨rfl, rfl⟩
           refine And.intro ?_ ?_
           ·
            exact (by repeat (first | exact obT_nil | refine obT_skip rfl ?_ | refine obT_ob (ObR.of_step rfl (S_loadO (v := .string r.key) rfl pkA (by rfl) (by rfl) (by simp [eqV, eqV0]))) ?_ | refine obT_ob (ObR.of_step rfl (S_loadAll (T := TSlT) (xs := layN l turn i) rfl pkA (by rw [hlN]; rfl) (eqV_tab _))) ?_))
           ·
            refine WTq_step ⟨rfl, rfl⟩ (S_pure rfl ?_)
            refine WTq_step ⟨rfl, rfl⟩ (S_pure rfl ?_)
            refine WTq_step ⟨rfl, rfl⟩ (S_pure rfl ?_)
            refine WTm_step ⟨rfl, rfl⟩ (S_storeT (T := TRec) (y := ((fnd (newest (tRecs (layN l turn i) 32)) r.key).getD rec0)) rfl rfl pkA (by rfl) (by rfl) ?_)
            refine And.intro ?_ ?_
            ·
             exact (by repeat (first | exact obT_nil | refine obT_skip rfl ?_ | refine obT_ob (ObR.of_step rfl (S_loadO (v := .string r.key) rfl pkA (by rfl) (by rfl) (by simp [eqV, eqV0]))) ?_ | refine obT_ob (ObR.of_step rfl (S_loadAll (T := TSlT) (xs := layN l turn i) rfl pkA (by rw [hlN]; rfl) (eqV_tab _))) ?_))
            ·
             refine WTq_step ⟨rfl, rfl⟩ (S_pure rfl ?_)
             refine WT_leaf ?_
             exact KPost_i seA hsA ⟨_, rfl, rfl, rfl, rfl⟩
       ·
        refine WTm_step ⟨rfl, rfl⟩ (S_newT TRec rec0 rfl rfl fun i8 => ?_)
        refine And.intro ?_ ?_
        ·
         exact (by repeat (first | exact obT_nil | refine obT_skip rfl ?_ | refine obT_ob (ObR.of_step rfl (S_loadO (v := .string r.key) rfl pkA (by rfl) (by rfl) (by simp [eqV, eqV0]))) ?_ | refine obT_ob (ObR.of_step rfl (S_loadAll (T := TSlT) (xs := layN l turn i) rfl pkA (by rw [hlN]; rfl) (eqV_tab _))) ?_))
        ·
         refine WTm_call rfl rfl rfl rfl ?_
         refine (sp_Records hlN).mono ?_
         rintro _ _ ⟨u31, rfl, rfl⟩
         refine And.intro ?_ ?_
         ·
          exact (by repeat (first | exact obT_nil | refine obT_skip rfl ?_ | refine obT_ob (ObR.of_step rfl (S_loadO (v := .string r.key) rfl pkA (by rfl) (by rfl) (by simp [eqV, eqV0]))) ?_ | refine obT_ob (ObR.of_step rfl (S_loadAll (T := TSlT) (xs := layN l turn i) rfl pkA (by rw [hlN]; rfl) (eqV_tab _))) ?_))
         ·
          refine WTm_call rfl rfl rfl rfl ?_
          refine (sp_Find (l := newest (tRecs (layN l turn i) 32)) (k := r.key) rdA (by omega)).mono ?_
          rintro _ _ ⟨rfl, rfl⟩
          refine And.intro ?_ ?_
          ·
           exact (by repeat (first | exact obT_nil | refine obT_skip rfl ?_ | refine obT_ob (ObR.of_step rfl (S_loadO (v := .string r.key) rfl pkA (by rfl) (by rfl) (by simp [eqV, eqV0]))) ?_ | refine obT_ob (ObR.of_step rfl (S_loadAll (T := TSlT) (xs := layN l turn i) rfl pkA (by rw [hlN]; rfl) (eqV_tab _))) ?_))
          ·
           refine WTq_step ⟨rfl, rfl⟩ (S_pure rfl ?_)
           refine WTq_step ⟨rfl, rfl⟩ (S_pure rfl ?_)
           refine WTq_step ⟨rfl, rfl⟩ (S_pure rfl ?_)
           refine WTm_step ⟨rfl, rfl⟩ (S_storeT (T := TRec) (y := ((fnd (newest (tRecs (layN l turn i) 32)) r.key).getD rec0)) rfl rfl pkA (by rfl) (by rfl) ?_)
           refine And.intro ?_ ?_
           ·
            exact (by repeat (first | exact obT_nil | refine obT_skip rfl ?_ | refine obT_ob (ObR.of_step rfl (S_loadO (v := .string r.key) rfl pkA (by rfl) (by rfl) (by simp [eqV, eqV0]))) ?_ | refine obT_ob (ObR.of_step rfl (S_loadAll (T := TSlT) (xs := layN l turn i) rfl pkA (by rw [hlN]; rfl) (eqV_tab _))) ?_))
           ·
            refine WTq_step ⟨rfl, rfl⟩ (S_pure rfl ?_)
            refine WT_leaf ?_
            exact KPost_i seA hsA ⟨_, rfl, rfl, rfl, rfl⟩
      ·
       rintro x l' H' ⟨fb, rfl, rfl, hfb, rfl⟩
       refine QSeq_n (WQ_seq (WQ_region ?_))
       iterate 2 refine WO_step rfl (S_pure rfl ?_)
       refine WO_cases (t := 38) rfl (fun hg2 => ?_) (fun hg2 => ?_)
       ·
        try simp only [bsT] at hg2
        iterate 3 refine WO_off rfl ?_
        refine WO_step rfl (S_pure rfl ?_)
        refine WO_nil (QSeq_n ?_)
        refine WQ_cond rfl (fun _ => ?_) (fun h => ?_)
        rotate_left
        · exact absurd h (by decide)
        refine WQ_exit (QSeq_x (KBlock_h (QSeq_n (WQ_region ?_))))
        refine WO_step rfl (S_pure rfl ?_)
        first | refine WO_step rfl (S_addN (b := 1) rfl rfl (by omega) ?_) | refine WO_step rfl (S_pure rfl ?_)
        refine WO_step rfl (S_pure rfl ?_)
        refine WO_nil (QLoop_n ?_)
        have := ih (40 - (i + 1)) (by omega) (i + 1) rfl (by omega) (by omega)
        rw [hst, show layStep (layN l turn i) i r (turn.getD i false) = layN l turn i by unfold layStep skipR; rw [← hfb, hg2]; rfl] at this
        exact WQ_weak this seA hsA
       ·
        try simp only [bsT] at hg2
        refine WO_step rfl (S_loadT (T := TRec) (z := r) rfl pkA (by rfl) (by rfl) ?_)
        refine WO_call rfl rfl rfl ?_
        refine (sp_May (r := r)).mono ?_
        rintro _ _ ⟨rfl, rfl⟩
        iterate 2 refine WO_step rfl (S_pure rfl ?_)
        refine WO_nil (QSeq_n ?_)
        refine WQ_cond rfl (fun hb2 => ?_) (fun hb2 => ?_)
        ·
         try simp only [bsT] at hb2
         refine WQ_exit (QSeq_x (KBlock_h (QSeq_n (WQ_region ?_))))
         refine WO_step rfl (S_pure rfl ?_)
         first | refine WO_step rfl (S_addN (b := 1) rfl rfl (by omega) ?_) | refine WO_step rfl (S_pure rfl ?_)
         refine WO_step rfl (S_pure rfl ?_)
         refine WO_nil (QLoop_n ?_)
         have hmr : mayRec r = false := by simpa using hb2
         have := ih (40 - (i + 1)) (by omega) (i + 1) rfl (by omega) (by omega)
         rw [hst, show layStep (layN l turn i) i r (turn.getD i false) = layN l turn i by unfold layStep skipR; rw [hmr]; simp] at this
         exact WQ_weak this seA hsA
        ·
         try simp only [bsT] at hb2
         have hmr : mayRec r = true := by simpa using hb2
         have hst2 : layN l turn (i + 1) = placeN i (bktOf r.key (turn.getD i false)) r 4 (layN l turn i) := by
           rw [hst]
           unfold layStep skipR
           rw [← hfb, hg2, hmr]; rfl
         have hkl2 := kH_lt r.key
         have hf8 := frst_lt (kH r.key)
         have ht8 := tagOf_lt (kH r.key)
         refine WQ_skip (QSeq_n (WQ_seq (WQ_region ?_)))
         refine WO_step rfl (S_pure rfl ?_)
         refine WO_step rfl (S_loadO rfl pkA (by rfl) (by rfl) ?_)
         refine WO_call rfl rfl rfl ?_
         refine (sp_RHash (s := r.key) (by omega)).mono ?_
         rintro _ _ ⟨rfl, rfl⟩
         rw [kH_eq]
         refine WO_step rfl (S_pure rfl ?_)
         refine WO_nil (QSeq_n (WQ_seq (WQ_region ?_)))
         refine WO_step rfl (S_pure rfl ?_)
         refine WO_call rfl rfl rfl ?_
         refine (sp_rFirst (by omega)).mono ?_
         rintro _ _ ⟨rfl, rfl⟩
         refine WO_step rfl (S_pure rfl ?_)
         refine WO_nil (QSeq_n (WQ_seq ?_))
         refine WQ_post (P := fun x l' H' => ∃ q : Nat, x = .normal ∧ l' = [(6, .int .i64 (i : Int)), (0, v0), (1, v1), (4, v4), (5, .pointer (some ⟨i5, 0, none⟩)), (7, .pointer (some ⟨i7, 0, none⟩)), (11, .int .i64 (q : Int))] ∧ q = bktOf r.key (turn.getD i false) ∧ H' = OB i7 TRec r :: AO i5 33 TSlT (layN l turn i) :: H) ?_ ?_
         ·
          refine WQ_seq (WQ_region ?_)
          iterate 2 refine WO_step rfl (S_pure rfl ?_)
          first | refine WO_step rfl (S_pure rfl ?_) | refine WO_step rfl (S_lenS rfl rdA ?_)
          iterate 2 refine WO_step rfl (S_pure rfl ?_)
          refine WO_cases (t := 52) rfl (fun hg3 => ?_) (fun hg3 => ?_)
          ·
           try simp only [bsT] at hg3
           obtain ⟨tb, htb⟩ := get_of_lt hg3
           iterate 2 refine WO_step rfl (S_pure rfl ?_)
           refine WO_step rfl (S_idx rfl rfl rdA (by first | rfl | assumption | (symm; assumption)) (by rfl) (by first | assumption | omega | exact lt_of_get (by assumption) | (simp only [List.length_set]; first | assumption | omega | exact lt_of_get (by assumption))) fun hp55 => ?_)
           refine WO_step rfl (S_loadE rfl rdA (by first | rfl | assumption | (symm; assumption)) (by first | rfl | assumption | (symm; assumption)) (by first | rfl | assumption | (symm; assumption)) (by assumption) ?_)
           refine WO_step rfl (S_pure rfl ?_)
           refine WO_nil (QSeq_n ?_)
           refine WQ_cond rfl (fun hb3 => ?_) (fun hb3 => ?_)
           ·
            try simp only [bsT] at hb3
            refine WQ_region ?_
            iterate 2 refine WO_step rfl (S_pure rfl ?_)
            refine WO_call rfl rfl rfl ?_
            refine (sp_rTag (by omega)).mono ?_
            rintro _ _ ⟨rfl, rfl⟩
            refine WO_call rfl rfl rfl ?_
            refine (sp_rOther (by assumption) (by assumption)).mono ?_
            rintro _ _ ⟨rfl, rfl⟩
            refine WO_step rfl (S_pure rfl ?_)
            refine WO_nil ?_
            have e : turn.getD i false = true := by rw [List.getD_eq_getElem?_getD, htb]; exact hb3
            exact KPost_i seA hsA ⟨oth (frst (kH r.key)) (tagOf (kH r.key)), rfl, rfl, by unfold bktOf; rw [e, if_pos rfl], rfl⟩
           ·
            try simp only [bsT] at hb3
            refine WQ_skip ?_
            have e : turn.getD i false = false := by rw [List.getD_eq_getElem?_getD, htb]; exact hb3
            exact KPost_i seA hsA ⟨frst (kH r.key), rfl, rfl, by unfold bktOf; rw [e, if_neg (by decide)], rfl⟩
          ·
           try simp only [bsT] at hg3
           iterate 4 refine WO_off rfl ?_
           refine WO_step rfl (S_pure rfl ?_)
           refine WO_nil (QSeq_n ?_)
           refine WQ_cond rfl (fun h => ?_) (fun _ => ?_)
           · exact absurd h (by decide)
           refine WQ_skip ?_
           have e : turn.getD i false = false := by rw [List.getD_eq_getElem?_getD, List.getElem?_eq_none (by omega)]; rfl
           exact KPost_i seA hsA ⟨frst (kH r.key), rfl, rfl, by unfold bktOf; rw [e, if_neg (by decide)], rfl⟩
         ·
          rintro x l' H' ⟨q, rfl, rfl, hq, rfl⟩
          have hq8 : q < 8 := by rw [hq]; exact bktOf_lt _ _
          rw [← hq] at hst2
          refine QSeq_n (WQ_seq (WQ_region ?_))
          refine WO_step rfl (S_pure rfl ?_)
          refine WO_nil (QSeq_n (WQ_block ?_))
          refine WQ_post (WQ_weak (WQ_of (lp_Lay1 (H := H) (i5 := i5) (i7 := i7) (i := i) (r := r) (b := q) v0 v1 v4 hq8 (by omega) 4 0 (layN l turn i) (by omega) (by omega) hlN)) seA hsA) ?_
          rintro y l' _ ⟨rfl, rfl, rfl⟩
          rw [show 4 - 0 = 4 from rfl, ← hst2]
          refine KBlock_h (KBlock_n (QSeq_n (WQ_region ?_)))
          refine WO_step rfl (S_pure rfl ?_)
          first | refine WO_step rfl (S_addN (b := 1) rfl rfl (by omega) ?_) | refine WO_step rfl (S_pure rfl ?_)
          refine WO_step rfl (S_pure rfl ?_)
          refine WO_nil (QLoop_n ?_)
          exact WQ_weak (ih (40 - (i + 1)) (by omega) (i + 1) rfl (by omega) (by omega)) seA hsA
     ·
      try simp only [bsT] at hb1
      refine WQ_exit (QSeq_x (QLoop_x ?_))
      have e : layN l turn i = layN l turn N := by
        by_cases h40 : i = N
        · rw [h40]
        · have := layN_end (l := l) (turn := turn) (i := i) (by omega) (N - i)
          rw [show i + (N - i) = N by omega] at this
          exact this.symm
      rw [e]
      exact KPost_i seA hsA ⟨rfl, rfl, rfl⟩
    ·
     try simp only [bsT] at hg1
     iterate 2 refine WO_off rfl ?_
     refine WO_step rfl (S_pure rfl ?_)
     refine WO_nil (QSeq_n ?_)
     refine WQ_cond rfl (fun h => ?_) (fun _ => ?_)
     · exact absurd h (by decide)
     refine WQ_exit (QSeq_x (QLoop_x ?_))
     have e : layN l turn i = layN l turn N := by
       by_cases h40 : i = N
       · rw [h40]
       · have := layN_end (l := l) (turn := turn) (i := i) (by omega) (N - i)
         rw [show i + (N - i) = N by omega] at this
         exact this.symm
     rw [e]
     exact KPost_i seA hsA ⟨rfl, rfl, rfl⟩
theorem sp_LayQ {H : SH} {v0 v1 : Value} {l : List Rec} {turn : List Bool} (hv : RD H v0 TRec l) (ht : RD H v1 TBool turn) : WFQ F X f_loesslaw19_Lay [v0, v1] H (fun r _ => r = tabV (lay l turn)) := by
  refine WFQ_fn F_loesslaw19_Lay ?_
  refine WQ_seq (WQ_region ?_)
  refine WO_step rfl (S_new fun i4 => ?_)
  refine WO_nil (QSeq_n (WQ_seq (WQ_region ?_)))
  refine WO_step rfl (S_new fun i5 => ?_)
  refine WO_nil (QSeq_n (WQ_seq (WQ_seq (WQ_region ?_))))
  refine WO_step rfl (S_pure rfl ?_)
  refine WO_nil (QSeq_n (WQ_block ?_))
  refine WQ_view (H' := AO i5 33 TSlT (layN l turn 0) :: AO i4 33 TSlT zeroT :: H) (fun h hh => hh) ?_
  obtain ⟨N, hN⟩ : ∃ N : Nat, N = 40 := ⟨40, rfl⟩
  have hlay : layN l turn N = lay l turn := by rw [hN]; rfl
  refine WQ_post (WQ_weak (lp_Lay0 (H := AO i4 33 TSlT zeroT :: H) (i5 := i5) (v4 := .pointer (some ⟨i4, 0, none⟩)) N hN hv.tail ht.tail 40 0 (by omega) (by omega) (by omega)) seA HSub.refl) ?_
  rintro y l' _ ⟨rfl, rfl, rfl⟩
  rw [hlay]
  have hlyl : (lay l turn).length = 32 := by rw [← hlay]; exact layN_len _ _ _
  generalize lay l turn = LY at *
  refine KBlock_h (QSeq_n (WQ_seq (WQ_region ?_)))
  refine WO_step rfl (S_loadAll (T := TSlT) (xs := LY) rfl pkA (by rw [hlyl]; rfl) ?_)
  refine WO_step rfl (S_storeTab (ts0 := zeroT) (ts := LY) rfl rfl pkA zeroT_len hlyl ?_)
  refine WO_nil (QSeq_n (WQ_ret ?_))
  refine KFn_r (ResL.tab rfl pkA (by first | assumption | exact zeroT_len) ResL.nil) ?_
  exact ⟨_, HSub.refl, rfl⟩
end Go.Proofs.YtpnmeednimpjdaaGreat.AM
namespace Go.Proofs.YtpnmeednimpjdaaGreat.AM
open Go
set_option linter.unusedSimpArgs false
set_option linter.unusedVariables false
set_option maxRecDepth 4000
def RP : FuncId → List Value → AH → Value → Prop := fun g vs h v =>
  (g = 89 ∧ ∃ a b : List SlT, vs = [tabV a, tabV b] ∧ v = .bool (decide (a = b))) ∨
  (g = 7 ∧ ∃ (v0 v1 : Value) (l : List Rec) (turn : List Bool), vs = [v0, v1] ∧ ReadsAt h v0 5 l.length (TRec.cells l) ∧ ReadsAt h v1 1 turn.length (TBool.cells turn) ∧ v = tabV (lay l turn))
theorem TBool_inj : ∀ x y : Bool, TBool.enc x = TBool.enc y → x = y := by
  intro x y h
  simp [TBool, Ty.ofOne] at h
  exact h
noncomputable abbrev X : Exts := pureX F XB [7, 89] RP
theorem X_ok : XOK Tryz.prog F X pur := pureX_ok XB_ok F_ok (fun g hg => absurd hg (by simp)) (fun g hg => absurd hg (by simp))
instance HX_pure : HX X := ⟨fun {g vs h r} hg hr => by
  by_cases hc : [7, 89].contains g = true
  · exfalso
    have hgg : g = 7 ∨ g = 89 := by simpa using hc
    have hn := keysX_none (fI := 111) (kt := 9) (g := g) (fK := 82) (fS := 81) (by rcases hgg with rfl | rfl <;> decide) (by rcases hgg with rfl | rfl <;> decide) vs h
    rw [hn] at hr
    cases hr
  · show pureX F XB _ RP g vs h = some r
    rw [pureX_off (by simpa using hc)]
    exact HX.keys hg hr⟩
theorem sp_eqT {H : SH} {a b : List SlT} (ha : a.length = 32) (hb : b.length = 32) : WF F X 89 [tabV a, tabV b] H (fun r H' => H' = H ∧ r = .bool (decide (a = b))) := by
  refine WF_pure (by decide) rfl (fun h hH => ⟨.inl ⟨rfl, a, b, rfl, rfl⟩, sp_eqTQ (X := XB) ha hb⟩) ?_
  rintro h u hH (⟨_, a', b', e, rfl⟩ | ⟨e, _⟩)
  · simp only [List.cons.injEq, and_true] at e
    rw [tabV_inj e.1, tabV_inj e.2]
  · exact absurd e (by decide)
theorem sp_Lay {H : SH} {v0 v1 : Value} {l : List Rec} {turn : List Bool} (hv : RD H v0 TRec l) (ht : RD H v1 TBool turn) : WF F X 7 [v0, v1] H (fun r H' => H' = H ∧ r = tabV (lay l turn)) := by
  refine WF_pure (by decide) (tabV_g1 _) (fun h hH => ⟨.inr ⟨rfl, v0, v1, l, turn, rfl, hv.2 h hH, ht.2 h hH, rfl⟩, sp_LayQ (X := XB) (hv.frz hH) (ht.frz hH)⟩) ?_
  rintro h u hH (⟨e, _⟩ | ⟨_, v0', v1', l', turn', e, h0, h1, rfl⟩)
  · exact absurd e (by decide)
  · simp only [List.cons.injEq, and_true] at e
    obtain ⟨rfl, rfl⟩ := e
    have e1 := Ty.cells_inj TRec_inj (by decide) (ReadsAt.uniq h0 (hv.2 h hH))
    have e2 := Ty.cells_inj TBool_inj (by decide) (ReadsAt.uniq h1 (ht.2 h hH))
    rw [e1, e2]
theorem tKeys_mem {ts : List SlT} {y : ByteArray} {j : Nat} : y ∈ tKeys ts j ↔ ∃ i x, i < j ∧ ts[i]? = some x ∧ x.has = true ∧ x.r.key = y := by
  unfold tKeys
  rw [List.mem_map]
  constructor
  · rintro ⟨x, hx, rfl⟩
    obtain ⟨h1, h2⟩ := List.mem_filter.1 hx
    obtain ⟨i, hi⟩ := List.getElem?_of_mem h1
    rw [List.getElem?_take] at hi
    split at hi
    · exact ⟨i, x, by assumption, hi, h2, rfl⟩
    · cases hi
  · rintro ⟨i, x, h1, h2, h3, rfl⟩
    exact ⟨x, List.mem_filter.2 ⟨List.mem_of_getElem? (i := i) (by rw [List.getElem?_take, if_pos h1]; exact h2), h3⟩, rfl⟩
theorem inB_false {xs : List ByteArray} {s : ByteArray} : inB xs s = false ↔ s ∉ xs := by
  rw [← inB_iff]; cases inB xs s <;> simp
theorem mayTab_set {ts : List SlT} {q : Nat} {x : SlT} {r : Rec} (hl : ts.length = 32) (hm : mayTab ts = true) (hx : ts[q]? = some x) (hxh : x.has = false) (hr : mayRec r = true) (hb : bel r.key (q / 4) = true) (hn : r.key ∉ tKeys ts 32) : mayTab (ts.set q ⟨true, r⟩) = true := by
  have hq := (List.getElem?_eq_some_iff.1 hx).1
  have hok := (mayTab_iff hl).1 hm
  rw [mayTab_iff (by rw [List.length_set]; exact hl)]
  intro j y hj hy
  rw [List.getElem?_set] at hy
  by_cases e : q = j
  · subst e
    rw [if_pos rfl, if_pos hq] at hy
    cases hy
    unfold slOk
    rw [if_pos rfl]
    have : inB (tKeys (ts.set q ⟨true, r⟩) q) r.key = false := inB_false.2 fun h => by
      obtain ⟨i, z, h1, h2, h3, h4⟩ := tKeys_mem.1 h
      rw [List.getElem?_set, if_neg (by omega)] at h2
      exact hn (tKeys_mem.2 ⟨i, z, by omega, h2, h3, h4⟩)
    show (mayRec r && (bel r.key (q / 4) && !inB _ r.key)) = true
    rw [hr, hb, this]; rfl
  · rw [if_neg e] at hy
    have h0 := hok j y hj hy
    unfold slOk at h0 ⊢
    cases hh : y.has with
    | false => rw [hh] at h0; exact h0
    | true =>
      rw [hh, if_pos rfl] at h0
      rw [if_pos rfl]
      simp only [Bool.and_eq_true] at h0 ⊢
      refine ⟨h0.1, h0.2.1, ?_⟩
      have h5 : y.r.key ∉ tKeys ts j := inB_false.1 (by simpa using h0.2.2)
      have : inB (tKeys (ts.set q ⟨true, r⟩) j) y.r.key = false := inB_false.2 fun h => by
        obtain ⟨i, z, h1, h2, h3, h4⟩ := tKeys_mem.1 h
        rw [List.getElem?_set] at h2
        by_cases e2 : q = i
        · subst e2
          rw [if_pos rfl, if_pos hq] at h2
          cases h2
          exact hn (h4 ▸ tKeys_mem.2 ⟨j, y, hj, hy, hh, rfl⟩)
        · rw [if_neg e2] at h2
          exact h5 (tKeys_mem.2 ⟨i, z, h1, h2, h3, h4⟩)
      simp [this]
theorem fnd_isSome_iff (k : ByteArray) : ∀ l : List Rec, (fnd l k).isSome = true ↔ ∃ r ∈ l, r.key = k
  | [] => by simp [fnd]
  | x :: l => by
    by_cases h : x.key = k
    · simp [fnd, h]
    · have := fnd_isSome_iff k l
      simp only [fnd, h, if_false, List.mem_cons, exists_eq_or_imp, false_or]
      exact this
theorem tRecs_keys (ts : List SlT) (j : Nat) : (tRecs ts j).map (·.key) = tKeys ts j := by
  unfold tRecs tKeys; rw [List.map_map]; rfl
theorem skip_iff (ts : List SlT) (k : ByteArray) : (fnd (newest (tRecs ts 32)) k).isSome = true ↔ k ∈ tKeys ts 32 := by
  rw [(newest_spec (tRecs ts 32)).2, fnd_isSome_iff, ← tRecs_keys, List.mem_map]
  simp only [List.mem_reverse]
theorem placeN_spec (i b : Nat) (r : Rec) : ∀ (m : Nat) (ts : List SlT), ts.length = 32 → b < 8 → placeN i b r m ts = ts ∨ ∃ q x, ts[q]? = some x ∧ x.has = false ∧ q / 4 = b ∧ placeN i b r m ts = ts.set q ⟨true, r⟩
  | 0, ts, _, _ => .inl rfl
  | m + 1, ts, hl, hb => by
    rw [placeN]
    split
    · exact placeN_spec i b r m ts hl hb
    · rename_i h
      obtain ⟨x, hx⟩ := get_of_lt (l := ts) (a := 4 * b + (4 - (m + 1) + i) % 4) (by omega)
      refine .inr ⟨_, x, hx, ?_, by omega, rfl⟩
      rw [List.getD_eq_getElem?_getD, hx] at h
      simpa using h
theorem bel_bkt (k : ByteArray) (tn : Bool) : bel k (bktOf k tn) = true := by
  unfold bel bktOf
  cases tn <;> simp
def GoodT (ts : List SlT) : Prop := ts.length = 32 ∧ wfT ts ∧ mayTab ts = true
theorem zeroT_may : mayTab zeroT = true := by
  rw [mayTab_iff zeroT_len]
  intro j x hj hx
  unfold zeroT at hx
  rw [List.getElem?_replicate, if_pos hj] at hx
  cases hx
  show (if false = true then _ else decide (rec0 = rec0)) = true
  rw [if_neg (by decide)]
  exact decide_eq_true rfl
theorem layStep_good {ts : List SlT} {i : Nat} {r : Rec} {tn : Bool} (h : GoodT ts) (hw : wfRec r) : GoodT (layStep ts i r tn) := by
  unfold layStep
  split
  · exact h
  · rename_i hs
    obtain ⟨hl, hwt, hm⟩ := h
    have hsk : (fnd (newest (tRecs ts 32)) r.key).isSome = false ∧ mayRec r = true := by
      unfold skipR at hs
      simpa using hs
    have hn : r.key ∉ tKeys ts 32 := fun hh => by rw [(skip_iff ts r.key).2 hh] at hsk; exact absurd hsk.1 (by decide)
    rcases placeN_spec i (bktOf r.key tn) r 4 ts hl (bktOf_lt _ _) with e | ⟨q, x, h1, h2, h3, e⟩
    · rw [e]; exact ⟨hl, hwt, hm⟩
    · rw [e]
      refine ⟨by rw [List.length_set]; exact hl, fun y hy => ?_, mayTab_set hl hm h1 h2 hsk.2 (by rw [h3]; exact bel_bkt _ _) hn⟩
      rcases List.mem_or_eq_of_mem_set hy with hy | rfl
      · exact hwt y hy
      · exact hw
theorem layN_good {l : List Rec} (hl : ∀ x ∈ l, wfRec (cutRec x)) (turn : List Bool) : ∀ i, GoodT (layN l turn i)
  | 0 => ⟨zeroT_len, zeroT_wf, zeroT_may⟩
  | i + 1 => by
    rw [layN]
    split
    · rename_i r hr
      exact layStep_good (layN_good hl turn i) (hl r (List.mem_of_getElem? hr))
    · exact layN_good hl turn i
theorem lay_good {l : List Rec} (hl : ∀ x ∈ l, wfRec (cutRec x)) (turn : List Bool) : GoodT (lay l turn) := layN_good hl turn 40
theorem GoodT.isT {ts : List SlT} (h : GoodT ts) : IsT (encT ts) ts := ⟨h.1, h.2.1, h.2.2, rfl⟩
theorem filter_set {α : Type} {p : α → Bool} {x : α} (hp : p x = true) : ∀ {l : List α} {k : Nat}, (∀ y ∈ l, p y = false) → k < l.length → (l.set k x).filter p = [x]
  | [], k, _, hk => absurd hk (by simp)
  | y :: l, 0, h, _ => by
    rw [List.set_cons_zero, List.filter_cons_of_pos hp]
    congr 1
    rw [List.filter_eq_nil_iff]
    intro z hz
    rw [h z (by simp [hz])]; decide
  | y :: l, k + 1, h, hk => by
    rw [List.set_cons_succ, List.filter_cons_of_neg (by rw [h y (by simp)]; decide)]
    exact filter_set hp (fun z hz => h z (by simp [hz])) (by simpa using hk)
theorem zeroT_has : ∀ y ∈ zeroT, y.has = false := fun y hy => by
  obtain ⟨_, rfl⟩ := List.mem_replicate.1 hy; rfl
theorem recsB_filter (ts : List SlT) : recsB ts = (ts.filter (·.has)).flatMap slB := by
  unfold recsB
  induction ts with
  | nil => rfl
  | cons x ts ih =>
    rw [List.flatMap_cons, ih]
    cases h : x.has with
    | true => rw [List.filter_cons_of_pos h, List.flatMap_cons]
    | false =>
      rw [List.filter_cons_of_neg (by rw [h]; decide)]
      have : slB x = [] := by unfold slB; rw [h]; rfl
      rw [this]; rfl
theorem tRecs_all {ts : List SlT} (hl : ts.length = 32) : tRecs ts 32 = (ts.filter (·.has)).map (·.r) := by
  unfold tRecs; rw [List.take_of_length_le (by omega)]
def goneR (k : ByteArray) : Rec := ⟨k, true, raw0⟩
theorem goneR_wf {k : ByteArray} (h : k.size ≤ 100000) : wfRec (goneR k) := ⟨(by decide : (-9223372036854775808 : Int) ≤ 0 ∧ (0 : Int) < 9223372036854775808), (by decide : (-9223372036854775808 : Int) ≤ 0 ∧ (0 : Int) < 9223372036854775808), (by decide : es0.size ≤ 100000), h⟩
theorem goneR_may {k : ByteArray} (h1 : 1 ≤ k.size) (h2 : k.size ≤ 16) : mayRec (goneR k) = true := by
  unfold mayRec mayKey goneR
  simp [h1, h2]
theorem cut_goneR {k : ByteArray} (h : k.size ≤ 20) : cutRec (goneR k) = goneR k := by
  unfold cutRec cutRaw goneR cut
  rw [if_neg (by show ¬ 20 < k.size; omega), if_neg (by show ¬ 30 < es0.size; decide)]
theorem lay1 {k : ByteArray} (h1 : 1 ≤ k.size) (h2 : k.size ≤ 16) (l : List Rec) : layN (goneR k :: l) [] 1 = zeroT.set (4 * frst (kH k)) ⟨true, goneR k⟩ := by
  have hf := frst_lt (kH k)
  have hsk : skipR zeroT (goneR k) = false := by
    unfold skipR
    rw [goneR_may h1 h2]
    cases hs : (fnd (newest (tRecs zeroT 32)) (goneR k).key).isSome with
    | false => rfl
    | true =>
      obtain ⟨i, x, _, h4, h5, _⟩ := tKeys_mem.1 ((skip_iff _ _).1 hs)
      rw [zeroT_has x (List.mem_of_getElem? h4)] at h5; cases h5
  rw [layN, List.getElem?_cons_zero]
  simp only []
  rw [cut_goneR (by omega)]
  unfold layStep
  rw [layN, hsk, if_neg (by decide), placeN]
  have hb : bktOf (goneR k).key (([] : List Bool).getD 0 false) = frst (kH k) := by
    unfold bktOf
    rw [if_neg (by simp)]
    unfold goneR; rfl
  rw [hb, show (4 - (3 + 1) + 0) % 4 = 0 from rfl, Nat.add_zero]
  have hz : (zeroT.getD (4 * frst (kH k)) slt0).has = false := by
    rw [List.getD_eq_getElem?_getD]
    unfold zeroT
    rw [List.getElem?_replicate]
    split <;> rfl
  rw [if_neg (by rw [hz]; decide)]
theorem lay1_end {k : ByteArray} (h1 : 1 ≤ k.size) (h2 : k.size ≤ 16) : lay [goneR k] [] = zeroT.set (4 * frst (kH k)) ⟨true, goneR k⟩ := by
  have := layN_end (l := [goneR k]) (turn := []) (i := 1) (by simp) 39
  unfold lay
  rw [← lay1 h1 h2 [], ← this]
end Go.Proofs.YtpnmeednimpjdaaGreat.AM
namespace Go.Proofs.YtpnmeednimpjdaaGreat.AM
open Go
set_option linter.unusedSimpArgs false
set_option linter.unusedVariables false
set_option maxRecDepth 4000
def kA : ByteArray := ⟨#[97]⟩
def tsA : List SlT := zeroT.set (4 * frst (kH kA)) ⟨true, goneR kA⟩
theorem tsA_lay : lay [goneR kA] [] = tsA := lay1_end (by decide) (by decide)
theorem tsA_good : GoodT tsA := by
  rw [← tsA_lay]
  refine lay_good (fun x hx => ?_) []
  simp at hx; subst hx
  rw [cut_goneR (by decide)]
  exact goneR_wf (by decide)
theorem tsA_filter : tsA.filter (·.has) = [⟨true, goneR kA⟩] := filter_set rfl zeroT_has (by rw [zeroT_len]; have := frst_lt (kH kA); omega)
theorem tsA_recs : newest (tRecs tsA 32) = [goneR kA] := by
  rw [tRecs_all tsA_good.1, tsA_filter]; rfl
theorem tsA_enc : (encT tsA).length = 9 := by
  unfold encT
  rw [List.length_append, byts_len, recsB_filter, tsA_filter]
  have h1 : zz 1 = 2 := by decide
  have h0 : zz 0 = 0 := by decide
  have hp : (putRec (goneR kA)).length = 3 := by
    unfold putRec putText
    rw [if_pos (show (goneR kA).gone = true from rfl)]
    have e1 : ((goneR kA).key.size : Int) = 1 := rfl
    have e2 : (goneR kA).key.data.toList.length = 1 := rfl
    rw [e1, List.length_append, List.length_append, e2]
    unfold put
    rw [h1, h0, encU_lt (by decide), encU_lt (by decide)]; rfl
  rw [List.flatMap_cons, List.flatMap_nil, List.append_nil]
  unfold slB
  rw [if_pos rfl, List.length_append, hp]; rfl
theorem zeroT_enc : (encT zeroT).length = 4 := by
  unfold encT
  have : zeroT.filter (·.has) = [] := by
    rw [List.filter_eq_nil_iff]
    intro y hy
    rw [zeroT_has y hy]; decide
  rw [List.length_append, byts_len, recsB_filter, this]; rfl
def badT : List SlT := zeroT.set 0 ⟨true, rec0⟩
theorem badT_len : badT.length = 32 := by unfold badT; rw [List.length_set]; exact zeroT_len
theorem badT_wf : wfT badT := fun x hx => by
  rcases List.mem_or_eq_of_mem_set hx with hx | rfl
  · exact zeroT_wf x hx
  · show wfRec rec0
    unfold wfRec; decide
theorem badT_no : mayTab badT = false := by
  refine OkTo.bad (k := 0) (x := ⟨true, rec0⟩) badT_len (by unfold badT; rw [List.getElem?_set_self (by rw [zeroT_len]; omega)]) ?_
  unfold slOk
  rw [if_pos rfl]
  have : mayRec rec0 = false := by decide
  rw [this]; rfl
theorem no3 : ∀ ts', ¬ IsT [0, 0, 0] ts' := fun ts' h => by
  have := h.l4
  simp at this
theorem S_lit3Z {l : SE} {H : SH} {K : Value → SH → Prop} (kk : ∀ w : SV, K w.toV (SL w.toV TByte [0, 0, 0] :: H)) : Step (.lit 5 1 3 [.int .u8 0, .int .u8 0, .int .u8 0] [(0, (1, .const (.int .u8 0))), (1, (1, .const (.int .u8 0))), (2, (1, .const (.int .u8 0)))]) l H K := S_lit (vs := [.int .u8 0, .int .u8 0, .int .u8 0]) rfl rfl rfl (fun w => kk w)
theorem sp_begunT {H : SH} : WF F X f_loesslaw19_begun [] H (fun r H' => H' = H ∧ r = .bool true) := by
  refine WF_addNil (T := TBool) ?_
  refine WF_fn F_loesslaw19_begun ?_
  refine WC_seq (WC_region ?_)
  refine WO_step rfl (S_pure rfl ?_)
  refine WO_nil (KSeq_n (WC_seq (WC_region ?_)))
  refine WO_step rfl (S_pure rfl ?_)
  refine WO_step rfl (S_lit1 (T := TRec) (y := goneR kA) rfl rfl rfl rfl fun w10 => ?_)
  refine WO_call rfl rfl rfl ?_
  refine (sp_Lay (l := [goneR kA]) (turn := []) rdA rdA).mono ?_
  rintro _ _ ⟨rfl, rfl⟩
  rw [tsA_lay]
  refine WO_call rfl rfl rfl ?_
  refine (sp_OfT tsA_good.1).mono ?_
  rintro _ _ ⟨rfl, rfl⟩
  refine WO_step rfl (S_new fun i1 => ?_)
  refine WO_step rfl (S_storeAll (T := TSlT) (xs := tsA) rfl rfl pkA (by rfl) (by rw [tsA_good.1]; rfl) ?_)
  refine WO_nil (KSeq_n (WC_seq (WC_region ?_)))
  refine WO_step rfl (S_loadAll (T := TSlT) (xs := tsA) rfl pkA (by rw [tsA_good.1]; rfl) ?_)
  refine WO_call rfl rfl rfl ?_
  refine (sp_oEnc tsA_good.1 tsA_good.2.1).mono ?_
  rintro _ _ ⟨w14, rfl, _, rfl⟩
  rw [if_pos tsA_good.2.2]
  have hel := tsA_enc
  refine WO_step rfl (S_pure rfl ?_)
  refine WO_nil (KSeq_n (WC_seq (WC_region ?_)))
  refine WO_step rfl (S_pure rfl ?_)
  refine WO_call rfl rfl rfl ?_
  refine (sp_oDec (bs := encT tsA) rdA (by omega)).mono ?_
  rintro _ _ ⟨ts2, e2, rfl, rfl, hl2, hw2, hD2⟩
  rcases hD2 with ⟨rfl, hm2, hb2', hu2⟩ | ⟨_, _, hno⟩
  rotate_left
  · exact absurd tsA_good.isT (hno tsA)
  have e2 := hu2 tsA tsA_good.isT
  subst e2
  have hgA : [goneR kA][0]? = some (goneR kA) := rfl
  iterate 3 refine WO_step rfl (S_pure rfl ?_)
  refine WO_step rfl (S_new fun i3 => ?_)
  refine WO_step rfl (S_storeAll (T := TSlT) (xs := tsA) rfl rfl pkA (by rfl) (by rw [tsA_good.1]; rfl) ?_)
  refine WO_step rfl (S_pure rfl ?_)
  refine WO_nil (KSeq_n (WC_seq (WC_region ?_)))
  refine WO_step rfl (S_lit3Z fun w21 => ?_)
  refine WO_call rfl rfl rfl ?_
  refine (sp_oDec (bs := [0, 0, 0]) rdA (by simp)).mono ?_
  rintro _ _ ⟨ts3, e3, rfl, rfl, hl3, hw3, hD3⟩
  rcases hD3 with ⟨rfl, hm3, hb3', _⟩ | ⟨rfl, rfl, _⟩
  · exact absurd ⟨hl3, hw3, hm3, hb3'⟩ (no3 ts3)
  iterate 3 refine WO_step rfl (S_pure rfl ?_)
  refine WO_step rfl (S_new fun i5 => ?_)
  refine WO_step rfl (S_storeAll (T := TSlT) (xs := zeroT) rfl rfl pkA (by rfl) (by rw [zeroT_len]; rfl) ?_)
  refine WO_step rfl (S_pure rfl ?_)
  refine WO_nil (KSeq_n (WC_seq (WC_region ?_)))
  refine WO_step rfl (S_new fun i7 => ?_)
  refine WO_nil (KSeq_n (WC_seq (WC_region ?_)))
  refine WO_step rfl (S_idxA (j := 0) rfl rfl rfl (by omega) ?_)
  refine WO_step rfl (S_idxA (j := 0) rfl rfl rfl (by omega) ?_)
  refine WO_step rfl (S_pure rfl ?_)
  refine WO_step rfl (S_storeO rfl rfl pkA (by first | rfl | exact SV.cells1 _) (by rfl) (by first | rfl | exact SV.ones _) ?_)
  refine WO_nil (KSeq_n (WC_seq (WC_region ?_)))
  refine WO_step rfl (S_loadAll (T := TSlT) (xs := tsA) rfl pkA (by rw [tsA_good.1]; rfl) ?_)
  refine WO_call rfl rfl rfl ?_
  refine (sp_oList tsA_good.1 tsA_good.2.1.small).mono ?_
  rintro _ _ ⟨u29, rfl, rfl⟩
  rw [tsA_recs]
  refine WO_step rfl (S_pure rfl ?_)
  refine WO_nil (KSeq_n (WC_seq (WC_drawn ?_)))
  refine WD_step rfl (S_loadAll (T := TSlT) (xs := tsA) rfl pkA (by rw [tsA_good.1]; rfl) ?_)
  refine WD_call rfl rfl rfl ?_
  refine (sp_oMay tsA_good.1 tsA_good.2.1.small).mono ?_
  rintro _ _ ⟨rfl, rfl⟩
  rw [tsA_good.2.2]
  refine WD_step rfl (S_pure rfl ?_)
  refine WD_cases (t := 32) rfl (fun hg1 => ?_) (fun hg1 => ?_)
  ·
   try simp only [bsT] at hg1
   refine WD_step rfl (S_loadO (v := tabV badT) rfl pkA (by rfl) (by rfl) ?_)
   refine WD_call rfl rfl rfl ?_
   refine (sp_oMay badT_len badT_wf.small).mono ?_
   rintro _ _ ⟨rfl, rfl⟩
   rw [badT_no]
   refine WD_step rfl (S_pure rfl ?_)
   refine WD_step rfl (S_pure rfl ?_)
   refine WD_step rfl (S_pure rfl ?_)
   refine WD_cases (t := 37) rfl (fun hg2 => ?_) (fun hg2 => ?_)
   ·
    try simp only [bsT] at hg2
    refine WD_step rfl (S_pure rfl ?_)
    first | refine WD_step rfl (S_pure rfl ?_) | refine WD_step rfl (S_lenS rfl rdA ?_)
    first | refine WD_step rfl (S_eqS rfl rfl ?_) | refine WD_step rfl (S_pure rfl ?_)
    refine WD_step rfl (S_pure rfl ?_)
    refine WD_step rfl (S_pure rfl ?_)
    refine WD_cases (t := 42) rfl (fun hg3 => ?_) (fun hg3 => ?_)
    ·
     try simp only [bsT] at hg3
     refine WD_step rfl (S_pure rfl ?_)
     first | refine WD_step rfl (S_eqS rfl rfl ?_) | refine WD_step rfl (S_pure rfl ?_)
     refine WD_step rfl (S_pure rfl ?_)
     refine WD_step rfl (S_pure rfl ?_)
     refine WD_cases (t := 46) rfl (fun hg4 => ?_) (fun hg4 => ?_)
     ·
      try simp only [bsT] at hg4
      refine WD_step rfl (S_loadAll (T := TSlT) (xs := tsA) rfl pkA (by rw [tsA_good.1]; rfl) ?_)
      refine WD_call rfl rfl rfl ?_
      refine (sp_BkT tsA_good.1).mono ?_
      rintro _ _ ⟨rfl, rfl⟩
      refine WD_step rfl (S_loadAll (T := TSlT) (xs := tsA) rfl pkA (by rw [tsA_good.1]; rfl) ?_)
      refine WD_call rfl rfl rfl ?_
      refine (sp_BkT tsA_good.1).mono ?_
      rintro _ _ ⟨rfl, rfl⟩
      refine WD_call rfl rfl rfl ?_
      refine (sp_eqT tsA_good.1 tsA_good.1).mono ?_
      rintro _ _ ⟨rfl, rfl⟩
      refine WD_step rfl (S_pure rfl ?_)
      refine WD_step rfl (S_pure rfl ?_)
      refine WD_cases (t := 53) rfl (fun hg5 => ?_) (fun hg5 => ?_)
      ·
       try simp only [bsT] at hg5
       refine WD_step rfl (S_pure rfl ?_)
       first | refine WD_step rfl (S_eqS rfl rfl ?_) | refine WD_step rfl (S_pure rfl ?_)
       refine WD_step rfl (S_pure rfl ?_)
       refine WD_step rfl (S_pure rfl ?_)
       refine WD_cases (t := 57) rfl (fun hg6 => ?_) (fun hg6 => ?_)
       ·
        try simp only [bsT] at hg6
        refine WD_step rfl (S_pure rfl ?_)
        first | refine WD_step rfl (S_pure rfl ?_) | refine WD_step rfl (S_lenS rfl rdA ?_)
        first | refine WD_step rfl (S_eqS rfl rfl ?_) | refine WD_step rfl (S_pure rfl ?_)
        refine WD_step rfl (S_pure rfl ?_)
        refine WD_step rfl (S_pure rfl ?_)
        refine WD_cases (t := 62) rfl (fun hg7 => ?_) (fun hg7 => ?_)
        ·
         try simp only [bsT] at hg7
         refine WD_step rfl (S_pure rfl ?_)
         refine WD_step rfl (S_idx (j := 0) rfl rfl rdA (by first | rfl | assumption | (symm; assumption)) (by rfl) (by first | assumption | omega | exact lt_of_get (by assumption) | (simp only [List.length_set]; first | assumption | omega | exact lt_of_get (by assumption))) fun hp64 => ?_)
         refine WD_step rfl (S_fldE rfl (by repeat (first | assumption | apply IsP.padd)) ?_)
         refine WD_step rfl (S_loadF rfl rdA (by rfl) (by assumption) (by rfl) (by rfl) ?_)
         first | refine WD_step rfl (S_eqS rfl rfl ?_) | refine WD_step rfl (S_pure rfl ?_)
         refine WD_step rfl (S_pure rfl ?_)
         refine WD_step rfl (S_pure rfl ?_)
         refine WD_cases (t := 69) rfl (fun hg8 => ?_) (fun hg8 => ?_)
         ·
          try simp only [bsT] at hg8
          refine WD_step rfl (S_pureE (v := tabV zeroT) rfl rfl ?_)
          refine WD_call rfl rfl rfl ?_
          refine (sp_oEnc zeroT_len zeroT_wf).mono ?_
          rintro _ _ ⟨w71, rfl, _, rfl⟩
          rw [if_pos zeroT_may]
          first | refine WD_step rfl (S_pure rfl ?_) | refine WD_step rfl (S_lenS rfl rdA ?_)
          first | refine WD_step rfl (S_eqS rfl rfl ?_) | refine WD_step rfl (S_pure rfl ?_)
          refine WD_step rfl (S_pure rfl ?_)
          refine WD_step rfl (S_pure rfl ?_)
          refine WD_nil ?_
          refine ⟨?_, ?_⟩
          ·
           first
             | exact ⟨ObR.off rfl, trivial⟩
             | exact ⟨ObR.of_step rfl (S_loadAll (T := TSlT) (xs := tsA) rfl pkA (by rw [tsA_good.1]; rfl) (eqV_tab _)), trivial⟩
          ·
           refine KSeq_n (WC_ret ?_)
           refine KFn_r (ResL.tmp rfl ResL.nil) ?_
           refine ⟨H, hsA, rfl, ?_⟩
           simp [resV, zeroT_enc]
         ·
          try simp only [bsT] at hg8
          refine WD_off rfl ?_
          refine WD_off rfl ?_
          refine WD_off rfl ?_
          refine WD_off rfl ?_
          refine WD_step rfl (S_pure rfl ?_)
          refine WD_step rfl (S_pure rfl ?_)
          refine WD_nil ?_
          refine ⟨?_, ?_⟩
          ·
           first
             | exact ⟨ObR.off rfl, trivial⟩
             | exact ⟨ObR.of_step rfl (S_loadAll (T := TSlT) (xs := tsA) rfl pkA (by rw [tsA_good.1]; rfl) (eqV_tab _)), trivial⟩
          ·
           refine KSeq_n (WC_ret ?_)
           refine KFn_r (ResL.tmp rfl ResL.nil) ?_
           exfalso
           first
             | exact hg8 rfl
             | exact hg7 rfl
             | exact hg6 trivial
             | exact hg5 trivial
             | exact hg4 trivial
             | (exact hg3 (by rw [hel]; rfl))
             | exact hg2 trivial
             | exact hg1 trivial
             | exact absurd hg1 (by decide)
             | exact absurd hg2 (by decide)
             | exact absurd hg4 (by decide)
             | exact absurd hg5 (by decide)
             | exact absurd hg6 (by decide)
        ·
         try simp only [bsT] at hg7
         refine WD_off rfl ?_
         refine WD_off rfl ?_
         refine WD_off rfl ?_
         refine WD_off rfl ?_
         refine WD_off rfl ?_
         refine WD_step rfl (S_pure rfl ?_)
         refine WD_step rfl (S_pure rfl ?_)
         refine WD_off rfl ?_
         refine WD_off rfl ?_
         refine WD_off rfl ?_
         refine WD_off rfl ?_
         refine WD_step rfl (S_pure rfl ?_)
         refine WD_step rfl (S_pure rfl ?_)
         refine WD_nil ?_
         refine ⟨?_, ?_⟩
         ·
          first
            | exact ⟨ObR.off rfl, trivial⟩
            | exact ⟨ObR.of_step rfl (S_loadAll (T := TSlT) (xs := tsA) rfl pkA (by rw [tsA_good.1]; rfl) (eqV_tab _)), trivial⟩
         ·
          refine KSeq_n (WC_ret ?_)
          refine KFn_r (ResL.tmp rfl ResL.nil) ?_
          exfalso
          first
            | exact hg8 rfl
            | exact hg7 rfl
            | exact hg6 trivial
            | exact hg5 trivial
            | exact hg4 trivial
            | (exact hg3 (by rw [hel]; rfl))
            | exact hg2 trivial
            | exact hg1 trivial
            | exact absurd hg1 (by decide)
            | exact absurd hg2 (by decide)
            | exact absurd hg4 (by decide)
            | exact absurd hg5 (by decide)
            | exact absurd hg6 (by decide)
       ·
        try simp only [bsT] at hg6
        refine WD_off rfl ?_
        refine WD_off rfl ?_
        refine WD_off rfl ?_
        refine WD_step rfl (S_pure rfl ?_)
        refine WD_step rfl (S_pure rfl ?_)
        refine WD_off rfl ?_
        refine WD_off rfl ?_
        refine WD_off rfl ?_
        refine WD_off rfl ?_
        refine WD_off rfl ?_
        refine WD_step rfl (S_pure rfl ?_)
        refine WD_step rfl (S_pure rfl ?_)
        refine WD_off rfl ?_
        refine WD_off rfl ?_
        refine WD_off rfl ?_
        refine WD_off rfl ?_
        refine WD_step rfl (S_pure rfl ?_)
        refine WD_step rfl (S_pure rfl ?_)
        refine WD_nil ?_
        refine ⟨?_, ?_⟩
        ·
         first
           | exact ⟨ObR.off rfl, trivial⟩
           | exact ⟨ObR.of_step rfl (S_loadAll (T := TSlT) (xs := tsA) rfl pkA (by rw [tsA_good.1]; rfl) (eqV_tab _)), trivial⟩
        ·
         refine KSeq_n (WC_ret ?_)
         refine KFn_r (ResL.tmp rfl ResL.nil) ?_
         exfalso
         first
           | exact hg8 rfl
           | exact hg7 rfl
           | exact hg6 trivial
           | exact hg5 trivial
           | exact hg4 trivial
           | (exact hg3 (by rw [hel]; rfl))
           | exact hg2 trivial
           | exact hg1 trivial
           | exact absurd hg1 (by decide)
           | exact absurd hg2 (by decide)
           | exact absurd hg4 (by decide)
           | exact absurd hg5 (by decide)
           | exact absurd hg6 (by decide)
      ·
       try simp only [bsT] at hg5
       refine WD_off rfl ?_
       refine WD_off rfl ?_
       refine WD_step rfl (S_pure rfl ?_)
       refine WD_step rfl (S_pure rfl ?_)
       refine WD_off rfl ?_
       refine WD_off rfl ?_
       refine WD_off rfl ?_
       refine WD_step rfl (S_pure rfl ?_)
       refine WD_step rfl (S_pure rfl ?_)
       refine WD_off rfl ?_
       refine WD_off rfl ?_
       refine WD_off rfl ?_
       refine WD_off rfl ?_
       refine WD_off rfl ?_
       refine WD_step rfl (S_pure rfl ?_)
       refine WD_step rfl (S_pure rfl ?_)
       refine WD_off rfl ?_
       refine WD_off rfl ?_
       refine WD_off rfl ?_
       refine WD_off rfl ?_
       refine WD_step rfl (S_pure rfl ?_)
       refine WD_step rfl (S_pure rfl ?_)
       refine WD_nil ?_
       refine ⟨?_, ?_⟩
       ·
        first
          | exact ⟨ObR.off rfl, trivial⟩
          | exact ⟨ObR.of_step rfl (S_loadAll (T := TSlT) (xs := tsA) rfl pkA (by rw [tsA_good.1]; rfl) (eqV_tab _)), trivial⟩
       ·
        refine KSeq_n (WC_ret ?_)
        refine KFn_r (ResL.tmp rfl ResL.nil) ?_
        exfalso
        first
          | exact hg8 rfl
          | exact hg7 rfl
          | exact hg6 trivial
          | exact hg5 trivial
          | exact hg4 trivial
          | (exact hg3 (by rw [hel]; rfl))
          | exact hg2 trivial
          | exact hg1 trivial
          | exact absurd hg1 (by decide)
          | exact absurd hg2 (by decide)
          | exact absurd hg4 (by decide)
          | exact absurd hg5 (by decide)
          | exact absurd hg6 (by decide)
     ·
      try simp only [bsT] at hg4
      refine WD_off rfl ?_
      refine WD_off rfl ?_
      refine WD_off rfl ?_
      refine WD_off rfl ?_
      refine WD_off rfl ?_
      refine WD_step rfl (S_pure rfl ?_)
      refine WD_step rfl (S_pure rfl ?_)
      refine WD_off rfl ?_
      refine WD_off rfl ?_
      refine WD_step rfl (S_pure rfl ?_)
      refine WD_step rfl (S_pure rfl ?_)
      refine WD_off rfl ?_
      refine WD_off rfl ?_
      refine WD_off rfl ?_
      refine WD_step rfl (S_pure rfl ?_)
      refine WD_step rfl (S_pure rfl ?_)
      refine WD_off rfl ?_
      refine WD_off rfl ?_
      refine WD_off rfl ?_
      refine WD_off rfl ?_
      refine WD_off rfl ?_
      refine WD_step rfl (S_pure rfl ?_)
      refine WD_step rfl (S_pure rfl ?_)
      refine WD_off rfl ?_
      refine WD_off rfl ?_
      refine WD_off rfl ?_
      refine WD_off rfl ?_
      refine WD_step rfl (S_pure rfl ?_)
      refine WD_step rfl (S_pure rfl ?_)
      refine WD_nil ?_
      refine ⟨?_, ?_⟩
      ·
       first
         | exact ⟨ObR.off rfl, trivial⟩
         | exact ⟨ObR.of_step rfl (S_loadAll (T := TSlT) (xs := tsA) rfl pkA (by rw [tsA_good.1]; rfl) (eqV_tab _)), trivial⟩
      ·
       refine KSeq_n (WC_ret ?_)
       refine KFn_r (ResL.tmp rfl ResL.nil) ?_
       exfalso
       first
         | exact hg8 rfl
         | exact hg7 rfl
         | exact hg6 trivial
         | exact hg5 trivial
         | exact hg4 trivial
         | (exact hg3 (by rw [hel]; rfl))
         | exact hg2 trivial
         | exact hg1 trivial
         | exact absurd hg1 (by decide)
         | exact absurd hg2 (by decide)
         | exact absurd hg4 (by decide)
         | exact absurd hg5 (by decide)
         | exact absurd hg6 (by decide)
    ·
     try simp only [bsT] at hg3
     refine WD_off rfl ?_
     refine WD_off rfl ?_
     refine WD_step rfl (S_pure rfl ?_)
     refine WD_step rfl (S_pure rfl ?_)
     refine WD_off rfl ?_
     refine WD_off rfl ?_
     refine WD_off rfl ?_
     refine WD_off rfl ?_
     refine WD_off rfl ?_
     refine WD_step rfl (S_pure rfl ?_)
     refine WD_step rfl (S_pure rfl ?_)
     refine WD_off rfl ?_
     refine WD_off rfl ?_
     refine WD_step rfl (S_pure rfl ?_)
     refine WD_step rfl (S_pure rfl ?_)
     refine WD_off rfl ?_
     refine WD_off rfl ?_
     refine WD_off rfl ?_
     refine WD_step rfl (S_pure rfl ?_)
     refine WD_step rfl (S_pure rfl ?_)
     refine WD_off rfl ?_
     refine WD_off rfl ?_
     refine WD_off rfl ?_
     refine WD_off rfl ?_
     refine WD_off rfl ?_
     refine WD_step rfl (S_pure rfl ?_)
     refine WD_step rfl (S_pure rfl ?_)
     refine WD_off rfl ?_
     refine WD_off rfl ?_
     refine WD_off rfl ?_
     refine WD_off rfl ?_
     refine WD_step rfl (S_pure rfl ?_)
     refine WD_step rfl (S_pure rfl ?_)
     refine WD_nil ?_
     refine ⟨?_, ?_⟩
     ·
      first
        | exact ⟨ObR.off rfl, trivial⟩
        | exact ⟨ObR.of_step rfl (S_loadAll (T := TSlT) (xs := tsA) rfl pkA (by rw [tsA_good.1]; rfl) (eqV_tab _)), trivial⟩
     ·
      refine KSeq_n (WC_ret ?_)
      refine KFn_r (ResL.tmp rfl ResL.nil) ?_
      exfalso
      first
        | exact hg8 rfl
        | exact hg7 rfl
        | exact hg6 trivial
        | exact hg5 trivial
        | exact hg4 trivial
        | (exact hg3 (by rw [hel]; rfl))
        | exact hg2 trivial
        | exact hg1 trivial
        | exact absurd hg1 (by decide)
        | exact absurd hg2 (by decide)
        | exact absurd hg4 (by decide)
        | exact absurd hg5 (by decide)
        | exact absurd hg6 (by decide)
   ·
    try simp only [bsT] at hg2
    refine WD_off rfl ?_
    refine WD_off rfl ?_
    refine WD_off rfl ?_
    refine WD_step rfl (S_pure rfl ?_)
    refine WD_step rfl (S_pure rfl ?_)
    refine WD_off rfl ?_
    refine WD_off rfl ?_
    refine WD_step rfl (S_pure rfl ?_)
    refine WD_step rfl (S_pure rfl ?_)
    refine WD_off rfl ?_
    refine WD_off rfl ?_
    refine WD_off rfl ?_
    refine WD_off rfl ?_
    refine WD_off rfl ?_
    refine WD_step rfl (S_pure rfl ?_)
    refine WD_step rfl (S_pure rfl ?_)
    refine WD_off rfl ?_
    refine WD_off rfl ?_
    refine WD_step rfl (S_pure rfl ?_)
    refine WD_step rfl (S_pure rfl ?_)
    refine WD_off rfl ?_
    refine WD_off rfl ?_
    refine WD_off rfl ?_
    refine WD_step rfl (S_pure rfl ?_)
    refine WD_step rfl (S_pure rfl ?_)
    refine WD_off rfl ?_
    refine WD_off rfl ?_
    refine WD_off rfl ?_
    refine WD_off rfl ?_
    refine WD_off rfl ?_
    refine WD_step rfl (S_pure rfl ?_)
    refine WD_step rfl (S_pure rfl ?_)
    refine WD_off rfl ?_
    refine WD_off rfl ?_
    refine WD_off rfl ?_
    refine WD_off rfl ?_
    refine WD_step rfl (S_pure rfl ?_)
    refine WD_step rfl (S_pure rfl ?_)
    refine WD_nil ?_
    refine ⟨?_, ?_⟩
    ·
     first
       | exact ⟨ObR.off rfl, trivial⟩
       | exact ⟨ObR.of_step rfl (S_loadAll (T := TSlT) (xs := tsA) rfl pkA (by rw [tsA_good.1]; rfl) (eqV_tab _)), trivial⟩
    ·
     refine KSeq_n (WC_ret ?_)
     refine KFn_r (ResL.tmp rfl ResL.nil) ?_
     exfalso
     first
       | exact hg8 rfl
       | exact hg7 rfl
       | exact hg6 trivial
       | exact hg5 trivial
       | exact hg4 trivial
       | (exact hg3 (by rw [hel]; rfl))
       | exact hg2 trivial
       | exact hg1 trivial
       | exact absurd hg1 (by decide)
       | exact absurd hg2 (by decide)
       | exact absurd hg4 (by decide)
       | exact absurd hg5 (by decide)
       | exact absurd hg6 (by decide)
  ·
   try simp only [bsT] at hg1
   refine WD_off rfl ?_
   refine WD_off rfl ?_
   refine WD_off rfl ?_
   refine WD_step rfl (S_pure rfl ?_)
   refine WD_step rfl (S_pure rfl ?_)
   refine WD_off rfl ?_
   refine WD_off rfl ?_
   refine WD_off rfl ?_
   refine WD_step rfl (S_pure rfl ?_)
   refine WD_step rfl (S_pure rfl ?_)
   refine WD_off rfl ?_
   refine WD_off rfl ?_
   refine WD_step rfl (S_pure rfl ?_)
   refine WD_step rfl (S_pure rfl ?_)
   refine WD_off rfl ?_
   refine WD_off rfl ?_
   refine WD_off rfl ?_
   refine WD_off rfl ?_
   refine WD_off rfl ?_
   refine WD_step rfl (S_pure rfl ?_)
   refine WD_step rfl (S_pure rfl ?_)
   refine WD_off rfl ?_
   refine WD_off rfl ?_
   refine WD_step rfl (S_pure rfl ?_)
   refine WD_step rfl (S_pure rfl ?_)
   refine WD_off rfl ?_
   refine WD_off rfl ?_
   refine WD_off rfl ?_
   refine WD_step rfl (S_pure rfl ?_)
   refine WD_step rfl (S_pure rfl ?_)
   refine WD_off rfl ?_
   refine WD_off rfl ?_
   refine WD_off rfl ?_
   refine WD_off rfl ?_
   refine WD_off rfl ?_
   refine WD_step rfl (S_pure rfl ?_)
   refine WD_step rfl (S_pure rfl ?_)
   refine WD_off rfl ?_
   refine WD_off rfl ?_
   refine WD_off rfl ?_
   refine WD_off rfl ?_
   refine WD_step rfl (S_pure rfl ?_)
   refine WD_step rfl (S_pure rfl ?_)
   refine WD_nil ?_
   refine ⟨?_, ?_⟩
   ·
    first
      | exact ⟨ObR.off rfl, trivial⟩
      | exact ⟨ObR.of_step rfl (S_loadAll (T := TSlT) (xs := tsA) rfl pkA (by rw [tsA_good.1]; rfl) (eqV_tab _)), trivial⟩
   ·
    refine KSeq_n (WC_ret ?_)
    refine KFn_r (ResL.tmp rfl ResL.nil) ?_
    exfalso
    first
      | exact hg8 rfl
      | exact hg7 rfl
      | exact hg6 trivial
      | exact hg5 trivial
      | exact hg4 trivial
      | (exact hg3 (by rw [hel]; rfl))
      | exact hg2 trivial
      | exact hg1 trivial
      | exact absurd hg1 (by decide)
      | exact absurd hg2 (by decide)
      | exact absurd hg4 (by decide)
      | exact absurd hg5 (by decide)
      | exact absurd hg6 (by decide)
end Go.Proofs.YtpnmeednimpjdaaGreat.AM
namespace Go.Proofs.YtpnmeednimpjdaaGreat.AM
open Go
set_option linter.unusedSimpArgs false
set_option linter.unusedVariables false
set_option maxRecDepth 4000
def okRaw (r : Raw) : Prop := (Lit.int .i64 r.kind).wf = true ∧ (Lit.int .i64 r.n).wf = true ∧ r.s.size ≤ maxLen
def okRec (r : Rec) : Prop := r.key.size ≤ maxLen ∧ okRaw r.val
theorem FRaw : Flat Tryz.prog 26 TRaw okRaw := by
  refine ⟨by kernel_rfl, by decide, ?_, fun _ => rfl⟩
  intro H enc W base spare held fuel cs x h
  obtain ⟨hl, n, hf⟩ := trod_struct' Tryz.underlying26 h
  rw [show Tryz.prog.cellsOf 26 = 3 by kernel_rfl] at hl
  obtain ⟨y1, h1⟩ := hf { name := "Kind", type := 3, offset := 0, embedded := false, tag := "", pkgPath := "", byteOffset := 0 } (by simp)
  obtain ⟨y2, h2⟩ := hf { name := "N", type := 2, offset := 1, embedded := false, tag := "", pkgPath := "", byteOffset := 8 } (by simp)
  obtain ⟨y3, h3⟩ := hf { name := "S", type := 9, offset := 2, embedded := false, tag := "", pkgPath := "", byteOffset := 16 } (by simp)
  simp only [show Tryz.prog.cellsOf 3 = 1 by kernel_rfl, show Tryz.prog.cellsOf 2 = 1 by kernel_rfl, show Tryz.prog.cellsOf 9 = 1 by kernel_rfl] at h1 h2 h3
  obtain ⟨k, e1, w1⟩ := trod_int' Tryz.underlying3 h1
  obtain ⟨m, e2, w2⟩ := trod_int' Tryz.underlying2 h2
  obtain ⟨s, e3, w3⟩ := trod_str' Tryz.underlying9 h3
  match cs, hl with
  | [a, b, c], _ =>
    simp at e1 e2 e3
    subst e1 e2 e3
    exact ⟨⟨k, m, s⟩, rfl, w1, w2, w3⟩
theorem FRec : Flat Tryz.prog 28 TRec okRec := by
  refine ⟨by kernel_rfl, by decide, ?_, fun _ => rfl⟩
  intro H enc W base spare held fuel cs x h
  obtain ⟨hl, n, hf⟩ := trod_struct' Tryz.underlying28 h
  rw [show Tryz.prog.cellsOf 28 = 5 by kernel_rfl] at hl
  obtain ⟨y1, h1⟩ := hf { name := "Key", type := 9, offset := 0, embedded := false, tag := "", pkgPath := "", byteOffset := 0 } (by simp)
  obtain ⟨y2, h2⟩ := hf { name := "Gone", type := 4, offset := 1, embedded := false, tag := "", pkgPath := "", byteOffset := 16 } (by simp)
  obtain ⟨y3, h3⟩ := hf { name := "Val", type := 26, offset := 2, embedded := false, tag := "", pkgPath := "", byteOffset := 24 } (by simp)
  simp only [show Tryz.prog.cellsOf 9 = 1 by kernel_rfl, show Tryz.prog.cellsOf 4 = 1 by kernel_rfl, show Tryz.prog.cellsOf 26 = 3 by kernel_rfl] at h1 h2 h3
  obtain ⟨s, e1, w1⟩ := trod_str' Tryz.underlying9 h1
  obtain ⟨g, e2⟩ := trod_bool' Tryz.underlying4 h2
  obtain ⟨r, e3, w3⟩ := FRaw.rd h3
  match cs, hl with
  | [a, b, c, d, e], _ =>
    simp [TRaw, Ty.ofAgg] at e1 e2 e3
    obtain ⟨e3, e4, e5⟩ := e3
    subst e1 e2 e3 e4 e5
    exact ⟨⟨s, g, r⟩, rfl, w1, w3⟩
theorem laidOut : laidOutB Tryz.prog = true := by kernel_rfl
end Go.Proofs.YtpnmeednimpjdaaGreat.AM
namespace Go.Proofs.YtpnmeednimpjdaaGreat.AM
open Go
set_option linter.unusedSimpArgs false
set_option linter.unusedVariables false
set_option maxRecDepth 4000
theorem wf_cut {r : Rec} (hok : okRec r) : wfRec (cutRec r) := by
  obtain ⟨h0, h1, h2, h3⟩ := hok
  have a1 := cut_size r.key 20
  have a2 := cut_size r.val.s 30
  simp [Lit.wf, IntKind.min, IntKind.max, IntKind.bits, IntKind.signed] at h1 h2
  refine ⟨?_, ?_, ?_, ?_⟩ <;> simp only [cutRec, cutRaw] <;> omega
theorem sp_oDecG {H : SH} {v : Value} {W : List SlT} (g : GoodT W) (hv : RD H v TByte (encT W)) : WF F X 44 [v] H (fun r H' => H' = H ∧ r = .tuple #[tabV W, .int .i64 0]) := by
  have hel := encT_len g.1 g.2.1 g.2.2
  refine (sp_oDec hv (by omega)).mono ?_
  rintro _ _ ⟨ts2, e2, rfl, rfl, hl2, hw2, hD2⟩
  rcases hD2 with ⟨rfl, hm2, hb2', hu2⟩ | ⟨_, _, hno⟩
  · rw [hu2 W g.isT]; exact ⟨rfl, rfl⟩
  · exact absurd g.isT (hno W)
theorem sp_hBytes {H : SH} {ts : List SlT} {i i2 : Nat} {wk wr wt : SV} (g : GoodT ts) : WF F X f_hashstore_Store_Bytes [.pointer (some ⟨i, 0, none⟩)] (STO i ts i2 wk wr wt H) (fun r H' => ∃ u : SV, r = u.toV ∧ H' = SL u.toV TByte (encT ts) :: STO i ts i2 wk wr wt H) := by
  have hl := g.1
  unfold STO
  refine WF_fn F_hashstore_Store_Bytes ?_
  refine WC_seq (WC_region ?_)
  refine WO_step rfl (S_pure rfl ?_)
  refine WO_nil (KSeq_n (WC_seq (WC_seq (WC_region ?_))))
  iterate 2 refine WO_step rfl (S_pure rfl ?_)
  refine WO_nil (KSeq_n ?_)
  refine WC_cond rfl (fun hb1 => ?_) (fun hb1 => ?_)
  ·
   try simp only [bsT] at hb1
   exact absurd hb1 (by simp)
   --stop
  ·
   try simp only [bsT] at hb1
   refine WC_skip (KSeq_n (WC_seq (WC_region ?_)))
   iterate 3 refine WO_step rfl (S_pure rfl ?_)
   refine WO_step rfl (S_loadSOt hl rfl pkA ?_)
   refine WO_call rfl rfl rfl ?_
   refine (sp_oEnc hl g.2.1).mono ?_
   rintro _ _ ⟨u, rfl, _, rfl⟩
   rw [if_pos g.2.2]
   refine WO_step rfl (S_pure rfl ?_)
   refine WO_nil (KSeq_n (WC_ret ?_))
   refine KFn_r (ResL.tmp rfl ResL.nil) ?_
   exact ⟨_, hsA, u, rfl, rfl⟩
theorem sp_hOpenOk {H : SH} {v : Value} {W : List SlT} (g : GoodT W) (hv : RD H v TByte (encT W)) : WF F X f_hashstore_Open [v] H (fun r H' => ∃ (i i2 : Nat) (wk wr wt : SV), r = .tuple #[.pointer (some ⟨i, 0, none⟩), .int .i64 0] ∧ H' = STO i W i2 wk wr wt H) := by
  have hl := g.1
  refine WF_fn F_hashstore_Open ?_
  refine WC_seq (WC_region ?_)
  iterate 2 refine WO_step rfl (S_pure rfl ?_)
  refine WO_nil (KSeq_n (WC_seq (WC_region ?_)))
  refine WO_step rfl (S_pure rfl ?_)
  refine WO_call rfl rfl rfl ?_
  refine (sp_oDecG g hv).mono ?_
  rintro _ _ ⟨rfl, rfl⟩
  iterate 3 refine WO_step rfl (S_pure rfl ?_)
  refine WO_step rfl (S_new fun i4 => ?_)
  refine WO_step rfl (S_storeAll (T := TSlT) (xs := W) rfl rfl pkA (by rfl) (by rw [hl]; rfl) ?_)
  refine WO_step rfl (S_pure rfl ?_)
  refine WO_nil (KSeq_n (WC_seq (WC_seq (WC_region ?_))))
  refine WO_step rfl (S_pure rfl ?_)
  first | refine WO_step rfl (S_neS rfl rfl ?_) | refine WO_step rfl (S_pure rfl ?_)
  refine WO_nil (KSeq_n ?_)
  refine WC_cond rfl (fun hb1 => ?_) (fun hb1 => ?_)
  ·
   try simp only [bsT] at hb1
   exact absurd trivial hb1
   --stop
  ·
   try simp only [bsT] at hb1
   refine WC_skip (KSeq_n (WC_seq (WC_region ?_)))
   refine WO_step rfl (S_loadAll (T := TSlT) (xs := W) rfl pkA (by rw [hl]; rfl) ?_)
   refine WO_call rfl rfl rfl ?_
   refine (sp_hNewOk (ts := W) hl g.2.1 g.2.2).mono ?_
   rintro _ _ ⟨i, i2, wk, wr, wt, rfl, rfl⟩
   iterate 4 refine WO_step rfl (S_pure rfl ?_)
   refine WO_nil (KSeq_n (WC_ret ?_))
   refine KFn_r (ResL.tmp rfl (ResL.tmp rfl ResL.nil)) ?_
   exact ⟨STO i W i2 wk wr wt _, (by unfold STO; exact hsA), i, i2, wk, wr, wt, rfl, rfl⟩
theorem sp_hOpenNo {H : SH} {v : Value} {bs : List UInt8} (hv : RD H v TByte bs) (hb : bs.length ≤ 100000) (hno : ∀ ts', ¬ IsT bs ts') : WF F X f_hashstore_Open [v] H (fun r H' => r = .tuple #[.pointer none, .int .i64 8] ∧ H' = H) := by
  refine WF_fn F_hashstore_Open ?_
  refine WC_seq (WC_region ?_)
  iterate 2 refine WO_step rfl (S_pure rfl ?_)
  refine WO_nil (KSeq_n (WC_seq (WC_region ?_)))
  refine WO_step rfl (S_pure rfl ?_)
  refine WO_call rfl rfl rfl ?_
  refine (sp_oDec hv hb).mono ?_
  rintro _ _ ⟨W, e, rfl, rfl, hl, hw, hD⟩
  rcases hD with ⟨rfl, hm, hb', _⟩ | ⟨rfl, rfl, _⟩
  · exact absurd ⟨hl, hw, hm, hb'⟩ (hno W)
  iterate 3 refine WO_step rfl (S_pure rfl ?_)
  refine WO_step rfl (S_new fun i4 => ?_)
  refine WO_step rfl (S_storeAll (T := TSlT) (xs := zeroT) rfl rfl pkA (by rfl) (by rw [hl]; rfl) ?_)
  refine WO_step rfl (S_pure rfl ?_)
  refine WO_nil (KSeq_n (WC_seq (WC_seq (WC_region ?_))))
  refine WO_step rfl (S_pure rfl ?_)
  first | refine WO_step rfl (S_neS rfl rfl ?_) | refine WO_step rfl (S_pure rfl ?_)
  refine WO_nil (KSeq_n ?_)
  refine WC_cond rfl (fun hb1 => ?_) (fun hb1 => ?_)
  ·
   try simp only [bsT] at hb1
   refine WC_seq (WC_region ?_)
   iterate 3 refine WO_step rfl (S_pure rfl ?_)
   refine WO_nil (KSeq_n (WC_ret (KSeq_r ?_)))
   refine KFn_r (ResL.tmp rfl (ResL.tmp rfl ResL.nil)) ?_
   exact ⟨_, hsA, rfl, rfl⟩
  ·
   try simp only [bsT] at hb1
   exact absurd hb1 (by decide)
   --stop
theorem fnd_no {k : ByteArray} : ∀ {l : List Rec}, (∀ r ∈ l, r.key ≠ k) → fnd l k = none
  | [], _ => rfl
  | x :: l, h => by
    rw [fnd, if_neg (h x (List.mem_cons_self ..))]
    exact fnd_no fun r hr => h r (List.mem_cons_of_mem _ hr)
theorem bkR_mem {ts : List SlT} {b : Nat} (hb : b < 8) {r : Rec} (h : r ∈ bkR ts b) : r ∈ tRecs ts 32 := by
  rw [← bkR_sub hb] at h
  exact List.mem_of_mem_drop (List.mem_of_mem_take h)
theorem likeL_mem {ts : List SlT} {k : ByteArray} {r : Rec} (h : r ∈ likeL ts k) : r ∈ tRecs ts 32 := by
  unfold likeL likeB at h
  rcases List.mem_append.1 h with h | h
  · exact bkR_mem (frst_lt _) (List.mem_filter.1 h).1
  · exact bkR_mem (oth_lt (frst_lt _)) (List.mem_filter.1 h).1
theorem bk_set {ts : List SlT} {p b : Nat} {x : SlT} : bk (ts.set p x) b = if 4 * b ≤ p ∧ p < 4 * b + 4 then (bk ts b).set (p - 4 * b) x else bk ts b := by
  unfold bk
  rw [List.drop_set]
  by_cases h : p < 4 * b
  · rw [if_pos h, if_neg (by omega)]
  · rw [if_neg h, List.take_set]
    by_cases h2 : p < 4 * b + 4
    · rw [if_pos (by omega)]
    · rw [if_neg (by omega), List.set_eq_of_length_le (by rw [List.length_take]; omega)]
theorem bk_mem {ts : List SlT} {b : Nat} {x : SlT} (h : x ∈ bk ts b) : x ∈ ts := List.mem_of_mem_drop (List.mem_of_mem_take h)
theorem bkR_one {r : Rec} {p b : Nat} (hb : b < 8) : bkR (zeroT.set p ⟨true, r⟩) b = if 4 * b ≤ p ∧ p < 4 * b + 4 then [r] else [] := by
  unfold bkR
  rw [bk_set]
  have hz : ∀ y ∈ bk zeroT b, y.has = false := fun y hy => zeroT_has y (bk_mem hy)
  split
  · rw [filter_set rfl hz (by rw [bk_len zeroT_len hb]; omega)]; rfl
  · rw [List.filter_eq_nil_iff.2 (fun y hy => by rw [hz y hy]; decide)]; rfl
theorem likeL_A : likeL tsA kA = [goneR kA] := by
  have h8 := frst_lt (kH kA)
  have ho := oth_lt (t := tagOf (kH kA)) h8
  have hne := oth_ne (t := tagOf (kH kA)) h8
  unfold likeL tsA
  generalize oth (frst (kH kA)) (tagOf (kH kA)) = o at ho hne ⊢
  rw [bkR_one h8, bkR_one ho, if_pos (by omega), if_neg (by omega)]
  simp [likeB, goneR]
theorem tRecs_A : tRecs tsA 32 = [goneR kA] := by rw [tRecs_all tsA_good.1, tsA_filter]; rfl
theorem fnd_AA : fnd (likeL tsA kA) kA = some (goneR kA) := by rw [likeL_A]; exact if_pos rfl
def kB : ByteArray := ⟨#[98]⟩
theorem fnd_AB : fnd (likeL tsA kB) kB = none := fnd_no fun r hr => by
  have := likeL_mem hr
  rw [tRecs_A] at this
  rw [List.mem_singleton.1 this]
  decide
theorem noNil : ∀ ts', ¬ IsT [] ts' := fun ts' h => by
  have := h.l4
  simp at this
theorem sp_BegunT {H : SH} : WF F X f_loesslaw19_Begun [] H (fun r H' => H' = H ∧ r = .bool true) := by
  refine WF_fn F_loesslaw19_Begun ?_
  refine WC_seq (WC_region ?_)
  refine WO_step rfl (S_pure rfl ?_)
  refine WO_nil (KSeq_n (WC_seq (WC_region ?_)))
  refine WO_call rfl rfl rfl ?_
  refine sp_begunT.mono ?_
  rintro _ _ ⟨rfl, rfl⟩
  refine WO_step rfl (S_pure rfl ?_)
  refine WO_nil (KSeq_n (WC_ret ?_))
  refine KFn_r (ResL.tmp rfl ResL.nil) ?_
  exact ⟨_, hsA, rfl, rfl⟩
theorem sp_begunH {H : SH} : WF F X f_loesslaw20_begun [] H (fun r H' => H' = H ∧ r = .bool true) := by
  refine WF_addNil (T := TBool) (WF_addNil (T := TByte) ?_)
  have gA := tsA_good
  have hl := tsA_good.1
  refine WF_fn F_loesslaw20_begun ?_
  refine WC_seq (WC_region ?_)
  refine WO_step rfl (S_pure rfl ?_)
  refine WO_nil (KSeq_n (WC_seq (WC_region ?_)))
  refine WO_step rfl (S_pure rfl ?_)
  refine WO_step rfl (S_lit1 (T := TRec) (y := goneR kA) rfl rfl rfl rfl fun w13 => ?_)
  refine WO_call rfl rfl rfl ?_
  refine (sp_Lay (l := [goneR kA]) (turn := []) rdA rdA).mono ?_
  rintro _ _ ⟨rfl, rfl⟩
  rw [tsA_lay]
  refine WO_call rfl rfl rfl ?_
  refine (sp_OfT hl).mono ?_
  rintro _ _ ⟨rfl, rfl⟩
  refine WO_step rfl (S_new fun i1 => ?_)
  refine WO_step rfl (S_storeAll (T := TSlT) (xs := tsA) rfl rfl pkA (by rfl) (by rw [hl]; rfl) ?_)
  refine WO_nil (KSeq_n (WC_seq (WC_region ?_)))
  refine WO_step rfl (S_loadAll (T := TSlT) (xs := tsA) rfl pkA (by rw [hl]; rfl) ?_)
  refine WO_call rfl rfl rfl ?_
  refine (WF.weak (sp_hNewOk (H := SL (SV.toV .nil) TByte [] :: H) (ts := tsA) hl gA.2.1 gA.2.2) hsA).mono ?_
  rintro _ _ ⟨i, i2, wk, wr, wt, rfl, rfl⟩
  iterate 5 refine WO_step rfl (S_pure rfl ?_)
  refine WO_nil (KSeq_n (WC_seq (WC_seq (WC_region ?_))))
  refine WO_step rfl (S_pure rfl ?_)
  first | refine WO_step rfl (S_neS rfl rfl ?_) | refine WO_step rfl (S_pure rfl ?_)
  refine WO_step rfl (S_pure rfl ?_)
  refine WO_cases (t := 23) rfl (fun hg1 => ?_) (fun hg1 => ?_)
  ·
   try simp only [bsT] at hg1
   iterate 2 refine WO_off rfl ?_
   refine WO_step rfl (S_pure rfl ?_)
   refine WO_nil (KSeq_n ?_)
   refine WC_cond rfl (fun _ => ?_) (fun h => ?_)
   rotate_left
   · exact absurd h (by decide)
   refine WC_seq (WC_region ?_)
   refine WO_step rfl (S_pure rfl ?_)
   refine WO_nil (KSeq_n (WC_ret (KSeq_r ?_)))
   refine KFn_r (ResL.tmp rfl ResL.nil) ?_
   exact absurd trivial hg1
  ·
   try simp only [bsT] at hg1
   iterate 3 refine WO_step rfl (S_pure rfl ?_)
   refine WO_nil (KSeq_n ?_)
   refine WC_cond rfl (fun hb1 => ?_) (fun hb1 => ?_)
   ·
    try simp only [bsT] at hb1
    refine WC_seq (WC_region ?_)
    refine WO_step rfl (S_pure rfl ?_)
    refine WO_nil (KSeq_n (WC_ret (KSeq_r ?_)))
    refine KFn_r (ResL.tmp rfl ResL.nil) ?_
    exact absurd hb1 (by simp)
   ·
    try simp only [bsT] at hb1
    refine WC_skip (KSeq_n (WC_seq (WC_region ?_)))
    refine WO_step rfl (S_pure rfl ?_)
    refine WO_call rfl rfl rfl ?_
    refine (WF.weak (sp_hGet (H := SL (SV.toV .nil) TByte [] :: H) (i := i) (i2 := i2) (wk := wk) (wr := wr) (wt := wt) (ts := tsA) (k := kA) hl (by decide)) (by unfold STO; exact hsA)).mono ?_
    rintro _ _ ⟨rfl, rfl⟩
    rw [fnd_AA]
    iterate 3 refine WO_step rfl (S_pure rfl ?_)
    refine WO_step rfl (S_newT TRec rec0 rfl rfl fun i4 => ?_)
    refine WO_step rfl (S_storeT (T := TRec) (y := goneR kA) rfl rfl pkA (by rfl) (by rfl) ?_)
    refine WO_step rfl (S_pure rfl ?_)
    refine WO_nil (KSeq_n (WC_seq (WC_region ?_)))
    refine WO_step rfl (S_pure rfl ?_)
    refine WO_call rfl rfl rfl ?_
    refine (WF.weak (sp_hGet (H := OB i4 TRec (goneR kA) :: SL (SV.toV .nil) TByte [] :: H) (i := i) (i2 := i2) (wk := wk) (wr := wr) (wt := wt) (ts := tsA) (k := kB) hl (by decide)) (by unfold STO; exact hsA)).mono ?_
    rintro _ _ ⟨rfl, rfl⟩
    rw [fnd_AB]
    iterate 3 refine WO_step rfl (S_pure rfl ?_)
    refine WO_step rfl (S_newT TRec rec0 rfl rfl fun i6 => ?_)
    refine WO_step rfl (S_storeT (T := TRec) (y := rec0) rfl rfl pkA (by rfl) (by rfl) ?_)
    refine WO_step rfl (S_pure rfl ?_)
    refine WO_nil (KSeq_n (WC_seq (WC_region ?_)))
    refine WO_step rfl (S_pure rfl ?_)
    refine WO_call rfl rfl rfl ?_
    refine (WF.weak (sp_hBytes (H := OB i4 TRec (goneR kA) :: SL (SV.toV .nil) TByte [] :: H) (i := i) (i2 := i2) (wk := wk) (wr := wr) (wt := wt) (ts := tsA) gA) (by unfold STO; exact hsA)).mono ?_
    rintro _ _ ⟨u, rfl, rfl⟩
    refine WO_call rfl rfl rfl ?_
    refine (sp_hOpenOk gA rdA).mono ?_
    rintro _ _ ⟨i', i2', wk', wr', wt', rfl, rfl⟩
    iterate 5 refine WO_step rfl (S_pure rfl ?_)
    refine WO_nil (KSeq_n (WC_seq (WC_region ?_)))
    refine WO_call rfl rfl rfl ?_
    refine (WF.weak (sp_hOpenNo (H := SL (SV.toV .nil) TByte [] :: STO i' tsA i2' wk' wr' wt' (STO i tsA i2 wk wr wt (OB i4 TRec (goneR kA) :: H))) (bs := []) rdA (by simp) noNil) (by unfold STO; exact hsA)).mono ?_
    rintro _ _ ⟨rfl, rfl⟩
    iterate 5 refine WO_step rfl (S_pure rfl ?_)
    refine WO_nil (KSeq_n (WC_seq (WC_region ?_)))
    refine WO_call rfl rfl rfl ?_
    refine sp_BegunT.mono ?_
    rintro _ _ ⟨rfl, rfl⟩
    refine WO_step rfl (S_pure rfl ?_)
    refine WO_cases (t := 48) rfl (fun hg2 => ?_) (fun hg2 => ?_)
    ·
     try simp only [bsT] at hg2
     iterate 3 refine WO_step rfl (S_pure rfl ?_)
     refine WO_cases (t := 51) rfl (fun hg3 => ?_) (fun hg3 => ?_)
     ·
      try simp only [bsT] at hg3
      refine WO_step rfl (S_pure rfl ?_)
      refine WO_step rfl (S_loadO rfl pkA (by rfl) (by rfl) ?_)
      iterate 2 refine WO_step rfl (S_pure rfl ?_)
      refine WO_cases (t := 55) rfl (fun hg4 => ?_) (fun hg4 => ?_)
      ·
       try simp only [bsT] at hg4
       iterate 4 refine WO_step rfl (S_pure rfl ?_)
       refine WO_cases (t := 59) rfl (fun hg5 => ?_) (fun hg5 => ?_)
       ·
        try simp only [bsT] at hg5
        refine WO_step rfl (S_pure rfl ?_)
        refine WO_call rfl rfl rfl ?_
        refine (WF.weak (sp_hReads (H := STO i' tsA i2' wk' wr' wt' (OB i4 TRec (goneR kA) :: H)) (i := i) (i2 := i2) (wk := wk) (wr := wr) (wt := wt) (ts := tsA) (k := kA) hl (by decide)) (by unfold STO; exact hsA)).mono ?_
        rintro _ _ ⟨rfl, rfl⟩
        rw [likeL_A]
        first | refine WO_step rfl (S_eqS rfl rfl ?_) | refine WO_step rfl (S_pure rfl ?_)
        iterate 2 refine WO_step rfl (S_pure rfl ?_)
        refine WO_cases (t := 64) rfl (fun hg6 => ?_) (fun hg6 => ?_)
        ·
         try simp only [bsT] at hg6
         refine WO_step rfl (S_pure rfl ?_)
         refine WO_call rfl rfl rfl ?_
         refine (sp_hLen (H := STO i' tsA i2' wk' wr' wt' (OB i4 TRec (goneR kA) :: H)) (i := i) (i2 := i2) (wk := wk) (wr := wr) (wt := wt) (ts := tsA) hl).mono ?_
         rintro _ _ ⟨rfl, rfl⟩
         rw [tRecs_A]
         first | refine WO_step rfl (S_eqS rfl rfl ?_) | refine WO_step rfl (S_pure rfl ?_)
         iterate 2 refine WO_step rfl (S_pure rfl ?_)
         refine WO_cases (t := 69) rfl (fun hg7 => ?_) (fun hg7 => ?_)
         ·
          try simp only [bsT] at hg7
          refine WO_step rfl (S_pure rfl ?_)
          first | refine WO_step rfl (S_eqS rfl rfl ?_) | refine WO_step rfl (S_pure rfl ?_)
          iterate 2 refine WO_step rfl (S_pure rfl ?_)
          refine WO_cases (t := 73) rfl (fun hg8 => ?_) (fun hg8 => ?_)
          ·
           try simp only [bsT] at hg8
           refine WO_step rfl (S_pure rfl ?_)
           refine WO_call rfl rfl rfl ?_
           refine (WF.weak (sp_hLen (H := STO i tsA i2 wk wr wt (OB i4 TRec (goneR kA) :: H)) (i := i') (i2 := i2') (wk := wk') (wr := wr') (wt := wt') (ts := tsA) hl) (by unfold STO; exact hsA)).mono ?_
           rintro _ _ ⟨rfl, rfl⟩
           rw [tRecs_A]
           first | refine WO_step rfl (S_eqS rfl rfl ?_) | refine WO_step rfl (S_pure rfl ?_)
           iterate 2 refine WO_step rfl (S_pure rfl ?_)
           refine WO_cases (t := 78) rfl (fun hg9 => ?_) (fun hg9 => ?_)
           ·
            try simp only [bsT] at hg9
            refine WO_step rfl (S_pure rfl ?_)
            first | refine WO_step rfl (S_eqS rfl rfl ?_) | refine WO_step rfl (S_pure rfl ?_)
            iterate 2 refine WO_step rfl (S_pure rfl ?_)
            refine WO_nil (KSeq_n (WC_ret ?_))
            refine KFn_r (ResL.tmp rfl ResL.nil) ?_
            exact ⟨H, (by unfold STO; exact hsA), rfl, rfl⟩
           ·
            try simp only [bsT] at hg9
            iterate 2 refine WO_off rfl ?_
            iterate 2 refine WO_step rfl (S_pure rfl ?_)
            refine WO_nil (KSeq_n (WC_ret ?_))
            refine KFn_r (ResL.tmp rfl ResL.nil) ?_
            exfalso
            first
              | exact hg9 rfl
              | exact hg9 trivial
              | exact hg8 rfl
              | exact hg8 trivial
              | exact hg7 rfl
              | exact hg7 trivial
              | exact hg6 rfl
              | exact hg6 trivial
              | exact hg5 rfl
              | exact hg5 trivial
              | exact hg4 rfl
              | exact hg4 trivial
              | exact hg3 rfl
              | exact hg3 trivial
              | exact hg2 rfl
              | exact hg2 trivial
              | exact absurd hg9 (by decide)
              | exact absurd hg9 (by simp)
              | exact absurd hg8 (by decide)
              | exact absurd hg8 (by simp)
              | exact absurd hg7 (by decide)
              | exact absurd hg7 (by simp)
              | exact absurd hg6 (by decide)
              | exact absurd hg6 (by simp)
              | exact absurd hg5 (by decide)
              | exact absurd hg5 (by simp)
              | exact absurd hg4 (by decide)
              | exact absurd hg4 (by simp)
              | exact absurd hg3 (by decide)
              | exact absurd hg3 (by simp)
              | exact absurd hg2 (by decide)
              | exact absurd hg2 (by simp)
          ·
           try simp only [bsT] at hg8
           iterate 3 refine WO_off rfl ?_
           iterate 2 refine WO_step rfl (S_pure rfl ?_)
           iterate 2 refine WO_off rfl ?_
           iterate 2 refine WO_step rfl (S_pure rfl ?_)
           refine WO_nil (KSeq_n (WC_ret ?_))
           refine KFn_r (ResL.tmp rfl ResL.nil) ?_
           exfalso
           first
             | exact hg9 rfl
             | exact hg9 trivial
             | exact hg8 rfl
             | exact hg8 trivial
             | exact hg7 rfl
             | exact hg7 trivial
             | exact hg6 rfl
             | exact hg6 trivial
             | exact hg5 rfl
             | exact hg5 trivial
             | exact hg4 rfl
             | exact hg4 trivial
             | exact hg3 rfl
             | exact hg3 trivial
             | exact hg2 rfl
             | exact hg2 trivial
             | exact absurd hg9 (by decide)
             | exact absurd hg9 (by simp)
             | exact absurd hg8 (by decide)
             | exact absurd hg8 (by simp)
             | exact absurd hg7 (by decide)
             | exact absurd hg7 (by simp)
             | exact absurd hg6 (by decide)
             | exact absurd hg6 (by simp)
             | exact absurd hg5 (by decide)
             | exact absurd hg5 (by simp)
             | exact absurd hg4 (by decide)
             | exact absurd hg4 (by simp)
             | exact absurd hg3 (by decide)
             | exact absurd hg3 (by simp)
             | exact absurd hg2 (by decide)
             | exact absurd hg2 (by simp)
         ·
          try simp only [bsT] at hg7
          iterate 2 refine WO_off rfl ?_
          iterate 2 refine WO_step rfl (S_pure rfl ?_)
          iterate 3 refine WO_off rfl ?_
          iterate 2 refine WO_step rfl (S_pure rfl ?_)
          iterate 2 refine WO_off rfl ?_
          iterate 2 refine WO_step rfl (S_pure rfl ?_)
          refine WO_nil (KSeq_n (WC_ret ?_))
          refine KFn_r (ResL.tmp rfl ResL.nil) ?_
          exfalso
          first
            | exact hg9 rfl
            | exact hg9 trivial
            | exact hg8 rfl
            | exact hg8 trivial
            | exact hg7 rfl
            | exact hg7 trivial
            | exact hg6 rfl
            | exact hg6 trivial
            | exact hg5 rfl
            | exact hg5 trivial
            | exact hg4 rfl
            | exact hg4 trivial
            | exact hg3 rfl
            | exact hg3 trivial
            | exact hg2 rfl
            | exact hg2 trivial
            | exact absurd hg9 (by decide)
            | exact absurd hg9 (by simp)
            | exact absurd hg8 (by decide)
            | exact absurd hg8 (by simp)
            | exact absurd hg7 (by decide)
            | exact absurd hg7 (by simp)
            | exact absurd hg6 (by decide)
            | exact absurd hg6 (by simp)
            | exact absurd hg5 (by decide)
            | exact absurd hg5 (by simp)
            | exact absurd hg4 (by decide)
            | exact absurd hg4 (by simp)
            | exact absurd hg3 (by decide)
            | exact absurd hg3 (by simp)
            | exact absurd hg2 (by decide)
            | exact absurd hg2 (by simp)
        ·
         try simp only [bsT] at hg6
         iterate 3 refine WO_off rfl ?_
         iterate 2 refine WO_step rfl (S_pure rfl ?_)
         iterate 2 refine WO_off rfl ?_
         iterate 2 refine WO_step rfl (S_pure rfl ?_)
         iterate 3 refine WO_off rfl ?_
         iterate 2 refine WO_step rfl (S_pure rfl ?_)
         iterate 2 refine WO_off rfl ?_
         iterate 2 refine WO_step rfl (S_pure rfl ?_)
         refine WO_nil (KSeq_n (WC_ret ?_))
         refine KFn_r (ResL.tmp rfl ResL.nil) ?_
         exfalso
         first
           | exact hg9 rfl
           | exact hg9 trivial
           | exact hg8 rfl
           | exact hg8 trivial
           | exact hg7 rfl
           | exact hg7 trivial
           | exact hg6 rfl
           | exact hg6 trivial
           | exact hg5 rfl
           | exact hg5 trivial
           | exact hg4 rfl
           | exact hg4 trivial
           | exact hg3 rfl
           | exact hg3 trivial
           | exact hg2 rfl
           | exact hg2 trivial
           | exact absurd hg9 (by decide)
           | exact absurd hg9 (by simp)
           | exact absurd hg8 (by decide)
           | exact absurd hg8 (by simp)
           | exact absurd hg7 (by decide)
           | exact absurd hg7 (by simp)
           | exact absurd hg6 (by decide)
           | exact absurd hg6 (by simp)
           | exact absurd hg5 (by decide)
           | exact absurd hg5 (by simp)
           | exact absurd hg4 (by decide)
           | exact absurd hg4 (by simp)
           | exact absurd hg3 (by decide)
           | exact absurd hg3 (by simp)
           | exact absurd hg2 (by decide)
           | exact absurd hg2 (by simp)
       ·
        try simp only [bsT] at hg5
        iterate 3 refine WO_off rfl ?_
        iterate 2 refine WO_step rfl (S_pure rfl ?_)
        iterate 3 refine WO_off rfl ?_
        iterate 2 refine WO_step rfl (S_pure rfl ?_)
        iterate 2 refine WO_off rfl ?_
        iterate 2 refine WO_step rfl (S_pure rfl ?_)
        iterate 3 refine WO_off rfl ?_
        iterate 2 refine WO_step rfl (S_pure rfl ?_)
        iterate 2 refine WO_off rfl ?_
        iterate 2 refine WO_step rfl (S_pure rfl ?_)
        refine WO_nil (KSeq_n (WC_ret ?_))
        refine KFn_r (ResL.tmp rfl ResL.nil) ?_
        exfalso
        first
          | exact hg9 rfl
          | exact hg9 trivial
          | exact hg8 rfl
          | exact hg8 trivial
          | exact hg7 rfl
          | exact hg7 trivial
          | exact hg6 rfl
          | exact hg6 trivial
          | exact hg5 rfl
          | exact hg5 trivial
          | exact hg4 rfl
          | exact hg4 trivial
          | exact hg3 rfl
          | exact hg3 trivial
          | exact hg2 rfl
          | exact hg2 trivial
          | exact absurd hg9 (by decide)
          | exact absurd hg9 (by simp)
          | exact absurd hg8 (by decide)
          | exact absurd hg8 (by simp)
          | exact absurd hg7 (by decide)
          | exact absurd hg7 (by simp)
          | exact absurd hg6 (by decide)
          | exact absurd hg6 (by simp)
          | exact absurd hg5 (by decide)
          | exact absurd hg5 (by simp)
          | exact absurd hg4 (by decide)
          | exact absurd hg4 (by simp)
          | exact absurd hg3 (by decide)
          | exact absurd hg3 (by simp)
          | exact absurd hg2 (by decide)
          | exact absurd hg2 (by simp)
      ·
       try simp only [bsT] at hg4
       iterate 2 refine WO_off rfl ?_
       iterate 2 refine WO_step rfl (S_pure rfl ?_)
       iterate 3 refine WO_off rfl ?_
       iterate 2 refine WO_step rfl (S_pure rfl ?_)
       iterate 3 refine WO_off rfl ?_
       iterate 2 refine WO_step rfl (S_pure rfl ?_)
       iterate 2 refine WO_off rfl ?_
       iterate 2 refine WO_step rfl (S_pure rfl ?_)
       iterate 3 refine WO_off rfl ?_
       iterate 2 refine WO_step rfl (S_pure rfl ?_)
       iterate 2 refine WO_off rfl ?_
       iterate 2 refine WO_step rfl (S_pure rfl ?_)
       refine WO_nil (KSeq_n (WC_ret ?_))
       refine KFn_r (ResL.tmp rfl ResL.nil) ?_
       exfalso
       first
         | exact hg9 rfl
         | exact hg9 trivial
         | exact hg8 rfl
         | exact hg8 trivial
         | exact hg7 rfl
         | exact hg7 trivial
         | exact hg6 rfl
         | exact hg6 trivial
         | exact hg5 rfl
         | exact hg5 trivial
         | exact hg4 rfl
         | exact hg4 trivial
         | exact hg3 rfl
         | exact hg3 trivial
         | exact hg2 rfl
         | exact hg2 trivial
         | exact absurd hg9 (by decide)
         | exact absurd hg9 (by simp)
         | exact absurd hg8 (by decide)
         | exact absurd hg8 (by simp)
         | exact absurd hg7 (by decide)
         | exact absurd hg7 (by simp)
         | exact absurd hg6 (by decide)
         | exact absurd hg6 (by simp)
         | exact absurd hg5 (by decide)
         | exact absurd hg5 (by simp)
         | exact absurd hg4 (by decide)
         | exact absurd hg4 (by simp)
         | exact absurd hg3 (by decide)
         | exact absurd hg3 (by simp)
         | exact absurd hg2 (by decide)
         | exact absurd hg2 (by simp)
     ·
      try simp only [bsT] at hg3
      iterate 2 refine WO_off rfl ?_
      iterate 2 refine WO_step rfl (S_pure rfl ?_)
      iterate 2 refine WO_off rfl ?_
      iterate 2 refine WO_step rfl (S_pure rfl ?_)
      iterate 3 refine WO_off rfl ?_
      iterate 2 refine WO_step rfl (S_pure rfl ?_)
      iterate 3 refine WO_off rfl ?_
      iterate 2 refine WO_step rfl (S_pure rfl ?_)
      iterate 2 refine WO_off rfl ?_
      iterate 2 refine WO_step rfl (S_pure rfl ?_)
      iterate 3 refine WO_off rfl ?_
      iterate 2 refine WO_step rfl (S_pure rfl ?_)
      iterate 2 refine WO_off rfl ?_
      iterate 2 refine WO_step rfl (S_pure rfl ?_)
      refine WO_nil (KSeq_n (WC_ret ?_))
      refine KFn_r (ResL.tmp rfl ResL.nil) ?_
      exfalso
      first
        | exact hg9 rfl
        | exact hg9 trivial
        | exact hg8 rfl
        | exact hg8 trivial
        | exact hg7 rfl
        | exact hg7 trivial
        | exact hg6 rfl
        | exact hg6 trivial
        | exact hg5 rfl
        | exact hg5 trivial
        | exact hg4 rfl
        | exact hg4 trivial
        | exact hg3 rfl
        | exact hg3 trivial
        | exact hg2 rfl
        | exact hg2 trivial
        | exact absurd hg9 (by decide)
        | exact absurd hg9 (by simp)
        | exact absurd hg8 (by decide)
        | exact absurd hg8 (by simp)
        | exact absurd hg7 (by decide)
        | exact absurd hg7 (by simp)
        | exact absurd hg6 (by decide)
        | exact absurd hg6 (by simp)
        | exact absurd hg5 (by decide)
        | exact absurd hg5 (by simp)
        | exact absurd hg4 (by decide)
        | exact absurd hg4 (by simp)
        | exact absurd hg3 (by decide)
        | exact absurd hg3 (by simp)
        | exact absurd hg2 (by decide)
        | exact absurd hg2 (by simp)
    ·
     try simp only [bsT] at hg2
     refine WO_off rfl ?_
     iterate 2 refine WO_step rfl (S_pure rfl ?_)
     iterate 2 refine WO_off rfl ?_
     iterate 2 refine WO_step rfl (S_pure rfl ?_)
     iterate 2 refine WO_off rfl ?_
     iterate 2 refine WO_step rfl (S_pure rfl ?_)
     iterate 3 refine WO_off rfl ?_
     iterate 2 refine WO_step rfl (S_pure rfl ?_)
     iterate 3 refine WO_off rfl ?_
     iterate 2 refine WO_step rfl (S_pure rfl ?_)
     iterate 2 refine WO_off rfl ?_
     iterate 2 refine WO_step rfl (S_pure rfl ?_)
     iterate 3 refine WO_off rfl ?_
     iterate 2 refine WO_step rfl (S_pure rfl ?_)
     iterate 2 refine WO_off rfl ?_
     iterate 2 refine WO_step rfl (S_pure rfl ?_)
     refine WO_nil (KSeq_n (WC_ret ?_))
     refine KFn_r (ResL.tmp rfl ResL.nil) ?_
     exfalso
     first
       | exact hg9 rfl
       | exact hg9 trivial
       | exact hg8 rfl
       | exact hg8 trivial
       | exact hg7 rfl
       | exact hg7 trivial
       | exact hg6 rfl
       | exact hg6 trivial
       | exact hg5 rfl
       | exact hg5 trivial
       | exact hg4 rfl
       | exact hg4 trivial
       | exact hg3 rfl
       | exact hg3 trivial
       | exact hg2 rfl
       | exact hg2 trivial
       | exact absurd hg9 (by decide)
       | exact absurd hg9 (by simp)
       | exact absurd hg8 (by decide)
       | exact absurd hg8 (by simp)
       | exact absurd hg7 (by decide)
       | exact absurd hg7 (by simp)
       | exact absurd hg6 (by decide)
       | exact absurd hg6 (by simp)
       | exact absurd hg5 (by decide)
       | exact absurd hg5 (by simp)
       | exact absurd hg4 (by decide)
       | exact absurd hg4 (by simp)
       | exact absurd hg3 (by decide)
       | exact absurd hg3 (by simp)
       | exact absurd hg2 (by decide)
       | exact absurd hg2 (by simp)
end Go.Proofs.YtpnmeednimpjdaaGreat.AM
