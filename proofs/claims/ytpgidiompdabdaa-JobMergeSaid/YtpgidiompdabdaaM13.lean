/- Walks: what the functions compute. -/
import Derived.Test.YtpgidiompdabdaaM11
namespace Go.Proofs.Ytpgidiompdabdaa.AM
open Go
set_option linter.unusedSimpArgs false
set_option linter.unusedVariables false
set_option maxRecDepth 4000

/-! ### Merging: what the document says, and the program -/
theorem lfill_sv {l : SE} {z : Value} {x : Opd} {w : SV} (hx : x.lv l = some w.toV) : lfill l [z] [(0, (1, x))] = some [w.toV] := by
  simp only [lfill, hx, SV.cells]; rfl
theorem pev_build_sv {l : SE} {z : Value} {x : Opd} {w : SV} (hx : x.lv l = some w.toV) : pev l (.build [z] [(0, (1, x))]) = some (.agg #[w.toV]) := by
  simp only [pev, lfill_sv hx]
theorem S_litSV {l : SE} {H : SH} {K : Value → SH → Prop} {t : TypeId} {z : Value} {x : Opd} {w : SV} {T : Ty SV} (hx : x.lv l = some w.toV) (hT : T.es = 1) (hTe : T.enc = fun w => [w.toV]) (ht : t = T.t) (k : ∀ u : SV, K u.toV (SL u.toV T [w] :: H)) : Step (.lit t 1 1 [z] [(0, (1, x))]) l H K :=
  S_lit1 (T := T) (y := w) (lfill_sv hx) (by rw [hTe]) hT.symm ht k
def addN (out : List Rec) (r : Rec) : List Rec := if (fnd out r.key).isSome then out else out ++ [r]
def dF (l : List Rec) : List Rec := l.foldl addN []
theorem addN_len (o : List Rec) (r : Rec) : (addN o r).length ≤ o.length + 1 := by unfold addN; split <;> simp
theorem foldl_addN_len : ∀ (l o : List Rec), (l.foldl addN o).length ≤ o.length + l.length
  | [], o => by simp
  | x :: l, o => by have := foldl_addN_len l (addN o x); have := addN_len o x; simp; omega
theorem dF_len (l : List Rec) : (dF l).length ≤ l.length := by
  unfold dF
  have := foldl_addN_len l []
  simpa using this
theorem dF_snoc (l : List Rec) (x : Rec) : dF (l ++ [x]) = addN (dF l) x := by simp [dF]
theorem fnd_mem : ∀ {l : List Rec} {k : ByteArray} {r : Rec}, fnd l k = some r → r ∈ l ∧ r.key = k
  | x :: l, k, r, h => by
    unfold fnd at h; split at h
    · cases h; exact ⟨List.mem_cons_self .., by assumption⟩
    · have := fnd_mem h; exact ⟨List.mem_cons_of_mem _ this.1, this.2⟩
theorem dF_mem {x : Rec} : ∀ (l o : List Rec), x ∈ l.foldl addN o → x ∈ o ∨ x ∈ l
  | [], o, h => .inl h
  | y :: l, o, h => by
    rcases dF_mem l (addN o y) h with h | h
    · unfold addN at h; split at h
      · exact .inl h
      · rcases List.mem_append.1 h with h | h
        · exact .inl h
        · simp at h; exact .inr (by simp [h])
    · exact .inr (List.mem_cons_of_mem _ h)
theorem dF_short {l : List Rec} (h : short l) : short (dF l) := fun x hx => by
  rcases dF_mem l [] hx with h1 | h1
  · simp at h1
  · exact h x h1
theorem lp_IO1 {H : SH} {v : Value} {svs : List SV} {ls : List (List Rec)} (hv : Rds H v svs TRecs TRec ls) (hall : ls.flatten.length ≤ 1000) {si : Nat} {l : List Rec} {sv : SV} (h1 : svs[si]? = some sv) (h2 : ls[si]? = some l) : ∀ (n i : Nat) (w : SV), l.length - i = n → i ≤ l.length →
    WC F X (.loop L_loessref22_InOrder_1) [(5, .int .i64 i), (0, v), (3, w.toV), (4, .int .i64 si)] (SL w.toV TRec (dF ((ls.take si).flatten ++ l.take i)) :: H)
      (KPost fun x l' H' => ∃ w : SV, x = .exit 2 ∧ l' = [(0, v), (3, w.toV), (4, .int .i64 si)] ∧ H' = SL w.toV TRec (dF ((ls.take si).flatten ++ l)) :: H) := by
  have hin := hv.ins si sv l h1 h2
  have hout := hv.out
  have hft := flat_take h2
  have hfl := flat_take_le ls (si + 1)
  rw [hft, List.length_append] at hfl
  intro n
  induction n using Nat.strongRecOn with
  | _ n ih =>
    intro i w hn hi
    have hdl := dF_len ((ls.take si).flatten ++ l.take i)
    rw [List.length_append, List.length_take] at hdl
    refine WC_loop ?_
    refine WC_seq ?_
    refine WC_seq ?_
    refine WC_region ?_
    iterate 3 refine WO_step rfl (S_pure rfl ?_)
    refine WO_step rfl (S_idx rfl rfl rdA (by first | rfl | assumption | (symm; assumption)) (by rfl) (by first | assumption | omega | exact lt_of_get (by assumption) | (simp only [List.length_set]; first | assumption | omega | exact lt_of_get (by assumption))) fun hp20 => ?_)
    refine WO_step rfl (S_loadE rfl rdA (by first | rfl | assumption | (symm; assumption)) (by first | rfl | assumption | (symm; assumption)) (by first | rfl | assumption | (symm; assumption)) (by assumption) ?_)
    first | refine WO_step rfl (S_pure rfl ?_) | refine WO_step rfl (S_lenS rfl rdA ?_)
    refine WO_step rfl (S_pure rfl ?_)
    refine WO_nil ?_
    refine KSeq_n ?_
    refine WC_cond rfl (fun hb1 => ?_) (fun hb1 => ?_)
    ·
     try simp only [bsT] at hb1
     obtain ⟨x, hx⟩ := get_of_lt hb1
     have hsn : (ls.take si).flatten ++ l.take (i + 1) = ((ls.take si).flatten ++ l.take i) ++ [x] := by rw [List.take_add_one, hx, List.append_assoc]; rfl
     refine WC_skip ?_
     refine KSeq_n ?_
     refine WC_seq ?_
     refine WC_block ?_
     refine WC_seq ?_
     refine WC_region ?_
     iterate 3 refine WO_step rfl (S_pure rfl ?_)
     refine WO_step rfl (S_idx rfl rfl rdA (by first | rfl | assumption | (symm; assumption)) (by rfl) (by first | assumption | omega | exact lt_of_get (by assumption) | (simp only [List.length_set]; first | assumption | omega | exact lt_of_get (by assumption))) fun hp30 => ?_)
     refine WO_step rfl (S_loadE rfl rdA (by first | rfl | assumption | (symm; assumption)) (by first | rfl | assumption | (symm; assumption)) (by first | rfl | assumption | (symm; assumption)) (by assumption) ?_)
     refine WO_step rfl (S_pure rfl ?_)
     refine WO_step rfl (S_idx rfl rfl rdA (by first | rfl | assumption | (symm; assumption)) (by rfl) (by first | assumption | omega | exact lt_of_get (by assumption) | (simp only [List.length_set]; first | assumption | omega | exact lt_of_get (by assumption))) fun hp33 => ?_)
     refine WO_step rfl (S_fldE rfl (by repeat (first | assumption | apply IsP.padd)) ?_)
     refine WO_step rfl (S_loadF rfl rdA (by rfl) (by assumption) (by rfl) (by rfl) ?_)
     refine WO_call rfl rfl rfl ?_
     refine (sp_Find rdA (by omega)).mono ?_
     rintro _ _ ⟨rfl, rfl⟩
     iterate 3 refine WO_step rfl (S_pure rfl ?_)
     refine WO_step rfl (S_new fun i6 => ?_)
     first | refine WO_step rfl (S_storeT rfl rfl pkA (by rfl) (by rfl) ?_) | refine WO_step rfl (S_storeO rfl rfl pkA (by first | rfl | exact SV.cells1 _) (by rfl) (by first | rfl | exact SV.ones _) ?_)
     refine WO_step rfl (S_pure rfl ?_)
     refine WO_nil ?_
     refine KSeq_n ?_
     refine WC_seq ?_
     refine WC_region ?_
     iterate 2 refine WO_step rfl (S_pure rfl ?_)
     refine WO_nil ?_
     refine KSeq_n ?_
     refine WC_cond rfl (fun hb2 => ?_) (fun hb2 => ?_)
     ·
      try simp only [bsT] at hb2
      refine WC_region ?_
      iterate 3 refine WO_step rfl (S_pure rfl ?_)
      refine WO_step rfl (S_idx rfl rfl rdA (by first | rfl | assumption | (symm; assumption)) (by rfl) (by first | assumption | omega | exact lt_of_get (by assumption) | (simp only [List.length_set]; first | assumption | omega | exact lt_of_get (by assumption))) fun hp44 => ?_)
      refine WO_step rfl (S_loadE rfl rdA (by first | rfl | assumption | (symm; assumption)) (by first | rfl | assumption | (symm; assumption)) (by first | rfl | assumption | (symm; assumption)) (by assumption) ?_)
      refine WO_step rfl (S_pure rfl ?_)
      refine WO_step rfl (S_idx rfl rfl rdA (by first | rfl | assumption | (symm; assumption)) (by rfl) (by first | assumption | omega | exact lt_of_get (by assumption) | (simp only [List.length_set]; first | assumption | omega | exact lt_of_get (by assumption))) fun hp47 => ?_)
      refine WO_step rfl (S_loadE rfl rdA (by first | rfl | assumption | (symm; assumption)) (by first | rfl | assumption | (symm; assumption)) (by first | rfl | assumption | (symm; assumption)) (by assumption) ?_)
      refine WO_step rfl (S_lit1 (T := TRec) rfl rfl rfl rfl fun w49 => ?_)
      refine WO_step rfl (S_app rfl rfl pkA (by first | exact SRC.str rfl rfl | (apply RD.src; repeat (first | assumption | exact RD.head | exact RD.nil | apply RD.tail))) (by rfl) (by rfl) (by (try simp only [List.length_append, List.length_cons, List.length_nil]); omega) fun w50 => ?_)
      refine WO_step rfl (S_pure rfl ?_)
      refine WO_nil ?_
      refine KBlock_n ?_
      refine KSeq_n ?_
      refine WC_region ?_
      refine WO_step rfl (S_pure rfl ?_)
      first | refine WO_step rfl (S_addN (b := 1) rfl rfl (by omega) ?_) | refine WO_step rfl (S_pure rfl ?_)
      refine WO_step rfl (S_pure rfl ?_)
      refine WO_nil ?_
      refine KLoop_n ?_
      have := ih (l.length - (i + 1)) (by omega) (i + 1) w50 rfl (by omega)
      rw [hsn, dF_snoc, addN, if_neg (by simp [hb2])] at this
      exact WC_weak this seA hsA
     ·
      try simp only [bsT] at hb2
      refine WC_skip ?_
      refine KBlock_n ?_
      refine KSeq_n ?_
      refine WC_region ?_
      refine WO_step rfl (S_pure rfl ?_)
      first | refine WO_step rfl (S_addN (b := 1) rfl rfl (by omega) ?_) | refine WO_step rfl (S_pure rfl ?_)
      refine WO_step rfl (S_pure rfl ?_)
      refine WO_nil ?_
      refine KLoop_n ?_
      have := ih (l.length - (i + 1)) (by omega) (i + 1) w rfl (by omega)
      rw [hsn, dF_snoc, addN, if_pos (by simpa using hb2)] at this
      exact WC_weak this seA hsA
    ·
     try simp only [bsT] at hb1
     refine WC_exit ?_
     refine KSeq_x ?_
     refine KLoop_x ?_
     refine KPost_i (l' := [(0, v), (3, w.toV), (4, .int .i64 si)]) (H' := SL w.toV TRec (dF ((ls.take si).flatten ++ l)) :: H) seA ?_ ⟨w, rfl, rfl, rfl⟩
     rw [show i = l.length by omega, List.take_length]; exact hsA
theorem lp_IO0 {H : SH} {v : Value} {svs : List SV} {ls : List (List Rec)} (hv : Rds H v svs TRecs TRec ls) (hall : ls.flatten.length ≤ 1000) (hll : ls.length ≤ 1000) : ∀ (n si : Nat) (w : SV), ls.length - si = n → si ≤ ls.length →
    WC F X (.loop L_loessref22_InOrder_0) [(4, .int .i64 si), (0, v), (3, w.toV)] (SL w.toV TRec (dF (ls.take si).flatten) :: H)
      (KPost fun x l' H' => ∃ w : SV, x = .exit 0 ∧ l' = [(0, v), (3, w.toV)] ∧ H' = SL w.toV TRec (dF ls.flatten) :: H) := by
  have hout := hv.out
  have hlen := hv.len
  intro n
  induction n using Nat.strongRecOn with
  | _ n ih =>
    intro si w hn hi
    refine WC_loop ?_
    refine WC_seq ?_
    refine WC_seq ?_
    refine WC_region ?_
    iterate 2 refine WO_step rfl (S_pure rfl ?_)
    refine WO_step rfl (S_lenS rfl hout.tail ?_)
    rw [hlen]
    refine WO_step rfl (S_pure rfl ?_)
    refine WO_nil ?_
    refine KSeq_n ?_
    refine WC_cond rfl (fun hb1 => ?_) (fun hb1 => ?_)
    ·
     try simp only [bsT] at hb1
     obtain ⟨sv, hsv⟩ := get_of_lt (l := svs) (a := si) (by rw [hlen]; exact hb1)
     obtain ⟨l, hl1⟩ := get_of_lt hb1
     refine WC_skip ?_
     refine KSeq_n ?_
     refine WC_seq ?_
     refine WC_block ?_
     refine WC_seq ?_
     refine WC_region ?_
     refine WO_step rfl (S_pure rfl ?_)
     refine WO_nil ?_
     refine KSeq_n ?_
     refine WC_block ?_
     refine WC_post (WC_weak (lp_IO1 hv hall hsv hl1 l.length 0 w (by omega) (by omega)) seA (by rw [List.take_zero, List.append_nil]; exact hsA)) ?_
     rintro y l' H' ⟨w, rfl, rfl, rfl⟩
     rw [← flat_take hl1]
     refine KBlock_h ?_
     refine KBlock_n ?_
     refine KSeq_n ?_
     refine WC_region ?_
     refine WO_step rfl (S_pure rfl ?_)
     first | refine WO_step rfl (S_addN (b := 1) rfl rfl (by omega) ?_) | refine WO_step rfl (S_pure rfl ?_)
     refine WO_step rfl (S_pure rfl ?_)
     refine WO_nil ?_
     refine KLoop_n ?_
     exact WC_weak (ih (ls.length - (si + 1)) (by omega) (si + 1) w rfl (by omega)) seA hsA
    ·
     try simp only [bsT] at hb1
     refine WC_exit ?_
     refine KSeq_x ?_
     refine KLoop_x ?_
     refine KPost_i (l' := [(0, v), (3, w.toV)]) (H' := SL w.toV TRec (dF ls.flatten) :: H) seA ?_ ⟨w, rfl, rfl, rfl⟩
     rw [show si = ls.length by omega, List.take_length]; exact hsA
theorem lp_IO3 {H : SH} {out : List Rec} {w u : SV} {i : Nat} {x : Rec} {S : List Rec} (hx : out[i]? = some x) (hsx : x.key.size ≤ 1000000) (hS : Sor (leOf ltR) S) (hk : ∀ u ∈ S, u.key.size ≤ 1000000) (hSl : S.length ≤ 1000) : ∀ (n : Nat) (A B : List Rec), A.length = n → S = A ++ B → (∀ u ∈ B, leOf ltR u x = false) →
    WC F X (.loop L_loessref22_InOrder_3) [(10, .int .i64 n), (3, w.toV), (9, .int .i64 i), (8, u.toV)] (SL u.toV TRec S :: SL w.toV TRec out :: H)
      (KPost fun y l' H' => ∃ A B : List Rec, y = .exit 6 ∧ l' = [(10, .int .i64 A.length), (3, w.toV), (9, .int .i64 i), (8, u.toV)] ∧ H' = SL u.toV TRec S :: SL w.toV TRec out :: H ∧ S = A ++ B ∧ A ++ x :: B = mrg (leOf ltR) S [x]) := by
  intro n
  induction n using Nat.strongRecOn with
  | _ n ih =>
    intro A B hn hAB hB
    have hAl : A.length + B.length ≤ 1000 := by rw [hAB, List.length_append] at hSl; exact hSl
    refine WC_loop ?_
    refine WC_seq ?_
    refine WC_seq ?_
    refine WC_region ?_
    iterate 3 refine WO_step rfl (S_pure rfl ?_)
    refine WO_cases (t := 61) rfl (fun hg1 => ?_) (fun hg1 => ?_)
    ·
     try simp only [bsT] at hg1
     obtain ⟨n, rfl⟩ : ∃ m, n = m + 1 := ⟨n - 1, by omega⟩
     obtain ⟨A, a, rfl⟩ := snoc_of (l := A) (by omega)
     simp only [List.length_append, List.length_singleton] at hn hAl
     have ha : S[n + 1 - 1]? = some a := by rw [hAB, show A ++ [a] ++ B = A ++ a :: B by simp]; exact get_mid (by omega)
     have hka : a.key.size ≤ 1000000 := hk a (by rw [hAB]; simp)
     iterate 2 refine WO_step rfl (S_pure rfl ?_)
     refine WO_step rfl (S_idx rfl rfl rdA (by first | rfl | assumption | (symm; assumption)) (by rfl) (by first | assumption | omega | exact lt_of_get (by assumption) | (simp only [List.length_set]; first | assumption | omega | exact lt_of_get (by assumption))) fun hp64 => ?_)
     refine WO_step rfl (S_fldE rfl (by repeat (first | assumption | apply IsP.padd)) ?_)
     refine WO_step rfl (S_loadF rfl rdA (by rfl) (by assumption) (by rfl) (by rfl) ?_)
     iterate 2 refine WO_step rfl (S_pure rfl ?_)
     first | refine WO_step rfl (S_subN (b := 1) rfl rfl (by omega) ?_) | refine WO_step rfl (S_pure rfl ?_)
     refine WO_step rfl (S_idx rfl rfl rdA (by first | rfl | assumption | (symm; assumption)) (by rfl) (by first | assumption | omega | exact lt_of_get (by assumption) | (simp only [List.length_set]; first | assumption | omega | exact lt_of_get (by assumption))) fun hp70 => ?_)
     refine WO_step rfl (S_fldE rfl (by repeat (first | assumption | apply IsP.padd)) ?_)
     refine WO_step rfl (S_loadF rfl rdA (by rfl) (by assumption) (by rfl) (by rfl) ?_)
     refine WO_call rfl rfl rfl ?_
     refine (sp_RLess (by omega) (by omega)).mono ?_
     rintro _ _ ⟨rfl, rfl⟩
     refine WO_step rfl (S_pure rfl ?_)
     refine WO_nil ?_
     refine KSeq_n ?_
     refine WC_cond rfl (fun hb1 => ?_) (fun hb1 => ?_)
     ·
      try simp only [bsT] at hb1
      refine WC_skip ?_
      refine KSeq_n ?_
      refine WC_block ?_
      refine WC_region ?_
      refine WO_step rfl (S_pure rfl ?_)
      first | refine WO_step rfl (S_subN (b := 1) rfl rfl (by omega) ?_) | refine WO_step rfl (S_pure rfl ?_)
      refine WO_step rfl (S_pure rfl ?_)
      refine WO_nil ?_
      refine KBlock_n ?_
      refine KLoop_n ?_
      have hlt : leOf ltR a x = false := by simp [leOf, ltR, hb1]
      exact WC_weak (ih n (by omega) A (a :: B) (by omega) (by rw [hAB]; simp) (by intro q hq; rcases List.mem_cons.1 hq with rfl | hq; exact hlt; exact hB q hq)) seA hsA
     ·
      try simp only [bsT] at hb1
      refine WC_exit ?_
      refine KSeq_x ?_
      refine KLoop_x ?_
      have hle : leOf ltR a x = true := by simp [leOf, ltR, hb1]
      have h1 : ∀ q ∈ A ++ [a], leOf ltR q x = true := by
        intro q hq
        rw [hAB] at hS
        rcases List.mem_append.1 hq with hq | hq
        · exact O_R.trans _ _ _ (((Sor.app _).1 ((Sor.app _).1 hS).1).2.2 q hq a (by simp)) hle
        · simp at hq; subst hq; exact hle
      refine KPost_i (l' := [(10, .int .i64 ((A ++ [a]).length : Nat)), (3, w.toV), (9, .int .i64 i), (8, u.toV)]) (by repeat (first | exact SubE.nil | apply SubE.cons rfl | (apply SubE.consEq rfl; congr 2; simp; omega))) HSub.refl ⟨A ++ [a], B, rfl, rfl, rfl, hAB, ?_⟩
      rw [hAB]; exact (mrg_left _ O_R _ _ _ h1 hB).symm
    ·
     try simp only [bsT] at hg1
     iterate 12 refine WO_off rfl ?_
     refine WO_step rfl (S_pure rfl ?_)
     refine WO_nil ?_
     refine KSeq_n ?_
     refine WC_cond rfl (fun h => ?_) (fun _ => ?_)
     · exact absurd h (by decide)
     refine WC_exit ?_
     refine KSeq_x ?_
     refine KLoop_x ?_
     obtain rfl := nil_of (l := A) (by omega)
     refine KPost_i (l' := [(10, .int .i64 (([] : List Rec).length : Nat)), (3, w.toV), (9, .int .i64 i), (8, u.toV)]) (by repeat (first | exact SubE.nil | apply SubE.cons rfl | (apply SubE.consEq rfl; congr 2; simp; omega))) HSub.refl ⟨[], B, rfl, rfl, rfl, hAB, ?_⟩
     rw [hAB]; exact (mrg_left _ O_R [] _ _ (fun u hu => by simp at hu) hB).symm
theorem lp_IO2 {H : SH} {out : List Rec} {w : SV} (hk : ∀ u ∈ out, u.key.size ≤ 1000000) (hol : out.length ≤ 1000) : ∀ (n i : Nat) (u : SV), out.length - i = n → i ≤ out.length →
    WC F X (.loop L_loessref22_InOrder_2) [(9, .int .i64 i), (3, w.toV), (8, u.toV)] (SL u.toV TRec (isort (leOf ltR) (out.take i)) :: SL w.toV TRec out :: H)
      (KPost fun y l' H' => ∃ u : SV, y = .exit 4 ∧ l' = [(8, u.toV)] ∧ H' = SL u.toV TRec (isort (leOf ltR) out) :: SL w.toV TRec out :: H) := by
  intro n
  induction n using Nat.strongRecOn with
  | _ n ih =>
    intro i u hn hi
    have hil := isort_len (leOf ltR) (out.take i)
    rw [List.length_take] at hil
    refine WC_loop ?_
    refine WC_seq ?_
    refine WC_seq ?_
    refine WC_region ?_
    iterate 2 refine WO_step rfl (S_pure rfl ?_)
    first | refine WO_step rfl (S_pure rfl ?_) | refine WO_step rfl (S_lenS rfl rdA ?_)
    refine WO_step rfl (S_pure rfl ?_)
    refine WO_nil ?_
    refine KSeq_n ?_
    refine WC_cond rfl (fun hb1 => ?_) (fun hb1 => ?_)
    ·
     try simp only [bsT] at hb1
     obtain ⟨x, hx⟩ := get_of_lt hb1
     have hkx := hk x (List.mem_of_getElem? hx)
     refine WC_skip ?_
     refine KSeq_n ?_
     refine WC_seq ?_
     refine WC_block ?_
     refine WC_seq ?_
     refine WC_region ?_
     refine WO_step rfl (S_pure rfl ?_)
     first | refine WO_step rfl (S_pure rfl ?_) | refine WO_step rfl (S_lenS rfl rdA ?_)
     refine WO_step rfl (S_pure rfl ?_)
     refine WO_nil ?_
     refine KSeq_n ?_
     refine WC_seq ?_
     refine WC_block ?_
     have hmem : ∀ u ∈ isort (leOf ltR) (out.take i), u.key.size ≤ 1000000 := fun u hu => hk u (List.mem_of_mem_take ((isort_perm _ _).mem_iff.1 hu))
     refine WC_post (WC_weak (lp_IO3 (H := H) (w := w) (u := u) hx hkx (isort_sor _ O_R _) hmem (by omega) (isort (leOf ltR) (out.take i)).length (isort (leOf ltR) (out.take i)) [] rfl (by simp) (by simp)) seA hsA) ?_
     rintro y l' H' ⟨A, B, rfl, rfl, rfl, h1, h2⟩
     have hABl : A.length + B.length = min i out.length := by rw [← hil, h1, List.length_append]
     have htk : isort (leOf ltR) (out.take (i + 1)) = A ++ x :: B := by
       rw [List.take_add_one, hx, h2]; exact isort_app _ O_R _ _
     rw [h1]
     refine KBlock_h ?_
     refine KSeq_n ?_
     refine WC_seq ?_
     refine WC_region ?_
     iterate 2 refine WO_step rfl (S_pure rfl ?_)
     refine WO_step rfl (S_lit1 (T := TRec) (y := rec0) rfl rfl rfl rfl fun w79 => ?_)
     refine WO_step rfl (S_app rfl rfl pkA (by first | exact SRC.str rfl rfl | (apply RD.src; repeat (first | assumption | exact RD.head | exact RD.nil | apply RD.tail))) (by rfl) (by rfl) (by (try simp only [List.length_append, List.length_cons, List.length_nil]); omega) fun w80 => ?_)
     refine WO_step rfl (S_pure rfl ?_)
     refine WO_nil ?_
     refine KSeq_n ?_
     refine WC_seq ?_
     refine WC_region ?_
     iterate 2 refine WO_step rfl (S_pure rfl ?_)
     first | refine WO_step rfl (S_addN (b := 1) rfl rfl (by omega) ?_) | refine WO_step rfl (S_pure rfl ?_)
     have hABr : (A ++ B ++ [rec0]).length = A.length + B.length + 1 := by simp [Nat.add_assoc]
     have hLB : ∀ l, LB l none (A ++ B ++ [rec0]).length (A.length + B.length + 1) := fun l => by rw [hABr]; exact LB.dflt
     refine WO_step rfl (S_cut (a := A.length + 1) (b := A.length + B.length + 1) (T := TRec) (xs := A ++ B ++ [rec0]) rfl RD.head (by rfl) (LB.mk rfl rfl) (hLB _) LB.dflt (by omega) (by omega) (by omega) ?_)
     iterate 2 refine WO_step rfl (S_pure rfl ?_)
     refine WO_step rfl (S_cut (a := A.length) (b := A.length + B.length + 1) (T := TRec) (xs := A ++ B ++ [rec0]) rfl RD.head (by rfl) (LB.mk rfl rfl) (hLB _) LB.dflt (by omega) (by omega) (by omega) ?_)
     -- op (.copy 5 (.tmp 84) (.tmp 87))
     have hrd : RD (SL w80.toV TRec (A ++ B ++ [rec0]) :: SL w79.toV TRec [rec0] :: SL w.toV TRec out :: H) (w80.sub 5 A.length (A.length + B.length + 1 - A.length)).toV TRec (((A ++ B ++ [rec0]).drop A.length).take (A.length + B.length + 1 - A.length)) := RD.head.sub' rfl (by simp; omega)
     have hrd2 : ((A ++ B ++ [rec0]).drop A.length).take (A.length + B.length + 1 - A.length) = B ++ [rec0] := by
       rw [List.append_assoc, List.drop_left, List.take_of_length_le (by simp; omega)]
     rw [hrd2] at hrd
     refine WO_step rfl (S_copyD (lo := A.length + 1) (m := A.length + B.length + 1 - (A.length + 1)) (ys := B ++ [rec0]) rfl rfl Pick.head (SV.sub_toV _ _ _ _) (by simp; omega) hrd.src (by rfl) ?_)
     have hcp : (A ++ B ++ [rec0]).take (A.length + 1) ++ (B ++ [rec0]).take (min (B ++ [rec0]).length (A.length + B.length + 1 - (A.length + 1))) ++ (A ++ B ++ [rec0]).drop (A.length + 1 + min (B ++ [rec0]).length (A.length + B.length + 1 - (A.length + 1))) = A ++ (B ++ [rec0]).head (by simp) :: B := by
       have e0 : min (B ++ [rec0]).length (A.length + B.length + 1 - (A.length + 1)) = B.length := by simp only [List.length_append, List.length_singleton]; omega
       rw [e0, List.take_left, List.drop_of_length_le (by simp; omega), List.append_nil]
       cases B with
       | nil =>
         simp only [List.append_nil, List.nil_append, List.head_cons]
         rw [List.take_of_length_le (by simp)]
       | cons b B => simp [List.take_append, List.take_of_length_le]
     rw [hcp]
     refine WO_nil ?_
     refine KSeq_n ?_
     refine WC_region ?_
     iterate 4 refine WO_step rfl (S_pure rfl ?_)
     refine WO_step rfl (S_idx rfl rfl rdA (by first | rfl | assumption | (symm; assumption)) (by rfl) (by first | assumption | omega | exact lt_of_get (by assumption) | (simp only [List.length_set]; first | assumption | omega | exact lt_of_get (by assumption))) fun hp93 => ?_)
     refine WO_step rfl (S_loadE rfl rdA (by first | rfl | assumption | (symm; assumption)) (by first | rfl | assumption | (symm; assumption)) (by first | rfl | assumption | (symm; assumption)) (by assumption) ?_)
     have hlA : A.length < (A ++ (B ++ [rec0]).head (by simp) :: B).length := by simp
     refine WO_step rfl (S_idx rfl rfl RD.head (by rfl) (by rfl) hlA fun hp95 => ?_)
     refine WO_step rfl (S_storeW rfl rfl pkA (by first | rfl | assumption | (symm; assumption)) (by rfl) (by first | rfl | assumption | (symm; assumption)) (by first | assumption | omega | exact lt_of_get (by assumption) | (simp only [List.length_set]; first | assumption | omega | exact lt_of_get (by assumption))) ?_)
     refine WO_nil ?_
     refine KBlock_n ?_
     refine KSeq_n ?_
     refine WC_region ?_
     refine WO_step rfl (S_pure rfl ?_)
     first | refine WO_step rfl (S_addN (b := 1) rfl rfl (by omega) ?_) | refine WO_step rfl (S_pure rfl ?_)
     refine WO_step rfl (S_pure rfl ?_)
     refine WO_nil ?_
     refine KLoop_n ?_
     have hset : (A ++ (B ++ [rec0]).head (by simp) :: B).set A.length x = A ++ x :: B := set_at rfl
     rw [hset]
     have := ih (out.length - (i + 1)) (by omega) (i + 1) w80 rfl (by omega)
     rw [htk] at this
     exact WC_weak this seA hsA
    ·
     try simp only [bsT] at hb1
     refine WC_exit ?_
     refine KSeq_x ?_
     refine KLoop_x ?_
     refine KPost_i (l' := [(8, u.toV)]) (H' := SL u.toV TRec (isort (leOf ltR) out) :: SL w.toV TRec out :: H) seA ?_ ⟨u, rfl, rfl, rfl⟩
     rw [show i = out.length by omega, List.take_length]; exact hsA
theorem sp_InOrder {H : SH} {v : Value} {svs : List SV} {ls : List (List Rec)} (hv : Rds H v svs TRecs TRec ls) (hall : ls.flatten.length ≤ 1000) (hll : ls.length ≤ 1000) (hs : short ls.flatten) : WF F X f_loessref22_InOrder [v] H (fun r H' => ∃ w : SV, H' = SL w.toV TRec (isort (leOf ltR) (dF ls.flatten)) :: H ∧ r = w.toV) := by
  have hdl := dF_len ls.flatten
  have hds := dF_short hs
  refine WF_fn F_loessref22_InOrder ?_
  refine WC_seq ?_
  refine WC_region ?_
  refine WO_step rfl (S_pure rfl ?_)
  refine WO_nil ?_
  refine KSeq_n ?_
  refine WC_seq ?_
  refine WC_region ?_
  refine WO_step rfl (S_pure rfl ?_)
  refine WO_nil ?_
  refine KSeq_n ?_
  refine WC_seq ?_
  refine WC_seq ?_
  refine WC_region ?_
  refine WO_step rfl (S_pure rfl ?_)
  refine WO_nil ?_
  refine KSeq_n ?_
  refine WC_block ?_
  refine WC_view (H' := SL (SV.toV .nil) TRec [] :: H) (fun h hh => (HAg.addNil hh)) ?_
  refine WC_post (WC_weak (lp_IO0 hv hall hll ls.length 0 .nil (by omega) (by omega)) seA hsA) ?_
  rintro y l' H' ⟨w, rfl, rfl, rfl⟩
  refine KBlock_h ?_
  refine KSeq_n ?_
  refine WC_seq ?_
  refine WC_region ?_
  refine WO_step rfl (S_pure rfl ?_)
  refine WO_nil ?_
  refine KSeq_n ?_
  refine WC_seq ?_
  refine WC_seq ?_
  refine WC_region ?_
  refine WO_step rfl (S_pure rfl ?_)
  refine WO_nil ?_
  refine KSeq_n ?_
  refine WC_block ?_
  refine WC_view (H' := SL (SV.toV .nil) TRec [] :: SL w.toV TRec (dF ls.flatten) :: H) (fun h hh => (HAg.addNil hh)) ?_
  refine WC_post (WC_weak (lp_IO2 (H := H) (out := dF ls.flatten) (w := w) (fun u hu => by have := hds u hu; omega) (by omega) (dF ls.flatten).length 0 .nil (by omega) (by omega)) seA hsA) ?_
  rintro y l' H' ⟨u, rfl, rfl, rfl⟩
  refine KBlock_h ?_
  refine KSeq_n ?_
  refine WC_seq ?_
  refine WC_region ?_
  iterate 2 refine WO_step rfl (S_pure rfl ?_)
  refine WO_nil ?_
  refine KSeq_n ?_
  refine WC_ret ?_
  refine KFn_r (ResL.tmp rfl ResL.nil) ?_
  exact ⟨_, hsA, u, rfl, rfl⟩
def mrgd (l : List Rec) : List Rec := ddp (isort (leOf ltR) l)
abbrev MOB (m : Nat) (w : SV) : Res := .obj m (.row false 91 [w.toV])
theorem sp_New {H : SH} {v : Value} {svs : List SV} {ls : List (List Rec)} (hv : Rds H v svs TRecs TRec ls) (hall : ls.flatten.length ≤ 1000) (hll : ls.length ≤ 1000) (hs : short ls.flatten) : WF F X f_merge_New [v] H (fun r H' => ∃ (m : Nat) (w : SV), H' = MOB m w :: SL w.toV TRec (mrgd ls.flatten) :: H ∧ r = .pointer (some ⟨m, 0, none⟩)) := by
  have hil := isort_len (leOf ltR) ls.flatten
  refine WF_fn F_merge_New ?_
  refine WC_seq ?_
  refine WC_region ?_
  refine WO_step rfl (S_pure rfl ?_)
  refine WO_nil ?_
  refine KSeq_n ?_
  refine WC_seq ?_
  refine WC_region ?_
  refine WO_step rfl (S_pure rfl ?_)
  refine WO_call rfl rfl rfl ?_
  refine (sp_Concat (by assumption) (by omega) (by omega)).mono ?_
  rintro _ _ ⟨wK, rfl, rfl⟩
  refine WO_call rfl rfl rfl ?_
  refine (sp_Sort rdA (by omega) (by assumption)).mono ?_
  rintro _ _ ⟨wS, rfl, rfl⟩
  refine WO_step rfl (S_pure rfl ?_)
  refine WO_nil ?_
  refine KSeq_n ?_
  refine WC_seq ?_
  refine WC_region ?_
  refine WO_step rfl (S_pure rfl ?_)
  refine WO_call rfl rfl rfl ?_
  refine WF.weak (H1 := SL wS.toV TRec (isort (leOf ltR) ls.flatten) :: H) ?_ hsA
  refine (sp_Compact (fun H a b => sp_New1) (by omega)).mono ?_
  rintro _ _ ⟨wM, rfl, rfl⟩
  refine WO_step rfl (S_pure (pev_build_sv rfl) ?_)
  refine WO_step rfl (S_box rfl (by simp [AM.cells, Value.cells, SV.one]) fun i10 => ?_)
  refine WO_step rfl (S_pure rfl ?_)
  refine WO_nil ?_
  refine KSeq_n ?_
  refine WC_ret ?_
  refine KFn_r (ResL.tmp rfl ResL.nil) ?_
  exact ⟨_, hsA, i10, wM, rfl, rfl⟩
theorem sp_NextNil {H : SH} : WF F X f_merge_Merge_Next [.pointer none] H (fun r H' => H' = H ∧ r = .tuple #[TRec.val rec0, .bool false]) := by
  refine WF_fn F_merge_Merge_Next ?_
  refine WC_seq ?_
  refine WC_region ?_
  refine WO_step rfl (S_new fun i2 => ?_)
  refine WO_step rfl (S_pure rfl ?_)
  refine WO_nil ?_
  refine KSeq_n ?_
  refine WC_seq ?_
  refine WC_seq ?_
  refine WC_region ?_
  iterate 3 refine WO_step rfl (S_pure rfl ?_)
  refine WO_cases (t := 7) rfl (fun hg1 => ?_) (fun hg1 => ?_)
  ·
   try simp only [bsT] at hg1
   iterate 6 refine WO_off rfl ?_
   refine WO_step rfl (S_pure rfl ?_)
   refine WO_nil ?_
   refine KSeq_n ?_
   refine WC_cond rfl (fun _ => ?_) (fun h => ?_)
   rotate_left
   · exact absurd h (by decide)
   refine WC_seq ?_
   refine WC_region ?_
   refine WO_step rfl (S_pure rfl ?_)
   first | refine WO_step rfl (S_storeT rfl rfl pkA (by rfl) (by rfl) ?_) | refine WO_step rfl (S_storeO rfl rfl pkA (by first | rfl | exact SV.cells1 _) (by rfl) (by first | rfl | exact SV.ones _) ?_)
   refine WO_step rfl (S_pure rfl ?_)
   refine WO_nil ?_
   refine KSeq_n ?_
   refine WC_ret ?_
   refine KSeq_r ?_
   refine KFn_r (ResL.cell rfl pkA (Nat.le_of_ble_eq_true rfl) rfl (ResL.tmp rfl ResL.nil)) ?_
   exact ⟨_, hsA, rfl, rfl⟩
  ·
   try simp only [bsT] at hg1
   exact absurd hg1 (by decide)
   --stop
theorem sp_NextEnd {H : SH} {m : Nat} {w : SV} : WF F X f_merge_Merge_Next [.pointer (some ⟨m, 0, none⟩)] (MOB m w :: SL w.toV TRec [] :: H) (fun r H' => H' = MOB m w :: SL w.toV TRec [] :: H ∧ r = .tuple #[TRec.val rec0, .bool false]) := by
  refine WF_fn F_merge_Merge_Next ?_
  refine WC_seq ?_
  refine WC_region ?_
  refine WO_step rfl (S_new fun i2 => ?_)
  refine WO_step rfl (S_pure rfl ?_)
  refine WO_nil ?_
  refine KSeq_n ?_
  refine WC_seq ?_
  refine WC_seq ?_
  refine WC_region ?_
  iterate 3 refine WO_step rfl (S_pure rfl ?_)
  refine WO_cases (t := 7) rfl (fun hg1 => ?_) (fun hg1 => ?_)
  ·
   try simp only [bsT] at hg1
   exact absurd hg1 (by simp)
   --stop
  ·
   try simp only [bsT] at hg1
   iterate 3 refine WO_step rfl (S_pure rfl ?_)
   refine WO_step rfl (S_loadO rfl pkA (by rfl) (by rfl) ?_)
   first | refine WO_step rfl (S_pure rfl ?_) | refine WO_step rfl (S_lenS rfl rdA ?_)
   first | refine WO_step rfl (S_eqS rfl rfl ?_) | refine WO_step rfl (S_pure rfl ?_)
   refine WO_step rfl (S_pure rfl ?_)
   refine WO_nil ?_
   refine KSeq_n ?_
   refine WC_cond rfl (fun hb1 => ?_) (fun hb1 => ?_)
   ·
    try simp only [bsT] at hb1
    refine WC_seq ?_
    refine WC_region ?_
    refine WO_step rfl (S_pure rfl ?_)
    first | refine WO_step rfl (S_storeT rfl rfl pkA (by rfl) (by rfl) ?_) | refine WO_step rfl (S_storeO rfl rfl pkA (by first | rfl | exact SV.cells1 _) (by rfl) (by first | rfl | exact SV.ones _) ?_)
    refine WO_step rfl (S_pure rfl ?_)
    refine WO_nil ?_
    refine KSeq_n ?_
    refine WC_ret ?_
    refine KSeq_r ?_
    refine KFn_r (ResL.cell rfl pkA (Nat.le_of_ble_eq_true rfl) rfl (ResL.tmp rfl ResL.nil)) ?_
    exact ⟨_, hsA, rfl, rfl⟩
   ·
    try simp only [bsT] at hb1
    exact absurd hb1 (by simp)
    --stop
theorem sp_Next {H : SH} {m : Nat} {w : SV} {x : Rec} {t : List Rec} : WF F X f_merge_Merge_Next [.pointer (some ⟨m, 0, none⟩)] (MOB m w :: SL w.toV TRec (x :: t) :: H) (fun r H' => ∃ u : SV, H' = MOB m u :: SL u.toV TRec t :: H ∧ r = .tuple #[TRec.val x, .bool true]) := by
  refine WF_view ?_
  have hx : (x :: t)[0]? = some x := rfl
  refine WF_fn F_merge_Merge_Next ?_
  refine WC_seq ?_
  refine WC_region ?_
  refine WO_step rfl (S_new fun i2 => ?_)
  refine WO_step rfl (S_pure rfl ?_)
  refine WO_nil ?_
  refine KSeq_n ?_
  refine WC_seq ?_
  refine WC_seq ?_
  refine WC_region ?_
  iterate 3 refine WO_step rfl (S_pure rfl ?_)
  refine WO_cases (t := 7) rfl (fun hg1 => ?_) (fun hg1 => ?_)
  ·
   try simp only [bsT] at hg1
   exact absurd hg1 (by simp)
   --stop
  ·
   try simp only [bsT] at hg1
   iterate 3 refine WO_step rfl (S_pure rfl ?_)
   refine WO_step rfl (S_loadO rfl pkA (by rfl) (by rfl) ?_)
   first | refine WO_step rfl (S_pure rfl ?_) | refine WO_step rfl (S_lenS rfl rdA ?_)
   first | refine WO_step rfl (S_eqS rfl rfl ?_) | refine WO_step rfl (S_pure rfl ?_)
   refine WO_step rfl (S_pure rfl ?_)
   refine WO_nil ?_
   refine KSeq_n ?_
   refine WC_cond rfl (fun hb1 => ?_) (fun hb1 => ?_)
   ·
    try simp only [bsT] at hb1
    exfalso; simp at hb1; omega
    --stop
   ·
    try simp only [bsT] at hb1
    refine WC_skip ?_
    refine KSeq_n ?_
    refine WC_seq ?_
    refine WC_region ?_
    iterate 3 refine WO_step rfl (S_pure rfl ?_)
    refine WO_step rfl (S_loadO rfl pkA (by rfl) (by rfl) ?_)
    refine WO_step rfl (S_idx (j := 0) rfl rfl rdA (by first | rfl | assumption | (symm; assumption)) (by rfl) (by first | assumption | omega | exact lt_of_get (by assumption) | (simp only [List.length_set]; first | assumption | omega | exact lt_of_get (by assumption))) fun hp20 => ?_)
    refine WO_step rfl (S_loadE rfl rdA (by first | rfl | assumption | (symm; assumption)) (by first | rfl | assumption | (symm; assumption)) (by first | rfl | assumption | (symm; assumption)) (by assumption) ?_)
    refine WO_step rfl (S_new fun i4 => ?_)
    first | refine WO_step rfl (S_storeT rfl rfl pkA (by rfl) (by rfl) ?_) | refine WO_step rfl (S_storeO rfl rfl pkA (by first | rfl | exact SV.cells1 _) (by rfl) (by first | rfl | exact SV.ones _) ?_)
    refine WO_nil ?_
    refine KSeq_n ?_
    refine WC_seq ?_
    refine WC_region ?_
    iterate 4 refine WO_step rfl (S_pure rfl ?_)
    refine WO_step rfl (S_loadO rfl pkA (by rfl) (by rfl) ?_)
    refine WO_step rfl (S_cut (a := 1) rfl rdA (by rfl) (LB.mk rfl rfl) LB.dflt LB.dflt (by simp) (by omega) (by omega) ?_)
    iterate 2 refine WO_step rfl (S_pure rfl ?_)
    refine WO_step rfl (S_storeO rfl rfl pkA (by first | rfl | exact SV.cells1 _) (by rfl) (by first | rfl | exact SV.ones _) ?_)
    refine WO_nil ?_
    refine KSeq_n ?_
    refine WC_seq ?_
    refine WC_region ?_
    first | refine WO_step rfl (S_loadT rfl pkA (by rfl) (by rfl) ?_) | refine WO_step rfl (S_loadO rfl pkA (by rfl) (by rfl) ?_)
    first | refine WO_step rfl (S_storeT rfl rfl pkA (by rfl) (by rfl) ?_) | refine WO_step rfl (S_storeO rfl rfl pkA (by first | rfl | exact SV.cells1 _) (by rfl) (by first | rfl | exact SV.ones _) ?_)
    refine WO_step rfl (S_pure rfl ?_)
    refine WO_nil ?_
    refine KSeq_n ?_
    refine WC_ret ?_
    refine KFn_r (ResL.cell rfl pkA (Nat.le_of_ble_eq_true rfl) rfl (ResL.tmp rfl ResL.nil)) ?_
    refine ⟨_, HSub.refl, MOB m (w.sub 5 1 ((x :: t).length - 1)) :: SL (w.sub 5 1 ((x :: t).length - 1)).toV TRec t :: H, fun h hh => ?_, _, rfl, rfl⟩
    have h0 : HAg (.obj m (.row false 91 (splice [w.toV] 0 (cells (w.sub 5 1 ((x :: t).length - 1)).toV))) :: SL w.toV TRec (x :: t) :: H) h := HSub.hag hsA hh
    rw [SV.cells] at h0
    have h1 := (h0.swap2).recutSL (es := 5) (lo := 1) (n := (x :: t).length - 1) rfl (by simp; omega)
    have e : ((x :: t).drop 1).take ((x :: t).length - 1) = t := by simp
    rw [e] at h1
    exact h1.swap2
/-! ### The plain law of merging -/
theorem fnd_app : ∀ (a b : List Rec) (k : ByteArray), fnd (a ++ b) k = (fnd a k).or (fnd b k)
  | [], b, k => by simp [fnd]
  | x :: a, b, k => by
    show (if x.key = k then some x else fnd (a ++ b) k) = _
    by_cases h : x.key = k
    · simp [fnd, h]
    · simp [fnd, h, fnd_app a b k]
theorem fnd_ins (x : Rec) (k : ByteArray) : ∀ S, fnd (ins (leOf ltR) x S) k = if x.key = k then some x else fnd S k
  | [] => rfl
  | y :: S => by
    unfold ins; split
    · rfl
    · rename_i h
      have hyx : lessK y.key x.key = true := by simpa [leOf, ltR] using h
      show (if y.key = k then some y else fnd (ins (leOf ltR) x S) k) = _
      rw [fnd_ins x k S]
      by_cases h1 : y.key = k
      · by_cases h2 : x.key = k
        · rw [h1, ← h2, lessK_irrefl] at hyx; cases hyx
        · simp [h1, h2, fnd]
      · by_cases h2 : x.key = k
        · simp [h1, h2]
        · simp [h1, h2, fnd]
theorem fnd_isort (k : ByteArray) : ∀ l, fnd (isort (leOf ltR) l) k = fnd l k
  | [] => rfl
  | x :: l => by show fnd (ins (leOf ltR) x (isort (leOf ltR) l)) k = _; rw [fnd_ins, fnd_isort k l]; rfl
def Str (l : List Rec) : Prop := l.Pairwise (fun a b => lessK a.key b.key = true)
theorem fnd_none {l : List Rec} {k : ByteArray} (h : ∀ y ∈ l, y.key ≠ k) : fnd l k = none := by
  induction l with
  | nil => rfl
  | cons x l ih =>
    show (if x.key = k then some x else fnd l k) = none
    rw [if_neg (h x (List.mem_cons_self ..)), ih (fun y hy => h y (List.mem_cons_of_mem _ hy))]
theorem ddpFrom_spec : ∀ (S : List Rec) (k0 : ByteArray), Sor (leOf ltR) S → (∀ y ∈ S, lessK y.key k0 = false) → (∀ y ∈ ddpFrom k0 S, lessK k0 y.key = true) ∧ Str (ddpFrom k0 S) ∧ ∀ k, k ≠ k0 → fnd (ddpFrom k0 S) k = fnd S k
  | [], k0, _, _ => by simp [ddpFrom, Str]
  | y :: S, k0, hs, h0 => by
    have hy := List.pairwise_cons.1 hs
    have hyS : ∀ z ∈ S, lessK z.key y.key = false := fun z hz => by have := hy.1 z hz; simpa [leOf, ltR] using this
    unfold ddpFrom
    split
    · rename_i e
      obtain ⟨h1, h2, h3⟩ := ddpFrom_spec S k0 hy.2 (fun z hz => h0 z (List.mem_cons_of_mem _ hz))
      refine ⟨h1, h2, fun k hk => ?_⟩
      rw [h3 k hk]
      show _ = if y.key = k then some y else fnd S k
      rw [if_neg (by rw [e]; exact Ne.symm hk)]
    · rename_i e
      obtain ⟨h1, h2, h3⟩ := ddpFrom_spec S y.key hy.2 hyS
      have hk0y : lessK k0 y.key = true := by
        rcases lessK_tri k0 y.key with h | h | h
        · exact h
        · exact absurd h.symm e
        · rw [h0 y (List.mem_cons_self ..)] at h; cases h
      refine ⟨fun z hz => ?_, List.pairwise_cons.2 ⟨h1, h2⟩, fun k hk => ?_⟩
      · rcases List.mem_cons.1 hz with rfl | hz
        · exact hk0y
        · exact lessK_trans hk0y (h1 z hz)
      · show (if y.key = k then some y else fnd (ddpFrom y.key S) k) = if y.key = k then some y else fnd S k
        by_cases hyk : y.key = k
        · simp [hyk]
        · rw [if_neg hyk, if_neg hyk, h3 k (Ne.symm hyk)]
theorem ddp_spec {S : List Rec} (hs : Sor (leOf ltR) S) : Str (ddp S) ∧ ∀ k, fnd (ddp S) k = fnd S k := by
  cases S with
  | nil => exact ⟨List.Pairwise.nil, fun _ => rfl⟩
  | cons y S =>
    have hy := List.pairwise_cons.1 hs
    obtain ⟨h1, h2, h3⟩ := ddpFrom_spec S y.key hy.2 (fun z hz => by have := hy.1 z hz; simpa [leOf, ltR] using this)
    refine ⟨List.pairwise_cons.2 ⟨h1, h2⟩, fun k => ?_⟩
    show (if y.key = k then some y else fnd (ddpFrom y.key S) k) = if y.key = k then some y else fnd S k
    by_cases hyk : y.key = k
    · simp [hyk]
    · rw [if_neg hyk, if_neg hyk, h3 k (Ne.symm hyk)]
theorem Str.uniq : ∀ {a b : List Rec}, Str a → Str b → (∀ k, fnd a k = fnd b k) → a = b
  | [], [], _, _, _ => rfl
  | [], y :: b, _, _, h => by have := h y.key; simp [fnd] at this
  | x :: a, [], _, _, h => by have := h x.key; simp [fnd] at this
  | x :: a, y :: b, ha, hb, h => by
    have pa := List.pairwise_cons.1 ha
    have pb := List.pairwise_cons.1 hb
    have hxy : x = y := by
      have h1 := h x.key
      have h2 := h y.key
      simp only [fnd, if_true] at h1 h2
      by_cases e : x.key = y.key
      · rw [if_pos e.symm] at h1; exact Option.some.inj h1
      · rw [if_neg (Ne.symm e)] at h1
        rw [if_neg e] at h2
        have m1 := (fnd_mem h1.symm).1
        have m2 := (fnd_mem h2).1
        have := lessK_trans (pb.1 x m1) (pa.1 y m2)
        rw [lessK_irrefl] at this; cases this
    subst hxy
    congr 1
    refine Str.uniq pa.2 pb.2 fun k => ?_
    by_cases e : x.key = k
    · rw [fnd_none fun z hz hk => ?_, fnd_none fun z hz hk => ?_]
      · have := pb.1 z hz; rw [hk, ← e, lessK_irrefl] at this; cases this
      · have := pa.1 z hz; rw [hk, ← e, lessK_irrefl] at this; cases this
    · have := h k
      simp only [fnd, if_neg e] at this
      exact this
theorem mrgd_spec (l : List Rec) : Str (mrgd l) ∧ ∀ k, fnd (mrgd l) k = fnd l k := by
  obtain ⟨h1, h2⟩ := ddp_spec (isort_sor (leOf ltR) O_R l)
  exact ⟨h1, fun k => by rw [mrgd, h2, fnd_isort]⟩
theorem fnd_dF (k : ByteArray) : ∀ (l o : List Rec), fnd (l.foldl addN o) k = (fnd o k).or (fnd l k)
  | [], o => by simp [fnd]
  | x :: l, o => by
    rw [List.foldl_cons, fnd_dF k l]
    unfold addN
    show _ = (fnd o k).or (if x.key = k then some x else fnd l k)
    by_cases e : x.key = k
    · subst e
      split
      · rename_i h
        cases ho : fnd o x.key with
        | none => rw [ho] at h; cases h
        | some r => simp
      · rename_i h
        cases ho : fnd o x.key with
        | none => simp [fnd_app, ho, fnd]
        | some r => rw [ho] at h; simp at h
    · split
      · simp [e]
      · simp [fnd_app, fnd, e]
theorem addN_nd {o : List Rec} {r : Rec} (h : (o.map (·.key)).Nodup) : ((addN o r).map (·.key)).Nodup := by
  unfold addN; split
  · exact h
  · rename_i hn
    rw [List.map_append, List.map_cons, List.map_nil]
    refine List.nodup_append.2 ⟨h, by simp, fun a ha b hb => ?_⟩
    simp at hb; subst hb
    rintro rfl
    obtain ⟨x, hx, he⟩ := List.mem_map.1 ha
    have : (fnd o r.key).isSome = true := by
      clear h hn ha
      induction o with
      | nil => simp at hx
      | cons y o ih =>
        unfold fnd
        split
        · rfl
        · rename_i hne
          rcases List.mem_cons.1 hx with rfl | hx
          · exact absurd he hne
          · exact ih hx
    exact hn this
theorem foldl_nd : ∀ (l o : List Rec), (o.map (·.key)).Nodup → ((l.foldl addN o).map (·.key)).Nodup
  | [], o, h => h
  | x :: l, o, h => foldl_nd l (addN o x) (addN_nd h)
theorem inOrder_eq (l : List Rec) : isort (leOf ltR) (dF l) = mrgd l := by
  refine Str.uniq ?_ (mrgd_spec l).1 fun k => ?_
  · have h1 := isort_sor (leOf ltR) O_R (dF l)
    have h2 : ((isort (leOf ltR) (dF l)).map (·.key)).Nodup := ((isort_perm (leOf ltR) (dF l)).map (·.key)).nodup_iff.2 (foldl_nd l [] (by simp))
    rw [List.nodup_iff_pairwise_ne, List.pairwise_map] at h2
    refine (h1.and h2).imp fun {a b} h => ?_
    rcases lessK_tri a.key b.key with h3 | h3 | h3
    · exact h3
    · exact absurd h3 h.2
    · have := h.1; simp [leOf, ltR, h3] at this
  · rw [fnd_isort, (mrgd_spec l).2, dF, fnd_dF]; simp [fnd]

end Go.Proofs.Ytpgidiompdabdaa.AM
