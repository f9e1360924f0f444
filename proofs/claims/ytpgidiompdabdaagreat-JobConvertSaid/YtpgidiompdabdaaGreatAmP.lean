/- The abstract machine, fifteenth part: slices.Sorted of maps.Keys, taken for known by the library's contracts. -/
import Derived.Test.YtpgidiompdabdaaGreatAmN
import Derived.Sort.KeysCollected
namespace Go.Proofs.YtpgidiompdabdaaGreat.AM
open Go Go.RowKit
set_option linter.unusedSimpArgs false
set_option linter.unusedVariables false

/-- What the contracts say at a program. -/
structure SortedLaws (P : Program) (fK fI fS : FuncId) (kt : TypeId) : Prop where
  bK : Bodied P fK
  bS : Bodied P fS
  str : P.underlying kt = some .string
  keys : ∀ (mb : Option Nat) (W : World), Calls P fK #[.map mb] W fun e w' => e = .returned (.func (.func fI) #[] #[.pointer (some ⟨W.heap.size, 0, none⟩)]) ∧ ∃ T, w' = W.alloc (.cells #[.map mb] T)
  nil : ∀ (w : World) (Bm : Nat), Bm < w.heap.size → w.cell? ⟨Bm, 0, none⟩ = some (.map none) → Calls P fS #[.func (.func fI) #[] #[.pointer (some ⟨Bm, 0, none⟩)]] w fun e w' => e = .returned (.slice none 0 0) ∧ Below w.heap.size w w'
  some : ∀ (w : World) (Bm bk nn : Nat) (D0 : DataW Unit) (R : Value → Option (DataW Unit × List MemPlace)), Bm < w.heap.size → w.cell? ⟨Bm, 0, none⟩ = some (.map (some bk)) → w.ownsMap P kt R bk nn D0 → Maps.size D0 ≤ maxLen → Maps.size D0 * 16 ≤ 140737488355328 →
    Calls P fS #[.func (.func fI) #[] #[.pointer (some ⟨Bm, 0, none⟩)]] w fun e w' => ∃ (v : Value) (ss : List (List UInt8)), e = .returned v ∧ ss.Perm (strKeys D0) ∧
      w'.ownsRow w.heap.size kt 1 v ss.length ((ss.mergeSort (fun x y => decide (x ≤ y))).map encStr) ∧ (v = .slice none 0 0 ↔ ss = []) ∧ Below w.heap.size w w'

def keysL : List (Value × Value) → Option (List (List UInt8))
  | [] => some []
  | (.string s, _) :: es => if s.size ≤ maxLen then (keysL es).map (s.data.toList :: ·) else none
  | _ => none
def insB (x : List UInt8) : List (List UInt8) → List (List UInt8)
  | [] => [x]
  | y :: ys => if leB x y = true then x :: y :: ys else y :: insB x ys
def sortB : List (List UInt8) → List (List UInt8)
  | [] => []
  | x :: xs => insB x (sortB xs)
theorem insB_perm (x : List UInt8) : ∀ l, (insB x l).Perm (x :: l)
  | [] => .refl _
  | y :: ys => by
    simp only [insB]
    split
    · exact .refl _
    · exact ((insB_perm x ys).cons y).trans (.swap _ _ _)
theorem sortB_perm : ∀ l, (sortB l).Perm l
  | [] => .refl _
  | x :: xs => (insB_perm x _).trans ((sortB_perm xs).cons x)
theorem leB_trans : ∀ a b c : List UInt8, leB a b = true → leB b c = true → leB a c = true := fun a b c h1 h2 => by simp only [leB, decide_eq_true_eq] at *; exact List.le_trans h1 h2
theorem leB_total : ∀ a b : List UInt8, (leB a b || leB b a) = true := fun a b => by simp only [leB, Bool.or_eq_true, decide_eq_true_eq]; exact List.le_total a b
theorem insB_sorted (x : List UInt8) : ∀ l, l.Pairwise (fun a b => leB a b = true) → (insB x l).Pairwise (fun a b => leB a b = true)
  | [], _ => by simp [insB]
  | y :: ys, h => by
    have h' := List.pairwise_cons.1 h
    simp only [insB]
    split
    · rename_i hx
      refine List.pairwise_cons.2 ⟨fun z hz => ?_, h⟩
      rcases List.mem_cons.1 hz with rfl | hz
      · exact hx
      · exact leB_trans _ _ _ hx (h'.1 z hz)
    · rename_i hx
      have hyx : leB y x = true := by have := leB_total x y; simp only [Bool.or_eq_true] at this; exact this.resolve_left hx
      refine List.pairwise_cons.2 ⟨fun z hz => ?_, insB_sorted x ys h'.2⟩
      rcases List.mem_cons.1 ((insB_perm x ys).mem_iff.1 hz) with rfl | hz
      · exact hyx
      · exact h'.1 z hz
theorem sortB_sorted : ∀ l, (sortB l).Pairwise (fun a b => leB a b = true)
  | [] => List.Pairwise.nil
  | x :: xs => insB_sorted x _ (sortB_sorted xs)
theorem sortB_eq (l : List (List UInt8)) : l.mergeSort leB = sortB l := by
  refine List.Perm.eq_of_pairwise (le := fun a b => leB a b = true) (fun a b _ _ h1 h2 => ?_) (List.pairwise_mergeSort leB_trans leB_total l) (sortB_sorted l) ((List.mergeSort_perm l leB).trans (sortB_perm l).symm)
  simp only [leB, decide_eq_true_eq] at h1 h2
  exact List.le_antisymm h1 h2

def keysX (fK fI fS : FuncId) (kt : TypeId) : Exts := fun g vs h =>
  if g = fK then (match vs with
    | [.map m] => some (.func (.func fI) #[] #[.pointer (some ⟨h.next, 0, none⟩)], h.push (.seq m))
    | _ => none)
  else if g = fS then (match vs with
    | [.func (.func i) first cs] => if i = fI ∧ first.size = 0 then (match cs.toList with
      | [.pointer (some ⟨j, 0, none⟩)] => (match h.get j with
        | some (.seq none) => some (.slice none 0 0, h)
        | some (.seq (some m)) => (match mapAt h m with
          | some es => (match keysL es with
            | some [] => some (.slice none 0 0, h)
            | some (x :: xs) => if es.length ≤ 8796093022208 then some (.slice (some ⟨h.next, 0, none⟩) (x :: xs).length 1, h.push (.row false kt ((sortB (x :: xs)).map encStr))) else none
            | none => none)
          | none => none)
        | _ => none)
      | _ => none) else none
    | _ => none)
  else none

section
variable {P : Program} {fK fI fS : FuncId} {kt : TypeId}
/-- One object more, in a block of its own that is there already. -/
theorem Sim.add {b : Bt} {h : AH} {base : Nat} {w0 w : World} (H : Sim b h base w0 w) {g : Nat} (o : AObj) (hf : ∀ i o k s, h.get i = some o → live o = true → b[i]? = some (k, s) → k ≠ g) (ho : OR (b ++ [(g, 0)]) w base g 0 o) :
    Sim (b ++ [(g, 0)]) (h.push o) base w0 w := by
  have hlen := H.len
  refine ⟨by simp [AH.push, H.len], fun i hi => ?_, H.bel, H.le, fun i o' hi => ?_, ?_, H.gd⟩
  · have hi' : h.next + 1 ≤ i := hi
    rw [AH.get_push_ne _ _ (by omega)]; exact H.out i (by omega)
  · by_cases e : h.next = i
    · subst e
      rw [AH.get_push_same] at hi; cases hi
      exact ⟨g, 0, by rw [List.getElem?_append_right (by omega)]; simp [hlen], ho⟩
    · rw [AH.get_push_ne _ _ e] at hi
      obtain ⟨k, s, hb, hr⟩ := H.obj i o' hi
      exact ⟨k, s, getElem?_pre _ _ hb, hr.move getElem?_pre (SLe.refl _) fun _ => rfl⟩
  · intro i j o1 o2 k s s' hij h1 h2 m1 m2 b1 b2
    have old : ∀ i o, h.next ≠ i → (h.push o).get i = h.get i := fun i o e => AH.get_push_ne _ _ e
    have back : ∀ i o' k s, h.get i = some o' → (b ++ [(g, 0)])[i]? = some (k, s) → b[i]? = some (k, s) := by
      intro i o' k s hg hb
      obtain ⟨k', s', hb', _⟩ := H.obj i o' hg
      have := getElem?_pre (c := [(g, 0)]) _ _ hb'
      rw [hb] at this; cases this
      exact hb'
    have new : (b ++ [(g, 0)])[h.next]? = some (g, 0) := by rw [List.getElem?_append_right (by omega)]; simp [hlen]
    by_cases e1 : h.next = i
    · subst e1
      rw [new] at b1; cases b1
      rw [old j o hij] at h2
      exact hf j o2 _ _ h2 m2 (back j o2 _ _ h2 b2) rfl
    · by_cases e2 : h.next = j
      · subst e2
        rw [new] at b2; cases b2
        rw [old i o e1] at h1
        exact hf i o1 _ _ h1 m1 (back i o1 _ _ h1 b1) rfl
      · rw [old i o e1] at h1; rw [old j o e2] at h2
        exact H.inj i j o1 o2 k s s' hij h1 h2 m1 m2 (back i o1 _ _ h1 b1) (back j o2 _ _ h2 b2)
theorem keysL_spec {b : Bt} {S : Sh} : ∀ {es : List (Value × Value)} {ks : List (List UInt8)} {es' : List MapEntry}, keysL es = some ks → LR (VR b S) (es.map (·.1)) (es'.map (·.key)) →
    ks.length = es.length ∧ es'.map (·.key) = ks.map encStr ∧ ∀ x ∈ ks, x.length ≤ maxLen
  | [], ks, es', h, hl => by
    simp only [keysL, Option.some.injEq] at h; subst h
    have : es' = [] := by simpa using hl.unnil
    subst this
    exact ⟨rfl, rfl, fun x hx => by cases hx⟩
  | (v, u) :: es, ks, es', h, hl => by
    cases v <;> (first | (simp [keysL] at h; done) | skip)
    rename_i s
    simp only [keysL] at h
    split at h
    · rename_i hs
      simp only [Option.map_eq_some_iff] at h
      obtain ⟨ks', h, rfl⟩ := h
      cases es' with
      | nil => exact absurd hl.1 (by simp)
      | cons en es' =>
        obtain ⟨x1, r1, e1, hx1, hr1⟩ := LR.uncons hl
        simp only [List.map_cons, List.cons.injEq] at e1
        obtain ⟨rfl, rfl⟩ := e1
        obtain ⟨q1, q2, q3⟩ := keysL_spec h hr1
        refine ⟨by simp [q1], ?_, fun x hx => ?_⟩
        · rw [List.map_cons, q2, hx1.string_inv]
          simp [encStr]
        · rcases List.mem_cons.1 hx with rfl | hx
          · rw [Array.length_toList]; exact hs
          · exact q3 x hx
    · cases h
theorem keysX_sound (L : SortedLaws P fK fI fS kt) {g : FuncId} {vs : List Value} {h h1 : AH} {v : Value} (hx : keysX fK fI fS kt g vs h = some (v, h1)) : SoundFn P g vs h v h1 := by
  unfold keysX at hx
  split at hx
  · rename_i hg
    subst hg
    split at hx
    · rename_i m
      simp only [Option.some.injEq, Prod.mk.injEq] at hx; obtain ⟨rfl, rfl⟩ := hx
      refine ⟨L.bK, fun b base w0 w args H hl => ?_⟩
      obtain ⟨m', r, rfl, hm, hr⟩ := hl.uncons
      rw [hr.unnil]
      obtain ⟨mb, rfl⟩ : ∃ mb, m' = .map mb := by
        cases hm with
        | scal hg => exact ⟨_, rfl⟩
        | map _ => exact ⟨_, rfl⟩
      refine (L.keys mb w).mono fun e w' hp => ?_
      obtain ⟨rfl, T, rfl⟩ := hp
      refine ⟨[(w.heap.size, 0)], _, rfl, ?_, shape_push _ _, H.push _ _ ⟨⟨H.le, rfl⟩, T, _, _, heap_alloc_new w _, hm.ext (shape_push _ _)⟩⟩
      exact VR.of_lr_func (l := [.pointer (some ⟨h.next, 0, none⟩)]) (.cons (new_ptr H _) .nil)
    · cases hx
  · split at hx
    · rename_i hg
      subst hg
      split at hx
      · rename_i i first cs
        split at hx
        · rename_i hif
          obtain ⟨rfl, h0⟩ := hif
          have h0' : first = #[] := Array.eq_empty_of_size_eq_zero h0
          subst h0'
          split at hx
          · rename_i j hcs
            -- the arguments in the world
            have args_ : ∀ {b : Bt} {base : Nat} {w0 w : World} {args : List Value}, Sim b h base w0 w → LR (VR b w.shape?) [.func (.func i) #[] cs] args → ∀ m, h.get j = some (.seq m) →
                ∃ Bm m', args.toArray = #[.func (.func i) #[] #[.pointer (some ⟨Bm, 0, none⟩)]] ∧ Bm < w.heap.size ∧ w.cell? ⟨Bm, 0, none⟩ = some m' ∧ VR b w.shape? (.map m) m' := by
              intro b base w0 w args H hl m hj
              obtain ⟨f', r, rfl, hf, hr⟩ := hl.uncons
              rw [hr.unnil]
              obtain ⟨cs', rfl, hl2⟩ := hf.func_inv
              rw [hcs] at hl2
              obtain ⟨p, r2, e2, hp, hr2⟩ := hl2.uncons
              rw [hr2.unnil] at e2
              obtain ⟨k, s, hb, rfl⟩ := hp.ptr_inv
              obtain ⟨k', s', hb', ⟨hbase, hs0⟩, T, fr, m', hk, hm⟩ := H.obj j _ hj
              rw [hb] at hb'; cases hb'
              subst hs0
              have hcs' : cs' = #[.pointer (some ⟨k, 0 + 0, none⟩)] := Array.ext' (by simpa using e2)
              refine ⟨k, m', by rw [hcs'], (Array.getElem?_eq_some_iff.1 hk).1, ?_, hm⟩
              simp [World.cell?, hk]
            split at hx
            · rename_i hj
              simp only [Option.some.injEq, Prod.mk.injEq] at hx; obtain ⟨rfl, rfl⟩ := hx
              refine ⟨L.bS, fun b base w0 w args H hl => ?_⟩
              obtain ⟨Bm, m', ha, hB, hc, hm⟩ := args_ H hl _ hj
              rw [ha]
              rw [hm.g0_inv rfl] at hc
              refine (L.nil w Bm hB hc).mono fun e w' hp => ?_
              obtain ⟨rfl, hb⟩ := hp
              exact ⟨[], _, rfl, .scal rfl, below_shape hb, by rw [List.append_nil]; exact H.below hb⟩
            · rename_i m hj
              split at hx
              · rename_i es hes
                have hget := mapAt_get hes
                have fit : ∀ {ks : List (List UInt8)}, keysL es = some ks → ∀ {b : Bt} {base : Nat} {w0 w : World}, Sim b h base w0 w → ∀ m', VR b w.shape? (.map (some m)) m' → ks.length ≤ 8796093022208 →
                    ∃ bk, m' = .map (some bk) ∧ ∃ D0 : DataW Unit, w.ownsMap P kt (fun _ => Option.some (DataW.nil, [])) bk ks.length D0 ∧ (strKeys D0).Perm ks ∧ Maps.size D0 = ks.length := by
                  intro ks hks b base w0 w H m' hm hlen
                  obtain ⟨bk, sb, hb, rfl⟩ := hm.map_inv
                  obtain ⟨k2, s2, hb2, hbase, es', clock, hkk, hl1, _, hst⟩ := H.obj m _ hget
                  rw [hb] at hb2; cases hb2
                  obtain ⟨q1, q2, q3⟩ := keysL_spec hks hl1
                  have hsz : es'.size = ks.length := by
                    have := congrArg List.length q2
                    simpa using this
                  have hread : ∀ x ∈ es'.toList, ∃ y ∈ ks, x.key = encStr y ∧ Go.WideElems.rd (H := Unit) P kt (fun _ => Option.some (DataW.nil, [])) x = Option.some (.string y, DataW.nil) := by
                    intro x hx
                    have : x.key ∈ es'.toList.map (·.key) := List.mem_map.2 ⟨x, hx, rfl⟩
                    rw [q2] at this
                    obtain ⟨y, hy, hyx⟩ := List.mem_map.1 this
                    refine ⟨y, hy, hyx.symm, ?_⟩
                    have hk : keyOf P kt x.key = Option.some (.string y) := by
                      rw [← hyx]
                      have hy2 : (⟨y.toArray⟩ : ByteArray).size ≤ maxLen := by
                        show y.toArray.size ≤ maxLen
                        rw [List.size_toArray]; exact q3 y hy
                      simp [keyOf, L.str, encStr, mapKey, hy2]
                    simp [Go.WideElems.rd, hk]
                  refine ⟨bk, rfl, _, ⟨es', clock, hkk, ⟨by rw [hsz]; exact Nat.le_trans hlen (by decide), hst, fun x hx => ?_⟩, by rw [hsz]; exact Nat.le_refl _, rfl⟩, ?_, ?_⟩
                  · obtain ⟨y, _, _, hr⟩ := hread x hx
                    exact ⟨_, hr⟩
                  · have e1 : (es'.toList.map (Go.WideElems.rg P kt (fun _ => Option.some ((DataW.nil : DataW Unit), [])))).map (fun p => strOf p.1) = ks := by
                      have h2 : ks.map encStr = es'.toList.map (·.key) := q2.symm
                      have h3 : ∀ (l : List MapEntry) (k2 : List (List UInt8)), (∀ x ∈ l, x ∈ es'.toList) → l.map (·.key) = k2.map encStr → (l.map (Go.WideElems.rg P kt (fun _ => Option.some ((DataW.nil : DataW Unit), [])))).map (fun p => strOf p.1) = k2 := by
                        intro l
                        induction l with
                        | nil => intro k2 _ h; cases k2 with
                                | nil => rfl
                                | cons _ _ => simp at h
                        | cons x l ihl =>
                          intro k2 hmem h
                          cases k2 with
                          | nil => simp at h
                          | cons y k2 =>
                            simp only [List.map_cons, List.cons.injEq] at h ⊢
                            obtain ⟨y', _, hy', hr⟩ := hread x (hmem x (by simp))
                            refine ⟨?_, ihl k2 (fun z hz => hmem z (by simp [hz])) h.2⟩
                            rw [Go.WideElems.rg_of hr]
                            have : y' = y := encStr_inj (hy'.symm.trans h.1)
                            rw [this]; rfl
                      exact h3 es'.toList ks (fun x hx => hx) h2.symm
                    rw [← e1]
                    exact (Go.WideShapes.sorted_perm _).map _
                  · show List.length _ = _
                    rw [(Go.WideShapes.sorted_perm _).length_eq, List.length_map, Array.length_toList, hsz]
                split at hx
                · rename_i hks
                  simp only [Option.some.injEq, Prod.mk.injEq] at hx; obtain ⟨rfl, rfl⟩ := hx
                  refine ⟨L.bS, fun b base w0 w args H hl => ?_⟩
                  obtain ⟨Bm, m', ha, hB, hc, hm⟩ := args_ H hl _ hj
                  rw [ha]
                  obtain ⟨bk, rfl, D0, hown, hperm, hsize⟩ := fit hks H m' hm (by decide)
                  refine (L.some w Bm bk _ D0 _ hB hc hown (by rw [hsize]; decide) (by rw [hsize]; decide)).mono fun e w' hp => ?_
                  obtain ⟨u, ss, rfl, hss, _, hnil, hb⟩ := hp
                  have : ss = [] := by have := (hss.trans hperm).length_eq; exact List.length_eq_zero_iff.1 this
                  rw [hnil.2 this]
                  exact ⟨[], _, rfl, .scal rfl, below_shape hb, by rw [List.append_nil]; exact H.below hb⟩
                · rename_i x xs hks
                  split at hx
                  · rename_i hlen
                    simp only [Option.some.injEq, Prod.mk.injEq] at hx; obtain ⟨rfl, rfl⟩ := hx
                    refine ⟨L.bS, fun b base w0 w args H hl => ?_⟩
                    obtain ⟨Bm, m', ha, hB, hc, hm⟩ := args_ H hl _ hj
                    rw [ha]
                    have hkl : (x :: xs).length ≤ 8796093022208 := by
                      obtain ⟨_, _, _, _, es', _, _, hl1, _⟩ := H.obj m _ hget
                      rw [(keysL_spec hks hl1).1]; exact hlen
                    obtain ⟨bk, rfl, D0, hown, hperm, hsize⟩ := fit hks H m' hm hkl
                    refine (L.some w Bm bk _ D0 _ hB hc hown (by rw [hsize]; exact Nat.le_trans hkl (by decide)) (by rw [hsize]; omega)).mono fun e w' hp => ?_
                    obtain ⟨u, ss, rfl, hss, hrow, hnil, hb⟩ := hp
                    have hp2 := hss.trans hperm
                    have hsort : ss.mergeSort (fun x y => decide (x ≤ y)) = sortB (x :: xs) := (mergeSort_of_perm hp2).trans (sortB_eq _)
                    have hlen2 : ss.length = (x :: xs).length := hp2.length_eq
                    rw [hsort] at hrow
                    obtain ⟨_, hrow⟩ := hrow
                    rcases hrow with ⟨rfl, hz⟩ | ⟨g, cap, cur, rfl, hbg, hcur, r1, r2, r3, r4⟩
                    · rw [hlen2] at hz; simp at hz
                    · have hkl2 : (sortB (x :: xs)).length = (x :: xs).length := (sortB_perm _).length_eq
                      have hHb := H.below hb
                      have hfresh : ∀ i o k s, h.get i = Option.some o → live o = true → b[i]? = Option.some (k, s) → k ≠ g := by
                        intro i o k s hi hlv hbi
                        obtain ⟨k', s', hb', hO⟩ := H.obj i o hi
                        rw [hbi] at hb'; cases hb'
                        have := (hO.lt hlv).2
                        omega
                      refine ⟨[(g, 0)], _, rfl, ?_, below_shape hb, hHb.add _ hfresh ?_⟩
                      · rw [hlen2]
                        have hnew : (b ++ [(g, 0)])[h.next]? = Option.some (g, 0) := by rw [List.getElem?_append_right (by rw [H.len]; exact Nat.le_refl _)]; simp [H.len]
                        have hsh : w'.shape? g = Option.some (kt, cur.size) := by unfold World.shape?; rw [hcur]
                        have := VR.slice (off := 0) (len := (x :: xs).length) (es := 1) (cap := cap) hnew (by rw [← hlen2]; exact r1) hsh (by rw [r3]; omega)
                        exact this
                      · refine ⟨?_, cur, kt, (0, 0), hcur, ?_, fun j v hj => ?_, ?_⟩
                        · refine List.all_eq_true.2 fun z hz => ?_
                          obtain ⟨y, _, rfl⟩ := List.mem_map.1 hz
                          rfl
                        · rw [List.length_map, hkl2, ← hlen2, r3]; omega
                        · refine ⟨v, ?_, ?_⟩
                          · rw [Nat.zero_add, ← Array.getElem?_toList]
                            rw [← r4, List.getElem?_take] at hj
                            split at hj
                            · exact hj
                            · cases hj
                          · obtain ⟨y, _, rfl⟩ := List.mem_map.1 (List.mem_of_getElem? hj)
                            exact .scal rfl
                        · exact ⟨Nat.le_trans H.le hbg, rfl, rfl⟩
                  · cases hx
                · cases hx
              · cases hx
            · cases hx
          · cases hx
        · cases hx
      · cases hx
    · cases hx
theorem keysX_none {g : FuncId} (h1 : g ≠ fK) (h2 : g ≠ fS) (vs : List Value) (h : AH) : keysX fK fI fS kt g vs h = none := by
  unfold keysX
  rw [if_neg h1, if_neg h2]
end
/-- Two machines' known functions, the first one ahead. -/
def bothX (X1 X2 : Exts) : Exts := fun g vs h => match X1 g vs h with
  | some r => some r
  | none => X2 g vs h
theorem bothX_ok {P : Program} {F : Funs} {X1 X2 : Exts} {pur : List FuncId} (h1 : XOK P F X1 pur) (h2 : ∀ g vs h v h', X2 g vs h = some (v, h') → SoundFn P g vs h v h') (hn : ∀ g, pur.contains g = true → ∀ vs h, X2 g vs h = none) : XOK P F (bothX X1 X2) pur := by
  refine ⟨fun g vs h v h' hx => ?_, fun g vs h v h' hp hx => ?_, h1.none⟩
  · unfold bothX at hx
    split at hx
    · rename_i r hr
      simp only [Option.some.injEq] at hx; subst hx
      exact h1.sound _ _ _ _ _ hr
    · exact h2 _ _ _ _ _ hx
  · unfold bothX at hx
    split at hx
    · rename_i r hr
      simp only [Option.some.injEq] at hx; subst hx
      obtain ⟨q1, q2⟩ := h1.pure _ _ _ _ _ hp hr
      refine ⟨q1, fun h2' => ?_⟩
      unfold bothX
      rw [q2 h2']
    · rw [hn g hp] at hx; cases hx
end Go.Proofs.YtpgidiompdabdaaGreat.AM
