/- Arguments that are read as data, as read-only rows of the abstract machine; a function whose walk tells true. -/
import Derived.Test.YtpgidiompdabdaaGreatAmN
import Derived.Test.YtpgidiompdabdaaGreatAmY
import Derived.ChangeArms
namespace Go.Proofs.YtpgidiompdabdaaGreat.AM
open Go Go.RowKit
set_option linter.unusedSimpArgs false
set_option linter.unusedVariables false
section
variable {P : Program} {W : World} {α : Type}
/-- The machine's state ahead of the call: what was read so far. -/
structure St (W : World) (b : Bt) (h : AH) (H : SH) : Prop where
  sim : Sim b h W.heap.size W W
  hag : HAg H h
theorem St.empty (W : World) (gd : Gd W.heap.size W) : St W [] AH.empty [] := ⟨Sim.empty W gd, HAg.nil _⟩
/-- An object more that is never written. -/
theorem Sim.still {b : Bt} {h : AH} {base : Nat} {w0 w : World} (H : Sim b h base w0 w) {k s : Nat} (o : AObj) (hl : live o = false) (ho : OR (b ++ [(k, s)]) w base k s o) :
    Sim (b ++ [(k, s)]) (h.push o) base w0 w := by
  have hlen := H.len
  have old : ∀ i, h.next ≠ i → (h.push o).get i = h.get i := fun i e => AH.get_push_ne h o e
  have back : ∀ i o' k' s', h.get i = some o' → (b ++ [(k, s)])[i]? = some (k', s') → b[i]? = some (k', s') := by
    intro i o' k' s' hg hb
    obtain ⟨k1, s1, hb1, _⟩ := H.obj i o' hg
    have := getElem?_pre (c := [(k, s)]) _ _ hb1
    rw [hb] at this; cases this
    exact hb1
  refine ⟨by simp [AH.push, H.len], fun i hi => ?_, H.bel, H.le, fun i o' hi => ?_, ?_, H.gd⟩
  · have hi' : h.next + 1 ≤ i := hi
    rw [old i (by omega)]; exact H.out i (by omega)
  · by_cases e : h.next = i
    · subst e
      rw [AH.get_push_same] at hi; cases hi
      exact ⟨k, s, by rw [List.getElem?_append_right (by omega)]; simp [hlen], ho⟩
    · rw [old i e] at hi
      obtain ⟨k', s', hb, hr⟩ := H.obj i o' hi
      exact ⟨k', s', getElem?_pre _ _ hb, hr.move getElem?_pre (SLe.refl _) fun _ => rfl⟩
  · intro i j o1 o2 k1 s1 s2 hij h1 h2 m1 m2 b1 b2
    by_cases e1 : h.next = i
    · subst e1
      rw [AH.get_push_same] at h1; cases h1; rw [hl] at m1; cases m1
    · by_cases e2 : h.next = j
      · subst e2
        rw [AH.get_push_same] at h2; cases h2; rw [hl] at m2; cases m2
      · rw [old i e1] at h1; rw [old j e2] at h2
        exact H.inj i j o1 o2 k1 s1 s2 hij h1 h2 m1 m2 (back i o1 _ _ h1 b1) (back j o2 _ _ h2 b2)
theorem HAg.addR {H : SH} {h : AH} (hh : HAg H h) (o : AObj) {r : Res} (hr : r.holds (h.push o)) (hf : r.foot = []) : HAg (r :: H) (h.push o) := by
  refine ⟨fun q hq => ?_, by rw [List.flatMap_cons, hf]; exact hh.2⟩
  rcases List.mem_cons.1 hq with rfl | hq
  · exact hr
  · refine Res.holds_frame (i := h.next) (Nat.le_succ _) (fun j _ hne => AH.get_push_ne h o (Ne.symm hne)) (hh.1 q hq) (fun hm => ?_) ⟨fun j t c e => ?_, fun j e => ?_⟩
    · exact absurd (Res.foot_lt (hh.1 q hq) hm) (Nat.lt_irrefl _)
    · have := hh.1 q hq; subst e; exact Nat.ne_of_lt this.1
    · have := hh.1 q hq; subst e; exact Nat.ne_of_lt this.1
theorem VR.pre {b c : Bt} {v v' : Value} (h : VR b W.shape? v v') : VR (b ++ c) W.shape? v v' := h.ext (SLe.refl _)
theorem St.row {b : Bt} {h : AH} {H : SH} (S : St W b h H) {k s : Nat} {t : TypeId} {c cs : List Value} {arr : Array Value} {t' : TypeId} {fr : Nat × Nat} (hk : W.heap[k]? = some (.cells arr t' fr)) (ho : c.all one = true) (hb : s + c.length ≤ arr.size)
    (hv : ∀ j v, c[j]? = some v → ∃ v', arr[s + j]? = some v' ∧ VR b W.shape? v v') : St W (b ++ [(k, s)]) (h.push (.row true t c)) (.ro h.next t c :: H) := by
  refine ⟨S.sim.still _ rfl ⟨ho, arr, t', fr, hk, hb, fun j v hj => ?_, ?_⟩, S.hag.addR _ ⟨Nat.lt_succ_self _, AH.get_push_same _ _⟩ rfl⟩
  · obtain ⟨v', h1, h2⟩ := hv j v hj; exact ⟨v', h1, h2.pre⟩
  · rw [if_pos rfl]; exact (Array.getElem?_eq_some_iff.1 hk).1
theorem St.gone {b : Bt} {h : AH} {H : SH} (S : St W b h H) : St W (b ++ [(0, 0)]) (h.push .dead) (.gone h.next :: H) :=
  ⟨S.sim.still _ rfl trivial, S.hag.addR _ ⟨Nat.lt_succ_self _, AH.get_push_same _ _⟩ rfl⟩
theorem mapM_some {β γ : Type} {f : β → Option γ} : ∀ {l : List β} {r : List γ}, l.mapM f = some r → r.length = l.length ∧ ∀ (i : Nat) (x : β), l[i]? = some x → ∃ y, f x = some y ∧ r[i]? = some y
  | [], r, h => by simp at h; subst h; simp
  | x :: l, r, h => by
    rw [List.mapM_cons] at h
    simp only [Option.bind_eq_bind, Option.bind_eq_some_iff, Option.pure_def, Option.some.injEq] at h
    obtain ⟨y, hy, ys, hys, rfl⟩ := h
    obtain ⟨h1, h2⟩ := mapM_some hys
    refine ⟨by simp [h1], fun i z hz => ?_⟩
    cases i with
    | zero => simp at hz; subst hz; exact ⟨y, hy, rfl⟩
    | succ i => rw [List.getElem?_cons_succ] at hz; obtain ⟨u, h3, h4⟩ := h2 i z hz; exact ⟨u, h3, by rw [List.getElem?_cons_succ]; exact h4⟩
theorem cells_at {base : Nat} {a : Addr} {n : Nat} {cs : List Value} (h : W.cells? base a n = some cs) : cs.length = n ∧ ∀ i, i < n → W.cell? (a.add i) = cs[i]? := by
  unfold World.cells? at h
  split at h
  · obtain ⟨h1, h2⟩ := mapM_some h
    refine ⟨by simpa using h1, fun i hi => ?_⟩
    obtain ⟨y, hy, hr⟩ := h2 i i (by simp [hi])
    rw [hy, hr]
  · cases h
theorem add_off (a : Addr) (hs : a.spot = none) (n : Nat) : a.add n = ⟨a.block, a.off + n, none⟩ := by
  unfold Addr.add; split
  · rename_i h; subst h; cases a; simp at hs; subst hs; rfl
  · rfl
theorem add_add (a : Addr) (m n : Nat) : (a.add m).add n = a.add (m + n) := by
  unfold Addr.add
  by_cases h1 : m = 0
  · subst h1; rw [if_pos rfl, Nat.zero_add]
  · rw [if_neg h1]
    by_cases h2 : n = 0
    · subst h2; rw [if_pos rfl, Nat.add_zero, if_neg h1]
    · rw [if_neg h2, if_neg (by omega)]; simp [Nat.add_assoc]
/-- A slice that is read: its cells lie in one block. -/
theorem slice_block {H : Type} {enc : TypeId × Value → H} {held : Bool} {fuel : Nat} {t e : TypeId} {cs : List Value} {x : DataW H × List MemPlace} (ht : P.underlying t = some (.slice e)) (hes : 0 < P.cellsOf e) (h : DataW.trod enc P W 0 (fun _ => true) held fuel t cs = some x) :
    cs = [.slice none 0 0] ∨ (∃ a, cs = [.slice (some a) 0 0]) ∨
    ∃ (k o len cap : Nat) (arr : Array Value) (t' : TypeId) (fr : Nat × Nat) (n : Nat), cs = [.slice (some ⟨k, o, none⟩) len cap] ∧ len ≤ cap ∧ cap ≤ maxLen ∧ W.heap[k]? = some (.cells arr t' fr) ∧ o + cap * P.cellsOf e ≤ arr.size ∧
      ∀ i, i < len → ∃ ci y, ci.length = P.cellsOf e ∧ (∀ j, j < P.cellsOf e → arr[o + i * P.cellsOf e + j]? = ci[j]?) ∧ DataW.trod enc P W 0 (fun _ => true) held n e ci = some y := by
  rcases DataW.trod_slice ht h with ⟨h0, _⟩ | ⟨a, len, cap, elems, rest, n, _, rfl, rfl, hb, hl, hm, hlen, hel, hsp, hns⟩
  · exact .inl h0
  · by_cases hc0 : cap = 0
    · have : len = 0 := by omega
      subst hc0 this
      exact .inr (.inl ⟨a, rfl⟩)
    · obtain ⟨hr, hrest⟩ := hsp rfl
      have one : ∀ i, i < cap → ∃ ci y, W.cells? 0 (a.add (i * P.cellsOf e)) (P.cellsOf e) = some ci ∧ DataW.trod enc P W 0 (fun _ => true) held n e ci = some y := by
        intro i hi
        by_cases h1 : i < len
        · have := hel i h1
          rw [List.getElem?_eq_getElem (by omega)] at this
          obtain ⟨ci, h2, h3⟩ := Option.bind_eq_some_iff.1 this
          exact ⟨ci, _, h2, h3⟩
        · have := hrest (i - len) (by omega)
          rw [List.getElem?_eq_getElem (by omega), show len + (i - len) = i by omega] at this
          obtain ⟨ci, h2, h3⟩ := Option.bind_eq_some_iff.1 this
          exact ⟨ci, _, h2, h3⟩
      obtain ⟨c0, y0, hc, _⟩ := one (cap - 1) (by omega)
      obtain ⟨hcl, hcc⟩ := cells_at hc
      have hlast := hcc (P.cellsOf e - 1) (by omega)
      rw [List.getElem?_eq_getElem (by omega), add_add] at hlast
      have hsome : ∀ q, (∃ v, W.cell? (a.add q) = some v) → ∃ arr t' fr, W.heap[a.block]? = some (.cells arr t' fr) := by
        rintro q ⟨v, hv⟩
        unfold World.cell? at hv
        have : (a.add q).block = a.block := by unfold Addr.add; split <;> rfl
        rw [this] at hv
        split at hv
        · rename_i c t fr hh; exact ⟨c, t, fr, hh⟩
        · cases hv
      obtain ⟨arr, t', fr, harr⟩ := hsome _ ⟨_, hlast⟩
      have hspot : a.spot = none := by
        obtain ⟨c1, y1, hc1, _⟩ := one 0 (by omega)
        obtain ⟨hcl1, hcc1⟩ := cells_at hc1
        have h0 := hcc1 0 hes
        rw [List.getElem?_eq_getElem (by omega), Nat.zero_mul] at h0
        have : (a.add 0).add 0 = a := by simp [Addr.add]
        rw [this] at h0
        unfold World.cell? at h0
        rw [harr] at h0
        simp only [] at h0
        split at h0
        · cases h0
        · rename_i hsp; cases hh : a.spot with
          | none => rfl
          | some _ => rw [hh] at hsp; exact absurd rfl hsp
      have cell : ∀ q, W.cell? (a.add q) = arr[a.off + q]? := by
        intro q; rw [add_off a hspot]; unfold World.cell?; rw [harr]; rfl
      refine .inr (.inr ⟨a.block, a.off, len, cap, arr, t', fr, n, ?_, hl, hm, harr, ?_, fun i hi => ?_⟩)
      · congr 2; cases a; simp at hspot; subst hspot; rfl
      · rw [cell] at hlast
        have := (Array.getElem?_eq_some_iff.1 hlast).1
        have e1 : (cap - 1) * P.cellsOf e + P.cellsOf e = cap * P.cellsOf e := by rw [← Nat.succ_mul]; congr 1; omega
        omega
      · obtain ⟨ci, y, h2, h3⟩ := one i (by omega)
        obtain ⟨h4, h5⟩ := cells_at h2
        refine ⟨ci, y, h4, fun j hj => ?_, h3⟩
        have := h5 j hj
        rw [add_add, cell] at this
        rw [Nat.add_assoc]; exact this
/-- A type without addresses. -/
structure Flat (P : Program) (t : TypeId) (T : Ty α) (ok : α → Prop) : Prop where
  es : P.cellsOf t = T.es
  pos : 0 < T.es
  rd : ∀ {H : Type} {enc : TypeId × Value → H} {W : World} {base : Nat} {spare : Nat → Bool} {held : Bool} {fuel : Nat} {cs : List Value} {x : DataW H × List MemPlace}, DataW.trod enc P W base spare held fuel t cs = some x → ∃ a, cs = T.enc a ∧ ok a
  g : ∀ a, (T.enc a).all g0 = true
theorem build_list {β : Type} {Q : Nat → β → Prop} : ∀ n, (∀ i, i < n → ∃ x, Q i x) → ∃ xs : List β, xs.length = n ∧ ∀ (i : Nat) (x : β), xs[i]? = some x → Q i x
  | 0, _ => ⟨[], rfl, fun i x h => by simp at h⟩
  | n + 1, h => by
    obtain ⟨xs, h1, h2⟩ := build_list n (fun i hi => h i (by omega))
    obtain ⟨x, hx⟩ := h n (by omega)
    refine ⟨xs ++ [x], by simp [h1], fun i y hy => ?_⟩
    by_cases hi : i < xs.length
    · rw [List.getElem?_append_left hi] at hy; exact h2 i y hy
    · have hlt := (List.getElem?_eq_some_iff.1 hy).1
      simp at hlt
      have : i = n := by omega
      subst this
      rw [List.getElem?_append_right (by omega)] at hy
      simp [h1] at hy; subst hy; exact hx
theorem shape_of {k : Nat} {arr : Array Value} {t' : TypeId} {fr : Nat × Nat} (h : W.heap[k]? = some (.cells arr t' fr)) : W.shape? k = some (t', arr.size) := by unfold World.shape?; rw [h]
theorem div_mod_lt {i n m : Nat} (h : i < n * m) : i / m < n := by
  have hm : 0 < m := by
    rcases Nat.eq_zero_or_pos m with h0 | h0
    · subst h0; simp at h
    · exact h0
  rw [Nat.div_lt_iff_lt_mul hm]; exact h
theorem get_of_lt0 {β : Type} {l : List β} {a : Nat} (h : a < l.length) : ∃ x, l[a]? = some x := ⟨_, List.getElem?_eq_getElem h⟩
/-- A slice of such elements. -/
theorem St.slice {H' : Type} {enc : TypeId × Value → H'} {held : Bool} {fuel : Nat} {t e : TypeId} {cs : List Value} {x : DataW H' × List MemPlace} {T : Ty α} {ok : α → Prop} {b : Bt} {h : AH} {H : SH} (S : St W b h H) (hF : Flat P e T ok) (ht : P.underlying t = some (.slice e))
    (hr : DataW.trod enc P W 0 (fun _ => true) held fuel t cs = some x) : ∃ (v : Value) (sv : SV) (xs : List α) (c : Bt) (h' : AH) (L : SH), cs = [v] ∧ (∀ x ∈ xs, ok x) ∧ St W (b ++ c) h' (L ++ H) ∧ VR (b ++ c) W.shape? sv.toV v ∧ RD (L ++ H) sv.toV T xs := by
  have hes := hF.es
  rcases slice_block ht (by rw [hes]; exact hF.pos) hr with rfl | ⟨a, rfl⟩ | ⟨k, o, len, cap, arr, t', fr, n, rfl, hl, hm, hk, hb, hel⟩
  · exact ⟨_, .nil, [], [], h, [], rfl, by simp, by simpa using S, .scal rfl, RD.nil⟩
  · refine ⟨_, .mk h.next 0 0 T.es, [], [(0, 0)], h.push .dead, [.gone h.next], rfl, by simp, S.gone, .slice0, ?_⟩
    exact Rd.gone (List.mem_cons_self ..)
  · rw [hes] at hb hel
    have hQ : ∀ i, i < len → ∃ a : α, ok a ∧ ∀ j, j < T.es → arr[o + i * T.es + j]? = (T.enc a)[j]? := fun i hi => by
      obtain ⟨ci, y, h1, h2, h3⟩ := hel i hi
      obtain ⟨a, rfl, h4⟩ := hF.rd h3
      exact ⟨a, h4, h2⟩
    obtain ⟨xs, hxl, hx⟩ := build_list len hQ
    have hcl : (T.cells xs).length = len * T.es := by rw [T.cells_len, hxl]
    have hlc : len * T.es ≤ cap * T.es := Nat.mul_le_mul_right _ hl
    have hS := S.row (k := k) (s := o) (t := T.t) (c := T.cells xs) (cs := []) hk (T.cells_all xs) (by omega) (fun j v hj => by
      have hjl : j < len * T.es := by have := (List.getElem?_eq_some_iff.1 hj).1; omega
      have hd : j / T.es < len := div_mod_lt hjl
      obtain ⟨a, ha⟩ := get_of_lt0 (by omega : j / T.es < xs.length)
      have h2 := (hx _ a ha).2 (j % T.es) (Nat.mod_lt _ hF.pos)
      have e1 : j / T.es * T.es + j % T.es = j := by rw [Nat.mul_comm]; exact Nat.div_add_mod _ _
      have hat := T.cells_at ha (off := j % T.es) (n := 1) (by have := Nat.mod_lt j hF.pos; omega)
      have e2 : (T.cells xs)[j]? = (T.enc a)[j % T.es]? := by
        have h3 := congrArg (·[0]?) hat
        simp only [List.getElem?_take, List.getElem?_drop] at h3
        rw [e1] at h3
        simpa using h3
      rw [Nat.add_assoc, e1] at h2
      rw [e2] at hj
      rw [hj] at h2
      exact ⟨v, h2, .scal (List.all_eq_true.1 (hF.g a) v (List.mem_of_getElem? hj))⟩)
    refine ⟨_, .mk h.next 0 len T.es, xs, [(k, o)], _, [.ro h.next T.t (T.cells xs)], rfl, fun x hxm => ?_, hS, ?_, ?_⟩
    · obtain ⟨i, hi⟩ := List.getElem?_of_mem hxm
      exact (hx i x hi).1
    · have hlen := S.sim.len
      have := VR.slice (b := b ++ [(k, o)]) (S := W.shape?) (i := h.next) (off := 0) (len := len) (es := T.es) (k := k) (s := o) (cap := cap) (by rw [List.getElem?_append_right (by omega)]; simp [hlen]) hl (shape_of hk) (by omega)
      exact this
    · have : RD (.ro h.next T.t (T.cells xs) :: H) (.slice (some ⟨h.next, 0, none⟩) xs.length T.es) T xs := Rd.ro (List.mem_cons_self ..) (T.cells_len xs)
      rw [hxl] at this; exact this
/-- The law's walk: from the state ahead of the call. -/
theorem law_ok {F : Funs} {X : Exts} {pur : List FuncId} (OK : XOK P F X pur) (hF : FOK P pur F) {f : FuncId} {vs args : List Value} {b : Bt} {h : AH} {H : SH} (S : St W b h H) (hl : LR (VR b W.shape?) vs args) {v : Value} (hg : g1 v = true) (hw : WF F X f vs H (fun u _ => u = v)) :
    Calls P f args.toArray W (fun e w1 => e = .returned v ∧ Below W.heap.size W w1) := by
  obtain ⟨u, h', H', hrun, _, rfl⟩ := hw h S.hag
  obtain ⟨⟨_, hs⟩, _⟩ := sound OK hF hrun
  have := hs b W.heap.size W W args S.sim hl
  refine this.mono fun e w1 hp => ?_
  obtain ⟨c, v', rfl, hvr, _, HS⟩ := hp
  exact ⟨by rw [hvr.g1_inv hg], HS.bel⟩
end
end Go.Proofs.YtpgidiompdabdaaGreat.AM
namespace Go.Proofs.YtpgidiompdabdaaGreat.AM
open Go
section
variable {P : Program} {W : World} {H : Type} {enc : TypeId × Value → H} {base : Nat} {spare : Nat → Bool} {held : Bool} {fuel : Nat} {t : TypeId} {cs : List Value} {x : DataW H × List MemPlace}
theorem trod_int' {k : IntKind} (ht : P.underlying t = some (.int k)) (h : DataW.trod enc P W base spare held fuel t cs = some x) : ∃ n, cs = [.int k n] ∧ (Lit.int k n).wf = true := by
  cases fuel with
  | zero => simp [DataW.trod] at h
  | succ f =>
    unfold DataW.trod at h
    rw [ht] at h
    split at h <;> simp_all
theorem trod_bool' (ht : P.underlying t = some .bool) (h : DataW.trod enc P W base spare held fuel t cs = some x) : ∃ n, cs = [.bool n] := by
  cases fuel with
  | zero => simp [DataW.trod] at h
  | succ f =>
    unfold DataW.trod at h
    rw [ht] at h
    split at h <;> simp_all
theorem trod_str' (ht : P.underlying t = some .string) (h : DataW.trod enc P W base spare held fuel t cs = some x) : ∃ s, cs = [.string s] ∧ s.size ≤ maxLen := by
  cases fuel with
  | zero => simp [DataW.trod] at h
  | succ f =>
    unfold DataW.trod at h
    rw [ht] at h
    split at h <;> simp_all
theorem trod_struct' {fs : Array Field} (ht : P.underlying t = some (.struct fs)) (h : DataW.trod enc P W base spare held fuel t cs = some x) : cs.length = P.cellsOf t ∧ ∃ n, ∀ f ∈ fs.toList, ∃ y, DataW.trod enc P W base spare held n f.type ((cs.drop f.offset).take (P.cellsOf f.type)) = some y := by
  cases fuel with
  | zero => simp [DataW.trod] at h
  | succ n =>
    unfold DataW.trod at h
    rw [ht] at h
    split at h <;> simp_all
    obtain ⟨hc, y, hy, _⟩ := h
    refine ⟨n, fun f hf => ?_⟩
    obtain ⟨i, hi⟩ := List.getElem?_of_mem (Array.mem_toList_iff.2 hf)
    obtain ⟨y1, h1, _⟩ := (mapM_some hy).2 i f hi
    rcases y1 with ⟨a, b⟩
    exact ⟨a, b, h1⟩
end
end Go.Proofs.YtpgidiompdabdaaGreat.AM
namespace Go.Proofs.YtpgidiompdabdaaGreat.AM
open Go
section
variable {P : Program} {W : World} {α : Type}
theorem lr_snoc {b c : Bt} {svs : List SV} {arr : Array Value} {o : Nat} {sv : SV} {v : Value} (h : ∀ i s, svs[i]? = some s → ∃ v', arr[o + i]? = some v' ∧ VR b W.shape? s.toV v') (hv : arr[o + svs.length]? = some v) (hr : VR (b ++ c) W.shape? sv.toV v) :
    ∀ i s, (svs ++ [sv])[i]? = some s → ∃ v', arr[o + i]? = some v' ∧ VR (b ++ c) W.shape? s.toV v' := by
  intro i s hs
  by_cases hi : i < svs.length
  · rw [List.getElem?_append_left hi] at hs
    obtain ⟨v', h1, h2⟩ := h i s hs
    exact ⟨v', h1, h2.pre⟩
  · have hlt := (List.getElem?_eq_some_iff.1 hs).1
    simp at hlt
    have : i = svs.length := by omega
    subst this
    rw [List.getElem?_append_right (Nat.le_refl _), Nat.sub_self] at hs
    simp at hs; subst hs
    exact ⟨v, hv, hr⟩
/-- Several slices, one behind the other. -/
theorem St.many {H' : Type} {enc : TypeId × Value → H'} {held : Bool} {n : Nat} {t1 e : TypeId} {T : Ty α} {ok : α → Prop} (hF : Flat P e T ok) (ht1 : P.underlying t1 = some (.slice e)) {b : Bt} {h : AH} {H : SH} (S : St W b h H) {arr : Array Value} {o : Nat} : ∀ (m : Nat), (∀ i, i < m → ∃ v y, arr[o + i]? = some v ∧ DataW.trod enc P W 0 (fun _ => true) held n t1 [v] = some y) →
    ∃ (svs : List SV) (ls : List (List α)) (c : Bt) (h' : AH) (L : SH), svs.length = m ∧ ls.length = m ∧ (∀ l ∈ ls, ∀ x ∈ l, ok x) ∧ St W (b ++ c) h' (L ++ H) ∧ (∀ i s, svs[i]? = some s → ∃ v', arr[o + i]? = some v' ∧ VR (b ++ c) W.shape? s.toV v') ∧ ∀ (i : Nat) (sv : SV) (l : List α), svs[i]? = some sv → ls[i]? = some l → RD (L ++ H) sv.toV T l
  | 0, _ => ⟨[], [], [], h, [], rfl, rfl, by simp, by simpa using S, by simp, by simp⟩
  | m + 1, hm => by
    obtain ⟨svs, ls, c, h', L, e1, e2, e3, S1, e4, e5⟩ := St.many hF ht1 S m (fun i hi => hm i (by omega))
    obtain ⟨v, y, hv, hy⟩ := hm m (by omega)
    obtain ⟨u, sv, xs, c2, h2, L2, hu, hok, S2, hvr, hrd⟩ := S1.slice hF ht1 hy
    have hu' : v = u := by simpa using hu
    subst hu'
    refine ⟨svs ++ [sv], ls ++ [xs], c ++ c2, h2, L2 ++ L, by simp [e1], by simp [e2], ?_, by rw [← List.append_assoc, List.append_assoc L2]; exact S2, ?_, ?_⟩
    · intro l hl
      rcases List.mem_append.1 hl with hl | hl
      · exact e3 l hl
      · simp at hl; subst hl; exact hok
    · rw [← List.append_assoc]
      exact lr_snoc e4 (by rw [e1]; exact hv) hvr
    · intro i s l hs hl
      rw [List.append_assoc]
      by_cases hi : i < svs.length
      · rw [List.getElem?_append_left hi] at hs
        rw [List.getElem?_append_left (by omega)] at hl
        exact (e5 i s l hs hl).app
      · have hlt := (List.getElem?_eq_some_iff.1 hs).1
        simp at hlt
        have : i = svs.length := by omega
        subst this
        rw [List.getElem?_append_right (Nat.le_refl _), Nat.sub_self] at hs
        rw [List.getElem?_append_right (by omega), show svs.length - ls.length = 0 by omega] at hl
        simp at hs hl; subst hs hl
        exact hrd
theorem St.slices {H' : Type} {enc : TypeId × Value → H'} {held : Bool} {fuel : Nat} {t t1 e : TypeId} {cs : List Value} {x : DataW H' × List MemPlace} {T : Ty α} {TS : Ty SV} {ok : α → Prop} {b : Bt} {h : AH} {H : SH} (S : St W b h H) (hF : Flat P e T ok) (hTS : TS.es = 1) (hTe : TS.enc = fun w => [w.toV]) (ht : P.underlying t = some (.slice t1)) (ht1 : P.underlying t1 = some (.slice e)) (hc1 : P.cellsOf t1 = 1)
    (hr : DataW.trod enc P W 0 (fun _ => true) held fuel t cs = some x) : ∃ (v : Value) (sv : SV) (svs : List SV) (ls : List (List α)) (c : Bt) (h' : AH) (L : SH), cs = [v] ∧ (∀ l ∈ ls, ∀ x ∈ l, ok x) ∧ St W (b ++ c) h' (L ++ H) ∧ VR (b ++ c) W.shape? sv.toV v ∧ RD (L ++ H) sv.toV TS svs ∧ svs.length = ls.length ∧ ∀ (i : Nat) (sv : SV) (l : List α), svs[i]? = some sv → ls[i]? = some l → RD (L ++ H) sv.toV T l := by
  rcases slice_block ht (by rw [hc1]; exact Nat.one_pos) hr with rfl | ⟨a, rfl⟩ | ⟨k, o, len, cap, arr, t', fr, n, rfl, hl, hm, hk, hb, hel⟩
  · exact ⟨_, .nil, [], [], [], h, [], rfl, by simp, by simpa using S, .scal rfl, RD.nil, rfl, by simp⟩
  · refine ⟨_, .mk h.next 0 0 TS.es, [], [], [(0, 0)], h.push .dead, [.gone h.next], rfl, by simp, S.gone, .slice0, ?_, rfl, by simp⟩
    exact Rd.gone (List.mem_cons_self ..)
  · rw [hc1] at hb hel
    obtain ⟨svs, ls, c, h', L, e1, e2, e3, S1, e4, e5⟩ := St.many hF ht1 S len (arr := arr) (o := o) (fun i hi => by
      obtain ⟨ci, y, h1, h2, h3⟩ := hel i hi
      obtain ⟨v, rfl⟩ : ∃ v, ci = [v] := by
        match ci, h1 with
        | [v], _ => exact ⟨v, rfl⟩
      have := h2 0 (by omega)
      exact ⟨v, y, by simpa using this, h3⟩)
    have hcl : TS.cells svs = svs.map SV.toV := by rw [Ty.cells, hTe, flatMap_one]
    have hS := S1.row (k := k) (s := o) (t := TS.t) (c := TS.cells svs) (cs := []) hk (TS.cells_all svs) (by rw [hcl, List.length_map, e1]; omega) (fun j v hj => by
      rw [hcl, List.getElem?_map] at hj
      cases hs : svs[j]? with
      | none => rw [hs] at hj; cases hj
      | some s => rw [hs] at hj; simp at hj; subst hj; exact e4 j s hs)
    refine ⟨_, .mk h'.next 0 len TS.es, svs, ls, c ++ [(k, o)], _, .ro h'.next TS.t (TS.cells svs) :: L, rfl, e3, by rw [← List.append_assoc]; exact hS, ?_, ?_, by rw [e1, e2], fun i s l h1 h2 => (e5 i s l h1 h2).tail⟩
    · have hlen := S1.sim.len
      have := VR.slice (b := (b ++ c) ++ [(k, o)]) (S := W.shape?) (i := h'.next) (off := 0) (len := len) (es := TS.es) (k := k) (s := o) (cap := cap) (by rw [List.getElem?_append_right (by omega)]; simp [hlen]) hl (shape_of hk) (by rw [hTS]; omega)
      rw [← List.append_assoc]; exact this
    · have : RD (.ro h'.next TS.t (TS.cells svs) :: (L ++ H)) (.slice (some ⟨h'.next, 0, none⟩) svs.length TS.es) TS svs := Rd.ro (List.mem_cons_self ..) (TS.cells_len svs)
      rw [e1] at this; exact this
/-- A struct without addresses. -/
theorem open_flat {H' : Type} {enc : TypeId × Value → H'} {base : Nat} {t : TypeId} {fs : Array Field} {v : Value} {d : DataW H'} {p : List MemPlace} {T : Ty α} {ok : α → Prop} (hF : Flat P t T ok) (hT : ∀ a, T.val a = .agg (T.enc a).toArray) (ht : P.underlying t = some (.struct fs)) (hv : Value.okWide P W .any base t v)
    (h : DataW.Trod enc P W 0 (fun _ => true) true t v d p) : ∃ a, v = T.val a ∧ ok a := by
  unfold Value.okWide at hv
  rw [ht] at hv
  obtain ⟨cs, rfl, _⟩ := hv
  obtain ⟨fuel, hf⟩ := h
  obtain ⟨a, ha, hok⟩ := hF.rd hf
  refine ⟨a, ?_, hok⟩
  rw [hT, ← ha]
  simp [Value.cells]
end
end Go.Proofs.YtpgidiompdabdaaGreat.AM
