/- Rules for appends, copies, stores into slices, strings. -/
import Derived.Test.YtpgidiompdabdaaGreatAmW
namespace Go.Proofs.YtpgidiompdabdaaGreat.AM
open Go
set_option linter.unusedSimpArgs false
set_option linter.unusedVariables false
section
variable {l : SE} {H H0 : SH} {K : Value → SH → Prop} {α : Type}
/-- What can be appended or copied: n elements. -/
def Src (H : SH) (v : Value) (es n : Nat) (cs : List Value) : Prop := ∀ h, HAg H h → lenV v = some n ∧ ∀ k, k ≤ n → k ≠ 0 → firstOf h es k v = some (cs.take (k * es))
def SRC (H : SH) (v : Value) (T : Ty α) (ys : List α) : Prop := Src H v T.es ys.length (T.cells ys)
theorem Rd.src {v : Value} {es n : Nat} {cs : List Value} (hr : Rd H v es n cs) : Src H v es n cs := fun h hh => by
  rcases hr.2 h hh with ⟨ro, t, h0, h1⟩ | ⟨rfl, rfl, i, o, rfl, _⟩
  rotate_left
  · exact ⟨rfl, fun k hk hk0 => by omega⟩
  rcases h1 with ⟨rfl, rfl⟩ | ⟨i, o, c, rfl, h1, h2, h3, h4⟩
  · exact ⟨rfl, fun k hk hk0 => by omega⟩
  · refine ⟨rfl, fun k hk hk0 => ?_⟩
    have hm : k * es ≤ n * es := Nat.mul_le_mul_right _ hk
    simp only [firstOf, rowAt_of h1 h2]
    rw [if_pos ⟨trivial, hk⟩, if_pos (by omega)]
    have := win_at (a := 0) h4 (by omega : 0 + k * es ≤ n * es)
    rw [Nat.add_zero, List.drop_zero] at this
    rw [this]
theorem RD.src {v : Value} {T : Ty α} {ys : List α} (hr : RD H v T ys) : SRC H v T ys := Rd.src hr
theorem flatMap_one {β γ : Type} (f : β → γ) : ∀ l : List β, l.flatMap (fun x => [f x]) = l.map f
  | [] => rfl
  | x :: l => by rw [List.flatMap_cons, flatMap_one f l]; rfl
/-- Bytes. -/
def encByte (b : UInt8) : Value := .int .u8 b.toNat
theorem SRC.str {s : ByteArray} {T : Ty UInt8} (he : T.es = 1) (hc : T.enc = fun b => [encByte b]) : SRC H (.string s) T s.data.toList := fun h hh => by
  refine ⟨by simp [lenV], fun k hk hk0 => ?_⟩
  simp only [firstOf, he]
  rw [if_pos ⟨trivial, by simpa using hk⟩]
  congr 1
  rw [Nat.mul_one, Ty.cells, hc]
  rw [flatMap_one, ← List.map_take]; rfl
/-- Is a value a part of a slice? -/
def SubOf (d s : Value) (es lo n : Nat) : Prop := (s = .slice none 0 0 → d = .slice none 0 0) ∧ ∀ i o m, s = .slice (some ⟨i, o, none⟩) m es → d = .slice (some ⟨i, o + lo * es, none⟩) n es
theorem SubOf.mk {s : Value} {es lo n : Nat} : SubOf (subSl s es lo n) s es lo n := ⟨fun h => by subst h; rfl, fun i o m h => by subst h; rfl⟩
theorem SubOf.again {d s : Value} {es lo n lo' n' : Nat} (h : SubOf d s es lo n) : SubOf (subSl d es lo' n') s es (lo + lo') n' := ⟨fun e => by rw [h.1 e]; rfl, fun i o m e => by rw [h.2 i o m e]; simp only [subSl]; rw [Nat.add_mul, Nat.add_assoc]⟩
theorem SubOf.window {h : AH} {ro : Bool} {t : TypeId} {d s : Value} {es m : Nat} {cs : List Value} {lo n : Nat} (hs : SubOf d s es lo n) (hw : Window h ro t s es m cs) (hl : lo + n ≤ m) : d = subSl s es lo n := by
  rcases hw.2 with ⟨rfl, rfl⟩ | ⟨i, o, c, rfl, _⟩
  · exact hs.1 rfl
  · exact hs.2 _ _ _ rfl
theorem SubOf.self {h : AH} {ro : Bool} {t : TypeId} {s : Value} {es m : Nat} {cs : List Value} (hw : Window h ro t s es m cs) : SubOf s s es 0 m := by
  rcases hw.2 with ⟨rfl, rfl⟩ | ⟨i, o, c, rfl, _⟩
  · exact ⟨fun _ => rfl, fun _ _ _ h => by cases h⟩
  · refine ⟨fun h => (by cases h), fun _ _ _ h => ?_⟩
    cases h; simp
theorem HAg.kill {h : AH} {r : Res} (hh : HAg (r :: H0) h) {i : Nat} (hf : r.foot = [i]) {o0 : AObj} (h0 : h.get i = some o0) (hrw : rw? o0 = true) : HAg H0 (h.put i .dead) := by
  have hnd := hh.2
  rw [List.flatMap_cons, hf] at hnd
  have hni := (List.nodup_cons.1 hnd).1
  refine ⟨fun q hq => ?_, (List.nodup_cons.1 hnd).2⟩
  refine Res.holds_frame (h := h) (h' := h.put i .dead) (i := i) (Nat.le_refl _) (fun j _ hne => AH.get_put_ne h .dead (Ne.symm hne)) (hh.1 q (List.mem_cons_of_mem _ hq)) (fun hm => hni (List.mem_flatMap.2 ⟨q, hq, hm⟩)) ⟨fun j t c e => ?_, fun j e => ?_⟩
  · have := hh.1 q (List.mem_cons_of_mem _ hq)
    subst e
    rintro rfl
    rw [this.2] at h0; cases h0; cases hrw
  · have := hh.1 q (List.mem_cons_of_mem _ hq)
    subst e
    rintro rfl
    rw [this.2] at h0; cases h0; cases hrw
theorem Ty.cells_nil (T : Ty α) : T.cells [] = [] := rfl
theorem S_appD {t : TypeId} {es bytes lo n : Nat} {x y : Opd} {d s v : Value} {T : Ty α} {xs ys : List α} (hx : x.lv l = some d) (hy : y.lv l = some v) (hp : Pick (SL s T xs) H H0) (hd : d = AM.subSl s T.es lo n) (hl : lo + n ≤ xs.length) (hr : SRC H v T ys) (he : es = T.es) (ht : t = T.t)
    (hsz : (n + ys.length) * bytes ≤ 140737488355328) (k : ∀ w : SV, K w.toV (SL w.toV T ((xs.drop lo).take n ++ ys) :: H0)) : Step (.app t es bytes x y) l H K :=
  fun e h hA hH => by
    subst he ht
    have hH' := hH.perm hp.perm
    have hw0 : Window h false T.t s T.es xs.length (T.cells xs) := hH'.1 _ (List.mem_cons_self ..)
    have hHd : HAg (.sl d T.t T.es n (T.cells ((xs.drop lo).take n)) :: H0) h := by
      have := hH'.recut hl
      rwa [T.cells_drop, T.cells_take, ← hd] at this
    have hlen : ((xs.drop lo).take n).length = n := by rw [List.length_take, List.length_drop]; omega
    have hw : Window h false T.t d T.es n (T.cells ((xs.drop lo).take n)) := hHd.1 _ (List.mem_cons_self ..)
    obtain ⟨hn, hf⟩ := hr h hH
    by_cases h0 : ys.length = 0
    · have hys : ys = [] := List.length_eq_zero_iff.1 h0
      subst hys
      have hdv : ∃ w : SV, d = w.toV := by
        rcases hw.2 with ⟨e1, e2⟩ | ⟨i, o, c, e1, _⟩
        · exact ⟨.nil, e1⟩
        · exact ⟨.mk i o n T.es, e1⟩
      obtain ⟨w, hdw⟩ := hdv
      refine ⟨d, h, SL d T ((xs.drop lo).take n ++ []) :: H0, ?_, by rw [List.append_nil]; show HAg (.sl d T.t T.es _ _ :: H0) h; rw [hlen]; exact hHd, by rw [hdw]; exact k w⟩
      simp only [ev, Opd.lv_ev hA hx, Opd.lv_ev hA hy, hn]
      rcases hw.2 with ⟨e1, e2⟩ | ⟨i, o, c, e1, _⟩ <;> rw [e1] <;> rfl
    · have hf' := hf ys.length (Nat.le_refl _) h0
      rw [← T.cells_len, List.take_length] at hf'
      rcases hw.2 with ⟨e1, e2⟩ | ⟨i, o, c, e1, h1, h2, h3, h4⟩
      · subst e1 e2
        have hz : (xs.drop lo).take 0 = [] := rfl
        refine ⟨_, _, _, by simp only [ev, Opd.lv_ev hA hx, Opd.lv_ev hA hy, hn]; rw [if_neg h0, hf']; simp only []; rw [if_pos (by rw [Nat.zero_add] at hsz; exact hsz)]; rfl, ?_, k (.mk h.next 0 ys.length T.es)⟩
        have hb : HAg H0 h := hHd.tail
        refine hb.add (.row false T.t (T.cells ys)) (r := SL (.slice (some ⟨h.next, 0, none⟩) ys.length T.es) T ([] ++ ys)) ⟨T.cells_len _, .inr ⟨h.next, 0, T.cells ys, rfl, Nat.lt_succ_self _, AH.get_push_same _ _, by rw [T.cells_len]; simp, by rw [List.drop_zero, List.nil_append, ← T.cells_len, List.take_length]⟩⟩ rfl
      · subst e1
        refine ⟨_, _, _, by simp only [ev, Opd.lv_ev hA hx, Opd.lv_ev hA hy, hn]; rw [if_neg h0, hf']; simp only [rowAt_of h1 h2]; rw [if_pos ⟨trivial, trivial, h3, hsz⟩, h4]; rfl, ?_, k (.mk h.next 0 (n + ys.length) T.es)⟩
        have hb : HAg H0 (h.put i .dead) := hHd.kill rfl h2 rfl
        refine hb.add (.row false T.t (T.cells ((xs.drop lo).take n) ++ T.cells ys)) (r := SL (.slice (some ⟨h.next, 0, none⟩) (n + ys.length) T.es) T ((xs.drop lo).take n ++ ys)) ?_ rfl
        refine ⟨T.cells_len _, .inr ⟨h.next, 0, _, ?_, Nat.lt_succ_self _, AH.get_push_same _ _, ?_, ?_⟩⟩
        · rw [List.length_append, hlen]
        · rw [← T.cells_app, T.cells_len]; simp
        · rw [List.drop_zero, ← T.cells_app, ← T.cells_len, List.take_length]
theorem S_app {t : TypeId} {es bytes : Nat} {x y : Opd} {s v : Value} {T : Ty α} {xs ys : List α} (hx : x.lv l = some s) (hy : y.lv l = some v) (hp : Pick (SL s T xs) H H0) (hr : SRC H v T ys) (he : es = T.es) (ht : t = T.t)
    (hsz : (xs.length + ys.length) * bytes ≤ 140737488355328) (k : ∀ w : SV, K w.toV (SL w.toV T (xs ++ ys) :: H0)) : Step (.app t es bytes x y) l H K := by
  intro e h hA hH
  have hw0 : Window h false T.t s T.es xs.length (T.cells xs) := (hH.perm hp.perm).1 _ (List.mem_cons_self ..)
  have hd : s = AM.subSl s T.es 0 xs.length := (SubOf.self hw0).window hw0 (by omega)
  refine S_appD (lo := 0) (n := xs.length) hx hy hp hd (by omega) hr he ht hsz (fun w => ?_) e h hA hH
  rw [List.drop_zero, List.take_length]; exact k w
/-- An append to nil. -/
theorem S_appN {t : TypeId} {es bytes : Nat} {x y : Opd} {v : Value} {T : Ty α} {ys : List α} (hx : x.lv l = some (.slice none 0 0)) (hy : y.lv l = some v) (hr : SRC H v T ys) (he : es = T.es) (ht : t = T.t)
    (hsz : ys.length * bytes ≤ 140737488355328) (k : ∀ w : SV, K w.toV (SL w.toV T ys :: H)) : Step (.app t es bytes x y) l H K := by
  intro e h hA hH
  have hN : HAg (SL (.slice none 0 0) T [] :: H) h := by
    refine ⟨fun r hr => ?_, by rw [List.flatMap_cons]; exact hH.2⟩
    rcases List.mem_cons.1 hr with rfl | hr
    · exact ⟨by simp [Ty.cells], .inl ⟨rfl, rfl⟩⟩
    · exact hH.1 r hr
  exact S_app (H0 := H) (xs := []) hx hy .head (fun a ha => hr a ha.tail) he ht (by simpa using hsz) (fun w => by simpa using k w) e h hA hN
theorem splice_mid {P M S vs : List Value} {off : Nat} (hb : off + vs.length ≤ M.length) : splice (P ++ M ++ S) (P.length + off) vs = P ++ splice M off vs ++ S := by
  unfold splice
  rw [List.append_assoc P M S, List.take_length_add_append, List.take_append_of_le_length (by omega)]
  have : P.length + off + vs.length = P.length + (off + vs.length) := by omega
  rw [this, List.drop_length_add_append, List.drop_append_of_le_length hb]
  simp [List.append_assoc]
theorem splice_len {c vs : List Value} {off : Nat} (hb : off + vs.length ≤ c.length) : (splice c off vs).length = c.length := by
  unfold splice; simp only [List.length_append, List.length_take, List.length_drop]; omega
theorem Ty.cells_set (T : Ty α) {xs : List α} {j : Nat} {x y : α} (hx : xs[j]? = some x) {off : Nat} {vs : List Value} (hy : T.enc y = splice (T.enc x) off vs) (hb : off + vs.length ≤ T.es) : splice (T.cells xs) (j * T.es + off) vs = T.cells (xs.set j y) := by
  obtain ⟨hlt, he⟩ := List.getElem?_eq_some_iff.1 hx
  have e1 : xs = xs.take j ++ [x] ++ xs.drop (j + 1) := by rw [← he]; simp
  have e2 : xs.set j y = xs.take j ++ [y] ++ xs.drop (j + 1) := by rw [List.set_eq_take_append_cons_drop]; simp [hlt]
  have e3 : (T.cells (xs.take j)).length = j * T.es := by rw [T.cells_len, List.length_take]; congr 1; omega
  have e4 : T.cells xs = T.cells (xs.take j) ++ T.enc x ++ T.cells (xs.drop (j + 1)) := by
    conv => lhs; rw [e1]
    rw [T.cells_app, T.cells_app]; simp [Ty.cells]
  rw [e2, T.cells_app, T.cells_app, e4, ← e3, splice_mid (by rw [T.len]; exact hb), ← hy]
  simp [Ty.cells]
theorem win_splice {c cs vs : List Value} {o n es a : Nat} (hb : o + n * es ≤ c.length) (hw : (c.drop o).take (n * es) = cs) (hv : a + vs.length ≤ n * es) : ((splice c (o + a) vs).drop o).take (n * es) = splice cs a vs := by
  have hcl : cs.length = n * es := by rw [← hw, List.length_take, List.length_drop]; omega
  have e : c = c.take o ++ cs ++ c.drop (o + n * es) := by
    rw [← hw]
    conv => lhs; rw [← List.take_append_drop o c, ← List.take_append_drop (n * es) (c.drop o)]
    rw [List.drop_drop]; simp
  have e1 : (c.take o).length = o := by rw [List.length_take]; omega
  have e2 : splice c (o + a) vs = c.take o ++ splice cs a vs ++ c.drop (o + n * es) := by
    have := splice_mid (P := c.take o) (M := cs) (S := c.drop (o + n * es)) (vs := vs) (off := a) (by omega)
    rw [e1, ← e] at this; exact this
  have hsl : (splice cs a vs).length = n * es := by rw [splice_len (by omega)]; exact hcl
  rw [e2, List.append_assoc]
  have h1 : (c.take o ++ (splice cs a vs ++ c.drop (o + n * es))).drop o = splice cs a vs ++ c.drop (o + n * es) := by
    have := List.drop_left (l₁ := c.take o) (l₂ := splice cs a vs ++ c.drop (o + n * es))
    rwa [e1] at this
  rw [h1]
  have := List.take_left (l₁ := splice cs a vs) (l₂ := c.drop (o + n * es))
  rwa [hsl] at this
/-- The part of a row that a slice shows is written. -/
theorem HAg.rewrite {h : AH} {s : Value} {t : TypeId} {es n : Nat} {cs cs' : List Value} (hH : HAg (.sl s t es n cs :: H0) h) {i o m : Nat} {c c' : List Value} (hs : s = .slice (some ⟨i, o, none⟩) m es) (hg : h.get i = some (.row false t c)) (hl : c'.length = c.length) (hb : o + n * es ≤ c.length) (hc : (c'.drop o).take (n * es) = cs') (hm : m = n) :
    HAg (.sl s t es n cs' :: H0) (h.put i (.row false t c')) := by
  subst hs hm
  refine HAg.write hH rfl hg rfl rfl ?_
  have hw : Window h false t _ es m cs := hH.1 _ (List.mem_cons_self ..)
  refine ⟨by rw [← hc, List.length_take, List.length_drop]; omega, .inr ⟨i, o, c', rfl, ?_, AH.get_put_same _ _ _, by omega, hc⟩⟩
  rcases hw.2 with ⟨e1, _⟩ | ⟨i', o', c0, e1, h1, _⟩
  · cases e1
  · cases e1; exact h1
theorem S_storeD {n es j lo m off : Nat} {a x : Opd} {p d s v : Value} {T : Ty α} {xs : List α} {z y : α} (ha : a.lv l = some p) (hpp : p = padd (elemPtr d es j) off ∨ p = elemPtr d es j ∧ off = 0) (hx : x.lv l = some v) (hp : Pick (SL s T xs) H H0) (hd : d = AM.subSl s T.es lo m) (hj : j < m) (hl : lo + m ≤ xs.length) (he : es = T.es) (hz : xs[lo + j]? = some z) (hn : (cells v).length = n) (hb : off + n ≤ T.es) (ho : (cells v).all one = true) (hy : T.enc y = splice (T.enc z) off (cells v))
    (k : K undef (SL s T (xs.set (lo + j) y) :: H0)) : Step (.store n a x) l H K :=
  fun e h hA hH => by
    subst he hn
    have hH' := hH.perm hp.perm
    have hw0 : Window h false T.t s T.es xs.length (T.cells xs) := hH'.1 _ (List.mem_cons_self ..)
    rcases hw0.2 with ⟨e1, e2⟩ | ⟨i, o, c, e1, h1, h2, h3, h4⟩
    · omega
    · obtain ⟨hlt, _⟩ := List.getElem?_eq_some_iff.1 hz
      have hm : (lo + j) * T.es + T.es ≤ xs.length * T.es := by rw [← Nat.succ_mul]; exact Nat.mul_le_mul_right _ hlt
      have ep : p = .pointer (some ⟨i, o + ((lo + j) * T.es + off), none⟩) := by
        subst e1
        simp only [AM.subSl] at hd
        subst hd
        rcases hpp with rfl | ⟨rfl, rfl⟩
        · simp only [elemPtr, padd]; rw [Nat.add_mul]; congr 3; omega
        · simp only [elemPtr]; rw [Nat.add_mul]; congr 3; omega
      have hlen : (T.cells (xs.set (lo + j) y)).length = (T.cells xs).length := by rw [T.cells_len, T.cells_len, List.length_set]
      refine ⟨_, _, _, by simp only [ev, Opd.lv_ev hA ha, Opd.lv_ev hA hx, ep, rowAt_of h1 h2]; rw [if_pos ⟨trivial, by omega, ho⟩], ?_, k⟩
      have := hH'.rewrite (cs' := T.cells (xs.set (lo + j) y)) (c' := splice c (o + ((lo + j) * T.es + off)) (cells v)) e1 h2 (splice_len (by omega)) h3 (by rw [win_splice h3 h4 (by omega), T.cells_set hz hy hb]) rfl
      show HAg (.sl s T.t T.es _ _ :: H0) _
      rw [List.length_set]
      exact this
theorem S_storeE {n es j off : Nat} {a x : Opd} {p s v : Value} {T : Ty α} {xs : List α} {z y : α} (ha : a.lv l = some p) (hpp : p = padd (elemPtr s es j) off ∨ p = elemPtr s es j ∧ off = 0) (hx : x.lv l = some v) (hp : Pick (SL s T xs) H H0) (he : es = T.es) (hz : xs[j]? = some z) (hn : (cells v).length = n) (hb : off + n ≤ T.es) (ho : (cells v).all one = true) (hy : T.enc y = splice (T.enc z) off (cells v))
    (k : K undef (SL s T (xs.set j y) :: H0)) : Step (.store n a x) l H K := by
  intro e h hA hH
  have hw0 : Window h false T.t s T.es xs.length (T.cells xs) := (hH.perm hp.perm).1 _ (List.mem_cons_self ..)
  have hd : s = AM.subSl s T.es 0 xs.length := (SubOf.self hw0).window hw0 (by omega)
  obtain ⟨hlt, _⟩ := List.getElem?_eq_some_iff.1 hz
  refine S_storeD (lo := 0) (m := xs.length) (j := j) ha hpp hx hp hd hlt (by omega) he (by rw [Nat.zero_add]; exact hz) hn hb ho hy ?_ e h hA hH
  rw [Nat.zero_add]; exact k
/-- A whole element is stored. -/
theorem splice_all {a b : List Value} (h : b.length = a.length) : splice a 0 b = b := by
  unfold splice; rw [List.take_zero, List.nil_append, Nat.zero_add, h, List.drop_length, List.append_nil]
theorem S_storeW {n es j : Nat} {a x : Opd} {s v : Value} {T : Ty α} {xs : List α} {y : α} (ha : a.lv l = some (elemPtr s es j)) (hx : x.lv l = some v) (hp : Pick (SL s T xs) H H0) (he : es = T.es) (hv : v = T.val y) (hn : n = T.es) (hj : j < xs.length)
    (k : K undef (SL s T (xs.set j y) :: H0)) : Step (.store n a x) l H K := by
  subst hv hn
  have e := T.hcells y
  exact S_storeE (z := xs[j]) ha (.inr ⟨rfl, rfl⟩) hx hp he (List.getElem?_eq_getElem hj) (by rw [e, T.len]) (by omega) (by rw [e]; exact T.ones y) (by rw [e, splice_all (by rw [T.len, T.len])]) k
theorem S_copyD {es lo m : Nat} {x y : Opd} {d s v : Value} {T : Ty α} {xs ys : List α} (hx : x.lv l = some d) (hy : y.lv l = some v) (hp : Pick (SL s T xs) H H0) (hd : d = AM.subSl s T.es lo m) (hl : lo + m ≤ xs.length) (hr : SRC H v T ys) (he : es = T.es)
    (k : K (.int .i64 (min ys.length m : Nat)) (SL s T (xs.take lo ++ ys.take (min ys.length m) ++ xs.drop (lo + min ys.length m)) :: H0)) : Step (.copy es x y) l H K :=
  fun e h hA hH => by
    subst he
    have hH' := hH.perm hp.perm
    have hw0 : Window h false T.t s T.es xs.length (T.cells xs) := hH'.1 _ (List.mem_cons_self ..)
    obtain ⟨hn, hf⟩ := hr h hH
    rcases hw0.2 with ⟨e1, e2⟩ | ⟨i, o, c, e1, h1, h2, h3, h4⟩
    · have hm : m = 0 := by omega
      subst e1 hm
      have hxs : xs = [] := List.length_eq_zero_iff.1 e2
      subst hxs
      simp only [AM.subSl] at hd
      subst hd
      refine ⟨_, h, _, by simp only [ev, Opd.lv_ev hA hx, Opd.lv_ev hA hy, hn, Nat.min_zero]; rfl, ?_, k⟩
      simpa using hH'
    · subst e1
      simp only [AM.subSl] at hd
      subst hd
      by_cases h0 : min ys.length m = 0
      · refine ⟨_, h, _, by simp only [ev, Opd.lv_ev hA hx, Opd.lv_ev hA hy, hn]; rw [if_pos h0], ?_, by rw [h0] at k; exact k⟩
        simp only [List.take_zero, List.append_nil, Nat.add_zero, List.take_append_drop]; exact hH'
      · have hf' := hf (min ys.length m) (Nat.min_le_left _ _) h0
        rw [T.cells_take] at hf'
        have hyl : (ys.take (min ys.length m)).length = min ys.length m := by rw [List.length_take]; omega
        have hm : (lo + min ys.length m) * T.es ≤ xs.length * T.es := Nat.mul_le_mul_right _ (by omega)
        have hm' := hm
        rw [Nat.add_mul] at hm'
        refine ⟨_, _, _, by simp only [ev, Opd.lv_ev hA hx, Opd.lv_ev hA hy, hn]; rw [if_neg h0, hf', rowAt_of h1 h2]; simp only []; rw [if_pos ⟨trivial, by omega⟩], ?_, k⟩
        have e2 : splice (T.cells xs) (lo * T.es) (T.cells (ys.take (min ys.length m))) = T.cells (xs.take lo ++ ys.take (min ys.length m) ++ xs.drop (lo + min ys.length m)) := by
          unfold splice
          rw [T.cells_take, T.cells_len, hyl, ← Nat.add_mul, T.cells_drop, ← T.cells_app, ← T.cells_app]
        have := hH'.rewrite (cs' := T.cells (xs.take lo ++ ys.take (min ys.length m) ++ xs.drop (lo + min ys.length m))) (c' := splice c (o + lo * T.es) (T.cells (ys.take (min ys.length m)))) rfl h2 (splice_len (by rw [T.cells_len, hyl]; omega)) h3 (by rw [win_splice h3 h4 (by rw [T.cells_len, hyl]; omega), e2]) rfl
        have hle : (xs.take lo ++ ys.take (min ys.length m) ++ xs.drop (lo + min ys.length m)).length = xs.length := by simp only [List.length_append, List.length_take, List.length_drop]; omega
        show HAg (.sl _ T.t T.es _ _ :: H0) _
        rw [hle]; exact this
theorem S_clearD {lo m : Nat} {x : Opd} {zs : List Value} {d s : Value} {T : Ty α} {xs : List α} {z : α} (hx : x.lv l = some d) (hp : Pick (SL s T xs) H H0) (hd : d = AM.subSl s T.es lo m) (hl : lo + m ≤ xs.length) (hz : zs = T.enc z)
    (k : K (.tuple #[]) (SL s T (xs.take lo ++ List.replicate m z ++ xs.drop (lo + m)) :: H0)) : Step (.clear zs x) l H K :=
  fun e h hA hH => by
    subst hz
    have hH' := hH.perm hp.perm
    have hw0 : Window h false T.t s T.es xs.length (T.cells xs) := hH'.1 _ (List.mem_cons_self ..)
    have er : (List.replicate m (T.enc z)).flatten = T.cells (List.replicate m z) := by simp [Ty.cells, List.flatMap_def]
    rcases hw0.2 with ⟨e1, e2⟩ | ⟨i, o, c, e1, h1, h2, h3, h4⟩
    · have hm : m = 0 := by omega
      subst e1 hm
      simp only [AM.subSl] at hd
      subst hd
      refine ⟨_, h, _, by simp only [ev, Opd.lv_ev hA hx], ?_, k⟩
      simpa using hH'
    · subst e1
      simp only [AM.subSl] at hd
      subst hd
      by_cases h0 : m = 0
      · subst h0
        refine ⟨_, h, _, by simp only [ev, Opd.lv_ev hA hx]; rw [if_pos trivial], ?_, k⟩
        simpa using hH'
      · have hm : (lo + m) * T.es ≤ xs.length * T.es := Nat.mul_le_mul_right _ (by omega)
        have hm' := hm
        rw [Nat.add_mul] at hm'
        refine ⟨_, _, _, by simp only [ev, Opd.lv_ev hA hx]; rw [if_neg h0, rowAt_of h1 h2]; simp only []; rw [if_pos ⟨(T.len z).symm, by rw [T.len]; omega⟩], ?_, k⟩
        rw [er]
        have e2 : splice (T.cells xs) (lo * T.es) (T.cells (List.replicate m z)) = T.cells (xs.take lo ++ List.replicate m z ++ xs.drop (lo + m)) := by
          unfold splice
          rw [T.cells_take, T.cells_len, List.length_replicate, ← Nat.add_mul, T.cells_drop, ← T.cells_app, ← T.cells_app]
        have := hH'.rewrite (cs' := T.cells (xs.take lo ++ List.replicate m z ++ xs.drop (lo + m))) (c' := splice c (o + lo * T.es) (T.cells (List.replicate m z))) rfl h2 (splice_len (by rw [T.cells_len, List.length_replicate]; omega)) h3 (by rw [win_splice h3 h4 (by rw [T.cells_len, List.length_replicate]; omega), e2]) rfl
        have hle : (xs.take lo ++ List.replicate m z ++ xs.drop (lo + m)).length = xs.length := by simp only [List.length_append, List.length_take, List.length_drop, List.length_replicate]; omega
        show HAg (.sl _ T.t T.es _ _ :: H0) _
        rw [hle]; exact this
theorem S_iter {x : Opd} {s : ByteArray} (hx : x.lv l = some (.string s)) (k : ∀ i, K (.pointer (some ⟨i, 0, none⟩)) (.obj i (.iter s 0) :: H)) : Step (.iter x) l H K :=
  fun e h hA hH => ⟨_, _, _, by simp only [ev, Opd.lv_ev hA hx], hH.push rfl, k _⟩
theorem S_next {x : Opd} {i : Nat} {s : ByteArray} {pos : Nat} (hx : x.lv l = some (.pointer (some ⟨i, 0, none⟩))) (hp : Pick (.obj i (.iter s pos)) H H0)
    (k1 : pos < s.size → K (.tuple #[.bool true, .int .i64 pos, .int .i32 (Utf8.decode s pos).1]) (.obj i (.iter s (pos + (Utf8.decode s pos).2)) :: H0)) (k2 : ¬ pos < s.size → K (.tuple #[.bool false]) H) : Step (.next x) l H K :=
  fun e h hA hH => by
    have hH' := hH.perm hp.perm
    obtain ⟨h1, h2, h3⟩ := hH'.1 _ (List.mem_cons_self ..)
    by_cases hc : pos < s.size
    · refine ⟨_, _, _, by simp only [ev, Opd.lv_ev hA hx, h2]; rw [if_pos hc], hH'.write rfl h2 rfl rfl ?_, k1 hc⟩
      exact ⟨h1, AH.get_put_same _ _ _, rfl⟩
    · exact ⟨_, h, _, by simp only [ev, Opd.lv_ev hA hx, h2]; rw [if_neg hc], hH, k2 hc⟩
theorem S_mkSlice {t : TypeId} {es bytes n c : Nat} {zs : List Value} {a b : Opd} {J1 J2 : Int} {T : Ty α} {z : α} (ha : a.lv l = some (.int .i64 J1)) (hb : b.lv l = some (.int .i64 J2)) (h1 : J1 = (n : Int)) (h2 : J2 = (c : Int)) (hnc : n ≤ c) (hsz : c * bytes ≤ 140737488355328) (hz : zs = T.enc z) (he : es = T.es) (ht : t = T.t)
    (k : ∀ w : SV, K w.toV (SL w.toV T (List.replicate n z) :: H)) : Step (.mkSlice t es bytes zs a b) l H K :=
  fun e h hA hH => by
    subst hz he ht h1 h2
    have er : (List.replicate n (T.enc z)).flatten = T.cells (List.replicate n z) := by simp [Ty.cells, List.flatMap_def]
    refine ⟨_, _, _, by simp only [ev, Opd.lv_ev hA ha, Opd.lv_ev hA hb]; rw [if_pos ⟨Int.natCast_nonneg _, Int.ofNat_le.2 hnc, by rw [← Int.natCast_mul]; exact Int.ofNat_le.2 hsz⟩]; rfl, ?_, k (.mk h.next 0 n T.es)⟩
    rw [Int.toNat_natCast, er]
    refine hH.add _ (r := SL (.slice (some ⟨h.next, 0, none⟩) n T.es) T (List.replicate n z)) ⟨T.cells_len _, .inr ⟨h.next, 0, _, ?_, Nat.lt_succ_self _, AH.get_push_same _ _, ?_, ?_⟩⟩ rfl
    · rw [List.length_replicate]
    · rw [T.cells_len]; simp
    · rw [List.drop_zero, ← T.cells_len, List.take_length]
theorem S_appZ {t : TypeId} {es bytes n : Nat} {x y : Opd} {J : Int} (hx : x.lv l = some (.slice none 0 0)) (hy : y.lv l = some (.int .i64 J)) (hJ : J = (n : Int)) (h0 : 0 < n) (hsz : n * bytes ≤ 140737488355328)
    (k : ∀ i, K (.slice (some ⟨i, 0, none⟩) n es) (.obj i (.row false t []) :: H)) : Step (.appZ t es bytes x y) l H K :=
  fun e h hA hH => by
    subst hJ
    exact ⟨_, _, _, by simp only [ev, Opd.lv_ev hA hx, Opd.lv_ev hA hy]; rw [if_pos ⟨Int.ofNat_lt.2 h0, by rw [← Int.natCast_mul]; exact Int.ofNat_le.2 hsz⟩]; rfl, hH.push rfl, k _⟩
theorem S_cutX {es a b m i o n : Nat} {x : Opd} {lo hi mx : Option Opd} (hx : x.lv l = some (.slice (some ⟨i, o, none⟩) n es)) (h1 : LB l lo 0 a) (h2 : LB l hi n b) (h3 : LB l mx n m) (hab : a ≤ b) (hbm : b ≤ m) (hb : m ≤ n)
    (k : K (.slice (some ⟨i, o + a * es, none⟩) (b - a) es) H) : Step (.cut es x lo hi mx) l H K :=
  fun e h hA hH => ⟨_, h, H, by simp only [ev, Opd.lv_ev hA hx, h1 e hA, h2 e hA, h3 e hA]; rw [if_pos ⟨trivial, hab, hbm, hb⟩], hH, k⟩
theorem S_strOf {x : Opd} {s : Value} {T : Ty UInt8} {bs : List UInt8} (hx : x.lv l = some s) (hr : RD H s T bs) (he : T.es = 1) (hc : T.enc = fun b => [encByte b]) (k : K (.string ⟨bs.toArray⟩) H) : Step (.strOf x) l H K :=
  fun e h hA hH => by
    have hbs : ∀ bs : List UInt8, bytesIn (bs.map encByte) = some bs := by
      intro bs
      induction bs with
      | nil => rfl
      | cons b bs ih =>
        simp only [List.map_cons, encByte, bytesIn]
        rw [show (List.map encByte bs) = List.map encByte bs from rfl, ih]
        simp
    obtain ⟨hn, hf⟩ := hr.src h hH
    rw [he] at hf
    have hcs : T.cells bs = bs.map encByte := by rw [Ty.cells, hc, flatMap_one]
    by_cases hz : bs.length = 0
    · have : bs = [] := List.length_eq_zero_iff.1 hz
      subst this
      rcases hr.2 h hH with ⟨ro, t, h0, h1⟩ | ⟨_, _, i, o, e1, h1, h2⟩
      rotate_left
      · refine ⟨_, h, H, ?_, hH, k⟩
        have : rowAt h i = none := by unfold rowAt; rw [if_pos h1, h2]
        simp only [ev, Opd.lv_ev hA hx, e1, firstOf, this]
        rw [if_pos ⟨he, by omega⟩, if_pos ⟨trivial, h1⟩]
        simp [bytesIn]
      rw [he] at h1
      rcases h1 with ⟨e1, _⟩ | ⟨i, o, c, e1, h1, h2, h3, h4⟩
      · refine ⟨_, h, H, ?_, hH, k⟩
        simp only [ev, Opd.lv_ev hA hx, e1]; rfl
      · refine ⟨_, h, H, ?_, hH, k⟩
        simp only [ev, Opd.lv_ev hA hx, e1, firstOf, rowAt_of h1 h2]
        rw [if_pos ⟨trivial, by omega⟩, if_pos (by simpa using h3)]
        simp [bytesIn]
    · have hf' := hf bs.length (Nat.le_refl _) hz
      rw [Nat.mul_one, hcs, List.take_of_length_le (by simp)] at hf'
      refine ⟨_, h, H, ?_, hH, k⟩
      rcases hr.2 h hH with ⟨ro, t, h0, h1⟩ | ⟨e1, _⟩
      rotate_left
      · omega
      rw [he] at h1
      rcases h1 with ⟨e1, e2⟩ | ⟨i, o, c, e1, h1, h2, h3, h4⟩
      · omega
      · simp only [ev, Opd.lv_ev hA hx, e1]
        rw [← e1, hf', ]
        simp only [hbs, Option.map_some]
theorem S_idxS {x i : Opd} {s : ByteArray} {kd : IntKind} {J : Int} {j : Nat} {b : UInt8} (hx : x.lv l = some (.string s)) (hi : i.lv l = some (.int kd J)) (hJ : J = (j : Int)) (hb : s.data.toList[j]? = some b) (k : K (.int .u8 b.toNat) H) : Step (.idxS x i) l H K :=
  fun e h hA hH => by
    subst hJ
    exact ⟨_, h, H, by simp only [ev, Opd.lv_ev hA hx, Opd.lv_ev hA hi]; rw [if_pos (Int.natCast_nonneg _), Int.toNat_natCast, hb]; rfl, hH, k⟩
end
end Go.Proofs.YtpgidiompdabdaaGreat.AM
