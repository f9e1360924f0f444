/- Walks: what the functions compute. -/
import Derived.Test.YtpgidiompdabdaaGreatTypes
import Derived.Test.YtpgidiompdabdaaGreatAmZ
import Derived.Carry
namespace Go.Proofs.YtpgidiompdabdaaGreat.AM
open Go
set_option linter.unusedSimpArgs false
set_option linter.unusedVariables false
set_option maxRecDepth 4000

/-! ### What comes in -/
def okRaw (r : Raw) : Prop := (Lit.int .i64 r.kind).wf = true ∧ (Lit.int .i64 r.n).wf = true ∧ r.s.size ≤ maxLen
def okRec (r : Rec) : Prop := r.key.size ≤ maxLen ∧ okRaw r.val
theorem FRaw : Flat Tryz.prog 31 TRaw okRaw := by
  refine ⟨by kernel_rfl, by decide, ?_, fun _ => rfl⟩
  intro H enc W base spare held fuel cs x h
  obtain ⟨hl, n, hf⟩ := trod_struct' Tryz.underlying31 h
  rw [show Tryz.prog.cellsOf 31 = 3 by kernel_rfl] at hl
  obtain ⟨y1, h1⟩ := hf { name := "Kind", type := 3, offset := 0, embedded := false, tag := "", pkgPath := "", byteOffset := 0 } (by simp)
  obtain ⟨y2, h2⟩ := hf { name := "N", type := 2, offset := 1, embedded := false, tag := "", pkgPath := "", byteOffset := 8 } (by simp)
  obtain ⟨y3, h3⟩ := hf { name := "S", type := 9, offset := 2, embedded := false, tag := "", pkgPath := "", byteOffset := 16 } (by simp)
  simp only [show Tryz.prog.cellsOf 3 = 1 by kernel_rfl, show Tryz.prog.cellsOf 2 = 1 by kernel_rfl, show Tryz.prog.cellsOf 9 = 1 by kernel_rfl] at h1 h2 h3
  obtain ⟨k, e1, w1⟩ := trod_int' Tryz.underlying3 h1
  obtain ⟨m, e2, w2⟩ := trod_int' Tryz.underlying2 h2
  obtain ⟨s, e3, w3⟩ := trod_str' Tryz.underlying9 h3
  match cs, hl with
  | [a, b, c], _ =>
    simp at e1 e2 e3
    subst e1 e2 e3
    exact ⟨⟨k, m, s⟩, rfl, w1, w2, w3⟩
theorem FRec : Flat Tryz.prog 33 TRec okRec := by
  refine ⟨by kernel_rfl, by decide, ?_, fun _ => rfl⟩
  intro H enc W base spare held fuel cs x h
  obtain ⟨hl, n, hf⟩ := trod_struct' Tryz.underlying33 h
  rw [show Tryz.prog.cellsOf 33 = 5 by kernel_rfl] at hl
  obtain ⟨y1, h1⟩ := hf { name := "Key", type := 9, offset := 0, embedded := false, tag := "", pkgPath := "", byteOffset := 0 } (by simp)
  obtain ⟨y2, h2⟩ := hf { name := "Gone", type := 4, offset := 1, embedded := false, tag := "", pkgPath := "", byteOffset := 16 } (by simp)
  obtain ⟨y3, h3⟩ := hf { name := "Val", type := 31, offset := 2, embedded := false, tag := "", pkgPath := "", byteOffset := 24 } (by simp)
  simp only [show Tryz.prog.cellsOf 9 = 1 by kernel_rfl, show Tryz.prog.cellsOf 4 = 1 by kernel_rfl, show Tryz.prog.cellsOf 31 = 3 by kernel_rfl] at h1 h2 h3
  obtain ⟨s, e1, w1⟩ := trod_str' Tryz.underlying9 h1
  obtain ⟨g, e2⟩ := trod_bool' Tryz.underlying4 h2
  obtain ⟨r, e3, w3⟩ := FRaw.rd h3
  match cs, hl with
  | [a, b, c, d, e], _ =>
    simp [TRaw, Ty.ofAgg] at e1 e2 e3
    obtain ⟨e3, e4, e5⟩ := e3
    subst e1 e2 e3 e4 e5
    exact ⟨⟨s, g, r⟩, rfl, w1, w3⟩
theorem laidOut : laidOutB Tryz.prog = true := by kernel_rfl

end Go.Proofs.YtpgidiompdabdaaGreat.AM
