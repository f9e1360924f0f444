/- slices.Sorted of maps.Keys, at this program: the library's contracts as the abstract machine takes them. -/
import Derived.Test.YtpgidiompdabdaaGreatAmP
import Derived.Test.YtpgidiompdabdaaGreatShelf
namespace Go.Proofs.YtpgidiompdabdaaGreat.AM
open Go Go.RowKit Go.Maps Go.Sort Go.Shelf Go.Proofs
theorem sorts (m : Nat) : AnyZ.SortsIn Tryz.prog Tryz.sortedL_ren Fence.wide m :=
  ⟨fun blk off cap ss W hH hblk hsz => callsIn_wide.2 (AnyM.slices_Sort_string Tryz.sortL blk off cap ss W hH hblk hsz),
   fun p cap W => callsIn_wide.2 (AnyM.slices_Sort_string_none Tryz.sortL p cap W)⟩
theorem sortedLaws : SortedLaws Tryz.prog 45 61 44 9 := {
  bK := ⟨Tryz.f45, _, Tryz.func45, rfl, by kernel_rfl⟩
  bS := ⟨Tryz.f44, _, Tryz.func44, rfl, by kernel_rfl⟩
  str := Tryz.underlying9
  keys := fun mb W => (callsIn_wide (n := 5)).1 ((AnyZ.keys_in Tryz.keysL Fence.wide 5 trivial rfl mb W).mono fun e w' h => ⟨h.1, _, h.2⟩)
  nil := fun w Bm hB hc => by
    have hseq : SeqGives Fence.wide 2 Tryz.prog 61 #[.pointer (some ⟨Bm, 0, none⟩)] encStr (fun ss : List (List UInt8) => ss = []) 0 w :=
      AnyZ.keys_gives_nil (ρ := Tryz.keysL_ren) { Tryz.keysL with } Fence.wide _ trivial rfl Bm w hB hc
    refine (callsIn_wide (n := 5)).1 ((AnyZ.sorted_in Tryz.sortedL Fence.wide 5 trivial trivial trivial trivial rfl (by omega) (sorts _) (enters_of Tryz.func60 (by kernel_rfl) rfl) 61 #[.pointer (some ⟨Bm, 0, none⟩)] trivial (enters_of Tryz.func61 (by kernel_rfl) rfl) _ 0 (Nat.zero_le _) (by omega) w hseq).mono fun e w' h => ?_)
    obtain ⟨v, ss, rfl, hs, _, hnil, hb⟩ := h
    exact ⟨by rw [hnil.2 hs], hb⟩
  some := fun w Bm bk nn D0 R hB hc hown hmax hbytes => by
    have hseq : SeqGives Fence.wide 2 Tryz.prog 61 #[.pointer (some ⟨Bm, 0, none⟩)] encStr (fun ss => ss.Perm (strKeys D0)) (Maps.size D0) w :=
      AnyZ.keys_gives (ρ := Tryz.keysL_ren) { Tryz.keysL with } Fence.wide _ trivial rfl (by omega) Bm bk nn D0 w hB hc hown
    exact (callsIn_wide (n := 5)).1 (AnyZ.sorted_in Tryz.sortedL Fence.wide 5 trivial trivial trivial trivial rfl (by omega) (sorts _) (enters_of Tryz.func60 (by kernel_rfl) rfl) 61 #[.pointer (some ⟨Bm, 0, none⟩)] trivial (enters_of Tryz.func61 (by kernel_rfl) rfl) _ _ hmax hbytes w hseq) }
end Go.Proofs.YtpgidiompdabdaaGreat.AM
