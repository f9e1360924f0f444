/- slices.Sorted of maps.Keys, at this program: the library's contracts as the abstract machine takes them. -/
import Derived.Test.YtpnmeednimpjdaaAmP
import Derived.Test.YtpnmeednimpjdaaShelf
namespace Go.Proofs.Ytpnmeednimpjdaa.AM
open Go Go.RowKit Go.Maps Go.Sort Go.Shelf Go.Proofs
theorem sorts (m : Nat) : AnyZ.SortsIn Try.prog Try.sortedL_ren Fence.wide m :=
  ⟨fun blk off cap ss W hH hblk hsz => callsIn_wide.2 (AnyM.slices_Sort_string Try.sortL blk off cap ss W hH hblk hsz),
   fun p cap W => callsIn_wide.2 (AnyM.slices_Sort_string_none Try.sortL p cap W)⟩
theorem sortedLaws : SortedLaws Try.prog 75 79 74 9 := {
  bK := ⟨Try.f75, _, Try.func75, rfl, by kernel_rfl⟩
  bS := ⟨Try.f74, _, Try.func74, rfl, by kernel_rfl⟩
  str := Try.underlying9
  keys := fun mb W => (callsIn_wide (n := 5)).1 ((AnyZ.keys_in Try.keysL Fence.wide 5 trivial rfl mb W).mono fun e w' h => ⟨h.1, _, h.2⟩)
  nil := fun w Bm hB hc => by
    have hseq : SeqGives Fence.wide 2 Try.prog 79 #[.pointer (some ⟨Bm, 0, none⟩)] encStr (fun ss : List (List UInt8) => ss = []) 0 w :=
      AnyZ.keys_gives_nil (ρ := Try.keysL_ren) { Try.keysL with } Fence.wide _ trivial rfl Bm w hB hc
    refine (callsIn_wide (n := 5)).1 ((AnyZ.sorted_in Try.sortedL Fence.wide 5 trivial trivial trivial trivial rfl (by omega) (sorts _) (enters_of Try.func78 (by kernel_rfl) rfl) 79 #[.pointer (some ⟨Bm, 0, none⟩)] trivial (enters_of Try.func79 (by kernel_rfl) rfl) _ 0 (Nat.zero_le _) (by omega) w hseq).mono fun e w' h => ?_)
    obtain ⟨v, ss, rfl, hs, _, hnil, hb⟩ := h
    exact ⟨by rw [hnil.2 hs], hb⟩
  some := fun w Bm bk nn D0 R hB hc hown hmax hbytes => by
    have hseq : SeqGives Fence.wide 2 Try.prog 79 #[.pointer (some ⟨Bm, 0, none⟩)] encStr (fun ss => ss.Perm (strKeys D0)) (Maps.size D0) w :=
      AnyZ.keys_gives (ρ := Try.keysL_ren) { Try.keysL with } Fence.wide _ trivial rfl (by omega) Bm bk nn D0 w hB hc hown
    exact (callsIn_wide (n := 5)).1 (AnyZ.sorted_in Try.sortedL Fence.wide 5 trivial trivial trivial trivial rfl (by omega) (sorts _) (enters_of Try.func78 (by kernel_rfl) rfl) 79 #[.pointer (some ⟨Bm, 0, none⟩)] trivial (enters_of Try.func79 (by kernel_rfl) rfl) _ _ hmax hbytes w hseq) }
end Go.Proofs.Ytpnmeednimpjdaa.AM
