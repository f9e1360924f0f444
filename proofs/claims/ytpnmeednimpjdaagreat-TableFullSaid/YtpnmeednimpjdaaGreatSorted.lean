/- slices.Sorted of maps.Keys, at this program: the library's contracts as the abstract machine takes them. -/
import Derived.Test.YtpnmeednimpjdaaGreatAmP
import Derived.Test.YtpnmeednimpjdaaGreatShelf
namespace Go.Proofs.YtpnmeednimpjdaaGreat.AM
open Go Go.RowKit Go.Maps Go.Sort Go.Shelf Go.Proofs
theorem sorts (m : Nat) : AnyZ.SortsIn Tryz.prog Tryz.sortedL_ren Fence.wide m :=
  ⟨fun blk off cap ss W hH hblk hsz => callsIn_wide.2 (AnyM.slices_Sort_string Tryz.sortL blk off cap ss W hH hblk hsz),
   fun p cap W => callsIn_wide.2 (AnyM.slices_Sort_string_none Tryz.sortL p cap W)⟩
theorem sortedLaws : SortedLaws Tryz.prog 82 111 81 9 := {
  bK := ⟨Tryz.f82, _, Tryz.func82, rfl, by kernel_rfl⟩
  bS := ⟨Tryz.f81, _, Tryz.func81, rfl, by kernel_rfl⟩
  str := Tryz.underlying9
  keys := fun mb W => (callsIn_wide (n := 5)).1 ((AnyZ.keys_in Tryz.keysL Fence.wide 5 trivial rfl mb W).mono fun e w' h => ⟨h.1, _, h.2⟩)
  nil := fun w Bm hB hc => by
    have hseq : SeqGives Fence.wide 2 Tryz.prog 111 #[.pointer (some ⟨Bm, 0, none⟩)] encStr (fun ss : List (List UInt8) => ss = []) 0 w :=
      AnyZ.keys_gives_nil (ρ := Tryz.keysL_ren) { Tryz.keysL with } Fence.wide _ trivial rfl Bm w hB hc
    refine (callsIn_wide (n := 5)).1 ((AnyZ.sorted_in Tryz.sortedL Fence.wide 5 trivial trivial trivial trivial rfl (by omega) (sorts _) (enters_of Tryz.func110 (by kernel_rfl) rfl) 111 #[.pointer (some ⟨Bm, 0, none⟩)] trivial (enters_of Tryz.func111 (by kernel_rfl) rfl) _ 0 (Nat.zero_le _) (by omega) w hseq).mono fun e w' h => ?_)
    obtain ⟨v, ss, rfl, hs, _, hnil, hb⟩ := h
    exact ⟨by rw [hnil.2 hs], hb⟩
  some := fun w Bm bk nn D0 R hB hc hown hmax hbytes => by
    have hseq : SeqGives Fence.wide 2 Tryz.prog 111 #[.pointer (some ⟨Bm, 0, none⟩)] encStr (fun ss => ss.Perm (strKeys D0)) (Maps.size D0) w :=
      AnyZ.keys_gives (ρ := Tryz.keysL_ren) { Tryz.keysL with } Fence.wide _ trivial rfl (by omega) Bm bk nn D0 w hB hc hown
    exact (callsIn_wide (n := 5)).1 (AnyZ.sorted_in Tryz.sortedL Fence.wide 5 trivial trivial trivial trivial rfl (by omega) (sorts _) (enters_of Tryz.func110 (by kernel_rfl) rfl) 111 #[.pointer (some ⟨Bm, 0, none⟩)] trivial (enters_of Tryz.func111 (by kernel_rfl) rfl) _ _ hmax hbytes w hseq) }
end Go.Proofs.YtpnmeednimpjdaaGreat.AM
