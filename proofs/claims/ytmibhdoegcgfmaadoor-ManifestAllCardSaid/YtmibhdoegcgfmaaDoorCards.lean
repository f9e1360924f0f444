/-
  DERIVED. GIVEN WITH THE SEED: THE CARDS: each row of YtmibhdoegcgfmaaDoorRows.lean that lists a variable, with what it lists TIED to the program's text (the seventh form; the later family's looks); each row that meets fmt, with fmt's text TOLD by the authors' own Lean function (tested against real Go, not proved from fmt's source: count such statements apart). THE CARD IS WHAT COUNTS. Prove the row's statement (the work); the ties are given (YtmibhdoegcgfmaaDoorTie.lean); close each card by the builder's one call (the guide's Derived/Test/ToyasCard.lean, 'card_holds'). Laid BY PROGRAM, IN A SANDBOX (cutbox-door.mjs). By AI agents, Wed Nov 11 2026. No macro, syntax, notation, axiom, sorry.
-/
import Derived.Test.YtmibhdoegcgfmaaDoorRows
import GoSem.ClaimSeven
namespace Go.Proofs.YtmibhdoegcgfmaaDoor
namespace Rows

/-- THE TIED CARD OF 'loesslaw24.ManifestAll'. -/
def manifestAllCard : Claim7 := { stood := { row := manifestAllRow, standIns := [], harness := (true, "394032e77558eb51acd10272cb1b31d35cedc36e9a737007c5d1cae3b265128e"), looks := false }, kinds := [], alts := [], laidByText := true, laidKinds := [.data, .data, .data], laidTests := true, laidLooks := .later }
def ManifestAllCardSaid : Prop := Claim7.holds Tryd.pinned (.plain (OpenSpec.ofChange manifestAllSpec)) manifestAllCard

/-- THE TIED CARD OF 'loesslaw24.ManifestAny'. -/
def manifestAnyCard : Claim7 := { stood := { row := manifestAnyRow, standIns := [], harness := (true, "394032e77558eb51acd10272cb1b31d35cedc36e9a737007c5d1cae3b265128e"), looks := false }, kinds := [], alts := [], laidByText := true, laidKinds := [.data, .data, .data], laidTests := true, laidLooks := .later }
def ManifestAnyCardSaid : Prop := Claim7.holds Tryd.pinned (.plain (OpenSpec.ofChange manifestAnySpec)) manifestAnyCard

/-- THE TIED CARD OF 'loesslaw24.ManifestNames'. -/
def manifestNamesCard : Claim7 := { stood := { row := manifestNamesRow, standIns := [], harness := (true, "394032e77558eb51acd10272cb1b31d35cedc36e9a737007c5d1cae3b265128e"), looks := false }, kinds := [], alts := [], laidByText := true, laidKinds := [.data, .data, .data], laidTests := true, laidLooks := .later }
def ManifestNamesCardSaid : Prop := Claim7.holds Tryd.pinned (.plain (OpenSpec.ofChange manifestNamesSpec)) manifestNamesCard

/-- THE TIED CARD OF 'loesslaw24.ManifestTwins'. -/
def manifestTwinsCard : Claim7 := { stood := { row := manifestTwinsRow, standIns := [], harness := (true, "394032e77558eb51acd10272cb1b31d35cedc36e9a737007c5d1cae3b265128e"), looks := false }, kinds := [], alts := [], laidByText := true, laidKinds := [.data, .data, .data], laidTests := true, laidLooks := .later }
def ManifestTwinsCardSaid : Prop := Claim7.holds Tryd.pinned (.plain (OpenSpec.ofChange manifestTwinsSpec)) manifestTwinsCard

/-- THE TIED CARD OF 'loesslaw24.ManifestOwn'. -/
def manifestOwnCard : Claim7 := { stood := { row := manifestOwnRow, standIns := [], harness := (true, "394032e77558eb51acd10272cb1b31d35cedc36e9a737007c5d1cae3b265128e"), looks := false }, kinds := [], alts := [], laidByText := true, laidKinds := [.data, .data, .data], laidTests := true, laidLooks := .later }
def ManifestOwnCardSaid : Prop := Claim7.holds Tryd.pinned (.plain (OpenSpec.ofChange manifestOwnSpec)) manifestOwnCard

/-- THE SECOND FORM's CARD OF 'loesslaw24.ManifestAll'. -/
def manifestAllUptoCard : Claim7 := { stood := { row := manifestAllUptoRow, standIns := [], harness := (true, "394032e77558eb51acd10272cb1b31d35cedc36e9a737007c5d1cae3b265128e"), looks := false }, kinds := [], alts := [], laidByText := true, laidKinds := [.data, .data, .data], laidTests := true, laidLooks := .later }
def ManifestAllUptoCardSaid : Prop := Claim7.holds Tryd.pinned (.plain (OpenSpec.upto manifestAllSpec)) manifestAllUptoCard

/-- THE SECOND FORM's CARD OF 'loesslaw24.ManifestAny'. -/
def manifestAnyUptoCard : Claim7 := { stood := { row := manifestAnyUptoRow, standIns := [], harness := (true, "394032e77558eb51acd10272cb1b31d35cedc36e9a737007c5d1cae3b265128e"), looks := false }, kinds := [], alts := [], laidByText := true, laidKinds := [.data, .data, .data], laidTests := true, laidLooks := .later }
def ManifestAnyUptoCardSaid : Prop := Claim7.holds Tryd.pinned (.plain (OpenSpec.upto manifestAnySpec)) manifestAnyUptoCard

/-- THE SECOND FORM's CARD OF 'loesslaw24.ManifestNames'. -/
def manifestNamesUptoCard : Claim7 := { stood := { row := manifestNamesUptoRow, standIns := [], harness := (true, "394032e77558eb51acd10272cb1b31d35cedc36e9a737007c5d1cae3b265128e"), looks := false }, kinds := [], alts := [], laidByText := true, laidKinds := [.data, .data, .data], laidTests := true, laidLooks := .later }
def ManifestNamesUptoCardSaid : Prop := Claim7.holds Tryd.pinned (.plain (OpenSpec.upto manifestNamesSpec)) manifestNamesUptoCard

/-- THE SECOND FORM's CARD OF 'loesslaw24.ManifestTwins'. -/
def manifestTwinsUptoCard : Claim7 := { stood := { row := manifestTwinsUptoRow, standIns := [], harness := (true, "394032e77558eb51acd10272cb1b31d35cedc36e9a737007c5d1cae3b265128e"), looks := false }, kinds := [], alts := [], laidByText := true, laidKinds := [.data, .data, .data], laidTests := true, laidLooks := .later }
def ManifestTwinsUptoCardSaid : Prop := Claim7.holds Tryd.pinned (.plain (OpenSpec.upto manifestTwinsSpec)) manifestTwinsUptoCard

/-- THE SECOND FORM's CARD OF 'loesslaw24.ManifestOwn'. -/
def manifestOwnUptoCard : Claim7 := { stood := { row := manifestOwnUptoRow, standIns := [], harness := (true, "394032e77558eb51acd10272cb1b31d35cedc36e9a737007c5d1cae3b265128e"), looks := false }, kinds := [], alts := [], laidByText := true, laidKinds := [.data, .data, .data], laidTests := true, laidLooks := .later }
def ManifestOwnUptoCardSaid : Prop := Claim7.holds Tryd.pinned (.plain (OpenSpec.upto manifestOwnSpec)) manifestOwnUptoCard
end Rows
end Go.Proofs.YtmibhdoegcgfmaaDoor
