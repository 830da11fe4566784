/-
  DERIVED. GIVEN WITH THE SEED: THE CARDS: each row of YtllhdbdbdblimaaDoorRows.lean that lists a variable, with what it lists TIED to the program's text (the seventh form; the later family's looks); each row that meets fmt, with fmt's text TOLD by the authors' own Lean function (tested against real Go, not proved from fmt's source: count such statements apart). THE CARD IS WHAT COUNTS. Prove the row's statement (the work); the ties are given (YtllhdbdbdblimaaDoorTie.lean); close each card by the builder's one call (the guide's Derived/Test/ToyasCard.lean, 'card_holds'). Laid BY PROGRAM, IN A SANDBOX (cutbox-door.mjs). By AI agents, Wed Nov 11 2026. No macro, syntax, notation, axiom, sorry.
-/
import Derived.Test.YtllhdbdbdblimaaDoorRows
import GoSem.ClaimSeven
namespace Go.Proofs.YtllhdbdbdblimaaDoor
namespace Rows

/-- THE TIED CARD OF 'paddocklaw01.LinesOwn'. -/
def linesOwnCard : Claim7 := { stood := { row := linesOwnRow, standIns := [], harness := (true, "816898e5baae7b386d8e88ce0c4e44c944e38ea15821283e38a2f898f7083d27"), looks := false }, kinds := [], alts := [], laidByText := true, laidKinds := [.data], laidTests := true, laidLooks := .later }
def LinesOwnCardSaid : Prop := Claim7.holds Tryd.pinned (.plain (OpenSpec.ofChange linesOwnSpec)) linesOwnCard

/-- THE TIED CARD OF 'paddocklaw01.LinesSplits'. -/
def linesSplitsCard : Claim7 := { stood := { row := linesSplitsRow, standIns := [], harness := (true, "816898e5baae7b386d8e88ce0c4e44c944e38ea15821283e38a2f898f7083d27"), looks := false }, kinds := [], alts := [], laidByText := true, laidKinds := [.data], laidTests := true, laidLooks := .later }
def LinesSplitsCardSaid : Prop := Claim7.holds Tryd.pinned (.plain (OpenSpec.ofChange linesSplitsSpec)) linesSplitsCard

/-- THE TIED CARD OF 'paddocklaw01.LinesBack'. -/
def linesBackCard : Claim7 := { stood := { row := linesBackRow, standIns := [], harness := (true, "816898e5baae7b386d8e88ce0c4e44c944e38ea15821283e38a2f898f7083d27"), looks := false }, kinds := [], alts := [], laidByText := true, laidKinds := [.data], laidTests := true, laidLooks := .later }
def LinesBackCardSaid : Prop := Claim7.holds Tryd.pinned (.plain (OpenSpec.ofChange linesBackSpec)) linesBackCard

/-- THE TIED CARD OF 'paddocklaw01.LinesParts'. -/
def linesPartsCard : Claim7 := { stood := { row := linesPartsRow, standIns := [], harness := (true, "816898e5baae7b386d8e88ce0c4e44c944e38ea15821283e38a2f898f7083d27"), looks := false }, kinds := [], alts := [], laidByText := true, laidKinds := [.data], laidTests := true, laidLooks := .later }
def LinesPartsCardSaid : Prop := Claim7.holds Tryd.pinned (.plain (OpenSpec.ofChange linesPartsSpec)) linesPartsCard

/-- THE TIED CARD OF 'paddocklaw01.LinesQuotes'. -/
def linesQuotesCard : Claim7 := { stood := { row := linesQuotesRow, standIns := [], harness := (true, "816898e5baae7b386d8e88ce0c4e44c944e38ea15821283e38a2f898f7083d27"), looks := false }, kinds := [], alts := [], laidByText := true, laidKinds := [.data], laidTests := true, laidLooks := .later }
def LinesQuotesCardSaid : Prop := Claim7.holds Tryd.pinned (.plain (OpenSpec.ofChange linesQuotesSpec)) linesQuotesCard

/-- THE TIED CARD OF 'paddocklaw01.LinesLists'. -/
def linesListsCard : Claim7 := { stood := { row := linesListsRow, standIns := [], harness := (true, "816898e5baae7b386d8e88ce0c4e44c944e38ea15821283e38a2f898f7083d27"), looks := false }, kinds := [], alts := [], laidByText := true, laidKinds := [.data], laidTests := true, laidLooks := .later }
def LinesListsCardSaid : Prop := Claim7.holds Tryd.pinned (.plain (OpenSpec.ofChange linesListsSpec)) linesListsCard

/-- THE TIED CARD OF 'paddocklaw01.LinesTold'. -/
def linesToldCard : Claim7 := { stood := { row := linesToldRow, standIns := [], harness := (true, "816898e5baae7b386d8e88ce0c4e44c944e38ea15821283e38a2f898f7083d27"), looks := false }, kinds := [], alts := [], laidByText := true, laidKinds := [.data], laidTests := true, laidLooks := .later }
def LinesToldCardSaid : Prop := Claim7.holds Tryd.pinned (.plain (OpenSpec.ofChange linesToldSpec)) linesToldCard

/-- THE TIED CARD OF 'paddocklaw01.LinesUnified'. -/
def linesUnifiedCard : Claim7 := { stood := { row := linesUnifiedRow, standIns := [], harness := (true, "816898e5baae7b386d8e88ce0c4e44c944e38ea15821283e38a2f898f7083d27"), looks := false }, kinds := [], alts := [], laidByText := true, laidKinds := [.data, .data, .data, .data, .data], laidTests := true, laidLooks := .later }
def LinesUnifiedCardSaid : Prop := Claim7.holds Tryd.pinned (.plain (OpenSpec.ofChange linesUnifiedSpec)) linesUnifiedCard

/-- THE TIED CARD OF 'paddocklaw01.LinesDiffs'. -/
def linesDiffsCard : Claim7 := { stood := { row := linesDiffsRow, standIns := [], harness := (true, "816898e5baae7b386d8e88ce0c4e44c944e38ea15821283e38a2f898f7083d27"), looks := false }, kinds := [], alts := [], laidByText := true, laidKinds := [.data, .data, .data, .data, .data], laidTests := true, laidLooks := .later }
def LinesDiffsCardSaid : Prop := Claim7.holds Tryd.pinned (.plain (OpenSpec.ofChange linesDiffsSpec)) linesDiffsCard

/-- THE TIED CARD OF 'paddocklaw01.LinesChanged'. -/
def linesChangedCard : Claim7 := { stood := { row := linesChangedRow, standIns := [], harness := (true, "816898e5baae7b386d8e88ce0c4e44c944e38ea15821283e38a2f898f7083d27"), looks := false }, kinds := [], alts := [], laidByText := true, laidKinds := [.data, .data, .data, .data, .data], laidTests := true, laidLooks := .later }
def LinesChangedCardSaid : Prop := Claim7.holds Tryd.pinned (.plain (OpenSpec.ofChange linesChangedSpec)) linesChangedCard

/-- THE SECOND FORM's CARD OF 'paddocklaw01.LinesOwn'. -/
def linesOwnUptoCard : Claim7 := { stood := { row := linesOwnUptoRow, standIns := [], harness := (true, "816898e5baae7b386d8e88ce0c4e44c944e38ea15821283e38a2f898f7083d27"), looks := false }, kinds := [], alts := [], laidByText := true, laidKinds := [.data], laidTests := true, laidLooks := .later }
def LinesOwnUptoCardSaid : Prop := Claim7.holds Tryd.pinned (.plain (OpenSpec.upto linesOwnSpec)) linesOwnUptoCard

/-- THE SECOND FORM's CARD OF 'paddocklaw01.LinesSplits'. -/
def linesSplitsUptoCard : Claim7 := { stood := { row := linesSplitsUptoRow, standIns := [], harness := (true, "816898e5baae7b386d8e88ce0c4e44c944e38ea15821283e38a2f898f7083d27"), looks := false }, kinds := [], alts := [], laidByText := true, laidKinds := [.data], laidTests := true, laidLooks := .later }
def LinesSplitsUptoCardSaid : Prop := Claim7.holds Tryd.pinned (.plain (OpenSpec.upto linesSplitsSpec)) linesSplitsUptoCard

/-- THE SECOND FORM's CARD OF 'paddocklaw01.LinesBack'. -/
def linesBackUptoCard : Claim7 := { stood := { row := linesBackUptoRow, standIns := [], harness := (true, "816898e5baae7b386d8e88ce0c4e44c944e38ea15821283e38a2f898f7083d27"), looks := false }, kinds := [], alts := [], laidByText := true, laidKinds := [.data], laidTests := true, laidLooks := .later }
def LinesBackUptoCardSaid : Prop := Claim7.holds Tryd.pinned (.plain (OpenSpec.upto linesBackSpec)) linesBackUptoCard

/-- THE SECOND FORM's CARD OF 'paddocklaw01.LinesParts'. -/
def linesPartsUptoCard : Claim7 := { stood := { row := linesPartsUptoRow, standIns := [], harness := (true, "816898e5baae7b386d8e88ce0c4e44c944e38ea15821283e38a2f898f7083d27"), looks := false }, kinds := [], alts := [], laidByText := true, laidKinds := [.data], laidTests := true, laidLooks := .later }
def LinesPartsUptoCardSaid : Prop := Claim7.holds Tryd.pinned (.plain (OpenSpec.upto linesPartsSpec)) linesPartsUptoCard

/-- THE SECOND FORM's CARD OF 'paddocklaw01.LinesQuotes'. -/
def linesQuotesUptoCard : Claim7 := { stood := { row := linesQuotesUptoRow, standIns := [], harness := (true, "816898e5baae7b386d8e88ce0c4e44c944e38ea15821283e38a2f898f7083d27"), looks := false }, kinds := [], alts := [], laidByText := true, laidKinds := [.data], laidTests := true, laidLooks := .later }
def LinesQuotesUptoCardSaid : Prop := Claim7.holds Tryd.pinned (.plain (OpenSpec.upto linesQuotesSpec)) linesQuotesUptoCard

/-- THE SECOND FORM's CARD OF 'paddocklaw01.LinesLists'. -/
def linesListsUptoCard : Claim7 := { stood := { row := linesListsUptoRow, standIns := [], harness := (true, "816898e5baae7b386d8e88ce0c4e44c944e38ea15821283e38a2f898f7083d27"), looks := false }, kinds := [], alts := [], laidByText := true, laidKinds := [.data], laidTests := true, laidLooks := .later }
def LinesListsUptoCardSaid : Prop := Claim7.holds Tryd.pinned (.plain (OpenSpec.upto linesListsSpec)) linesListsUptoCard

/-- THE SECOND FORM's CARD OF 'paddocklaw01.LinesTold'. -/
def linesToldUptoCard : Claim7 := { stood := { row := linesToldUptoRow, standIns := [], harness := (true, "816898e5baae7b386d8e88ce0c4e44c944e38ea15821283e38a2f898f7083d27"), looks := false }, kinds := [], alts := [], laidByText := true, laidKinds := [.data], laidTests := true, laidLooks := .later }
def LinesToldUptoCardSaid : Prop := Claim7.holds Tryd.pinned (.plain (OpenSpec.upto linesToldSpec)) linesToldUptoCard

/-- THE SECOND FORM's CARD OF 'paddocklaw01.LinesUnified'. -/
def linesUnifiedUptoCard : Claim7 := { stood := { row := linesUnifiedUptoRow, standIns := [], harness := (true, "816898e5baae7b386d8e88ce0c4e44c944e38ea15821283e38a2f898f7083d27"), looks := false }, kinds := [], alts := [], laidByText := true, laidKinds := [.data, .data, .data, .data, .data], laidTests := true, laidLooks := .later }
def LinesUnifiedUptoCardSaid : Prop := Claim7.holds Tryd.pinned (.plain (OpenSpec.upto linesUnifiedSpec)) linesUnifiedUptoCard

/-- THE SECOND FORM's CARD OF 'paddocklaw01.LinesDiffs'. -/
def linesDiffsUptoCard : Claim7 := { stood := { row := linesDiffsUptoRow, standIns := [], harness := (true, "816898e5baae7b386d8e88ce0c4e44c944e38ea15821283e38a2f898f7083d27"), looks := false }, kinds := [], alts := [], laidByText := true, laidKinds := [.data, .data, .data, .data, .data], laidTests := true, laidLooks := .later }
def LinesDiffsUptoCardSaid : Prop := Claim7.holds Tryd.pinned (.plain (OpenSpec.upto linesDiffsSpec)) linesDiffsUptoCard

/-- THE SECOND FORM's CARD OF 'paddocklaw01.LinesChanged'. -/
def linesChangedUptoCard : Claim7 := { stood := { row := linesChangedUptoRow, standIns := [], harness := (true, "816898e5baae7b386d8e88ce0c4e44c944e38ea15821283e38a2f898f7083d27"), looks := false }, kinds := [], alts := [], laidByText := true, laidKinds := [.data, .data, .data, .data, .data], laidTests := true, laidLooks := .later }
def LinesChangedUptoCardSaid : Prop := Claim7.holds Tryd.pinned (.plain (OpenSpec.upto linesChangedSpec)) linesChangedUptoCard
end Rows
end Go.Proofs.YtllhdbdbdblimaaDoor
