/-
  DERIVED. GIVEN WITH THE SEED: THE CARDS: each row of YtcidnoghoifmmaaDoorRows.lean that lists a variable, with what it lists TIED to the program's text (the seventh form; the later family's looks); each row that meets fmt, with fmt's text TOLD by the authors' own Lean function (tested against real Go, not proved from fmt's source: count such statements apart). THE CARD IS WHAT COUNTS. Prove the row's statement (the work); the ties are given (YtcidnoghoifmmaaDoorTie.lean); close each card by the builder's one call (the guide's Derived/Test/ToyasCard.lean, 'card_holds'). Laid BY PROGRAM, IN A SANDBOX (cutbox-door.mjs). By AI agents, Wed Nov 11 2026. No macro, syntax, notation, axiom, sorry.
-/
import Derived.Test.YtcidnoghoifmmaaDoorRows
import GoSem.ClaimSeven
namespace Go.Proofs.YtcidnoghoifmmaaDoor
namespace Rows

/-- THE TIED CARD OF 'paddocklaw12.DerivLaws'. -/
def derivLawsCard : Claim7 := { stood := { row := derivLawsRow, standIns := [], harness := (true, "37c72431075332a886bb92176a78ac31a7a4f256e777a50ea9ea8e9f74f9221f"), looks := false }, kinds := [], alts := [], laidByText := true, laidKinds := [.data, .data, .data], laidTests := true, laidLooks := .later }
def DerivLawsCardSaid : Prop := Claim7.holds Tryd.pinned (.plain (OpenSpec.ofChange derivLawsSpec)) derivLawsCard

/-- THE TIED CARD OF 'paddocklaw12.DerivAsks'. -/
def derivAsksCard : Claim7 := { stood := { row := derivAsksRow, standIns := [], harness := (true, "37c72431075332a886bb92176a78ac31a7a4f256e777a50ea9ea8e9f74f9221f"), looks := false }, kinds := [], alts := [], laidByText := true, laidKinds := [.data, .data, .data], laidTests := true, laidLooks := .later }
def DerivAsksCardSaid : Prop := Claim7.holds Tryd.pinned (.plain (OpenSpec.ofChange derivAsksSpec)) derivAsksCard

/-- THE TIED CARD OF 'paddocklaw12.DerivOrder'. -/
def derivOrderCard : Claim7 := { stood := { row := derivOrderRow, standIns := [], harness := (true, "37c72431075332a886bb92176a78ac31a7a4f256e777a50ea9ea8e9f74f9221f"), looks := false }, kinds := [], alts := [], laidByText := true, laidKinds := [.data, .data, .data], laidTests := true, laidLooks := .later }
def DerivOrderCardSaid : Prop := Claim7.holds Tryd.pinned (.plain (OpenSpec.ofChange derivOrderSpec)) derivOrderCard

/-- THE TIED CARD OF 'paddocklaw12.DerivRuns'. -/
def derivRunsCard : Claim7 := { stood := { row := derivRunsRow, standIns := [], harness := (true, "37c72431075332a886bb92176a78ac31a7a4f256e777a50ea9ea8e9f74f9221f"), looks := false }, kinds := [], alts := [], laidByText := true, laidKinds := [.data, .data, .data], laidTests := true, laidLooks := .later }
def DerivRunsCardSaid : Prop := Claim7.holds Tryd.pinned (.plain (OpenSpec.ofChange derivRunsSpec)) derivRunsCard

/-- THE SECOND FORM's CARD OF 'paddocklaw12.DerivLaws'. -/
def derivLawsUptoCard : Claim7 := { stood := { row := derivLawsUptoRow, standIns := [], harness := (true, "37c72431075332a886bb92176a78ac31a7a4f256e777a50ea9ea8e9f74f9221f"), looks := false }, kinds := [], alts := [], laidByText := true, laidKinds := [.data, .data, .data], laidTests := true, laidLooks := .later }
def DerivLawsUptoCardSaid : Prop := Claim7.holds Tryd.pinned (.plain (OpenSpec.upto derivLawsSpec)) derivLawsUptoCard

/-- THE SECOND FORM's CARD OF 'paddocklaw12.DerivAsks'. -/
def derivAsksUptoCard : Claim7 := { stood := { row := derivAsksUptoRow, standIns := [], harness := (true, "37c72431075332a886bb92176a78ac31a7a4f256e777a50ea9ea8e9f74f9221f"), looks := false }, kinds := [], alts := [], laidByText := true, laidKinds := [.data, .data, .data], laidTests := true, laidLooks := .later }
def DerivAsksUptoCardSaid : Prop := Claim7.holds Tryd.pinned (.plain (OpenSpec.upto derivAsksSpec)) derivAsksUptoCard

/-- THE SECOND FORM's CARD OF 'paddocklaw12.DerivOrder'. -/
def derivOrderUptoCard : Claim7 := { stood := { row := derivOrderUptoRow, standIns := [], harness := (true, "37c72431075332a886bb92176a78ac31a7a4f256e777a50ea9ea8e9f74f9221f"), looks := false }, kinds := [], alts := [], laidByText := true, laidKinds := [.data, .data, .data], laidTests := true, laidLooks := .later }
def DerivOrderUptoCardSaid : Prop := Claim7.holds Tryd.pinned (.plain (OpenSpec.upto derivOrderSpec)) derivOrderUptoCard

/-- THE SECOND FORM's CARD OF 'paddocklaw12.DerivRuns'. -/
def derivRunsUptoCard : Claim7 := { stood := { row := derivRunsUptoRow, standIns := [], harness := (true, "37c72431075332a886bb92176a78ac31a7a4f256e777a50ea9ea8e9f74f9221f"), looks := false }, kinds := [], alts := [], laidByText := true, laidKinds := [.data, .data, .data], laidTests := true, laidLooks := .later }
def DerivRunsUptoCardSaid : Prop := Claim7.holds Tryd.pinned (.plain (OpenSpec.upto derivRunsSpec)) derivRunsUptoCard
end Rows
end Go.Proofs.YtcidnoghoifmmaaDoor
