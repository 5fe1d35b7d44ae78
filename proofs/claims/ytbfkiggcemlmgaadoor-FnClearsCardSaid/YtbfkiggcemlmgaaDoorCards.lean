/-
  DERIVED. GIVEN WITH THE SEED: THE CARDS: each row of YtbfkiggcemlmgaaDoorRows.lean that lists a variable, with what it lists TIED to the program's text (the seventh form; the later family's looks); each row that meets fmt, with fmt's text TOLD by the authors' own Lean function (tested against real Go, not proved from fmt's source: count such statements apart). THE CARD IS WHAT COUNTS. Prove the row's statement (the work); the ties are given (YtbfkiggcemlmgaaDoorTie.lean); close each card by the builder's one call (the guide's Derived/Test/ToyasCard.lean, 'card_holds'). Laid BY PROGRAM, IN A SANDBOX (cutbox-door.mjs). By AI agents, Wed Nov 11 2026. No macro, syntax, notation, axiom, sorry.
-/
import Derived.Test.YtbfkiggcemlmgaaDoorRows
import GoSem.ClaimSeven
namespace Go.Proofs.YtbfkiggcemlmgaaDoor
namespace Rows

/-- THE TIED CARD OF 'laws.FnClears'. -/
def fnClearsCard : Claim7 := { stood := { row := fnClearsRow, standIns := [], harness := (true, "b6973d8733d50c0765de8473434ba1309da3a2171b7e4c63c45eb713eec8fb95"), looks := false }, kinds := [], alts := [], laidByText := true, laidKinds := [.data, .data], laidTests := true, laidLooks := .later }
def FnClearsCardSaid : Prop := Claim7.holds Tryd.pinned (.plain (OpenSpec.ofChange fnClearsSpec)) fnClearsCard

/-- THE TIED CARD OF 'laws.FnExactClearErrors'. -/
def fnExactClearErrorsCard : Claim7 := { stood := { row := fnExactClearErrorsRow, standIns := [], harness := (true, "b6973d8733d50c0765de8473434ba1309da3a2171b7e4c63c45eb713eec8fb95"), looks := false }, kinds := [], alts := [], laidByText := true, laidKinds := [.data, .data], laidTests := true, laidLooks := .later }
def FnExactClearErrorsCardSaid : Prop := Claim7.holds Tryd.pinned (.plain (OpenSpec.ofChange fnExactClearErrorsSpec)) fnExactClearErrorsCard

/-- THE SECOND FORM's CARD OF 'laws.FnClears'. -/
def fnClearsUptoCard : Claim7 := { stood := { row := fnClearsUptoRow, standIns := [], harness := (true, "b6973d8733d50c0765de8473434ba1309da3a2171b7e4c63c45eb713eec8fb95"), looks := false }, kinds := [], alts := [], laidByText := true, laidKinds := [.data, .data], laidTests := true, laidLooks := .later }
def FnClearsUptoCardSaid : Prop := Claim7.holds Tryd.pinned (.plain (OpenSpec.upto fnClearsSpec)) fnClearsUptoCard

/-- THE SECOND FORM's CARD OF 'laws.FnExactClearErrors'. -/
def fnExactClearErrorsUptoCard : Claim7 := { stood := { row := fnExactClearErrorsUptoRow, standIns := [], harness := (true, "b6973d8733d50c0765de8473434ba1309da3a2171b7e4c63c45eb713eec8fb95"), looks := false }, kinds := [], alts := [], laidByText := true, laidKinds := [.data, .data], laidTests := true, laidLooks := .later }
def FnExactClearErrorsUptoCardSaid : Prop := Claim7.holds Tryd.pinned (.plain (OpenSpec.upto fnExactClearErrorsSpec)) fnExactClearErrorsUptoCard
end Rows
end Go.Proofs.YtbfkiggcemlmgaaDoor
