/-
  DERIVED. GIVEN WITH THE SEED: THE CARDS: each row of YtgchaghdhofnoaaDoorRows.lean that lists a variable, with what it lists TIED to the program's text (the seventh form; the later family's looks); each row that meets fmt, with fmt's text TOLD by the authors' own Lean function (tested against real Go, not proved from fmt's source: count such statements apart). THE CARD IS WHAT COUNTS. Prove the row's statement (the work); the ties are given (YtgchaghdhofnoaaDoorTie.lean); close each card by the builder's one call (the guide's Derived/Test/ToyasCard.lean, 'card_holds'). Laid BY PROGRAM, IN A SANDBOX (cutbox-door.mjs). By AI agents, Wed Nov 11 2026. No macro, syntax, notation, axiom, sorry.
-/
import Derived.Test.YtgchaghdhofnoaaDoorRows
import GoSem.ClaimSeven
namespace Go.Proofs.YtgchaghdhofnoaaDoor
namespace Rows

/-- THE TIED CARD OF 'sacristylaw03.DisasWords'. -/
def disasWordsCard : Claim7 := { stood := { row := disasWordsRow, standIns := [], harness := (true, "78926f93d4efa2833c226d50b6810b9d4e65c2ab34f8aae0edb0a7a04ca489b7"), looks := false }, kinds := [], alts := [], laidByText := true, laidKinds := [.data, .data, .data, .listed, .data], laidTests := true, laidLooks := .later }
def DisasWordsCardSaid : Prop := Claim7.holds Tryd.pinned (.plain (OpenSpec.ofChange disasWordsSpec)) disasWordsCard

/-- THE TIED CARD OF 'sacristylaw03.DisasAll'. -/
def disasAllCard : Claim7 := { stood := { row := disasAllRow, standIns := [], harness := (true, "78926f93d4efa2833c226d50b6810b9d4e65c2ab34f8aae0edb0a7a04ca489b7"), looks := false }, kinds := [], alts := [], laidByText := true, laidKinds := [.data, .data, .data, .listed, .data], laidTests := true, laidLooks := .later }
def DisasAllCardSaid : Prop := Claim7.holds Tryd.pinned (.plain (OpenSpec.ofChange disasAllSpec)) disasAllCard

/-- THE TIED CARD OF 'sacristylaw03.DisasBack'. -/
def disasBackCard : Claim7 := { stood := { row := disasBackRow, standIns := [], harness := (true, "78926f93d4efa2833c226d50b6810b9d4e65c2ab34f8aae0edb0a7a04ca489b7"), looks := false }, kinds := [], alts := [], laidByText := true, laidKinds := [.data, .data, .data, .listed, .data], laidTests := true, laidLooks := .later }
def DisasBackCardSaid : Prop := Claim7.holds Tryd.pinned (.plain (OpenSpec.ofChange disasBackSpec)) disasBackCard

/-- THE TIED CARD OF 'sacristylaw03.DisasTexts'. -/
def disasTextsCard : Claim7 := { stood := { row := disasTextsRow, standIns := [], harness := (true, "78926f93d4efa2833c226d50b6810b9d4e65c2ab34f8aae0edb0a7a04ca489b7"), looks := false }, kinds := [], alts := [], laidByText := true, laidKinds := [.data, .data, .data, .listed, .data], laidTests := true, laidLooks := .later }
def DisasTextsCardSaid : Prop := Claim7.holds Tryd.pinned (.plain (OpenSpec.ofChange disasTextsSpec)) disasTextsCard

/-- THE SECOND FORM's CARD OF 'sacristylaw03.DisasWords'. -/
def disasWordsUptoCard : Claim7 := { stood := { row := disasWordsUptoRow, standIns := [], harness := (true, "78926f93d4efa2833c226d50b6810b9d4e65c2ab34f8aae0edb0a7a04ca489b7"), looks := false }, kinds := [], alts := [], laidByText := true, laidKinds := [.data, .data, .data, .listed, .data], laidTests := true, laidLooks := .later }
def DisasWordsUptoCardSaid : Prop := Claim7.holds Tryd.pinned (.plain (OpenSpec.upto disasWordsSpec)) disasWordsUptoCard

/-- THE SECOND FORM's CARD OF 'sacristylaw03.DisasAll'. -/
def disasAllUptoCard : Claim7 := { stood := { row := disasAllUptoRow, standIns := [], harness := (true, "78926f93d4efa2833c226d50b6810b9d4e65c2ab34f8aae0edb0a7a04ca489b7"), looks := false }, kinds := [], alts := [], laidByText := true, laidKinds := [.data, .data, .data, .listed, .data], laidTests := true, laidLooks := .later }
def DisasAllUptoCardSaid : Prop := Claim7.holds Tryd.pinned (.plain (OpenSpec.upto disasAllSpec)) disasAllUptoCard

/-- THE SECOND FORM's CARD OF 'sacristylaw03.DisasBack'. -/
def disasBackUptoCard : Claim7 := { stood := { row := disasBackUptoRow, standIns := [], harness := (true, "78926f93d4efa2833c226d50b6810b9d4e65c2ab34f8aae0edb0a7a04ca489b7"), looks := false }, kinds := [], alts := [], laidByText := true, laidKinds := [.data, .data, .data, .listed, .data], laidTests := true, laidLooks := .later }
def DisasBackUptoCardSaid : Prop := Claim7.holds Tryd.pinned (.plain (OpenSpec.upto disasBackSpec)) disasBackUptoCard

/-- THE SECOND FORM's CARD OF 'sacristylaw03.DisasTexts'. -/
def disasTextsUptoCard : Claim7 := { stood := { row := disasTextsUptoRow, standIns := [], harness := (true, "78926f93d4efa2833c226d50b6810b9d4e65c2ab34f8aae0edb0a7a04ca489b7"), looks := false }, kinds := [], alts := [], laidByText := true, laidKinds := [.data, .data, .data, .listed, .data], laidTests := true, laidLooks := .later }
def DisasTextsUptoCardSaid : Prop := Claim7.holds Tryd.pinned (.plain (OpenSpec.upto disasTextsSpec)) disasTextsUptoCard
end Rows
end Go.Proofs.YtgchaghdhofnoaaDoor
