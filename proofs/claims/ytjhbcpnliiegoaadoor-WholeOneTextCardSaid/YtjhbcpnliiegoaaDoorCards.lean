/-
  DERIVED. GIVEN WITH THE SEED: THE CARDS: each row of YtjhbcpnliiegoaaDoorRows.lean that lists a variable, with what it lists TIED to the program's text (the seventh form; the later family's looks); each row that meets fmt, with fmt's text TOLD by the authors' own Lean function (tested against real Go, not proved from fmt's source: count such statements apart). THE CARD IS WHAT COUNTS. Prove the row's statement (the work); the ties are given (YtjhbcpnliiegoaaDoorTie.lean); close each card by the builder's one call (the guide's Derived/Test/ToyasCard.lean, 'card_holds'). Laid BY PROGRAM, IN A SANDBOX (cutbox-door.mjs). By AI agents, Wed Nov 11 2026. No macro, syntax, notation, axiom, sorry.
-/
import Derived.Test.YtjhbcpnliiegoaaDoorRows
import GoSem.ClaimSeven
namespace Go.Proofs.YtjhbcpnliiegoaaDoor
namespace Rows

/-- THE TIED CARD OF 'fulcrumlaw02.WholeTexts'. -/
def wholeTextsCard : Claim7 := { stood := { row := wholeTextsRow, standIns := [], harness := (true, "e2ee6078c6165d00c03959dc2f217c533832f220e46cbfbe89a75c89dae64b80"), looks := false }, kinds := [], alts := [], laidByText := true, laidKinds := [.data], laidTests := true, laidLooks := .later }
def WholeTextsCardSaid : Prop := Claim7.holds Tryd.pinned (.plain (OpenSpec.ofChange wholeTextsSpec)) wholeTextsCard

/-- THE TIED CARD OF 'fulcrumlaw02.WholeOneText'. -/
def wholeOneTextCard : Claim7 := { stood := { row := wholeOneTextRow, standIns := [], harness := (true, "e2ee6078c6165d00c03959dc2f217c533832f220e46cbfbe89a75c89dae64b80"), looks := false }, kinds := [], alts := [], laidByText := true, laidKinds := [.data], laidTests := true, laidLooks := .later }
def WholeOneTextCardSaid : Prop := Claim7.holds Tryd.pinned (.plain (OpenSpec.ofChange wholeOneTextSpec)) wholeOneTextCard

/-- THE TIED CARD OF 'fulcrumlaw02.WholeBack'. -/
def wholeBackCard : Claim7 := { stood := { row := wholeBackRow, standIns := [], harness := (true, "e2ee6078c6165d00c03959dc2f217c533832f220e46cbfbe89a75c89dae64b80"), looks := false }, kinds := [], alts := [], laidByText := true, laidKinds := [.data], laidTests := true, laidLooks := .later }
def WholeBackCardSaid : Prop := Claim7.holds Tryd.pinned (.plain (OpenSpec.ofChange wholeBackSpec)) wholeBackCard

/-- THE SECOND FORM's CARD OF 'fulcrumlaw02.WholeTexts'. -/
def wholeTextsUptoCard : Claim7 := { stood := { row := wholeTextsUptoRow, standIns := [], harness := (true, "e2ee6078c6165d00c03959dc2f217c533832f220e46cbfbe89a75c89dae64b80"), looks := false }, kinds := [], alts := [], laidByText := true, laidKinds := [.data], laidTests := true, laidLooks := .later }
def WholeTextsUptoCardSaid : Prop := Claim7.holds Tryd.pinned (.plain (OpenSpec.upto wholeTextsSpec)) wholeTextsUptoCard

/-- THE SECOND FORM's CARD OF 'fulcrumlaw02.WholeOneText'. -/
def wholeOneTextUptoCard : Claim7 := { stood := { row := wholeOneTextUptoRow, standIns := [], harness := (true, "e2ee6078c6165d00c03959dc2f217c533832f220e46cbfbe89a75c89dae64b80"), looks := false }, kinds := [], alts := [], laidByText := true, laidKinds := [.data], laidTests := true, laidLooks := .later }
def WholeOneTextUptoCardSaid : Prop := Claim7.holds Tryd.pinned (.plain (OpenSpec.upto wholeOneTextSpec)) wholeOneTextUptoCard

/-- THE SECOND FORM's CARD OF 'fulcrumlaw02.WholeBack'. -/
def wholeBackUptoCard : Claim7 := { stood := { row := wholeBackUptoRow, standIns := [], harness := (true, "e2ee6078c6165d00c03959dc2f217c533832f220e46cbfbe89a75c89dae64b80"), looks := false }, kinds := [], alts := [], laidByText := true, laidKinds := [.data], laidTests := true, laidLooks := .later }
def WholeBackUptoCardSaid : Prop := Claim7.holds Tryd.pinned (.plain (OpenSpec.upto wholeBackSpec)) wholeBackUptoCard
end Rows
end Go.Proofs.YtjhbcpnliiegoaaDoor
