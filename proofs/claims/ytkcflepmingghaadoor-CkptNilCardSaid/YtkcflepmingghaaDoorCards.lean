/-
  DERIVED. GIVEN WITH THE SEED: THE CARDS: each row of YtkcflepmingghaaDoorRows.lean that lists a variable, with what it lists TIED to the program's text (the seventh form; the later family's looks); each row that meets fmt, with fmt's text TOLD by the authors' own Lean function (tested against real Go, not proved from fmt's source: count such statements apart). THE CARD IS WHAT COUNTS. Prove the row's statement (the work); the ties are given (YtkcflepmingghaaDoorTie.lean); close each card by the builder's one call (the guide's Derived/Test/ToyasCard.lean, 'card_holds'). Laid BY PROGRAM, IN A SANDBOX (cutbox-door.mjs). By AI agents, Wed Nov 11 2026. No macro, syntax, notation, axiom, sorry.
-/
import Derived.Test.YtkcflepmingghaaDoorRows
import GoSem.ClaimSeven
namespace Go.Proofs.YtkcflepmingghaaDoor
namespace Rows

/-- THE TIED CARD OF 'reevelaw07.CkptNil'. -/
def ckptNilCard : Claim7 := { stood := { row := ckptNilRow, standIns := [], harness := (true, "a57395795b967666c38c15917d7db23a5a7060e1a8f28ad9eb620a62b5edf1ac"), looks := false }, kinds := [], alts := [], laidByText := true, laidKinds := [.data, .pinned], laidTests := true, laidLooks := .later }
def CkptNilCardSaid : Prop := Claim7.holds Tryd.pinned (.plain (OpenSpec.ofChange ckptNilSpec)) ckptNilCard

/-- THE TIED CARD OF 'reevelaw07.CkptKeeps'. -/
def ckptKeepsCard : Claim7 := { stood := { row := ckptKeepsRow, standIns := [], harness := (true, "a57395795b967666c38c15917d7db23a5a7060e1a8f28ad9eb620a62b5edf1ac"), looks := false }, kinds := [], alts := [], laidByText := true, laidKinds := [.data, .pinned], laidTests := true, laidLooks := .later }
def CkptKeepsCardSaid : Prop := Claim7.holds Tryd.pinned (.plain (OpenSpec.ofChange ckptKeepsSpec)) ckptKeepsCard

/-- THE TIED CARD OF 'reevelaw07.CkptPlays'. -/
def ckptPlaysCard : Claim7 := { stood := { row := ckptPlaysRow, standIns := [], harness := (true, "a57395795b967666c38c15917d7db23a5a7060e1a8f28ad9eb620a62b5edf1ac"), looks := false }, kinds := [], alts := [], laidByText := true, laidKinds := [.data, .pinned], laidTests := true, laidLooks := .later }
def CkptPlaysCardSaid : Prop := Claim7.holds Tryd.pinned (.plain (OpenSpec.ofChange ckptPlaysSpec)) ckptPlaysCard

/-- THE SECOND FORM's CARD OF 'reevelaw07.CkptNil'. -/
def ckptNilUptoCard : Claim7 := { stood := { row := ckptNilUptoRow, standIns := [], harness := (true, "a57395795b967666c38c15917d7db23a5a7060e1a8f28ad9eb620a62b5edf1ac"), looks := false }, kinds := [], alts := [], laidByText := true, laidKinds := [.data, .pinned], laidTests := true, laidLooks := .later }
def CkptNilUptoCardSaid : Prop := Claim7.holds Tryd.pinned (.plain (OpenSpec.upto ckptNilSpec)) ckptNilUptoCard

/-- THE SECOND FORM's CARD OF 'reevelaw07.CkptKeeps'. -/
def ckptKeepsUptoCard : Claim7 := { stood := { row := ckptKeepsUptoRow, standIns := [], harness := (true, "a57395795b967666c38c15917d7db23a5a7060e1a8f28ad9eb620a62b5edf1ac"), looks := false }, kinds := [], alts := [], laidByText := true, laidKinds := [.data, .pinned], laidTests := true, laidLooks := .later }
def CkptKeepsUptoCardSaid : Prop := Claim7.holds Tryd.pinned (.plain (OpenSpec.upto ckptKeepsSpec)) ckptKeepsUptoCard

/-- THE SECOND FORM's CARD OF 'reevelaw07.CkptPlays'. -/
def ckptPlaysUptoCard : Claim7 := { stood := { row := ckptPlaysUptoRow, standIns := [], harness := (true, "a57395795b967666c38c15917d7db23a5a7060e1a8f28ad9eb620a62b5edf1ac"), looks := false }, kinds := [], alts := [], laidByText := true, laidKinds := [.data, .pinned], laidTests := true, laidLooks := .later }
def CkptPlaysUptoCardSaid : Prop := Claim7.holds Tryd.pinned (.plain (OpenSpec.upto ckptPlaysSpec)) ckptPlaysUptoCard
end Rows
end Go.Proofs.YtkcflepmingghaaDoor
