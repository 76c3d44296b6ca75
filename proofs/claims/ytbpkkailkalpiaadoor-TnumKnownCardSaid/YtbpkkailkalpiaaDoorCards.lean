/-
  DERIVED. GIVEN WITH THE SEED: THE CARDS: each row of YtbpkkailkalpiaaDoorRows.lean that lists a variable, with what it lists TIED to the program's text (the seventh form; the later family's looks); each row that meets fmt, with fmt's text TOLD by the authors' own Lean function (tested against real Go, not proved from fmt's source: count such statements apart). THE CARD IS WHAT COUNTS. Prove the row's statement (the work); the ties are given (YtbpkkailkalpiaaDoorTie.lean); close each card by the builder's one call (the guide's Derived/Test/ToyasCard.lean, 'card_holds'). Laid BY PROGRAM, IN A SANDBOX (cutbox-door.mjs). By AI agents, Wed Nov 11 2026. No macro, syntax, notation, axiom, sorry.
-/
import Derived.Test.YtbpkkailkalpiaaDoorRows
import GoSem.ClaimSeven
namespace Go.Proofs.YtbpkkailkalpiaaDoor
namespace Rows

/-- THE TIED CARD OF 'crossbarlaw03.TnumSays'. -/
def tnumSaysCard : Claim7 := { stood := { row := tnumSaysRow, standIns := [], harness := (true, "f905c2e4ba2efd97b3a09b931d0df213b44d61e1307b20d18b3a36c1a2ed7c47"), looks := false }, kinds := [], alts := [], laidByText := true, laidKinds := [.data], laidTests := true, laidLooks := .later }
def TnumSaysCardSaid : Prop := Claim7.holds Tryd.pinned (.plain (OpenSpec.ofChange tnumSaysSpec)) tnumSaysCard

/-- THE TIED CARD OF 'crossbarlaw03.TnumKnown'. -/
def tnumKnownCard : Claim7 := { stood := { row := tnumKnownRow, standIns := [], harness := (true, "f905c2e4ba2efd97b3a09b931d0df213b44d61e1307b20d18b3a36c1a2ed7c47"), looks := false }, kinds := [], alts := [], laidByText := true, laidKinds := [.data], laidTests := true, laidLooks := .later }
def TnumKnownCardSaid : Prop := Claim7.holds Tryd.pinned (.plain (OpenSpec.ofChange tnumKnownSpec)) tnumKnownCard

/-- THE TIED CARD OF 'crossbarlaw03.TnumSound'. -/
def tnumSoundCard : Claim7 := { stood := { row := tnumSoundRow, standIns := [], harness := (true, "f905c2e4ba2efd97b3a09b931d0df213b44d61e1307b20d18b3a36c1a2ed7c47"), looks := false }, kinds := [], alts := [], laidByText := true, laidKinds := [.data], laidTests := true, laidLooks := .later }
def TnumSoundCardSaid : Prop := Claim7.holds Tryd.pinned (.plain (OpenSpec.ofChange tnumSoundSpec)) tnumSoundCard

/-- THE SECOND FORM's CARD OF 'crossbarlaw03.TnumSays'. -/
def tnumSaysUptoCard : Claim7 := { stood := { row := tnumSaysUptoRow, standIns := [], harness := (true, "f905c2e4ba2efd97b3a09b931d0df213b44d61e1307b20d18b3a36c1a2ed7c47"), looks := false }, kinds := [], alts := [], laidByText := true, laidKinds := [.data], laidTests := true, laidLooks := .later }
def TnumSaysUptoCardSaid : Prop := Claim7.holds Tryd.pinned (.plain (OpenSpec.upto tnumSaysSpec)) tnumSaysUptoCard

/-- THE SECOND FORM's CARD OF 'crossbarlaw03.TnumKnown'. -/
def tnumKnownUptoCard : Claim7 := { stood := { row := tnumKnownUptoRow, standIns := [], harness := (true, "f905c2e4ba2efd97b3a09b931d0df213b44d61e1307b20d18b3a36c1a2ed7c47"), looks := false }, kinds := [], alts := [], laidByText := true, laidKinds := [.data], laidTests := true, laidLooks := .later }
def TnumKnownUptoCardSaid : Prop := Claim7.holds Tryd.pinned (.plain (OpenSpec.upto tnumKnownSpec)) tnumKnownUptoCard

/-- THE SECOND FORM's CARD OF 'crossbarlaw03.TnumSound'. -/
def tnumSoundUptoCard : Claim7 := { stood := { row := tnumSoundUptoRow, standIns := [], harness := (true, "f905c2e4ba2efd97b3a09b931d0df213b44d61e1307b20d18b3a36c1a2ed7c47"), looks := false }, kinds := [], alts := [], laidByText := true, laidKinds := [.data], laidTests := true, laidLooks := .later }
def TnumSoundUptoCardSaid : Prop := Claim7.holds Tryd.pinned (.plain (OpenSpec.upto tnumSoundSpec)) tnumSoundUptoCard
end Rows
end Go.Proofs.YtbpkkailkalpiaaDoor
