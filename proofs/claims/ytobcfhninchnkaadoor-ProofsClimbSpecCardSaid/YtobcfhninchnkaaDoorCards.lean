/-
  DERIVED. GIVEN WITH THE SEED: THE CARDS: each row of YtobcfhninchnkaaDoorRows.lean that lists a variable, with what it lists TIED to the program's text (the seventh form; the later family's looks); each row that meets fmt, with fmt's text TOLD by the authors' own Lean function (tested against real Go, not proved from fmt's source: count such statements apart). THE CARD IS WHAT COUNTS. Prove the row's statement (the work); the ties are given (YtobcfhninchnkaaDoorTie.lean); close each card by the builder's one call (the guide's Derived/Test/ToyasCard.lean, 'card_holds'). Laid BY PROGRAM, IN A SANDBOX (cutbox-door.mjs). By AI agents, Wed Nov 11 2026. No macro, syntax, notation, axiom, sorry.
-/
import Derived.Test.YtobcfhninchnkaaDoorRows
import GoSem.ClaimSeven
namespace Go.Proofs.YtobcfhninchnkaaDoor
namespace Rows

/-- THE TIED CARD OF 'acequialaw57.ProofsSpec'. -/
def proofsSpecCard : Claim7 := { stood := { row := proofsSpecRow, standIns := [], harness := (true, "a29151c865e0a249a8957e09cc63f9ec14428d04195c6b0589a4a932cf461c89"), looks := true }, kinds := [], alts := [], laidByText := true, laidKinds := [.data, .data], laidTests := true, laidLooks := .later }
def ProofsSpecCardSaid : Prop := Claim7.holds Tryd.pinned (.plain (OpenSpec.ofChange proofsSpecSpec)) proofsSpecCard

/-- THE TIED CARD OF 'acequialaw57.ProofsAccepted'. -/
def proofsAcceptedCard : Claim7 := { stood := { row := proofsAcceptedRow, standIns := [], harness := (true, "a29151c865e0a249a8957e09cc63f9ec14428d04195c6b0589a4a932cf461c89"), looks := true }, kinds := [], alts := [], laidByText := true, laidKinds := [.data, .data], laidTests := true, laidLooks := .later }
def ProofsAcceptedCardSaid : Prop := Claim7.holds Tryd.pinned (.plain (OpenSpec.ofChange proofsAcceptedSpec)) proofsAcceptedCard

/-- THE TIED CARD OF 'acequialaw57.ProofsHidden'. -/
def proofsHiddenCard : Claim7 := { stood := { row := proofsHiddenRow, standIns := [], harness := (true, "a29151c865e0a249a8957e09cc63f9ec14428d04195c6b0589a4a932cf461c89"), looks := true }, kinds := [], alts := [], laidByText := true, laidKinds := [.data, .data], laidTests := true, laidLooks := .later }
def ProofsHiddenCardSaid : Prop := Claim7.holds Tryd.pinned (.plain (OpenSpec.ofChange proofsHiddenSpec)) proofsHiddenCard

/-- THE TIED CARD OF 'acequialaw57.ProofsClimbSpec'. -/
def proofsClimbSpecCard : Claim7 := { stood := { row := proofsClimbSpecRow, standIns := [], harness := (true, "a29151c865e0a249a8957e09cc63f9ec14428d04195c6b0589a4a932cf461c89"), looks := true }, kinds := [], alts := [], laidByText := true, laidKinds := [.data, .data], laidTests := true, laidLooks := .later }
def ProofsClimbSpecCardSaid : Prop := Claim7.holds Tryd.pinned (.plain (OpenSpec.ofChange proofsClimbSpecSpec)) proofsClimbSpecCard

/-- THE SECOND FORM's CARD OF 'acequialaw57.ProofsSpec'. -/
def proofsSpecUptoCard : Claim7 := { stood := { row := proofsSpecUptoRow, standIns := [], harness := (true, "a29151c865e0a249a8957e09cc63f9ec14428d04195c6b0589a4a932cf461c89"), looks := true }, kinds := [], alts := [], laidByText := true, laidKinds := [.data, .data], laidTests := true, laidLooks := .later }
def ProofsSpecUptoCardSaid : Prop := Claim7.holds Tryd.pinned (.plain (OpenSpec.upto proofsSpecSpec)) proofsSpecUptoCard

/-- THE SECOND FORM's CARD OF 'acequialaw57.ProofsAccepted'. -/
def proofsAcceptedUptoCard : Claim7 := { stood := { row := proofsAcceptedUptoRow, standIns := [], harness := (true, "a29151c865e0a249a8957e09cc63f9ec14428d04195c6b0589a4a932cf461c89"), looks := true }, kinds := [], alts := [], laidByText := true, laidKinds := [.data, .data], laidTests := true, laidLooks := .later }
def ProofsAcceptedUptoCardSaid : Prop := Claim7.holds Tryd.pinned (.plain (OpenSpec.upto proofsAcceptedSpec)) proofsAcceptedUptoCard

/-- THE SECOND FORM's CARD OF 'acequialaw57.ProofsHidden'. -/
def proofsHiddenUptoCard : Claim7 := { stood := { row := proofsHiddenUptoRow, standIns := [], harness := (true, "a29151c865e0a249a8957e09cc63f9ec14428d04195c6b0589a4a932cf461c89"), looks := true }, kinds := [], alts := [], laidByText := true, laidKinds := [.data, .data], laidTests := true, laidLooks := .later }
def ProofsHiddenUptoCardSaid : Prop := Claim7.holds Tryd.pinned (.plain (OpenSpec.upto proofsHiddenSpec)) proofsHiddenUptoCard

/-- THE SECOND FORM's CARD OF 'acequialaw57.ProofsClimbSpec'. -/
def proofsClimbSpecUptoCard : Claim7 := { stood := { row := proofsClimbSpecUptoRow, standIns := [], harness := (true, "a29151c865e0a249a8957e09cc63f9ec14428d04195c6b0589a4a932cf461c89"), looks := true }, kinds := [], alts := [], laidByText := true, laidKinds := [.data, .data], laidTests := true, laidLooks := .later }
def ProofsClimbSpecUptoCardSaid : Prop := Claim7.holds Tryd.pinned (.plain (OpenSpec.upto proofsClimbSpecSpec)) proofsClimbSpecUptoCard
end Rows
end Go.Proofs.YtobcfhninchnkaaDoor
