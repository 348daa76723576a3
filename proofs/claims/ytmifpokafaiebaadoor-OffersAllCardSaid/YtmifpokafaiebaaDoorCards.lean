/-
  DERIVED. GIVEN WITH THE SEED: THE CARDS: each row of YtmifpokafaiebaaDoorRows.lean that lists a variable, with what it lists TIED to the program's text (the seventh form; the later family's looks); each row that meets fmt, with fmt's text TOLD by the authors' own Lean function (tested against real Go, not proved from fmt's source: count such statements apart). THE CARD IS WHAT COUNTS. Prove the row's statement (the work); the ties are given (YtmifpokafaiebaaDoorTie.lean); close each card by the builder's one call (the guide's Derived/Test/ToyasCard.lean, 'card_holds'). Laid BY PROGRAM, IN A SANDBOX (cutbox-door.mjs). By AI agents, Wed Nov 11 2026. No macro, syntax, notation, axiom, sorry.
-/
import Derived.Test.YtmifpokafaiebaaDoorRows
import GoSem.ClaimSeven
namespace Go.Proofs.YtmifpokafaiebaaDoor
namespace Rows

/-- THE TIED CARD OF 'acequialaw44.OffersSpec'. -/
def offersSpecCard : Claim7 := { stood := { row := offersSpecRow, standIns := [], harness := (true, "80462c8487b1ba7a49d130f811200de9dd9bfd2a5b05b5a4dfde00a988006753"), looks := false }, kinds := [], alts := [], laidByText := true, laidKinds := [.data, .data], laidTests := true, laidLooks := .later }
def OffersSpecCardSaid : Prop := Claim7.holds Tryd.pinned (.plain (OpenSpec.ofChange offersSpecSpec)) offersSpecCard

/-- THE TIED CARD OF 'acequialaw44.OffersRevealSpec'. -/
def offersRevealSpecCard : Claim7 := { stood := { row := offersRevealSpecRow, standIns := [], harness := (true, "80462c8487b1ba7a49d130f811200de9dd9bfd2a5b05b5a4dfde00a988006753"), looks := false }, kinds := [], alts := [], laidByText := true, laidKinds := [.data, .data], laidTests := true, laidLooks := .later }
def OffersRevealSpecCardSaid : Prop := Claim7.holds Tryd.pinned (.plain (OpenSpec.ofChange offersRevealSpecSpec)) offersRevealSpecCard

/-- THE TIED CARD OF 'acequialaw44.OffersBinding'. -/
def offersBindingCard : Claim7 := { stood := { row := offersBindingRow, standIns := [], harness := (true, "80462c8487b1ba7a49d130f811200de9dd9bfd2a5b05b5a4dfde00a988006753"), looks := false }, kinds := [], alts := [], laidByText := true, laidKinds := [.data, .data], laidTests := true, laidLooks := .later }
def OffersBindingCardSaid : Prop := Claim7.holds Tryd.pinned (.plain (OpenSpec.ofChange offersBindingSpec)) offersBindingCard

/-- THE TIED CARD OF 'acequialaw44.OffersOwn'. -/
def offersOwnCard : Claim7 := { stood := { row := offersOwnRow, standIns := [], harness := (true, "80462c8487b1ba7a49d130f811200de9dd9bfd2a5b05b5a4dfde00a988006753"), looks := false }, kinds := [], alts := [], laidByText := true, laidKinds := [.data, .data], laidTests := true, laidLooks := .later }
def OffersOwnCardSaid : Prop := Claim7.holds Tryd.pinned (.plain (OpenSpec.ofChange offersOwnSpec)) offersOwnCard

/-- THE TIED CARD OF 'acequialaw44.OffersAll'. -/
def offersAllCard : Claim7 := { stood := { row := offersAllRow, standIns := [], harness := (true, "80462c8487b1ba7a49d130f811200de9dd9bfd2a5b05b5a4dfde00a988006753"), looks := false }, kinds := [], alts := [], laidByText := true, laidKinds := [.data, .data], laidTests := true, laidLooks := .later }
def OffersAllCardSaid : Prop := Claim7.holds Tryd.pinned (.plain (OpenSpec.ofChange offersAllSpec)) offersAllCard

/-- THE TIED CARD OF 'acequialaw44.OffersOrder'. -/
def offersOrderCard : Claim7 := { stood := { row := offersOrderRow, standIns := [], harness := (true, "80462c8487b1ba7a49d130f811200de9dd9bfd2a5b05b5a4dfde00a988006753"), looks := false }, kinds := [], alts := [], laidByText := true, laidKinds := [.data, .data], laidTests := true, laidLooks := .later }
def OffersOrderCardSaid : Prop := Claim7.holds Tryd.pinned (.plain (OpenSpec.ofChange offersOrderSpec)) offersOrderCard

/-- THE TIED CARD OF 'acequialaw44.OffersFurther'. -/
def offersFurtherCard : Claim7 := { stood := { row := offersFurtherRow, standIns := [], harness := (true, "80462c8487b1ba7a49d130f811200de9dd9bfd2a5b05b5a4dfde00a988006753"), looks := false }, kinds := [], alts := [], laidByText := true, laidKinds := [.data, .data], laidTests := true, laidLooks := .later }
def OffersFurtherCardSaid : Prop := Claim7.holds Tryd.pinned (.plain (OpenSpec.ofChange offersFurtherSpec)) offersFurtherCard

/-- THE SECOND FORM's CARD OF 'acequialaw44.OffersSpec'. -/
def offersSpecUptoCard : Claim7 := { stood := { row := offersSpecUptoRow, standIns := [], harness := (true, "80462c8487b1ba7a49d130f811200de9dd9bfd2a5b05b5a4dfde00a988006753"), looks := false }, kinds := [], alts := [], laidByText := true, laidKinds := [.data, .data], laidTests := true, laidLooks := .later }
def OffersSpecUptoCardSaid : Prop := Claim7.holds Tryd.pinned (.plain (OpenSpec.upto offersSpecSpec)) offersSpecUptoCard

/-- THE SECOND FORM's CARD OF 'acequialaw44.OffersRevealSpec'. -/
def offersRevealSpecUptoCard : Claim7 := { stood := { row := offersRevealSpecUptoRow, standIns := [], harness := (true, "80462c8487b1ba7a49d130f811200de9dd9bfd2a5b05b5a4dfde00a988006753"), looks := false }, kinds := [], alts := [], laidByText := true, laidKinds := [.data, .data], laidTests := true, laidLooks := .later }
def OffersRevealSpecUptoCardSaid : Prop := Claim7.holds Tryd.pinned (.plain (OpenSpec.upto offersRevealSpecSpec)) offersRevealSpecUptoCard

/-- THE SECOND FORM's CARD OF 'acequialaw44.OffersBinding'. -/
def offersBindingUptoCard : Claim7 := { stood := { row := offersBindingUptoRow, standIns := [], harness := (true, "80462c8487b1ba7a49d130f811200de9dd9bfd2a5b05b5a4dfde00a988006753"), looks := false }, kinds := [], alts := [], laidByText := true, laidKinds := [.data, .data], laidTests := true, laidLooks := .later }
def OffersBindingUptoCardSaid : Prop := Claim7.holds Tryd.pinned (.plain (OpenSpec.upto offersBindingSpec)) offersBindingUptoCard

/-- THE SECOND FORM's CARD OF 'acequialaw44.OffersOwn'. -/
def offersOwnUptoCard : Claim7 := { stood := { row := offersOwnUptoRow, standIns := [], harness := (true, "80462c8487b1ba7a49d130f811200de9dd9bfd2a5b05b5a4dfde00a988006753"), looks := false }, kinds := [], alts := [], laidByText := true, laidKinds := [.data, .data], laidTests := true, laidLooks := .later }
def OffersOwnUptoCardSaid : Prop := Claim7.holds Tryd.pinned (.plain (OpenSpec.upto offersOwnSpec)) offersOwnUptoCard

/-- THE SECOND FORM's CARD OF 'acequialaw44.OffersAll'. -/
def offersAllUptoCard : Claim7 := { stood := { row := offersAllUptoRow, standIns := [], harness := (true, "80462c8487b1ba7a49d130f811200de9dd9bfd2a5b05b5a4dfde00a988006753"), looks := false }, kinds := [], alts := [], laidByText := true, laidKinds := [.data, .data], laidTests := true, laidLooks := .later }
def OffersAllUptoCardSaid : Prop := Claim7.holds Tryd.pinned (.plain (OpenSpec.upto offersAllSpec)) offersAllUptoCard

/-- THE SECOND FORM's CARD OF 'acequialaw44.OffersOrder'. -/
def offersOrderUptoCard : Claim7 := { stood := { row := offersOrderUptoRow, standIns := [], harness := (true, "80462c8487b1ba7a49d130f811200de9dd9bfd2a5b05b5a4dfde00a988006753"), looks := false }, kinds := [], alts := [], laidByText := true, laidKinds := [.data, .data], laidTests := true, laidLooks := .later }
def OffersOrderUptoCardSaid : Prop := Claim7.holds Tryd.pinned (.plain (OpenSpec.upto offersOrderSpec)) offersOrderUptoCard

/-- THE SECOND FORM's CARD OF 'acequialaw44.OffersFurther'. -/
def offersFurtherUptoCard : Claim7 := { stood := { row := offersFurtherUptoRow, standIns := [], harness := (true, "80462c8487b1ba7a49d130f811200de9dd9bfd2a5b05b5a4dfde00a988006753"), looks := false }, kinds := [], alts := [], laidByText := true, laidKinds := [.data, .data], laidTests := true, laidLooks := .later }
def OffersFurtherUptoCardSaid : Prop := Claim7.holds Tryd.pinned (.plain (OpenSpec.upto offersFurtherSpec)) offersFurtherUptoCard
end Rows
end Go.Proofs.YtmifpokafaiebaaDoor
