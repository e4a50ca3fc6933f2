/-
  DERIVED. GIVEN WITH THE SEED: THE CARDS: each row of YtkiognclopmciaaDoorRows.lean that lists a variable, with what it lists TIED to the program's text (the seventh form; the later family's looks); each row that meets fmt, with fmt's text TOLD by the authors' own Lean function (tested against real Go, not proved from fmt's source: count such statements apart). THE CARD IS WHAT COUNTS. Prove the row's statement (the work); the ties are given (YtkiognclopmciaaDoorTie.lean); close each card by the builder's one call (the guide's Derived/Test/ToyasCard.lean, 'card_holds'). Laid BY PROGRAM, IN A SANDBOX (cutbox-door.mjs). By AI agents, Wed Nov 11 2026. No macro, syntax, notation, axiom, sorry.
-/
import Derived.Test.YtkiognclopmciaaDoorRows
import GoSem.ClaimSeven
namespace Go.Proofs.YtkiognclopmciaaDoor
namespace Rows

/-- THE TIED CARD OF 'ganseylaw01.NeedlesSpots'. -/
def needlesSpotsCard : Claim7 := { stood := { row := needlesSpotsRow, standIns := [], harness := (true, "54c88f90af00d5853f9503e7474ba99d8916db33f8bfcad016f55215485e1dac"), looks := false }, kinds := [], alts := [], laidByText := true, laidKinds := [.data, .data, .data], laidTests := true, laidLooks := .later }
def NeedlesSpotsCardSaid : Prop := Claim7.holds Tryd.pinned (.plain (OpenSpec.ofChange needlesSpotsSpec)) needlesSpotsCard

/-- THE TIED CARD OF 'ganseylaw01.NeedlesAt'. -/
def needlesAtCard : Claim7 := { stood := { row := needlesAtRow, standIns := [], harness := (true, "54c88f90af00d5853f9503e7474ba99d8916db33f8bfcad016f55215485e1dac"), looks := false }, kinds := [], alts := [], laidByText := true, laidKinds := [.data, .data, .data], laidTests := true, laidLooks := .later }
def NeedlesAtCardSaid : Prop := Claim7.holds Tryd.pinned (.plain (OpenSpec.ofChange needlesAtSpec)) needlesAtCard

/-- THE TIED CARD OF 'ganseylaw01.NeedlesOpposite'. -/
def needlesOppositeCard : Claim7 := { stood := { row := needlesOppositeRow, standIns := [], harness := (true, "54c88f90af00d5853f9503e7474ba99d8916db33f8bfcad016f55215485e1dac"), looks := false }, kinds := [], alts := [], laidByText := true, laidKinds := [.data, .data, .data], laidTests := true, laidLooks := .later }
def NeedlesOppositeCardSaid : Prop := Claim7.holds Tryd.pinned (.plain (OpenSpec.ofChange needlesOppositeSpec)) needlesOppositeCard

/-- THE TIED CARD OF 'ganseylaw01.NeedlesText'. -/
def needlesTextCard : Claim7 := { stood := { row := needlesTextRow, standIns := [], harness := (true, "54c88f90af00d5853f9503e7474ba99d8916db33f8bfcad016f55215485e1dac"), looks := false }, kinds := [], alts := [], laidByText := true, laidKinds := [.data, .data, .data], laidTests := true, laidLooks := .later }
def NeedlesTextCardSaid : Prop := Claim7.holds Tryd.pinned (.plain (OpenSpec.ofChange needlesTextSpec)) needlesTextCard

/-- THE TIED CARD OF 'ganseylaw01.NeedlesApart'. -/
def needlesApartCard : Claim7 := { stood := { row := needlesApartRow, standIns := [], harness := (true, "54c88f90af00d5853f9503e7474ba99d8916db33f8bfcad016f55215485e1dac"), looks := false }, kinds := [], alts := [], laidByText := true, laidKinds := [.data, .data, .data], laidTests := true, laidLooks := .later }
def NeedlesApartCardSaid : Prop := Claim7.holds Tryd.pinned (.plain (OpenSpec.ofChange needlesApartSpec)) needlesApartCard

/-- THE TIED CARD OF 'ganseylaw01.NeedlesOrder'. -/
def needlesOrderCard : Claim7 := { stood := { row := needlesOrderRow, standIns := [], harness := (true, "54c88f90af00d5853f9503e7474ba99d8916db33f8bfcad016f55215485e1dac"), looks := false }, kinds := [], alts := [], laidByText := true, laidKinds := [.data, .data, .data], laidTests := true, laidLooks := .later }
def NeedlesOrderCardSaid : Prop := Claim7.holds Tryd.pinned (.plain (OpenSpec.ofChange needlesOrderSpec)) needlesOrderCard

/-- THE SECOND FORM's CARD OF 'ganseylaw01.NeedlesSpots'. -/
def needlesSpotsUptoCard : Claim7 := { stood := { row := needlesSpotsUptoRow, standIns := [], harness := (true, "54c88f90af00d5853f9503e7474ba99d8916db33f8bfcad016f55215485e1dac"), looks := false }, kinds := [], alts := [], laidByText := true, laidKinds := [.data, .data, .data], laidTests := true, laidLooks := .later }
def NeedlesSpotsUptoCardSaid : Prop := Claim7.holds Tryd.pinned (.plain (OpenSpec.upto needlesSpotsSpec)) needlesSpotsUptoCard

/-- THE SECOND FORM's CARD OF 'ganseylaw01.NeedlesAt'. -/
def needlesAtUptoCard : Claim7 := { stood := { row := needlesAtUptoRow, standIns := [], harness := (true, "54c88f90af00d5853f9503e7474ba99d8916db33f8bfcad016f55215485e1dac"), looks := false }, kinds := [], alts := [], laidByText := true, laidKinds := [.data, .data, .data], laidTests := true, laidLooks := .later }
def NeedlesAtUptoCardSaid : Prop := Claim7.holds Tryd.pinned (.plain (OpenSpec.upto needlesAtSpec)) needlesAtUptoCard

/-- THE SECOND FORM's CARD OF 'ganseylaw01.NeedlesOpposite'. -/
def needlesOppositeUptoCard : Claim7 := { stood := { row := needlesOppositeUptoRow, standIns := [], harness := (true, "54c88f90af00d5853f9503e7474ba99d8916db33f8bfcad016f55215485e1dac"), looks := false }, kinds := [], alts := [], laidByText := true, laidKinds := [.data, .data, .data], laidTests := true, laidLooks := .later }
def NeedlesOppositeUptoCardSaid : Prop := Claim7.holds Tryd.pinned (.plain (OpenSpec.upto needlesOppositeSpec)) needlesOppositeUptoCard

/-- THE SECOND FORM's CARD OF 'ganseylaw01.NeedlesText'. -/
def needlesTextUptoCard : Claim7 := { stood := { row := needlesTextUptoRow, standIns := [], harness := (true, "54c88f90af00d5853f9503e7474ba99d8916db33f8bfcad016f55215485e1dac"), looks := false }, kinds := [], alts := [], laidByText := true, laidKinds := [.data, .data, .data], laidTests := true, laidLooks := .later }
def NeedlesTextUptoCardSaid : Prop := Claim7.holds Tryd.pinned (.plain (OpenSpec.upto needlesTextSpec)) needlesTextUptoCard

/-- THE SECOND FORM's CARD OF 'ganseylaw01.NeedlesApart'. -/
def needlesApartUptoCard : Claim7 := { stood := { row := needlesApartUptoRow, standIns := [], harness := (true, "54c88f90af00d5853f9503e7474ba99d8916db33f8bfcad016f55215485e1dac"), looks := false }, kinds := [], alts := [], laidByText := true, laidKinds := [.data, .data, .data], laidTests := true, laidLooks := .later }
def NeedlesApartUptoCardSaid : Prop := Claim7.holds Tryd.pinned (.plain (OpenSpec.upto needlesApartSpec)) needlesApartUptoCard

/-- THE SECOND FORM's CARD OF 'ganseylaw01.NeedlesOrder'. -/
def needlesOrderUptoCard : Claim7 := { stood := { row := needlesOrderUptoRow, standIns := [], harness := (true, "54c88f90af00d5853f9503e7474ba99d8916db33f8bfcad016f55215485e1dac"), looks := false }, kinds := [], alts := [], laidByText := true, laidKinds := [.data, .data, .data], laidTests := true, laidLooks := .later }
def NeedlesOrderUptoCardSaid : Prop := Claim7.holds Tryd.pinned (.plain (OpenSpec.upto needlesOrderSpec)) needlesOrderUptoCard
end Rows
end Go.Proofs.YtkiognclopmciaaDoor
