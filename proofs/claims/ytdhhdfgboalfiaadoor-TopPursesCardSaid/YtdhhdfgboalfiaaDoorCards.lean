/-
  DERIVED. GIVEN WITH THE SEED: THE CARDS: each row of YtdhhdfgboalfiaaDoorRows.lean that lists a variable, with what it lists TIED to the program's text (the seventh form; the later family's looks); each row that meets fmt, with fmt's text TOLD by the authors' own Lean function (tested against real Go, not proved from fmt's source: count such statements apart). THE CARD IS WHAT COUNTS. Prove the row's statement (the work); the ties are given (YtdhhdfgboalfiaaDoorTie.lean); close each card by the builder's one call (the guide's Derived/Test/ToyasCard.lean, 'card_holds'). Laid BY PROGRAM, IN A SANDBOX (cutbox-door.mjs). By AI agents, Wed Nov 11 2026. No macro, syntax, notation, axiom, sorry.
-/
import Derived.Test.YtdhhdfgboalfiaaDoorRows
import GoSem.ClaimSeven
namespace Go.Proofs.YtdhhdfgboalfiaaDoor
namespace Rows

/-- THE TIED CARD OF 'billingtop.TopPurses'. -/
def topPursesCard : Claim7 := { stood := { row := topPursesRow, standIns := [], harness := (true, "9360bc9333afec20d4bec16b328dac69e0ad881ec7703abdc400d9831bbb446f"), looks := false }, kinds := [], alts := [], laidByText := true, laidKinds := [.data, .data, .data, .data], laidTests := true, laidLooks := .later }
def TopPursesCardSaid : Prop := Claim7.holds Tryd.pinned (.plain (OpenSpec.ofChange topPursesSpec)) topPursesCard

/-- THE TIED CARD OF 'billingtop.TopCounters'. -/
def topCountersCard : Claim7 := { stood := { row := topCountersRow, standIns := [], harness := (true, "9360bc9333afec20d4bec16b328dac69e0ad881ec7703abdc400d9831bbb446f"), looks := false }, kinds := [], alts := [], laidByText := true, laidKinds := [.data, .data, .data, .data], laidTests := true, laidLooks := .later }
def TopCountersCardSaid : Prop := Claim7.holds Tryd.pinned (.plain (OpenSpec.ofChange topCountersSpec)) topCountersCard

/-- THE TIED CARD OF 'billingtop.TopMatched'. -/
def topMatchedCard : Claim7 := { stood := { row := topMatchedRow, standIns := [], harness := (true, "9360bc9333afec20d4bec16b328dac69e0ad881ec7703abdc400d9831bbb446f"), looks := false }, kinds := [], alts := [], laidByText := true, laidKinds := [.data, .data, .data, .data], laidTests := true, laidLooks := .later }
def TopMatchedCardSaid : Prop := Claim7.holds Tryd.pinned (.plain (OpenSpec.ofChange topMatchedSpec)) topMatchedCard

/-- THE TIED CARD OF 'billingtop.TopLadders'. -/
def topLaddersCard : Claim7 := { stood := { row := topLaddersRow, standIns := [], harness := (true, "9360bc9333afec20d4bec16b328dac69e0ad881ec7703abdc400d9831bbb446f"), looks := false }, kinds := [], alts := [], laidByText := true, laidKinds := [.data, .data, .data, .data], laidTests := true, laidLooks := .later }
def TopLaddersCardSaid : Prop := Claim7.holds Tryd.pinned (.plain (OpenSpec.ofChange topLaddersSpec)) topLaddersCard

/-- THE SECOND FORM's CARD OF 'billingtop.TopPurses'. -/
def topPursesUptoCard : Claim7 := { stood := { row := topPursesUptoRow, standIns := [], harness := (true, "9360bc9333afec20d4bec16b328dac69e0ad881ec7703abdc400d9831bbb446f"), looks := false }, kinds := [], alts := [], laidByText := true, laidKinds := [.data, .data, .data, .data], laidTests := true, laidLooks := .later }
def TopPursesUptoCardSaid : Prop := Claim7.holds Tryd.pinned (.plain (OpenSpec.upto topPursesSpec)) topPursesUptoCard

/-- THE SECOND FORM's CARD OF 'billingtop.TopCounters'. -/
def topCountersUptoCard : Claim7 := { stood := { row := topCountersUptoRow, standIns := [], harness := (true, "9360bc9333afec20d4bec16b328dac69e0ad881ec7703abdc400d9831bbb446f"), looks := false }, kinds := [], alts := [], laidByText := true, laidKinds := [.data, .data, .data, .data], laidTests := true, laidLooks := .later }
def TopCountersUptoCardSaid : Prop := Claim7.holds Tryd.pinned (.plain (OpenSpec.upto topCountersSpec)) topCountersUptoCard

/-- THE SECOND FORM's CARD OF 'billingtop.TopMatched'. -/
def topMatchedUptoCard : Claim7 := { stood := { row := topMatchedUptoRow, standIns := [], harness := (true, "9360bc9333afec20d4bec16b328dac69e0ad881ec7703abdc400d9831bbb446f"), looks := false }, kinds := [], alts := [], laidByText := true, laidKinds := [.data, .data, .data, .data], laidTests := true, laidLooks := .later }
def TopMatchedUptoCardSaid : Prop := Claim7.holds Tryd.pinned (.plain (OpenSpec.upto topMatchedSpec)) topMatchedUptoCard

/-- THE SECOND FORM's CARD OF 'billingtop.TopLadders'. -/
def topLaddersUptoCard : Claim7 := { stood := { row := topLaddersUptoRow, standIns := [], harness := (true, "9360bc9333afec20d4bec16b328dac69e0ad881ec7703abdc400d9831bbb446f"), looks := false }, kinds := [], alts := [], laidByText := true, laidKinds := [.data, .data, .data, .data], laidTests := true, laidLooks := .later }
def TopLaddersUptoCardSaid : Prop := Claim7.holds Tryd.pinned (.plain (OpenSpec.upto topLaddersSpec)) topLaddersUptoCard
end Rows
end Go.Proofs.YtdhhdfgboalfiaaDoor
