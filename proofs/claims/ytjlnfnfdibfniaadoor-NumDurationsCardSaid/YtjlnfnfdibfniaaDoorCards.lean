/-
  DERIVED. GIVEN WITH THE SEED: THE CARDS: each row of YtjlnfnfdibfniaaDoorRows.lean that lists a variable, with what it lists TIED to the program's text (the seventh form; the later family's looks); each row that meets fmt, with fmt's text TOLD by the authors' own Lean function (tested against real Go, not proved from fmt's source: count such statements apart). THE CARD IS WHAT COUNTS. Prove the row's statement (the work); the ties are given (YtjlnfnfdibfniaaDoorTie.lean); close each card by the builder's one call (the guide's Derived/Test/ToyasCard.lean, 'card_holds'). Laid BY PROGRAM, IN A SANDBOX (cutbox-door.mjs). By AI agents, Wed Nov 11 2026. No macro, syntax, notation, axiom, sorry.
-/
import Derived.Test.YtjlnfnfdibfniaaDoorRows
import GoSem.ClaimSeven
namespace Go.Proofs.YtjlnfnfdibfniaaDoor
namespace Rows

/-- THE TIED CARD OF 'vigillaw03.NumText'. -/
def numTextCard : Claim7 := { stood := { row := numTextRow, standIns := [], harness := (true, "a90acdf829413157ef6e6e8aea78a484b42a66cc9924c82fc4fb50f94bff3414"), looks := false }, kinds := [], alts := [], laidByText := true, laidKinds := [.data, .pinned], laidTests := true, laidLooks := .later }
def NumTextCardSaid : Prop := Claim7.holds Tryd.pinned (.plain (OpenSpec.ofChange numTextSpec)) numTextCard

/-- THE TIED CARD OF 'vigillaw03.NumParse'. -/
def numParseCard : Claim7 := { stood := { row := numParseRow, standIns := [], harness := (true, "a90acdf829413157ef6e6e8aea78a484b42a66cc9924c82fc4fb50f94bff3414"), looks := false }, kinds := [], alts := [], laidByText := true, laidKinds := [.data, .pinned], laidTests := true, laidLooks := .later }
def NumParseCardSaid : Prop := Claim7.holds Tryd.pinned (.plain (OpenSpec.ofChange numParseSpec)) numParseCard

/-- THE TIED CARD OF 'vigillaw03.NumBack'. -/
def numBackCard : Claim7 := { stood := { row := numBackRow, standIns := [], harness := (true, "a90acdf829413157ef6e6e8aea78a484b42a66cc9924c82fc4fb50f94bff3414"), looks := false }, kinds := [], alts := [], laidByText := true, laidKinds := [.data, .pinned], laidTests := true, laidLooks := .later }
def NumBackCardSaid : Prop := Claim7.holds Tryd.pinned (.plain (OpenSpec.ofChange numBackSpec)) numBackCard

/-- THE TIED CARD OF 'vigillaw03.NumNearest'. -/
def numNearestCard : Claim7 := { stood := { row := numNearestRow, standIns := [], harness := (true, "a90acdf829413157ef6e6e8aea78a484b42a66cc9924c82fc4fb50f94bff3414"), looks := false }, kinds := [], alts := [], laidByText := true, laidKinds := [.data, .pinned], laidTests := true, laidLooks := .later }
def NumNearestCardSaid : Prop := Claim7.holds Tryd.pinned (.plain (OpenSpec.ofChange numNearestSpec)) numNearestCard

/-- THE TIED CARD OF 'vigillaw03.NumShortest'. -/
def numShortestCard : Claim7 := { stood := { row := numShortestRow, standIns := [], harness := (true, "a90acdf829413157ef6e6e8aea78a484b42a66cc9924c82fc4fb50f94bff3414"), looks := false }, kinds := [], alts := [], laidByText := true, laidKinds := [.data, .pinned], laidTests := true, laidLooks := .later }
def NumShortestCardSaid : Prop := Claim7.holds Tryd.pinned (.plain (OpenSpec.ofChange numShortestSpec)) numShortestCard

/-- THE TIED CARD OF 'vigillaw03.NumMonotone'. -/
def numMonotoneCard : Claim7 := { stood := { row := numMonotoneRow, standIns := [], harness := (true, "a90acdf829413157ef6e6e8aea78a484b42a66cc9924c82fc4fb50f94bff3414"), looks := false }, kinds := [], alts := [], laidByText := true, laidKinds := [.data, .pinned], laidTests := true, laidLooks := .later }
def NumMonotoneCardSaid : Prop := Claim7.holds Tryd.pinned (.plain (OpenSpec.ofChange numMonotoneSpec)) numMonotoneCard

/-- THE TIED CARD OF 'vigillaw03.NumNext'. -/
def numNextCard : Claim7 := { stood := { row := numNextRow, standIns := [], harness := (true, "a90acdf829413157ef6e6e8aea78a484b42a66cc9924c82fc4fb50f94bff3414"), looks := false }, kinds := [], alts := [], laidByText := true, laidKinds := [.data, .pinned], laidTests := true, laidLooks := .later }
def NumNextCardSaid : Prop := Claim7.holds Tryd.pinned (.plain (OpenSpec.ofChange numNextSpec)) numNextCard

/-- THE TIED CARD OF 'vigillaw03.NumInts'. -/
def numIntsCard : Claim7 := { stood := { row := numIntsRow, standIns := [], harness := (true, "a90acdf829413157ef6e6e8aea78a484b42a66cc9924c82fc4fb50f94bff3414"), looks := false }, kinds := [], alts := [], laidByText := true, laidKinds := [.data, .pinned], laidTests := true, laidLooks := .later }
def NumIntsCardSaid : Prop := Claim7.holds Tryd.pinned (.plain (OpenSpec.ofChange numIntsSpec)) numIntsCard

/-- THE TIED CARD OF 'vigillaw03.NumDurations'. -/
def numDurationsCard : Claim7 := { stood := { row := numDurationsRow, standIns := [], harness := (true, "a90acdf829413157ef6e6e8aea78a484b42a66cc9924c82fc4fb50f94bff3414"), looks := false }, kinds := [], alts := [], laidByText := true, laidKinds := [.data, .pinned], laidTests := true, laidLooks := .later }
def NumDurationsCardSaid : Prop := Claim7.holds Tryd.pinned (.plain (OpenSpec.ofChange numDurationsSpec)) numDurationsCard

/-- THE SECOND FORM's CARD OF 'vigillaw03.NumText'. -/
def numTextUptoCard : Claim7 := { stood := { row := numTextUptoRow, standIns := [], harness := (true, "a90acdf829413157ef6e6e8aea78a484b42a66cc9924c82fc4fb50f94bff3414"), looks := false }, kinds := [], alts := [], laidByText := true, laidKinds := [.data, .pinned], laidTests := true, laidLooks := .later }
def NumTextUptoCardSaid : Prop := Claim7.holds Tryd.pinned (.plain (OpenSpec.upto numTextSpec)) numTextUptoCard

/-- THE SECOND FORM's CARD OF 'vigillaw03.NumParse'. -/
def numParseUptoCard : Claim7 := { stood := { row := numParseUptoRow, standIns := [], harness := (true, "a90acdf829413157ef6e6e8aea78a484b42a66cc9924c82fc4fb50f94bff3414"), looks := false }, kinds := [], alts := [], laidByText := true, laidKinds := [.data, .pinned], laidTests := true, laidLooks := .later }
def NumParseUptoCardSaid : Prop := Claim7.holds Tryd.pinned (.plain (OpenSpec.upto numParseSpec)) numParseUptoCard

/-- THE SECOND FORM's CARD OF 'vigillaw03.NumBack'. -/
def numBackUptoCard : Claim7 := { stood := { row := numBackUptoRow, standIns := [], harness := (true, "a90acdf829413157ef6e6e8aea78a484b42a66cc9924c82fc4fb50f94bff3414"), looks := false }, kinds := [], alts := [], laidByText := true, laidKinds := [.data, .pinned], laidTests := true, laidLooks := .later }
def NumBackUptoCardSaid : Prop := Claim7.holds Tryd.pinned (.plain (OpenSpec.upto numBackSpec)) numBackUptoCard

/-- THE SECOND FORM's CARD OF 'vigillaw03.NumNearest'. -/
def numNearestUptoCard : Claim7 := { stood := { row := numNearestUptoRow, standIns := [], harness := (true, "a90acdf829413157ef6e6e8aea78a484b42a66cc9924c82fc4fb50f94bff3414"), looks := false }, kinds := [], alts := [], laidByText := true, laidKinds := [.data, .pinned], laidTests := true, laidLooks := .later }
def NumNearestUptoCardSaid : Prop := Claim7.holds Tryd.pinned (.plain (OpenSpec.upto numNearestSpec)) numNearestUptoCard

/-- THE SECOND FORM's CARD OF 'vigillaw03.NumShortest'. -/
def numShortestUptoCard : Claim7 := { stood := { row := numShortestUptoRow, standIns := [], harness := (true, "a90acdf829413157ef6e6e8aea78a484b42a66cc9924c82fc4fb50f94bff3414"), looks := false }, kinds := [], alts := [], laidByText := true, laidKinds := [.data, .pinned], laidTests := true, laidLooks := .later }
def NumShortestUptoCardSaid : Prop := Claim7.holds Tryd.pinned (.plain (OpenSpec.upto numShortestSpec)) numShortestUptoCard

/-- THE SECOND FORM's CARD OF 'vigillaw03.NumMonotone'. -/
def numMonotoneUptoCard : Claim7 := { stood := { row := numMonotoneUptoRow, standIns := [], harness := (true, "a90acdf829413157ef6e6e8aea78a484b42a66cc9924c82fc4fb50f94bff3414"), looks := false }, kinds := [], alts := [], laidByText := true, laidKinds := [.data, .pinned], laidTests := true, laidLooks := .later }
def NumMonotoneUptoCardSaid : Prop := Claim7.holds Tryd.pinned (.plain (OpenSpec.upto numMonotoneSpec)) numMonotoneUptoCard

/-- THE SECOND FORM's CARD OF 'vigillaw03.NumNext'. -/
def numNextUptoCard : Claim7 := { stood := { row := numNextUptoRow, standIns := [], harness := (true, "a90acdf829413157ef6e6e8aea78a484b42a66cc9924c82fc4fb50f94bff3414"), looks := false }, kinds := [], alts := [], laidByText := true, laidKinds := [.data, .pinned], laidTests := true, laidLooks := .later }
def NumNextUptoCardSaid : Prop := Claim7.holds Tryd.pinned (.plain (OpenSpec.upto numNextSpec)) numNextUptoCard

/-- THE SECOND FORM's CARD OF 'vigillaw03.NumInts'. -/
def numIntsUptoCard : Claim7 := { stood := { row := numIntsUptoRow, standIns := [], harness := (true, "a90acdf829413157ef6e6e8aea78a484b42a66cc9924c82fc4fb50f94bff3414"), looks := false }, kinds := [], alts := [], laidByText := true, laidKinds := [.data, .pinned], laidTests := true, laidLooks := .later }
def NumIntsUptoCardSaid : Prop := Claim7.holds Tryd.pinned (.plain (OpenSpec.upto numIntsSpec)) numIntsUptoCard

/-- THE SECOND FORM's CARD OF 'vigillaw03.NumDurations'. -/
def numDurationsUptoCard : Claim7 := { stood := { row := numDurationsUptoRow, standIns := [], harness := (true, "a90acdf829413157ef6e6e8aea78a484b42a66cc9924c82fc4fb50f94bff3414"), looks := false }, kinds := [], alts := [], laidByText := true, laidKinds := [.data, .pinned], laidTests := true, laidLooks := .later }
def NumDurationsUptoCardSaid : Prop := Claim7.holds Tryd.pinned (.plain (OpenSpec.upto numDurationsSpec)) numDurationsUptoCard
end Rows
end Go.Proofs.YtjlnfnfdibfniaaDoor
