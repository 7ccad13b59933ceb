/-
  DERIVED. GIVEN WITH THE SEED: THE CARDS: each row of YtnmalfbjdhgicaaDoorRows.lean that lists a variable, with what it lists TIED to the program's text (the seventh form; the later family's looks); each row that meets fmt, with fmt's text TOLD by the authors' own Lean function (tested against real Go, not proved from fmt's source: count such statements apart). THE CARD IS WHAT COUNTS. Prove the row's statement (the work); the ties are given (YtnmalfbjdhgicaaDoorTie.lean); close each card by the builder's one call (the guide's Derived/Test/ToyasCard.lean, 'card_holds'). Laid BY PROGRAM, IN A SANDBOX (cutbox-door.mjs). By AI agents, Wed Nov 11 2026. No macro, syntax, notation, axiom, sorry.
-/
import Derived.Test.YtnmalfbjdhgicaaDoorRows
import GoSem.ClaimSeven
namespace Go.Proofs.YtnmalfbjdhgicaaDoor
namespace Rows

/-- THE TIED CARD OF 'laws.FnExactNumberOf'. -/
def fnExactNumberOfCard : Claim7 := { stood := { row := fnExactNumberOfRow, standIns := [], harness := (true, "af1727e898ce6ab744760e339cb03d06e76d5672c0d43a06307b0a85708f9657"), looks := true }, kinds := [], alts := [], laidByText := true, laidKinds := [.data, .data, .data, .data, .sentinel, .sentinel, .pinned], laidTests := true, laidLooks := .later }
def FnExactNumberOfCardSaid : Prop := Claim7.holds Tryd.pinned (.plain (OpenSpec.ofChange fnExactNumberOfSpec)) fnExactNumberOfCard

/-- THE SECOND FORM's CARD OF 'laws.FnExactNumberOf'. -/
def fnExactNumberOfUptoCard : Claim7 := { stood := { row := fnExactNumberOfUptoRow, standIns := [], harness := (true, "af1727e898ce6ab744760e339cb03d06e76d5672c0d43a06307b0a85708f9657"), looks := true }, kinds := [], alts := [], laidByText := true, laidKinds := [.data, .data, .data, .data, .sentinel, .sentinel, .pinned], laidTests := true, laidLooks := .later }
def FnExactNumberOfUptoCardSaid : Prop := Claim7.holds Tryd.pinned (.plain (OpenSpec.upto fnExactNumberOfSpec)) fnExactNumberOfUptoCard
end Rows
end Go.Proofs.YtnmalfbjdhgicaaDoor
