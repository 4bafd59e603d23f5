/-
  DERIVED. GIVEN WITH THE SEED: THE CARDS: each row of YtkamgngihebpoaaGreatDoorRows.lean that lists a variable, with what it lists TIED to the program's text (the seventh form; the later family's looks); each row that meets fmt, with fmt's text TOLD by the authors' own Lean function (tested against real Go, not proved from fmt's source: count such statements apart). THE CARD IS WHAT COUNTS. Prove the row's statement (the work); the ties are given (YtkamgngihebpoaaGreatDoorTie.lean); close each card by the builder's one call (the guide's Derived/Test/ToyasCard.lean, 'card_holds'). Laid BY PROGRAM, IN A SANDBOX (cutbox-door.mjs). By AI agents, Wed Nov 11 2026. No macro, syntax, notation, axiom, sorry.
-/
import Derived.Test.YtkamgngihebpoaaGreatDoorRows
import GoSem.ClaimSeven
namespace Go.Proofs.YtkamgngihebpoaaGreatDoor
namespace Rows

/-- THE TIED CARD OF 'waxworklaw07.DenoteWays'. -/
def denoteWaysCard : Claim7 := { stood := { row := denoteWaysRow, standIns := [], harness := (true, "0127b466488535fefa9eafcfbf5c227f96de039bd0a706d4d3a76f92c7b50b07"), looks := true }, kinds := [], alts := [], laidByText := true, laidKinds := [.data, .data, .data, .data, .sentinel, .sentinel, .pinned], laidTests := true, laidLooks := .later }
def DenoteWaysCardSaid : Prop := Claim7.holds Tryz.pinned (.plain (OpenSpec.ofChange denoteWaysSpec)) denoteWaysCard

/-- THE TIED CARD OF 'waxworklaw07.DenotePatterns'. -/
def denotePatternsCard : Claim7 := { stood := { row := denotePatternsRow, standIns := [], harness := (true, "0127b466488535fefa9eafcfbf5c227f96de039bd0a706d4d3a76f92c7b50b07"), looks := true }, kinds := [], alts := [], laidByText := true, laidKinds := [.data, .data, .data, .data, .sentinel, .sentinel, .pinned], laidTests := true, laidLooks := .later }
def DenotePatternsCardSaid : Prop := Claim7.holds Tryz.pinned (.plain (OpenSpec.ofChange denotePatternsSpec)) denotePatternsCard

/-- THE TIED CARD OF 'waxworklaw07.DenoteCaps'. -/
def denoteCapsCard : Claim7 := { stood := { row := denoteCapsRow, standIns := [], harness := (true, "0127b466488535fefa9eafcfbf5c227f96de039bd0a706d4d3a76f92c7b50b07"), looks := true }, kinds := [], alts := [], laidByText := true, laidKinds := [.data, .data, .data, .data, .sentinel, .sentinel, .pinned], laidTests := true, laidLooks := .later }
def DenoteCapsCardSaid : Prop := Claim7.holds Tryz.pinned (.plain (OpenSpec.ofChange denoteCapsSpec)) denoteCapsCard

/-- THE TIED CARD OF 'waxworklaw07.DenoteLetters'. -/
def denoteLettersCard : Claim7 := { stood := { row := denoteLettersRow, standIns := [], harness := (true, "0127b466488535fefa9eafcfbf5c227f96de039bd0a706d4d3a76f92c7b50b07"), looks := true }, kinds := [], alts := [], laidByText := true, laidKinds := [.data, .data, .data, .data, .sentinel, .sentinel, .pinned], laidTests := true, laidLooks := .later }
def DenoteLettersCardSaid : Prop := Claim7.holds Tryz.pinned (.plain (OpenSpec.ofChange denoteLettersSpec)) denoteLettersCard

/-- THE TIED CARD OF 'waxworklaw07.DenoteGreedy'. -/
def denoteGreedyCard : Claim7 := { stood := { row := denoteGreedyRow, standIns := [], harness := (true, "0127b466488535fefa9eafcfbf5c227f96de039bd0a706d4d3a76f92c7b50b07"), looks := true }, kinds := [], alts := [], laidByText := true, laidKinds := [.data, .data, .data, .data, .sentinel, .sentinel, .pinned], laidTests := true, laidLooks := .later }
def DenoteGreedyCardSaid : Prop := Claim7.holds Tryz.pinned (.plain (OpenSpec.ofChange denoteGreedySpec)) denoteGreedyCard

/-- THE TIED CARD OF 'waxworklaw07.DenoteAlone'. -/
def denoteAloneCard : Claim7 := { stood := { row := denoteAloneRow, standIns := [], harness := (true, "0127b466488535fefa9eafcfbf5c227f96de039bd0a706d4d3a76f92c7b50b07"), looks := true }, kinds := [], alts := [], laidByText := true, laidKinds := [.data, .data, .data, .data, .sentinel, .sentinel, .pinned], laidTests := true, laidLooks := .later }
def DenoteAloneCardSaid : Prop := Claim7.holds Tryz.pinned (.plain (OpenSpec.ofChange denoteAloneSpec)) denoteAloneCard

/-- THE TIED CARD OF 'waxworklaw07.DenoteAt'. -/
def denoteAtCard : Claim7 := { stood := { row := denoteAtRow, standIns := [], harness := (true, "0127b466488535fefa9eafcfbf5c227f96de039bd0a706d4d3a76f92c7b50b07"), looks := true }, kinds := [], alts := [], laidByText := true, laidKinds := [.data, .data, .data, .data, .sentinel, .sentinel, .pinned], laidTests := true, laidLooks := .later }
def DenoteAtCardSaid : Prop := Claim7.holds Tryz.pinned (.plain (OpenSpec.ofChange denoteAtSpec)) denoteAtCard

/-- THE TIED CARD OF 'waxworklaw07.DenoteBehind'. -/
def denoteBehindCard : Claim7 := { stood := { row := denoteBehindRow, standIns := [], harness := (true, "0127b466488535fefa9eafcfbf5c227f96de039bd0a706d4d3a76f92c7b50b07"), looks := true }, kinds := [], alts := [], laidByText := true, laidKinds := [.data, .data, .data, .data, .sentinel, .sentinel, .pinned], laidTests := true, laidLooks := .later }
def DenoteBehindCardSaid : Prop := Claim7.holds Tryz.pinned (.plain (OpenSpec.ofChange denoteBehindSpec)) denoteBehindCard

/-- THE TIED CARD OF 'waxworklaw07.DenoteHolds'. -/
def denoteHoldsCard : Claim7 := { stood := { row := denoteHoldsRow, standIns := [], harness := (true, "0127b466488535fefa9eafcfbf5c227f96de039bd0a706d4d3a76f92c7b50b07"), looks := true }, kinds := [], alts := [], laidByText := true, laidKinds := [.data, .data, .data, .data, .sentinel, .sentinel, .pinned], laidTests := true, laidLooks := .later }
def DenoteHoldsCardSaid : Prop := Claim7.holds Tryz.pinned (.plain (OpenSpec.ofChange denoteHoldsSpec)) denoteHoldsCard

/-- THE SECOND FORM's CARD OF 'waxworklaw07.DenoteWays'. -/
def denoteWaysUptoCard : Claim7 := { stood := { row := denoteWaysUptoRow, standIns := [], harness := (true, "0127b466488535fefa9eafcfbf5c227f96de039bd0a706d4d3a76f92c7b50b07"), looks := true }, kinds := [], alts := [], laidByText := true, laidKinds := [.data, .data, .data, .data, .sentinel, .sentinel, .pinned], laidTests := true, laidLooks := .later }
def DenoteWaysUptoCardSaid : Prop := Claim7.holds Tryz.pinned (.plain (OpenSpec.upto denoteWaysSpec)) denoteWaysUptoCard

/-- THE SECOND FORM's CARD OF 'waxworklaw07.DenotePatterns'. -/
def denotePatternsUptoCard : Claim7 := { stood := { row := denotePatternsUptoRow, standIns := [], harness := (true, "0127b466488535fefa9eafcfbf5c227f96de039bd0a706d4d3a76f92c7b50b07"), looks := true }, kinds := [], alts := [], laidByText := true, laidKinds := [.data, .data, .data, .data, .sentinel, .sentinel, .pinned], laidTests := true, laidLooks := .later }
def DenotePatternsUptoCardSaid : Prop := Claim7.holds Tryz.pinned (.plain (OpenSpec.upto denotePatternsSpec)) denotePatternsUptoCard

/-- THE SECOND FORM's CARD OF 'waxworklaw07.DenoteCaps'. -/
def denoteCapsUptoCard : Claim7 := { stood := { row := denoteCapsUptoRow, standIns := [], harness := (true, "0127b466488535fefa9eafcfbf5c227f96de039bd0a706d4d3a76f92c7b50b07"), looks := true }, kinds := [], alts := [], laidByText := true, laidKinds := [.data, .data, .data, .data, .sentinel, .sentinel, .pinned], laidTests := true, laidLooks := .later }
def DenoteCapsUptoCardSaid : Prop := Claim7.holds Tryz.pinned (.plain (OpenSpec.upto denoteCapsSpec)) denoteCapsUptoCard

/-- THE SECOND FORM's CARD OF 'waxworklaw07.DenoteLetters'. -/
def denoteLettersUptoCard : Claim7 := { stood := { row := denoteLettersUptoRow, standIns := [], harness := (true, "0127b466488535fefa9eafcfbf5c227f96de039bd0a706d4d3a76f92c7b50b07"), looks := true }, kinds := [], alts := [], laidByText := true, laidKinds := [.data, .data, .data, .data, .sentinel, .sentinel, .pinned], laidTests := true, laidLooks := .later }
def DenoteLettersUptoCardSaid : Prop := Claim7.holds Tryz.pinned (.plain (OpenSpec.upto denoteLettersSpec)) denoteLettersUptoCard

/-- THE SECOND FORM's CARD OF 'waxworklaw07.DenoteGreedy'. -/
def denoteGreedyUptoCard : Claim7 := { stood := { row := denoteGreedyUptoRow, standIns := [], harness := (true, "0127b466488535fefa9eafcfbf5c227f96de039bd0a706d4d3a76f92c7b50b07"), looks := true }, kinds := [], alts := [], laidByText := true, laidKinds := [.data, .data, .data, .data, .sentinel, .sentinel, .pinned], laidTests := true, laidLooks := .later }
def DenoteGreedyUptoCardSaid : Prop := Claim7.holds Tryz.pinned (.plain (OpenSpec.upto denoteGreedySpec)) denoteGreedyUptoCard

/-- THE SECOND FORM's CARD OF 'waxworklaw07.DenoteAlone'. -/
def denoteAloneUptoCard : Claim7 := { stood := { row := denoteAloneUptoRow, standIns := [], harness := (true, "0127b466488535fefa9eafcfbf5c227f96de039bd0a706d4d3a76f92c7b50b07"), looks := true }, kinds := [], alts := [], laidByText := true, laidKinds := [.data, .data, .data, .data, .sentinel, .sentinel, .pinned], laidTests := true, laidLooks := .later }
def DenoteAloneUptoCardSaid : Prop := Claim7.holds Tryz.pinned (.plain (OpenSpec.upto denoteAloneSpec)) denoteAloneUptoCard

/-- THE SECOND FORM's CARD OF 'waxworklaw07.DenoteAt'. -/
def denoteAtUptoCard : Claim7 := { stood := { row := denoteAtUptoRow, standIns := [], harness := (true, "0127b466488535fefa9eafcfbf5c227f96de039bd0a706d4d3a76f92c7b50b07"), looks := true }, kinds := [], alts := [], laidByText := true, laidKinds := [.data, .data, .data, .data, .sentinel, .sentinel, .pinned], laidTests := true, laidLooks := .later }
def DenoteAtUptoCardSaid : Prop := Claim7.holds Tryz.pinned (.plain (OpenSpec.upto denoteAtSpec)) denoteAtUptoCard

/-- THE SECOND FORM's CARD OF 'waxworklaw07.DenoteBehind'. -/
def denoteBehindUptoCard : Claim7 := { stood := { row := denoteBehindUptoRow, standIns := [], harness := (true, "0127b466488535fefa9eafcfbf5c227f96de039bd0a706d4d3a76f92c7b50b07"), looks := true }, kinds := [], alts := [], laidByText := true, laidKinds := [.data, .data, .data, .data, .sentinel, .sentinel, .pinned], laidTests := true, laidLooks := .later }
def DenoteBehindUptoCardSaid : Prop := Claim7.holds Tryz.pinned (.plain (OpenSpec.upto denoteBehindSpec)) denoteBehindUptoCard

/-- THE SECOND FORM's CARD OF 'waxworklaw07.DenoteHolds'. -/
def denoteHoldsUptoCard : Claim7 := { stood := { row := denoteHoldsUptoRow, standIns := [], harness := (true, "0127b466488535fefa9eafcfbf5c227f96de039bd0a706d4d3a76f92c7b50b07"), looks := true }, kinds := [], alts := [], laidByText := true, laidKinds := [.data, .data, .data, .data, .sentinel, .sentinel, .pinned], laidTests := true, laidLooks := .later }
def DenoteHoldsUptoCardSaid : Prop := Claim7.holds Tryz.pinned (.plain (OpenSpec.upto denoteHoldsSpec)) denoteHoldsUptoCard
end Rows
end Go.Proofs.YtkamgngihebpoaaGreatDoor
