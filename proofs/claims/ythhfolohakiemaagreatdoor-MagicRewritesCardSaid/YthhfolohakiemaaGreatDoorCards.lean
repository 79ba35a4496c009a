/-
  DERIVED. GIVEN WITH THE SEED: THE CARDS: each row of YthhfolohakiemaaGreatDoorRows.lean that lists a variable, with what it lists TIED to the program's text (the seventh form; the later family's looks); each row that meets fmt, with fmt's text TOLD by the authors' own Lean function (tested against real Go, not proved from fmt's source: count such statements apart). THE CARD IS WHAT COUNTS. Prove the row's statement (the work); the ties are given (YthhfolohakiemaaGreatDoorTie.lean); close each card by the builder's one call (the guide's Derived/Test/ToyasCard.lean, 'card_holds'). Laid BY PROGRAM, IN A SANDBOX (cutbox-door.mjs). By AI agents, Wed Nov 11 2026. No macro, syntax, notation, axiom, sorry.
-/
import Derived.Test.YthhfolohakiemaaGreatDoorRows
import GoSem.ClaimSeven
namespace Go.Proofs.YthhfolohakiemaaGreatDoor
namespace Rows

/-- THE TIED CARD OF 'pedigreelaw18.AdornPatterns'. -/
def adornPatternsCard : Claim7 := { stood := { row := adornPatternsRow, standIns := [], harness := (true, "e907c7a5ec6634aad3036e448649223ce8322886a81740de369dae8ed043e6e9"), looks := true }, kinds := [], alts := [], laidByText := true, laidKinds := [.data, .data, .data], laidTests := true, laidLooks := .later }
def AdornPatternsCardSaid : Prop := Claim7.holds Tryz.pinned (.plain (OpenSpec.ofChange adornPatternsSpec)) adornPatternsCard

/-- THE TIED CARD OF 'pedigreelaw18.AdornOnce'. -/
def adornOnceCard : Claim7 := { stood := { row := adornOnceRow, standIns := [], harness := (true, "e907c7a5ec6634aad3036e448649223ce8322886a81740de369dae8ed043e6e9"), looks := true }, kinds := [], alts := [], laidByText := true, laidKinds := [.data, .data, .data], laidTests := true, laidLooks := .later }
def AdornOnceCardSaid : Prop := Claim7.holds Tryz.pinned (.plain (OpenSpec.ofChange adornOnceSpec)) adornOnceCard

/-- THE TIED CARD OF 'pedigreelaw18.AdornBare'. -/
def adornBareCard : Claim7 := { stood := { row := adornBareRow, standIns := [], harness := (true, "e907c7a5ec6634aad3036e448649223ce8322886a81740de369dae8ed043e6e9"), looks := true }, kinds := [], alts := [], laidByText := true, laidKinds := [.data, .data, .data], laidTests := true, laidLooks := .later }
def AdornBareCardSaid : Prop := Claim7.holds Tryz.pinned (.plain (OpenSpec.ofChange adornBareSpec)) adornBareCard

/-- THE TIED CARD OF 'pedigreelaw19.MagicRewrites'. -/
def magicRewritesCard : Claim7 := { stood := { row := magicRewritesRow, standIns := [], harness := (true, "e907c7a5ec6634aad3036e448649223ce8322886a81740de369dae8ed043e6e9"), looks := true }, kinds := [], alts := [], laidByText := true, laidKinds := [.data, .data, .data], laidTests := true, laidLooks := .later }
def MagicRewritesCardSaid : Prop := Claim7.holds Tryz.pinned (.plain (OpenSpec.ofChange magicRewritesSpec)) magicRewritesCard

/-- THE SECOND FORM's CARD OF 'pedigreelaw18.AdornPatterns'. -/
def adornPatternsUptoCard : Claim7 := { stood := { row := adornPatternsUptoRow, standIns := [], harness := (true, "e907c7a5ec6634aad3036e448649223ce8322886a81740de369dae8ed043e6e9"), looks := true }, kinds := [], alts := [], laidByText := true, laidKinds := [.data, .data, .data], laidTests := true, laidLooks := .later }
def AdornPatternsUptoCardSaid : Prop := Claim7.holds Tryz.pinned (.plain (OpenSpec.upto adornPatternsSpec)) adornPatternsUptoCard

/-- THE SECOND FORM's CARD OF 'pedigreelaw18.AdornOnce'. -/
def adornOnceUptoCard : Claim7 := { stood := { row := adornOnceUptoRow, standIns := [], harness := (true, "e907c7a5ec6634aad3036e448649223ce8322886a81740de369dae8ed043e6e9"), looks := true }, kinds := [], alts := [], laidByText := true, laidKinds := [.data, .data, .data], laidTests := true, laidLooks := .later }
def AdornOnceUptoCardSaid : Prop := Claim7.holds Tryz.pinned (.plain (OpenSpec.upto adornOnceSpec)) adornOnceUptoCard

/-- THE SECOND FORM's CARD OF 'pedigreelaw18.AdornBare'. -/
def adornBareUptoCard : Claim7 := { stood := { row := adornBareUptoRow, standIns := [], harness := (true, "e907c7a5ec6634aad3036e448649223ce8322886a81740de369dae8ed043e6e9"), looks := true }, kinds := [], alts := [], laidByText := true, laidKinds := [.data, .data, .data], laidTests := true, laidLooks := .later }
def AdornBareUptoCardSaid : Prop := Claim7.holds Tryz.pinned (.plain (OpenSpec.upto adornBareSpec)) adornBareUptoCard

/-- THE SECOND FORM's CARD OF 'pedigreelaw19.MagicRewrites'. -/
def magicRewritesUptoCard : Claim7 := { stood := { row := magicRewritesUptoRow, standIns := [], harness := (true, "e907c7a5ec6634aad3036e448649223ce8322886a81740de369dae8ed043e6e9"), looks := true }, kinds := [], alts := [], laidByText := true, laidKinds := [.data, .data, .data], laidTests := true, laidLooks := .later }
def MagicRewritesUptoCardSaid : Prop := Claim7.holds Tryz.pinned (.plain (OpenSpec.upto magicRewritesSpec)) magicRewritesUptoCard
end Rows
end Go.Proofs.YthhfolohakiemaaGreatDoor
