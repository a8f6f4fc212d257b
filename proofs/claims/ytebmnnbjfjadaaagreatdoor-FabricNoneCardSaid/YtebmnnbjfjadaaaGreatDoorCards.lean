/-
  DERIVED. GIVEN WITH THE SEED: THE CARDS: each row of YtebmnnbjfjadaaaGreatDoorRows.lean that lists a variable, with what it lists TIED to the program's text (the seventh form; the later family's looks); each row that meets fmt, with fmt's text TOLD by the authors' own Lean function (tested against real Go, not proved from fmt's source: count such statements apart). THE CARD IS WHAT COUNTS. Prove the row's statement (the work); the ties are given (YtebmnnbjfjadaaaGreatDoorTie.lean); close each card by the builder's one call (the guide's Derived/Test/ToyasCard.lean, 'card_holds'). Laid BY PROGRAM, IN A SANDBOX (cutbox-door.mjs). By AI agents, Wed Nov 11 2026. No macro, syntax, notation, axiom, sorry.
-/
import Derived.Test.YtebmnnbjfjadaaaGreatDoorRows
import GoSem.ClaimSeven
namespace Go.Proofs.YtebmnnbjfjadaaaGreatDoor
namespace Rows

/-- THE TIED CARD OF 'sakialaw26.EngineNone'. -/
def engineNoneCard : Claim7 := { stood := { row := engineNoneRow, standIns := [], harness := (true, "6faaef1e4bb8f503fc39c094470146b5b7449d68d8bf9a19e73165e22af51371"), looks := false }, kinds := [], alts := [], laidByText := true, laidKinds := [.data], laidTests := true, laidLooks := .later }
def EngineNoneCardSaid : Prop := Claim7.holds Tryz.pinned (.plain (OpenSpec.ofChange engineNoneSpec)) engineNoneCard

/-- THE TIED CARD OF 'sakialaw27.FabricNone'. -/
def fabricNoneCard : Claim7 := { stood := { row := fabricNoneRow, standIns := [], harness := (true, "6faaef1e4bb8f503fc39c094470146b5b7449d68d8bf9a19e73165e22af51371"), looks := false }, kinds := [], alts := [], laidByText := true, laidKinds := [.data], laidTests := true, laidLooks := .later }
def FabricNoneCardSaid : Prop := Claim7.holds Tryz.pinned (.plain (OpenSpec.ofChange fabricNoneSpec)) fabricNoneCard

/-- THE SECOND FORM's CARD OF 'sakialaw26.EngineNone'. -/
def engineNoneUptoCard : Claim7 := { stood := { row := engineNoneUptoRow, standIns := [], harness := (true, "6faaef1e4bb8f503fc39c094470146b5b7449d68d8bf9a19e73165e22af51371"), looks := false }, kinds := [], alts := [], laidByText := true, laidKinds := [.data], laidTests := true, laidLooks := .later }
def EngineNoneUptoCardSaid : Prop := Claim7.holds Tryz.pinned (.plain (OpenSpec.upto engineNoneSpec)) engineNoneUptoCard

/-- THE SECOND FORM's CARD OF 'sakialaw27.FabricNone'. -/
def fabricNoneUptoCard : Claim7 := { stood := { row := fabricNoneUptoRow, standIns := [], harness := (true, "6faaef1e4bb8f503fc39c094470146b5b7449d68d8bf9a19e73165e22af51371"), looks := false }, kinds := [], alts := [], laidByText := true, laidKinds := [.data], laidTests := true, laidLooks := .later }
def FabricNoneUptoCardSaid : Prop := Claim7.holds Tryz.pinned (.plain (OpenSpec.upto fabricNoneSpec)) fabricNoneUptoCard
end Rows
end Go.Proofs.YtebmnnbjfjadaaaGreatDoor
