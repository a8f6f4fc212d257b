/-
  DERIVED. GIVEN WITH THE SEED: THE CARDS: each row of YtoiehfgdjjmakaaDoorRows.lean that lists a variable, with what it lists TIED to the program's text (the seventh form; the later family's looks); each row that meets fmt, with fmt's text TOLD by the authors' own Lean function (tested against real Go, not proved from fmt's source: count such statements apart). THE CARD IS WHAT COUNTS. Prove the row's statement (the work); the ties are given (YtoiehfgdjjmakaaDoorTie.lean); close each card by the builder's one call (the guide's Derived/Test/ToyasCard.lean, 'card_holds'). Laid BY PROGRAM, IN A SANDBOX (cutbox-door.mjs). By AI agents, Wed Nov 11 2026. No macro, syntax, notation, axiom, sorry.
-/
import Derived.Test.YtoiehfgdjjmakaaDoorRows
import GoSem.ClaimSeven
namespace Go.Proofs.YtoiehfgdjjmakaaDoor
namespace Rows

/-- THE TIED CARD OF 'sakialaw20.CasTiles'. -/
def casTilesCard : Claim7 := { stood := { row := casTilesRow, standIns := [], harness := (true, "e8357834b9519ba3540675e299c3b66d3783dbe118eb2229b566cebda8635487"), looks := false }, kinds := [], alts := [], laidByText := true, laidKinds := [.data], laidTests := true, laidLooks := .later }
def CasTilesCardSaid : Prop := Claim7.holds Tryd.pinned (.plain (OpenSpec.ofChange casTilesSpec)) casTilesCard

/-- THE TIED CARD OF 'sakialaw23.LockNone'. -/
def lockNoneCard : Claim7 := { stood := { row := lockNoneRow, standIns := [], harness := (true, "e8357834b9519ba3540675e299c3b66d3783dbe118eb2229b566cebda8635487"), looks := false }, kinds := [], alts := [], laidByText := true, laidKinds := [.data], laidTests := true, laidLooks := .later }
def LockNoneCardSaid : Prop := Claim7.holds Tryd.pinned (.plain (OpenSpec.ofChange lockNoneSpec)) lockNoneCard

/-- THE TIED CARD OF 'sakialaw23.LockTiles'. -/
def lockTilesCard : Claim7 := { stood := { row := lockTilesRow, standIns := [], harness := (true, "e8357834b9519ba3540675e299c3b66d3783dbe118eb2229b566cebda8635487"), looks := false }, kinds := [], alts := [], laidByText := true, laidKinds := [.data], laidTests := true, laidLooks := .later }
def LockTilesCardSaid : Prop := Claim7.holds Tryd.pinned (.plain (OpenSpec.ofChange lockTilesSpec)) lockTilesCard

/-- THE SECOND FORM's CARD OF 'sakialaw20.CasTiles'. -/
def casTilesUptoCard : Claim7 := { stood := { row := casTilesUptoRow, standIns := [], harness := (true, "e8357834b9519ba3540675e299c3b66d3783dbe118eb2229b566cebda8635487"), looks := false }, kinds := [], alts := [], laidByText := true, laidKinds := [.data], laidTests := true, laidLooks := .later }
def CasTilesUptoCardSaid : Prop := Claim7.holds Tryd.pinned (.plain (OpenSpec.upto casTilesSpec)) casTilesUptoCard

/-- THE SECOND FORM's CARD OF 'sakialaw23.LockNone'. -/
def lockNoneUptoCard : Claim7 := { stood := { row := lockNoneUptoRow, standIns := [], harness := (true, "e8357834b9519ba3540675e299c3b66d3783dbe118eb2229b566cebda8635487"), looks := false }, kinds := [], alts := [], laidByText := true, laidKinds := [.data], laidTests := true, laidLooks := .later }
def LockNoneUptoCardSaid : Prop := Claim7.holds Tryd.pinned (.plain (OpenSpec.upto lockNoneSpec)) lockNoneUptoCard

/-- THE SECOND FORM's CARD OF 'sakialaw23.LockTiles'. -/
def lockTilesUptoCard : Claim7 := { stood := { row := lockTilesUptoRow, standIns := [], harness := (true, "e8357834b9519ba3540675e299c3b66d3783dbe118eb2229b566cebda8635487"), looks := false }, kinds := [], alts := [], laidByText := true, laidKinds := [.data], laidTests := true, laidLooks := .later }
def LockTilesUptoCardSaid : Prop := Claim7.holds Tryd.pinned (.plain (OpenSpec.upto lockTilesSpec)) lockTilesUptoCard
end Rows
end Go.Proofs.YtoiehfgdjjmakaaDoor
