/-
  DERIVED. GIVEN WITH THE SEED: THE CARDS: each row of YthffmjeodoinlaaDoorRows.lean that lists a variable, with what it lists TIED to the program's text (the seventh form; the later family's looks); each row that meets fmt, with fmt's text TOLD by the authors' own Lean function (tested against real Go, not proved from fmt's source: count such statements apart). THE CARD IS WHAT COUNTS. Prove the row's statement (the work); the ties are given (YthffmjeodoinlaaDoorTie.lean); close each card by the builder's one call (the guide's Derived/Test/ToyasCard.lean, 'card_holds'). Laid BY PROGRAM, IN A SANDBOX (cutbox-door.mjs). By AI agents, Wed Nov 11 2026. No macro, syntax, notation, axiom, sorry.
-/
import Derived.Test.YthffmjeodoinlaaDoorRows
import GoSem.ClaimSeven
namespace Go.Proofs.YthffmjeodoinlaaDoor
namespace Rows

/-- THE TIED CARD OF 'laws.FnShards'. -/
def fnShardsCard : Claim7 := { stood := { row := fnShardsRow, standIns := [], harness := (true, "6af07d957961cb804b90ad54446ea6459b02e4a1b43f92ab4420638e2021b51e"), looks := false }, kinds := [], alts := [], laidByText := true, laidKinds := [.data, .data, .data], laidTests := true, laidLooks := .later }
def FnShardsCardSaid : Prop := Claim7.holds Tryd.pinned (.plain (OpenSpec.ofChange fnShardsSpec)) fnShardsCard

/-- THE SECOND FORM's CARD OF 'laws.FnShards'. -/
def fnShardsUptoCard : Claim7 := { stood := { row := fnShardsUptoRow, standIns := [], harness := (true, "6af07d957961cb804b90ad54446ea6459b02e4a1b43f92ab4420638e2021b51e"), looks := false }, kinds := [], alts := [], laidByText := true, laidKinds := [.data, .data, .data], laidTests := true, laidLooks := .later }
def FnShardsUptoCardSaid : Prop := Claim7.holds Tryd.pinned (.plain (OpenSpec.upto fnShardsSpec)) fnShardsUptoCard
end Rows
end Go.Proofs.YthffmjeodoinlaaDoor
