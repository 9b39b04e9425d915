/-
  DERIVED. GIVEN WITH THE SEED: THE CARDS: each row of YtkihflnenifcgaaGreatDoorRows.lean that lists a variable, with what it lists TIED to the program's text (the seventh form; the later family's looks); each row that meets fmt, with fmt's text TOLD by the authors' own Lean function (tested against real Go, not proved from fmt's source: count such statements apart). THE CARD IS WHAT COUNTS. Prove the row's statement (the work); the ties are given (YtkihflnenifcgaaGreatDoorTie.lean); close each card by the builder's one call (the guide's Derived/Test/ToyasCard.lean, 'card_holds'). Laid BY PROGRAM, IN A SANDBOX (cutbox-door.mjs). By AI agents, Wed Nov 11 2026. No macro, syntax, notation, axiom, sorry.
-/
import Derived.Test.YtkihflnenifcgaaGreatDoorRows
import GoSem.ClaimSeven
namespace Go.Proofs.YtkihflnenifcgaaGreatDoor
namespace Rows

/-- THE TIED CARD OF 'laws.FnCanonical'. -/
def fnCanonicalCard : Claim7 := { stood := { row := fnCanonicalRow, standIns := [], harness := (true, "836067ae1cfb6c9728a09fc41cf554f5a4e8d9720e33559e30b2af3d893b3f2d"), looks := false }, kinds := [], alts := [], laidByText := true, laidKinds := [.data, .data, .data], laidTests := true, laidLooks := .later }
def FnCanonicalCardSaid : Prop := Claim7.holds Tryz.pinned (.plain (OpenSpec.ofChange fnCanonicalSpec)) fnCanonicalCard

/-- THE TIED CARD OF 'laws.FnExactCertificateOf'. -/
def fnExactCertificateOfCard : Claim7 := { stood := { row := fnExactCertificateOfRow, standIns := [], harness := (true, "836067ae1cfb6c9728a09fc41cf554f5a4e8d9720e33559e30b2af3d893b3f2d"), looks := false }, kinds := [], alts := [], laidByText := true, laidKinds := [.data, .data, .data], laidTests := true, laidLooks := .later }
def FnExactCertificateOfCardSaid : Prop := Claim7.holds Tryz.pinned (.plain (OpenSpec.ofChange fnExactCertificateOfSpec)) fnExactCertificateOfCard

/-- THE SECOND FORM's CARD OF 'laws.FnCanonical'. -/
def fnCanonicalUptoCard : Claim7 := { stood := { row := fnCanonicalUptoRow, standIns := [], harness := (true, "836067ae1cfb6c9728a09fc41cf554f5a4e8d9720e33559e30b2af3d893b3f2d"), looks := false }, kinds := [], alts := [], laidByText := true, laidKinds := [.data, .data, .data], laidTests := true, laidLooks := .later }
def FnCanonicalUptoCardSaid : Prop := Claim7.holds Tryz.pinned (.plain (OpenSpec.upto fnCanonicalSpec)) fnCanonicalUptoCard

/-- THE SECOND FORM's CARD OF 'laws.FnExactCertificateOf'. -/
def fnExactCertificateOfUptoCard : Claim7 := { stood := { row := fnExactCertificateOfUptoRow, standIns := [], harness := (true, "836067ae1cfb6c9728a09fc41cf554f5a4e8d9720e33559e30b2af3d893b3f2d"), looks := false }, kinds := [], alts := [], laidByText := true, laidKinds := [.data, .data, .data], laidTests := true, laidLooks := .later }
def FnExactCertificateOfUptoCardSaid : Prop := Claim7.holds Tryz.pinned (.plain (OpenSpec.upto fnExactCertificateOfSpec)) fnExactCertificateOfUptoCard
end Rows
end Go.Proofs.YtkihflnenifcgaaGreatDoor
