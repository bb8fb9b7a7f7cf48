/-
  DERIVED. GIVEN WITH THE SEED: THE CARDS: each row of YtpbpoddeiocgbaaDoorRows.lean that lists a variable, with what it lists TIED to the program's text (the seventh form; the later family's looks); each row that meets fmt, with fmt's text TOLD by the authors' own Lean function (tested against real Go, not proved from fmt's source: count such statements apart). THE CARD IS WHAT COUNTS. Prove the row's statement (the work); the ties are given (YtpbpoddeiocgbaaDoorTie.lean); close each card by the builder's one call (the guide's Derived/Test/ToyasCard.lean, 'card_holds'). Laid BY PROGRAM, IN A SANDBOX (cutbox-door.mjs). By AI agents, Wed Nov 11 2026. No macro, syntax, notation, axiom, sorry.
-/
import Derived.Test.YtpbpoddeiocgbaaDoorRows
import GoSem.ClaimSeven
namespace Go.Proofs.YtpbpoddeiocgbaaDoor
namespace Rows

/-- THE TIED CARD OF 'groatlaw11.RouteOwn'. -/
def routeOwnCard : Claim7 := { stood := { row := routeOwnRow, standIns := [], harness := (true, "eb4fce674e17c2c55fe3ab27b2b760d9b0a8a903d7af1d3ae2cc3368917be355"), looks := true }, kinds := [], alts := [], laidByText := true, laidKinds := [.data, .pinned], laidTests := true, laidLooks := .later }
def RouteOwnCardSaid : Prop := Claim7.holds Tryd.pinned (.plain (OpenSpec.ofChange routeOwnSpec)) routeOwnCard

/-- THE TIED CARD OF 'groatlaw11.RoutePlays'. -/
def routePlaysCard : Claim7 := { stood := { row := routePlaysRow, standIns := [], harness := (true, "eb4fce674e17c2c55fe3ab27b2b760d9b0a8a903d7af1d3ae2cc3368917be355"), looks := true }, kinds := [], alts := [], laidByText := true, laidKinds := [.data, .pinned], laidTests := true, laidLooks := .later }
def RoutePlaysCardSaid : Prop := Claim7.holds Tryd.pinned (.plain (OpenSpec.ofChange routePlaysSpec)) routePlaysCard

/-- THE SECOND FORM's CARD OF 'groatlaw11.RouteOwn'. -/
def routeOwnUptoCard : Claim7 := { stood := { row := routeOwnUptoRow, standIns := [], harness := (true, "eb4fce674e17c2c55fe3ab27b2b760d9b0a8a903d7af1d3ae2cc3368917be355"), looks := true }, kinds := [], alts := [], laidByText := true, laidKinds := [.data, .pinned], laidTests := true, laidLooks := .later }
def RouteOwnUptoCardSaid : Prop := Claim7.holds Tryd.pinned (.plain (OpenSpec.upto routeOwnSpec)) routeOwnUptoCard

/-- THE SECOND FORM's CARD OF 'groatlaw11.RoutePlays'. -/
def routePlaysUptoCard : Claim7 := { stood := { row := routePlaysUptoRow, standIns := [], harness := (true, "eb4fce674e17c2c55fe3ab27b2b760d9b0a8a903d7af1d3ae2cc3368917be355"), looks := true }, kinds := [], alts := [], laidByText := true, laidKinds := [.data, .pinned], laidTests := true, laidLooks := .later }
def RoutePlaysUptoCardSaid : Prop := Claim7.holds Tryd.pinned (.plain (OpenSpec.upto routePlaysSpec)) routePlaysUptoCard
end Rows
end Go.Proofs.YtpbpoddeiocgbaaDoor
