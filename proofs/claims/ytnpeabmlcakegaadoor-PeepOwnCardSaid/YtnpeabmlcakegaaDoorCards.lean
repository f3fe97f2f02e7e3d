/-
  DERIVED. GIVEN WITH THE SEED: THE CARDS: each row of YtnpeabmlcakegaaDoorRows.lean that lists a variable, with what it lists TIED to the program's text (the seventh form; the later family's looks); each row that meets fmt, with fmt's text TOLD by the authors' own Lean function (tested against real Go, not proved from fmt's source: count such statements apart). THE CARD IS WHAT COUNTS. Prove the row's statement (the work); the ties are given (YtnpeabmlcakegaaDoorTie.lean); close each card by the builder's one call (the guide's Derived/Test/ToyasCard.lean, 'card_holds'). Laid BY PROGRAM, IN A SANDBOX (cutbox-door.mjs). By AI agents, Wed Nov 11 2026. No macro, syntax, notation, axiom, sorry.
-/
import Derived.Test.YtnpeabmlcakegaaDoorRows
import GoSem.ClaimSeven
namespace Go.Proofs.YtnpeabmlcakegaaDoor
namespace Rows

/-- THE TIED CARD OF 'harrowlaw20.PeepKinds'. -/
def peepKindsCard : Claim7 := { stood := { row := peepKindsRow, standIns := [], harness := (true, "611ae94eebb6ae570217e6de654773cbfa10b9b19f181010b422dec85e816cb8"), looks := false }, kinds := [], alts := [], laidByText := true, laidKinds := [.data], laidTests := true, laidLooks := .later }
def PeepKindsCardSaid : Prop := Claim7.holds Tryd.pinned (.plain (OpenSpec.ofChange peepKindsSpec)) peepKindsCard

/-- THE TIED CARD OF 'harrowlaw20.PeepBetter'. -/
def peepBetterCard : Claim7 := { stood := { row := peepBetterRow, standIns := [], harness := (true, "611ae94eebb6ae570217e6de654773cbfa10b9b19f181010b422dec85e816cb8"), looks := false }, kinds := [], alts := [], laidByText := true, laidKinds := [.data], laidTests := true, laidLooks := .later }
def PeepBetterCardSaid : Prop := Claim7.holds Tryd.pinned (.plain (OpenSpec.ofChange peepBetterSpec)) peepBetterCard

/-- THE TIED CARD OF 'harrowlaw20.PeepSettles'. -/
def peepSettlesCard : Claim7 := { stood := { row := peepSettlesRow, standIns := [], harness := (true, "611ae94eebb6ae570217e6de654773cbfa10b9b19f181010b422dec85e816cb8"), looks := false }, kinds := [], alts := [], laidByText := true, laidKinds := [.data], laidTests := true, laidLooks := .later }
def PeepSettlesCardSaid : Prop := Claim7.holds Tryd.pinned (.plain (OpenSpec.ofChange peepSettlesSpec)) peepSettlesCard

/-- THE TIED CARD OF 'harrowlaw20.PeepOwn'. -/
def peepOwnCard : Claim7 := { stood := { row := peepOwnRow, standIns := [], harness := (true, "611ae94eebb6ae570217e6de654773cbfa10b9b19f181010b422dec85e816cb8"), looks := false }, kinds := [], alts := [], laidByText := true, laidKinds := [.data], laidTests := true, laidLooks := .later }
def PeepOwnCardSaid : Prop := Claim7.holds Tryd.pinned (.plain (OpenSpec.ofChange peepOwnSpec)) peepOwnCard

/-- THE SECOND FORM's CARD OF 'harrowlaw20.PeepKinds'. -/
def peepKindsUptoCard : Claim7 := { stood := { row := peepKindsUptoRow, standIns := [], harness := (true, "611ae94eebb6ae570217e6de654773cbfa10b9b19f181010b422dec85e816cb8"), looks := false }, kinds := [], alts := [], laidByText := true, laidKinds := [.data], laidTests := true, laidLooks := .later }
def PeepKindsUptoCardSaid : Prop := Claim7.holds Tryd.pinned (.plain (OpenSpec.upto peepKindsSpec)) peepKindsUptoCard

/-- THE SECOND FORM's CARD OF 'harrowlaw20.PeepBetter'. -/
def peepBetterUptoCard : Claim7 := { stood := { row := peepBetterUptoRow, standIns := [], harness := (true, "611ae94eebb6ae570217e6de654773cbfa10b9b19f181010b422dec85e816cb8"), looks := false }, kinds := [], alts := [], laidByText := true, laidKinds := [.data], laidTests := true, laidLooks := .later }
def PeepBetterUptoCardSaid : Prop := Claim7.holds Tryd.pinned (.plain (OpenSpec.upto peepBetterSpec)) peepBetterUptoCard

/-- THE SECOND FORM's CARD OF 'harrowlaw20.PeepSettles'. -/
def peepSettlesUptoCard : Claim7 := { stood := { row := peepSettlesUptoRow, standIns := [], harness := (true, "611ae94eebb6ae570217e6de654773cbfa10b9b19f181010b422dec85e816cb8"), looks := false }, kinds := [], alts := [], laidByText := true, laidKinds := [.data], laidTests := true, laidLooks := .later }
def PeepSettlesUptoCardSaid : Prop := Claim7.holds Tryd.pinned (.plain (OpenSpec.upto peepSettlesSpec)) peepSettlesUptoCard

/-- THE SECOND FORM's CARD OF 'harrowlaw20.PeepOwn'. -/
def peepOwnUptoCard : Claim7 := { stood := { row := peepOwnUptoRow, standIns := [], harness := (true, "611ae94eebb6ae570217e6de654773cbfa10b9b19f181010b422dec85e816cb8"), looks := false }, kinds := [], alts := [], laidByText := true, laidKinds := [.data], laidTests := true, laidLooks := .later }
def PeepOwnUptoCardSaid : Prop := Claim7.holds Tryd.pinned (.plain (OpenSpec.upto peepOwnSpec)) peepOwnUptoCard
end Rows
end Go.Proofs.YtnpeabmlcakegaaDoor
