/-
  DERIVED. GIVEN WITH THE SEED: THE CARDS: each row of YteionboacdkfjaaDoorRows.lean that lists a variable, with what it lists TIED to the program's text (the seventh form; the later family's looks); each row that meets fmt, with fmt's text TOLD by the authors' own Lean function (tested against real Go, not proved from fmt's source: count such statements apart). THE CARD IS WHAT COUNTS. Prove the row's statement (the work); the ties are given (YteionboacdkfjaaDoorTie.lean); close each card by the builder's one call (the guide's Derived/Test/ToyasCard.lean, 'card_holds'). Laid BY PROGRAM, IN A SANDBOX (cutbox-door.mjs). By AI agents, Wed Nov 11 2026. No macro, syntax, notation, axiom, sorry.
-/
import Derived.Test.YteionboacdkfjaaDoorRows
import GoSem.ClaimSeven
namespace Go.Proofs.YteionboacdkfjaaDoor
namespace Rows

/-- THE TIED CARD OF 'pinnacelaw11.UartWrites'. -/
def uartWritesCard : Claim7 := { stood := { row := uartWritesRow, standIns := [], harness := (true, "43040849437e10e4d02b4f82fbc5e445fb8f43072902f4499bb9ed81ff1884c8"), looks := true }, kinds := [], alts := [], laidByText := true, laidKinds := [.handle], laidTests := true, laidLooks := .later }
def UartWritesCardSaid : Prop := Claim7.holds Tryd.pinned (.plain (OpenSpec.ofChange uartWritesSpec)) uartWritesCard

/-- THE TIED CARD OF 'pinnacelaw11.UartReads'. -/
def uartReadsCard : Claim7 := { stood := { row := uartReadsRow, standIns := [], harness := (true, "43040849437e10e4d02b4f82fbc5e445fb8f43072902f4499bb9ed81ff1884c8"), looks := true }, kinds := [], alts := [], laidByText := true, laidKinds := [.handle], laidTests := true, laidLooks := .later }
def UartReadsCardSaid : Prop := Claim7.holds Tryd.pinned (.plain (OpenSpec.ofChange uartReadsSpec)) uartReadsCard

/-- THE SECOND FORM's CARD OF 'pinnacelaw11.UartWrites'. -/
def uartWritesUptoCard : Claim7 := { stood := { row := uartWritesUptoRow, standIns := [], harness := (true, "43040849437e10e4d02b4f82fbc5e445fb8f43072902f4499bb9ed81ff1884c8"), looks := true }, kinds := [], alts := [], laidByText := true, laidKinds := [.handle], laidTests := true, laidLooks := .later }
def UartWritesUptoCardSaid : Prop := Claim7.holds Tryd.pinned (.plain (OpenSpec.upto uartWritesSpec)) uartWritesUptoCard

/-- THE SECOND FORM's CARD OF 'pinnacelaw11.UartReads'. -/
def uartReadsUptoCard : Claim7 := { stood := { row := uartReadsUptoRow, standIns := [], harness := (true, "43040849437e10e4d02b4f82fbc5e445fb8f43072902f4499bb9ed81ff1884c8"), looks := true }, kinds := [], alts := [], laidByText := true, laidKinds := [.handle], laidTests := true, laidLooks := .later }
def UartReadsUptoCardSaid : Prop := Claim7.holds Tryd.pinned (.plain (OpenSpec.upto uartReadsSpec)) uartReadsUptoCard
end Rows
end Go.Proofs.YteionboacdkfjaaDoor
