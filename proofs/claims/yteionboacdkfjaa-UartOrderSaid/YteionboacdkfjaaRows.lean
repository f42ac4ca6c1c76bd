/-
  No cell of these rows narrows 'for every input' (looked for: loops, veiled, ifaces, maps, wideKeys, modest, calm, conditions, laid).
  DERIVED. THE GIVEN ROWS OF THIS SEAT. 3 by the template 'for every input the law returns true; each argument reads behind the call as it read before'; 0 by the template 'total and deterministic' (their statements: YteionboacdkfjaaTotals.lean).
  GIVEN WITH THE SEED: the statements are not yours to turn. If you find one false, say at which input.
  Laid BY PROGRAM, IN A SANDBOX (cutbox-rows.mjs): the forced cells as the released guide's own fill.sh prints them over the translation 6b02fbd4bc2bff98… (all of the seat's roots in one cut). By AI agents, Wed Nov 11 2026. No macro, syntax, notation, axiom, sorry.
-/
import Derived.Test.YteionboacdkfjaaChecked
import GoSem.Claim
import GoSem.ClaimJoined
import GoSem.ClaimMapViews
import Derived.JoinedTies
import Derived.KernelRfl
namespace Go.Proofs.Yteionboacdkfjaa
/- THE CELL 'sum', in the pinned program and in every row, IS THE sha256 OF THE DUMP (.gsa) THAT YteionboacdkfjaaProg.lean LOADS. Nothing in Lean hashes anything: it is a label: what it is worth is what the hold of that sum in a sandbox is worth. -/
noncomputable def Try.pinned : Pinned := { name := "yteionboacdkfjaa", sum := "6b02fbd4bc2bff98c21f6ced726829e61ffa2f23a09b2025e4dcd9c29f40485d", checked := Try.checked }
namespace Rows
def none {H : Type} : Left H := { results := [], args := [] }

/-- 'pinnacelaw11.UartTicks': WHATEVER THE INPUT: true; the input reads as it did. -/
def uartTicksSpec : ChangeSpec := { name := "uartTicks", fn := fun _ => fun
  | [d1, d2] => { results := [.lit (.bool true)], args := [d1, d2] }
  | _ => none }
def uartTicksRow : OpenClaim := { program := "yteionboacdkfjaa", sum := "6b02fbd4bc2bff98c21f6ced726829e61ffa2f23a09b2025e4dcd9c29f40485d", func := "pinnace/pinnacelaw11.UartTicks", spec := "uartTicks", unfollowed := true, recurses := true, apart := false }
def UartTicksSaid : Prop := uartTicksRow.holds Try.pinned (OpenSpec.ofChange uartTicksSpec)

/-- ITS FALSE NEIGHBOUR: 'it returns false'. Refute it at one input. -/
def uartTicksWrong : ChangeSpec := { name := "uartTicks", fn := fun _ => fun
  | [d1, d2] => { results := [.lit (.bool false)], args := [d1, d2] }
  | _ => none }
def UartTicksWrongFalsely : Prop := uartTicksRow.holds Try.pinned (OpenSpec.ofChange uartTicksWrong)

/-- 'pinnacelaw11.UartKeeps': WHATEVER THE INPUT: true; the input reads as it did. -/
def uartKeepsSpec : ChangeSpec := { name := "uartKeeps", fn := fun _ => fun
  | [d1, d2, d3] => { results := [.lit (.bool true)], args := [d1, d2, d3] }
  | _ => none }
def uartKeepsRow : OpenClaim := { program := "yteionboacdkfjaa", sum := "6b02fbd4bc2bff98c21f6ced726829e61ffa2f23a09b2025e4dcd9c29f40485d", func := "pinnace/pinnacelaw11.UartKeeps", spec := "uartKeeps", unfollowed := true, recurses := true, apart := false }
def UartKeepsSaid : Prop := uartKeepsRow.holds Try.pinned (OpenSpec.ofChange uartKeepsSpec)

/-- ITS FALSE NEIGHBOUR: 'it returns false'. Refute it at one input. -/
def uartKeepsWrong : ChangeSpec := { name := "uartKeeps", fn := fun _ => fun
  | [d1, d2, d3] => { results := [.lit (.bool false)], args := [d1, d2, d3] }
  | _ => none }
def UartKeepsWrongFalsely : Prop := uartKeepsRow.holds Try.pinned (OpenSpec.ofChange uartKeepsWrong)

/-- 'pinnacelaw11.UartOrder': WHATEVER THE INPUT: true; the input reads as it did. -/
def uartOrderSpec : ChangeSpec := { name := "uartOrder", fn := fun _ => fun
  | [d] => { results := [.lit (.bool true)], args := [d] }
  | _ => none }
def uartOrderRow : OpenClaim := { program := "yteionboacdkfjaa", sum := "6b02fbd4bc2bff98c21f6ced726829e61ffa2f23a09b2025e4dcd9c29f40485d", func := "pinnace/pinnacelaw11.UartOrder", spec := "uartOrder", unfollowed := true, recurses := true, apart := false }
def UartOrderSaid : Prop := uartOrderRow.holds Try.pinned (OpenSpec.ofChange uartOrderSpec)

/-- ITS FALSE NEIGHBOUR: 'it returns false'. Refute it at one input. -/
def uartOrderWrong : ChangeSpec := { name := "uartOrder", fn := fun _ => fun
  | [d] => { results := [.lit (.bool false)], args := [d] }
  | _ => none }
def UartOrderWrongFalsely : Prop := uartOrderRow.holds Try.pinned (OpenSpec.ofChange uartOrderWrong)

/- THE SECOND FORM. 'bulk': how many values and letters a reading holds, each counted each time it is reached (what is shared counts as often as it is met; a slice's spare places count too). A statement '..UptoSaid' is the law's where the arguments, and the package variables that the reading takes, are together of bulk at most 1048576: NARROWER than '..Said'. Prove '..Said' where nothing that the law and all that it calls make is longer than what came in: it says more and counts as full. Else prove '..UptoSaid'. A law counts once. -/
mutual
def uptoBulk {H : Type} : DataW H → Nat
  | .lit (.string bytes) => bytes.length + 1
  | .lit _ => 1
  | .nil => 1
  | .ptr d => uptoBulk d + 1
  | .slice elems spare => uptoBulkAll elems + uptoBulkAll spare + 1
  | .agg parts => uptoBulkAll parts + 1
  | .iface _ d => uptoBulk d + 1
  | .map entries => uptoBulkEntries entries + 1
  | .held _ => 1
def uptoBulkAll {H : Type} : List (DataW H) → Nat
  | [] => 0
  | d :: r => uptoBulk d + uptoBulkAll r
def uptoBulkEntries {H : Type} : List (Lit × DataW H) → Nat
  | [] => 0
  | x :: r => uptoBulkEntry x + uptoBulkEntries r
def uptoBulkEntry {H : Type} : Lit × DataW H → Nat
  | (.string bytes, d) => bytes.length + uptoBulk d + 1
  | (_, d) => uptoBulk d + 1
 end
def uptoSmall : (H : Type) → List (DataW H) → Bool := fun _ ds => decide (uptoBulkAll ds ≤ 1048576)
def OpenSpec.upto (s : _root_.Go.ChangeSpec) : _root_.Go.OpenSpec := { _root_.Go.OpenSpec.ofChange s with cond := some uptoSmall }

/-- 'pinnacelaw11.UartTicks', WHERE WHAT IT READS IS OF BULK AT MOST 1048576: true; the input reads as it did. -/
def uartTicksUptoRow : OpenClaim := { program := "yteionboacdkfjaa", sum := "6b02fbd4bc2bff98c21f6ced726829e61ffa2f23a09b2025e4dcd9c29f40485d", func := "pinnace/pinnacelaw11.UartTicks", spec := "uartTicks", unfollowed := true, recurses := true, apart := false, narrowed := true }
def UartTicksUptoSaid : Prop := uartTicksUptoRow.holds Try.pinned (OpenSpec.upto uartTicksSpec)

/-- 'pinnacelaw11.UartKeeps', WHERE WHAT IT READS IS OF BULK AT MOST 1048576: true; the input reads as it did. -/
def uartKeepsUptoRow : OpenClaim := { program := "yteionboacdkfjaa", sum := "6b02fbd4bc2bff98c21f6ced726829e61ffa2f23a09b2025e4dcd9c29f40485d", func := "pinnace/pinnacelaw11.UartKeeps", spec := "uartKeeps", unfollowed := true, recurses := true, apart := false, narrowed := true }
def UartKeepsUptoSaid : Prop := uartKeepsUptoRow.holds Try.pinned (OpenSpec.upto uartKeepsSpec)

/-- 'pinnacelaw11.UartOrder', WHERE WHAT IT READS IS OF BULK AT MOST 1048576: true; the input reads as it did. -/
def uartOrderUptoRow : OpenClaim := { program := "yteionboacdkfjaa", sum := "6b02fbd4bc2bff98c21f6ced726829e61ffa2f23a09b2025e4dcd9c29f40485d", func := "pinnace/pinnacelaw11.UartOrder", spec := "uartOrder", unfollowed := true, recurses := true, apart := false, narrowed := true }
def UartOrderUptoSaid : Prop := uartOrderUptoRow.holds Try.pinned (OpenSpec.upto uartOrderSpec)

end Rows
end Go.Proofs.Yteionboacdkfjaa
