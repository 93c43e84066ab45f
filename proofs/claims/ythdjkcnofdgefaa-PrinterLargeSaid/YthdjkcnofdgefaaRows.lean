/-
  No cell of these rows narrows 'for every input' (looked for: loops, veiled, ifaces, maps, wideKeys, modest, calm, conditions, laid).
  DERIVED. THE GIVEN ROWS OF THIS SEAT. 1 by the template 'for every input the law returns true; each argument reads behind the call as it read before'; 0 by the template 'total and deterministic' (their statements: YthdjkcnofdgefaaTotals.lean).
  GIVEN WITH THE SEED: the statements are not yours to turn. If you find one false, say at which input.
  Laid BY PROGRAM, IN A SANDBOX (cutbox-rows.mjs): the forced cells as the released guide's own fill.sh prints them over the translation d207a98d3a4445ee… (all of the seat's roots in one cut). By AI agents, Wed Nov 11 2026. No macro, syntax, notation, axiom, sorry.
-/
import Derived.Test.YthdjkcnofdgefaaChecked
import GoSem.Claim
import GoSem.ClaimJoined
import GoSem.ClaimMapViews
import Derived.JoinedTies
import Derived.KernelRfl
namespace Go.Proofs.Ythdjkcnofdgefaa
/- THE CELL 'sum', in the pinned program and in every row, IS THE sha256 OF THE DUMP (.gsa) THAT YthdjkcnofdgefaaProg.lean LOADS. Nothing in Lean hashes anything: it is a label: what it is worth is what the hold of that sum in a sandbox is worth. -/
noncomputable def Try.pinned : Pinned := { name := "ythdjkcnofdgefaa", sum := "d207a98d3a4445eeeaccf133e6ec00655d79ec0c32ebbc6721241301bfed4ec5", checked := Try.checked }
namespace Rows
def none {H : Type} : Left H := { results := [], args := [] }

/-- 'geoproverlaw18.PrinterLarge': WHATEVER THE INPUT: true; the input reads as it did. -/
def printerLargeSpec : ChangeSpec := { name := "printerLarge", fn := fun _ => fun
  | [d1, d2] => { results := [.lit (.bool true)], args := [d1, d2] }
  | _ => none }
def printerLargeRow : OpenClaim := { program := "ythdjkcnofdgefaa", sum := "d207a98d3a4445eeeaccf133e6ec00655d79ec0c32ebbc6721241301bfed4ec5", func := "geoprover/geoproverlaw18.PrinterLarge", spec := "printerLarge", inPlace := ["gosem.stop:geoprover/ast.sortOf", "gosem.stop:geoprover/ast.Check", "internal/abi.NoEscape", "internal/bytealg.MakeNoZero", "gosem.stop:(*geoprover/printer.writer).point", "gosem.stop:(*geoprover/printer.writer).line", "gosem.stop:(*geoprover/printer.writer).circle", "gosem.stop:(*geoprover/printer.writer).prove"], unfollowed := true, recurses := true, apart := false }
def PrinterLargeSaid : Prop := printerLargeRow.holds Try.pinned (OpenSpec.ofChange printerLargeSpec)

/-- ITS FALSE NEIGHBOUR: 'it returns false'. Refute it at one input. -/
def printerLargeWrong : ChangeSpec := { name := "printerLarge", fn := fun _ => fun
  | [d1, d2] => { results := [.lit (.bool false)], args := [d1, d2] }
  | _ => none }
def PrinterLargeWrongFalsely : Prop := printerLargeRow.holds Try.pinned (OpenSpec.ofChange printerLargeWrong)

/- THE SECOND FORM. 'bulk': how many values and letters a reading holds, each counted each time it is reached (what is shared counts as often as it is met; a slice's spare places count too). A statement '..UptoSaid' is the law's where the arguments, and the package variables that the reading takes, are together of bulk at most 1048576: NARROWER than '..Said'. Prove '..Said' where nothing that the law and all that it calls make is longer than what came in: it says more and counts as full. Else prove '..UptoSaid'. A law counts once. -/
mutual
def uptoBulk {H : Type} : DataW H → Nat
  | .lit (.string bytes) => bytes.length + 1
  | .lit _ => 1
  | .nil => 1
  | .ptr d => uptoBulk d + 1
  | .slice elems spare => uptoBulkAll elems + uptoBulkAll spare + 1
  | .agg parts => uptoBulkAll parts + 1
  | .iface _ d => uptoBulk d + 1
  | .map entries => uptoBulkEntries entries + 1
  | .held _ => 1
def uptoBulkAll {H : Type} : List (DataW H) → Nat
  | [] => 0
  | d :: r => uptoBulk d + uptoBulkAll r
def uptoBulkEntries {H : Type} : List (Lit × DataW H) → Nat
  | [] => 0
  | x :: r => uptoBulkEntry x + uptoBulkEntries r
def uptoBulkEntry {H : Type} : Lit × DataW H → Nat
  | (.string bytes, d) => bytes.length + uptoBulk d + 1
  | (_, d) => uptoBulk d + 1
 end
def uptoSmall : (H : Type) → List (DataW H) → Bool := fun _ ds => decide (uptoBulkAll ds ≤ 1048576)
def OpenSpec.upto (s : _root_.Go.ChangeSpec) : _root_.Go.OpenSpec := { _root_.Go.OpenSpec.ofChange s with cond := some uptoSmall }

/-- 'geoproverlaw18.PrinterLarge', WHERE WHAT IT READS IS OF BULK AT MOST 1048576: true; the input reads as it did. -/
def printerLargeUptoRow : OpenClaim := { program := "ythdjkcnofdgefaa", sum := "d207a98d3a4445eeeaccf133e6ec00655d79ec0c32ebbc6721241301bfed4ec5", func := "geoprover/geoproverlaw18.PrinterLarge", spec := "printerLarge", inPlace := ["gosem.stop:geoprover/ast.sortOf", "gosem.stop:geoprover/ast.Check", "internal/abi.NoEscape", "internal/bytealg.MakeNoZero", "gosem.stop:(*geoprover/printer.writer).point", "gosem.stop:(*geoprover/printer.writer).line", "gosem.stop:(*geoprover/printer.writer).circle", "gosem.stop:(*geoprover/printer.writer).prove"], unfollowed := true, recurses := true, apart := false, narrowed := true }
def PrinterLargeUptoSaid : Prop := printerLargeUptoRow.holds Try.pinned (OpenSpec.upto printerLargeSpec)

end Rows
end Go.Proofs.Ythdjkcnofdgefaa
