/-
  No cell of these rows narrows 'for every input' (looked for: loops, veiled, ifaces, maps, wideKeys, modest, calm, conditions, laid).
  DERIVED. THE GIVEN ROWS OF THIS SEAT. 3 by the template 'for every input the law returns true; each argument reads behind the call as it read before'; 0 by the template 'total and deterministic' (their statements: YthihdjhnldkdhaaTotals.lean).
  GIVEN WITH THE SEED: the statements are not yours to turn. If you find one false, say at which input.
  Laid BY PROGRAM, IN A SANDBOX (cutbox-rows.mjs): the forced cells as the released guide's own fill.sh prints them over the translation e4e310c728230e02… (all of the seat's roots in one cut). By AI agents, Wed Nov 11 2026. No macro, syntax, notation, axiom, sorry.
-/
import Derived.Test.YthihdjhnldkdhaaChecked
import GoSem.Claim
import GoSem.ClaimJoined
import GoSem.ClaimMapViews
import Derived.JoinedTies
import Derived.KernelRfl
namespace Go.Proofs.Ythihdjhnldkdhaa
/- THE CELL 'sum', in the pinned program and in every row, IS THE sha256 OF THE DUMP (.gsa) THAT YthihdjhnldkdhaaProg.lean LOADS. Nothing in Lean hashes anything: it is a label: what it is worth is what the hold of that sum in a sandbox is worth. -/
noncomputable def Try.pinned : Pinned := { name := "ythihdjhnldkdhaa", sum := "e4e310c728230e02f5f598c1d48e31924243192f3c4949092265ebc21494b432", checked := Try.checked }
namespace Rows
def none {H : Type} : Left H := { results := [], args := [] }

/-- 'tontinelaw15.DecrementFloats': WHATEVER THE INPUT: true; the input reads as it did. -/
def decrementFloatsSpec : ChangeSpec := { name := "decrementFloats", fn := fun _ => fun
  | [d1, d2, d3] => { results := [.lit (.bool true)], args := [d1, d2, d3] }
  | _ => none }
def decrementFloatsRow : OpenClaim := { program := "ythihdjhnldkdhaa", sum := "e4e310c728230e02f5f598c1d48e31924243192f3c4949092265ebc21494b432", func := "tontine/tontinelaw15.DecrementFloats", spec := "decrementFloats", inPlace := ["math.Float64bits"], apart := false }
def DecrementFloatsSaid : Prop := decrementFloatsRow.holds Try.pinned (OpenSpec.ofChange decrementFloatsSpec)

/-- ITS FALSE NEIGHBOUR: 'it returns false'. Refute it at one input. -/
def decrementFloatsWrong : ChangeSpec := { name := "decrementFloats", fn := fun _ => fun
  | [d1, d2, d3] => { results := [.lit (.bool false)], args := [d1, d2, d3] }
  | _ => none }
def DecrementFloatsWrongFalsely : Prop := decrementFloatsRow.holds Try.pinned (OpenSpec.ofChange decrementFloatsWrong)

/-- 'tontinelaw15.DecrementMeans': WHATEVER THE INPUT: true; the input reads as it did. -/
def decrementMeansSpec : ChangeSpec := { name := "decrementMeans", fn := fun _ => fun
  | [d1, d2, d3, d4] => { results := [.lit (.bool true)], args := [d1, d2, d3, d4] }
  | _ => none }
def decrementMeansRow : OpenClaim := { program := "ythihdjhnldkdhaa", sum := "e4e310c728230e02f5f598c1d48e31924243192f3c4949092265ebc21494b432", func := "tontine/tontinelaw15.DecrementMeans", spec := "decrementMeans", unfollowed := true, recurses := true, apart := false }
def DecrementMeansSaid : Prop := decrementMeansRow.holds Try.pinned (OpenSpec.ofChange decrementMeansSpec)

/-- ITS FALSE NEIGHBOUR: 'it returns false'. Refute it at one input. -/
def decrementMeansWrong : ChangeSpec := { name := "decrementMeans", fn := fun _ => fun
  | [d1, d2, d3, d4] => { results := [.lit (.bool false)], args := [d1, d2, d3, d4] }
  | _ => none }
def DecrementMeansWrongFalsely : Prop := decrementMeansRow.holds Try.pinned (OpenSpec.ofChange decrementMeansWrong)

/-- 'tontinelaw15.DecrementLess': WHATEVER THE INPUT: true; the input reads as it did. -/
def decrementLessSpec : ChangeSpec := { name := "decrementLess", fn := fun _ => fun
  | [d1, d2, d3] => { results := [.lit (.bool true)], args := [d1, d2, d3] }
  | _ => none }
def decrementLessRow : OpenClaim := { program := "ythihdjhnldkdhaa", sum := "e4e310c728230e02f5f598c1d48e31924243192f3c4949092265ebc21494b432", func := "tontine/tontinelaw15.DecrementLess", spec := "decrementLess", unfollowed := true, recurses := true, apart := false }
def DecrementLessSaid : Prop := decrementLessRow.holds Try.pinned (OpenSpec.ofChange decrementLessSpec)

/-- ITS FALSE NEIGHBOUR: 'it returns false'. Refute it at one input. -/
def decrementLessWrong : ChangeSpec := { name := "decrementLess", fn := fun _ => fun
  | [d1, d2, d3] => { results := [.lit (.bool false)], args := [d1, d2, d3] }
  | _ => none }
def DecrementLessWrongFalsely : Prop := decrementLessRow.holds Try.pinned (OpenSpec.ofChange decrementLessWrong)

/- THE SECOND FORM. 'bulk': how many values and letters a reading holds, each counted each time it is reached (what is shared counts as often as it is met; a slice's spare places count too). A statement '..UptoSaid' is the law's where the arguments, and the package variables that the reading takes, are together of bulk at most 1048576: NARROWER than '..Said'. Prove '..Said' where nothing that the law and all that it calls make is longer than what came in: it says more and counts as full. Else prove '..UptoSaid'. A law counts once. -/
mutual
def uptoBulk {H : Type} : DataW H → Nat
  | .lit (.string bytes) => bytes.length + 1
  | .lit _ => 1
  | .nil => 1
  | .ptr d => uptoBulk d + 1
  | .slice elems spare => uptoBulkAll elems + uptoBulkAll spare + 1
  | .agg parts => uptoBulkAll parts + 1
  | .iface _ d => uptoBulk d + 1
  | .map entries => uptoBulkEntries entries + 1
  | .held _ => 1
def uptoBulkAll {H : Type} : List (DataW H) → Nat
  | [] => 0
  | d :: r => uptoBulk d + uptoBulkAll r
def uptoBulkEntries {H : Type} : List (Lit × DataW H) → Nat
  | [] => 0
  | x :: r => uptoBulkEntry x + uptoBulkEntries r
def uptoBulkEntry {H : Type} : Lit × DataW H → Nat
  | (.string bytes, d) => bytes.length + uptoBulk d + 1
  | (_, d) => uptoBulk d + 1
 end
def uptoSmall : (H : Type) → List (DataW H) → Bool := fun _ ds => decide (uptoBulkAll ds ≤ 1048576)
def OpenSpec.upto (s : _root_.Go.ChangeSpec) : _root_.Go.OpenSpec := { _root_.Go.OpenSpec.ofChange s with cond := some uptoSmall }

/-- 'tontinelaw15.DecrementFloats', WHERE WHAT IT READS IS OF BULK AT MOST 1048576: true; the input reads as it did. -/
def decrementFloatsUptoRow : OpenClaim := { program := "ythihdjhnldkdhaa", sum := "e4e310c728230e02f5f598c1d48e31924243192f3c4949092265ebc21494b432", func := "tontine/tontinelaw15.DecrementFloats", spec := "decrementFloats", inPlace := ["math.Float64bits"], apart := false, narrowed := true }
def DecrementFloatsUptoSaid : Prop := decrementFloatsUptoRow.holds Try.pinned (OpenSpec.upto decrementFloatsSpec)

/-- 'tontinelaw15.DecrementMeans', WHERE WHAT IT READS IS OF BULK AT MOST 1048576: true; the input reads as it did. -/
def decrementMeansUptoRow : OpenClaim := { program := "ythihdjhnldkdhaa", sum := "e4e310c728230e02f5f598c1d48e31924243192f3c4949092265ebc21494b432", func := "tontine/tontinelaw15.DecrementMeans", spec := "decrementMeans", unfollowed := true, recurses := true, apart := false, narrowed := true }
def DecrementMeansUptoSaid : Prop := decrementMeansUptoRow.holds Try.pinned (OpenSpec.upto decrementMeansSpec)

/-- 'tontinelaw15.DecrementLess', WHERE WHAT IT READS IS OF BULK AT MOST 1048576: true; the input reads as it did. -/
def decrementLessUptoRow : OpenClaim := { program := "ythihdjhnldkdhaa", sum := "e4e310c728230e02f5f598c1d48e31924243192f3c4949092265ebc21494b432", func := "tontine/tontinelaw15.DecrementLess", spec := "decrementLess", unfollowed := true, recurses := true, apart := false, narrowed := true }
def DecrementLessUptoSaid : Prop := decrementLessUptoRow.holds Try.pinned (OpenSpec.upto decrementLessSpec)

end Rows
end Go.Proofs.Ythihdjhnldkdhaa
