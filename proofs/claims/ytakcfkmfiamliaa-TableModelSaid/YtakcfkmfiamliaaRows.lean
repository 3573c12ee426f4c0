/-
  No cell of these rows narrows 'for every input' (looked for: loops, veiled, ifaces, maps, wideKeys, modest, calm, conditions, laid).
  DERIVED. THE GIVEN ROWS OF THIS SEAT. 5 by the template 'for every input the law returns true; each argument reads behind the call as it read before'; 0 by the template 'total and deterministic' (their statements: YtakcfkmfiamliaaTotals.lean).
  GIVEN WITH THE SEED: the statements are not yours to turn. If you find one false, say at which input.
  Laid BY PROGRAM, IN A SANDBOX (cutbox-rows.mjs): the forced cells as the released guide's own fill.sh prints them over the translation 233ead6d9df916fe… (all of the seat's roots in one cut). By AI agents, Wed Nov 11 2026. No macro, syntax, notation, axiom, sorry.
-/
import Derived.Test.YtakcfkmfiamliaaChecked
import GoSem.Claim
import GoSem.ClaimJoined
import GoSem.ClaimMapViews
import Derived.JoinedTies
import Derived.KernelRfl
namespace Go.Proofs.Ytakcfkmfiamliaa
/- THE CELL 'sum', in the pinned program and in every row, IS THE sha256 OF THE DUMP (.gsa) THAT YtakcfkmfiamliaaProg.lean LOADS. Nothing in Lean hashes anything: it is a label: what it is worth is what the hold of that sum in a sandbox is worth. -/
noncomputable def Try.pinned : Pinned := { name := "ytakcfkmfiamliaa", sum := "233ead6d9df916fe0a884b1a539f2754206fca799f3f2ca3b60634b4c7efa57b", checked := Try.checked }
namespace Rows
def none {H : Type} : Left H := { results := [], args := [] }

/-- 'spigotlaw16.TableUses': WHATEVER THE INPUT: true; the input reads as it did. -/
def tableUsesSpec : ChangeSpec := { name := "tableUses", fn := fun _ => fun
  | [d1, d2, d3, d4, d5] => { results := [.lit (.bool true)], args := [d1, d2, d3, d4, d5] }
  | _ => none }
def tableUsesRow : OpenClaim := { program := "ytakcfkmfiamliaa", sum := "233ead6d9df916fe0a884b1a539f2754206fca799f3f2ca3b60634b4c7efa57b", func := "spigot/spigotlaw16.TableUses", spec := "tableUses", apart := false }
def TableUsesSaid : Prop := tableUsesRow.holds Try.pinned (OpenSpec.ofChange tableUsesSpec)

/-- ITS FALSE NEIGHBOUR: 'it returns false'. Refute it at one input. -/
def tableUsesWrong : ChangeSpec := { name := "tableUses", fn := fun _ => fun
  | [d1, d2, d3, d4, d5] => { results := [.lit (.bool false)], args := [d1, d2, d3, d4, d5] }
  | _ => none }
def TableUsesWrongFalsely : Prop := tableUsesRow.holds Try.pinned (OpenSpec.ofChange tableUsesWrong)

/-- 'spigotlaw16.TableSets': WHATEVER THE INPUT: true; the input reads as it did. -/
def tableSetsSpec : ChangeSpec := { name := "tableSets", fn := fun _ => fun
  | [d1, d2, d3, d4, d5] => { results := [.lit (.bool true)], args := [d1, d2, d3, d4, d5] }
  | _ => none }
def tableSetsRow : OpenClaim := { program := "ytakcfkmfiamliaa", sum := "233ead6d9df916fe0a884b1a539f2754206fca799f3f2ca3b60634b4c7efa57b", func := "spigot/spigotlaw16.TableSets", spec := "tableSets", inPlace := ["math/bits.Add64"], named := ["math/bits.divideError", "math/bits.overflowError"], apart := false }
def TableSetsSaid : Prop := tableSetsRow.holds Try.pinned (OpenSpec.ofChange tableSetsSpec)

/-- ITS FALSE NEIGHBOUR: 'it returns false'. Refute it at one input. -/
def tableSetsWrong : ChangeSpec := { name := "tableSets", fn := fun _ => fun
  | [d1, d2, d3, d4, d5] => { results := [.lit (.bool false)], args := [d1, d2, d3, d4, d5] }
  | _ => none }
def TableSetsWrongFalsely : Prop := tableSetsRow.holds Try.pinned (OpenSpec.ofChange tableSetsWrong)

/-- 'spigotlaw16.TableModel': WHATEVER THE INPUT: true; the input reads as it did. -/
def tableModelSpec : ChangeSpec := { name := "tableModel", fn := fun _ => fun
  | [d1, d2] => { results := [.lit (.bool true)], args := [d1, d2] }
  | _ => none }
def tableModelRow : OpenClaim := { program := "ytakcfkmfiamliaa", sum := "233ead6d9df916fe0a884b1a539f2754206fca799f3f2ca3b60634b4c7efa57b", func := "spigot/spigotlaw16.TableModel", spec := "tableModel", apart := false }
def TableModelSaid : Prop := tableModelRow.holds Try.pinned (OpenSpec.ofChange tableModelSpec)

/-- ITS FALSE NEIGHBOUR: 'it returns false'. Refute it at one input. -/
def tableModelWrong : ChangeSpec := { name := "tableModel", fn := fun _ => fun
  | [d1, d2] => { results := [.lit (.bool false)], args := [d1, d2] }
  | _ => none }
def TableModelWrongFalsely : Prop := tableModelRow.holds Try.pinned (OpenSpec.ofChange tableModelWrong)

/-- 'spigotlaw16.TableKeeps': WHATEVER THE INPUT: true; the input reads as it did. -/
def tableKeepsSpec : ChangeSpec := { name := "tableKeeps", fn := fun _ => fun
  | [d1, d2, d3, d4] => { results := [.lit (.bool true)], args := [d1, d2, d3, d4] }
  | _ => none }
def tableKeepsRow : OpenClaim := { program := "ytakcfkmfiamliaa", sum := "233ead6d9df916fe0a884b1a539f2754206fca799f3f2ca3b60634b4c7efa57b", func := "spigot/spigotlaw16.TableKeeps", spec := "tableKeeps", apart := false }
def TableKeepsSaid : Prop := tableKeepsRow.holds Try.pinned (OpenSpec.ofChange tableKeepsSpec)

/-- ITS FALSE NEIGHBOUR: 'it returns false'. Refute it at one input. -/
def tableKeepsWrong : ChangeSpec := { name := "tableKeeps", fn := fun _ => fun
  | [d1, d2, d3, d4] => { results := [.lit (.bool false)], args := [d1, d2, d3, d4] }
  | _ => none }
def TableKeepsWrongFalsely : Prop := tableKeepsRow.holds Try.pinned (OpenSpec.ofChange tableKeepsWrong)

/-- 'spigotlaw16.TableFresh': WHATEVER THE INPUT: true; the input reads as it did. -/
def tableFreshSpec : ChangeSpec := { name := "tableFresh", fn := fun _ => fun
  | [d1, d2, d3, d4] => { results := [.lit (.bool true)], args := [d1, d2, d3, d4] }
  | _ => none }
def tableFreshRow : OpenClaim := { program := "ytakcfkmfiamliaa", sum := "233ead6d9df916fe0a884b1a539f2754206fca799f3f2ca3b60634b4c7efa57b", func := "spigot/spigotlaw16.TableFresh", spec := "tableFresh", apart := false }
def TableFreshSaid : Prop := tableFreshRow.holds Try.pinned (OpenSpec.ofChange tableFreshSpec)

/-- ITS FALSE NEIGHBOUR: 'it returns false'. Refute it at one input. -/
def tableFreshWrong : ChangeSpec := { name := "tableFresh", fn := fun _ => fun
  | [d1, d2, d3, d4] => { results := [.lit (.bool false)], args := [d1, d2, d3, d4] }
  | _ => none }
def TableFreshWrongFalsely : Prop := tableFreshRow.holds Try.pinned (OpenSpec.ofChange tableFreshWrong)

/- THE SECOND FORM. 'bulk': how many values and letters a reading holds, each counted each time it is reached (what is shared counts as often as it is met; a slice's spare places count too). A statement '..UptoSaid' is the law's where the arguments, and the package variables that the reading takes, are together of bulk at most 1048576: NARROWER than '..Said'. Prove '..Said' where nothing that the law and all that it calls make is longer than what came in: it says more and counts as full. Else prove '..UptoSaid'. A law counts once. -/
mutual
def uptoBulk {H : Type} : DataW H → Nat
  | .lit (.string bytes) => bytes.length + 1
  | .lit _ => 1
  | .nil => 1
  | .ptr d => uptoBulk d + 1
  | .slice elems spare => uptoBulkAll elems + uptoBulkAll spare + 1
  | .agg parts => uptoBulkAll parts + 1
  | .iface _ d => uptoBulk d + 1
  | .map entries => uptoBulkEntries entries + 1
  | .held _ => 1
def uptoBulkAll {H : Type} : List (DataW H) → Nat
  | [] => 0
  | d :: r => uptoBulk d + uptoBulkAll r
def uptoBulkEntries {H : Type} : List (Lit × DataW H) → Nat
  | [] => 0
  | x :: r => uptoBulkEntry x + uptoBulkEntries r
def uptoBulkEntry {H : Type} : Lit × DataW H → Nat
  | (.string bytes, d) => bytes.length + uptoBulk d + 1
  | (_, d) => uptoBulk d + 1
 end
def uptoSmall : (H : Type) → List (DataW H) → Bool := fun _ ds => decide (uptoBulkAll ds ≤ 1048576)
def OpenSpec.upto (s : _root_.Go.ChangeSpec) : _root_.Go.OpenSpec := { _root_.Go.OpenSpec.ofChange s with cond := some uptoSmall }

/-- 'spigotlaw16.TableUses', WHERE WHAT IT READS IS OF BULK AT MOST 1048576: true; the input reads as it did. -/
def tableUsesUptoRow : OpenClaim := { program := "ytakcfkmfiamliaa", sum := "233ead6d9df916fe0a884b1a539f2754206fca799f3f2ca3b60634b4c7efa57b", func := "spigot/spigotlaw16.TableUses", spec := "tableUses", apart := false, narrowed := true }
def TableUsesUptoSaid : Prop := tableUsesUptoRow.holds Try.pinned (OpenSpec.upto tableUsesSpec)

/-- 'spigotlaw16.TableSets', WHERE WHAT IT READS IS OF BULK AT MOST 1048576: true; the input reads as it did. -/
def tableSetsUptoRow : OpenClaim := { program := "ytakcfkmfiamliaa", sum := "233ead6d9df916fe0a884b1a539f2754206fca799f3f2ca3b60634b4c7efa57b", func := "spigot/spigotlaw16.TableSets", spec := "tableSets", inPlace := ["math/bits.Add64"], named := ["math/bits.divideError", "math/bits.overflowError"], apart := false, narrowed := true }
def TableSetsUptoSaid : Prop := tableSetsUptoRow.holds Try.pinned (OpenSpec.upto tableSetsSpec)

/-- 'spigotlaw16.TableModel', WHERE WHAT IT READS IS OF BULK AT MOST 1048576: true; the input reads as it did. -/
def tableModelUptoRow : OpenClaim := { program := "ytakcfkmfiamliaa", sum := "233ead6d9df916fe0a884b1a539f2754206fca799f3f2ca3b60634b4c7efa57b", func := "spigot/spigotlaw16.TableModel", spec := "tableModel", apart := false, narrowed := true }
def TableModelUptoSaid : Prop := tableModelUptoRow.holds Try.pinned (OpenSpec.upto tableModelSpec)

/-- 'spigotlaw16.TableKeeps', WHERE WHAT IT READS IS OF BULK AT MOST 1048576: true; the input reads as it did. -/
def tableKeepsUptoRow : OpenClaim := { program := "ytakcfkmfiamliaa", sum := "233ead6d9df916fe0a884b1a539f2754206fca799f3f2ca3b60634b4c7efa57b", func := "spigot/spigotlaw16.TableKeeps", spec := "tableKeeps", apart := false, narrowed := true }
def TableKeepsUptoSaid : Prop := tableKeepsUptoRow.holds Try.pinned (OpenSpec.upto tableKeepsSpec)

/-- 'spigotlaw16.TableFresh', WHERE WHAT IT READS IS OF BULK AT MOST 1048576: true; the input reads as it did. -/
def tableFreshUptoRow : OpenClaim := { program := "ytakcfkmfiamliaa", sum := "233ead6d9df916fe0a884b1a539f2754206fca799f3f2ca3b60634b4c7efa57b", func := "spigot/spigotlaw16.TableFresh", spec := "tableFresh", apart := false, narrowed := true }
def TableFreshUptoSaid : Prop := tableFreshUptoRow.holds Try.pinned (OpenSpec.upto tableFreshSpec)

end Rows
end Go.Proofs.Ytakcfkmfiamliaa
