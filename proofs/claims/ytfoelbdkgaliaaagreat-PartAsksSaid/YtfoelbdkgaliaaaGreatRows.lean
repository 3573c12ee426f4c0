/-
  No cell of these rows narrows 'for every input' (looked for: loops, veiled, ifaces, maps, wideKeys, modest, calm, conditions, laid).
  DERIVED. THE GIVEN ROWS OF THIS SEAT. 5 by the template 'for every input the law returns true; each argument reads behind the call as it read before'; 0 by the template 'total and deterministic' (their statements: YtfoelbdkgaliaaaGreatTotals.lean).
  GIVEN WITH THE SEED: the statements are not yours to turn. If you find one false, say at which input.
  Laid BY PROGRAM, IN A SANDBOX (cutbox-rows.mjs): the forced cells as the released guide's own fill.sh prints them over the translation dee41643a637b359… (all of the seat's roots in one cut). By AI agents, Wed Nov 11 2026. No macro, syntax, notation, axiom, sorry.
-/
import Derived.Test.YtfoelbdkgaliaaaGreatChecked
import GoSem.Claim
import GoSem.ClaimJoined
import GoSem.ClaimMapViews
import Derived.JoinedTies
import Derived.KernelRfl
namespace Go.Proofs.YtfoelbdkgaliaaaGreat
/- THE CELL 'sum', in the pinned program and in every row, IS THE sha256 OF THE DUMP (.gsa) THAT YtfoelbdkgaliaaaGreatProg.lean LOADS. Nothing in Lean hashes anything: it is a label: what it is worth is what the hold of that sum in a sandbox is worth. -/
noncomputable def Tryz.pinned : Pinned := { name := "ytfoelbdkgaliaaagreat", sum := "dee41643a637b35921ce392661395f76e41e3e6b5d9557b43d66aa2bcde7cf08", checked := Tryz.checked }
namespace Rows
def none {H : Type} : Left H := { results := [], args := [] }

/-- 'spigotlaw18.PartAsks': WHATEVER THE INPUT: true; the input reads as it did. -/
def partAsksSpec : ChangeSpec := { name := "partAsks", fn := fun _ => fun
  | [d1, d2, d3, d4, d5, d6, d7, d8, d9] => { results := [.lit (.bool true)], args := [d1, d2, d3, d4, d5, d6, d7, d8, d9] }
  | _ => none }
def partAsksRow : OpenClaim := { program := "ytfoelbdkgaliaaagreat", sum := "dee41643a637b35921ce392661395f76e41e3e6b5d9557b43d66aa2bcde7cf08", func := "spigot/spigotlaw18.PartAsks", spec := "partAsks", inPlace := ["math/bits.Add64", "math/bits.Sub64"], unfollowed := true, recurses := true, named := ["math/bits.divideError", "math/bits.overflowError"], apart := false }
def PartAsksSaid : Prop := partAsksRow.holds Tryz.pinned (OpenSpec.ofChange partAsksSpec)

/-- ITS FALSE NEIGHBOUR: 'it returns false'. Refute it at one input. -/
def partAsksWrong : ChangeSpec := { name := "partAsks", fn := fun _ => fun
  | [d1, d2, d3, d4, d5, d6, d7, d8, d9] => { results := [.lit (.bool false)], args := [d1, d2, d3, d4, d5, d6, d7, d8, d9] }
  | _ => none }
def PartAsksWrongFalsely : Prop := partAsksRow.holds Tryz.pinned (OpenSpec.ofChange partAsksWrong)

/-- 'spigotlaw18.PartAll': WHATEVER THE INPUT: true; the input reads as it did. -/
def partAllSpec : ChangeSpec := { name := "partAll", fn := fun _ => fun
  | [d1, d2, d3, d4, d5] => { results := [.lit (.bool true)], args := [d1, d2, d3, d4, d5] }
  | _ => none }
def partAllRow : OpenClaim := { program := "ytfoelbdkgaliaaagreat", sum := "dee41643a637b35921ce392661395f76e41e3e6b5d9557b43d66aa2bcde7cf08", func := "spigot/spigotlaw18.PartAll", spec := "partAll", inPlace := ["math/bits.Add64", "math/bits.Sub64"], unfollowed := true, recurses := true, named := ["math/bits.divideError", "math/bits.overflowError"], apart := false }
def PartAllSaid : Prop := partAllRow.holds Tryz.pinned (OpenSpec.ofChange partAllSpec)

/-- ITS FALSE NEIGHBOUR: 'it returns false'. Refute it at one input. -/
def partAllWrong : ChangeSpec := { name := "partAll", fn := fun _ => fun
  | [d1, d2, d3, d4, d5] => { results := [.lit (.bool false)], args := [d1, d2, d3, d4, d5] }
  | _ => none }
def PartAllWrongFalsely : Prop := partAllRow.holds Tryz.pinned (OpenSpec.ofChange partAllWrong)

/-- 'spigotlaw18.PartOthers': WHATEVER THE INPUT: true; the input reads as it did. -/
def partOthersSpec : ChangeSpec := { name := "partOthers", fn := fun _ => fun
  | [d1, d2, d3, d4, d5, d6] => { results := [.lit (.bool true)], args := [d1, d2, d3, d4, d5, d6] }
  | _ => none }
def partOthersRow : OpenClaim := { program := "ytfoelbdkgaliaaagreat", sum := "dee41643a637b35921ce392661395f76e41e3e6b5d9557b43d66aa2bcde7cf08", func := "spigot/spigotlaw18.PartOthers", spec := "partOthers", inPlace := ["math/bits.Add64", "math/bits.Sub64"], unfollowed := true, recurses := true, named := ["math/bits.divideError", "math/bits.overflowError"], apart := false }
def PartOthersSaid : Prop := partOthersRow.holds Tryz.pinned (OpenSpec.ofChange partOthersSpec)

/-- ITS FALSE NEIGHBOUR: 'it returns false'. Refute it at one input. -/
def partOthersWrong : ChangeSpec := { name := "partOthers", fn := fun _ => fun
  | [d1, d2, d3, d4, d5, d6] => { results := [.lit (.bool false)], args := [d1, d2, d3, d4, d5, d6] }
  | _ => none }
def PartOthersWrongFalsely : Prop := partOthersRow.holds Tryz.pinned (OpenSpec.ofChange partOthersWrong)

/-- 'spigotlaw18.PartWaits': WHATEVER THE INPUT: true; the input reads as it did. -/
def partWaitsSpec : ChangeSpec := { name := "partWaits", fn := fun _ => fun
  | [d1, d2, d3, d4, d5] => { results := [.lit (.bool true)], args := [d1, d2, d3, d4, d5] }
  | _ => none }
def partWaitsRow : OpenClaim := { program := "ytfoelbdkgaliaaagreat", sum := "dee41643a637b35921ce392661395f76e41e3e6b5d9557b43d66aa2bcde7cf08", func := "spigot/spigotlaw18.PartWaits", spec := "partWaits", inPlace := ["math/bits.Add64", "math/bits.Sub64"], unfollowed := true, recurses := true, named := ["math/bits.divideError", "math/bits.overflowError"], apart := false }
def PartWaitsSaid : Prop := partWaitsRow.holds Tryz.pinned (OpenSpec.ofChange partWaitsSpec)

/-- ITS FALSE NEIGHBOUR: 'it returns false'. Refute it at one input. -/
def partWaitsWrong : ChangeSpec := { name := "partWaits", fn := fun _ => fun
  | [d1, d2, d3, d4, d5] => { results := [.lit (.bool false)], args := [d1, d2, d3, d4, d5] }
  | _ => none }
def PartWaitsWrongFalsely : Prop := partWaitsRow.holds Tryz.pinned (OpenSpec.ofChange partWaitsWrong)

/-- 'spigotlaw18.PartLimits': WHATEVER THE INPUT: true; the input reads as it did. -/
def partLimitsSpec : ChangeSpec := { name := "partLimits", fn := fun _ => fun
  | [d1, d2, d3, d4, d5] => { results := [.lit (.bool true)], args := [d1, d2, d3, d4, d5] }
  | _ => none }
def partLimitsRow : OpenClaim := { program := "ytfoelbdkgaliaaagreat", sum := "dee41643a637b35921ce392661395f76e41e3e6b5d9557b43d66aa2bcde7cf08", func := "spigot/spigotlaw18.PartLimits", spec := "partLimits", inPlace := ["math/bits.Add64", "math/bits.Sub64", "slices.overlaps[uint32]"], unfollowed := true, recurses := true, named := ["math/bits.divideError", "math/bits.overflowError"], apart := false }
def PartLimitsSaid : Prop := partLimitsRow.holds Tryz.pinned (OpenSpec.ofChange partLimitsSpec)

/-- ITS FALSE NEIGHBOUR: 'it returns false'. Refute it at one input. -/
def partLimitsWrong : ChangeSpec := { name := "partLimits", fn := fun _ => fun
  | [d1, d2, d3, d4, d5] => { results := [.lit (.bool false)], args := [d1, d2, d3, d4, d5] }
  | _ => none }
def PartLimitsWrongFalsely : Prop := partLimitsRow.holds Tryz.pinned (OpenSpec.ofChange partLimitsWrong)

/- THE SECOND FORM. 'bulk': how many values and letters a reading holds, each counted each time it is reached (what is shared counts as often as it is met; a slice's spare places count too). A statement '..UptoSaid' is the law's where the arguments, and the package variables that the reading takes, are together of bulk at most 1048576: NARROWER than '..Said'. Prove '..Said' where nothing that the law and all that it calls make is longer than what came in: it says more and counts as full. Else prove '..UptoSaid'. A law counts once. -/
mutual
def uptoBulk {H : Type} : DataW H → Nat
  | .lit (.string bytes) => bytes.length + 1
  | .lit _ => 1
  | .nil => 1
  | .ptr d => uptoBulk d + 1
  | .slice elems spare => uptoBulkAll elems + uptoBulkAll spare + 1
  | .agg parts => uptoBulkAll parts + 1
  | .iface _ d => uptoBulk d + 1
  | .map entries => uptoBulkEntries entries + 1
  | .held _ => 1
def uptoBulkAll {H : Type} : List (DataW H) → Nat
  | [] => 0
  | d :: r => uptoBulk d + uptoBulkAll r
def uptoBulkEntries {H : Type} : List (Lit × DataW H) → Nat
  | [] => 0
  | x :: r => uptoBulkEntry x + uptoBulkEntries r
def uptoBulkEntry {H : Type} : Lit × DataW H → Nat
  | (.string bytes, d) => bytes.length + uptoBulk d + 1
  | (_, d) => uptoBulk d + 1
 end
def uptoSmall : (H : Type) → List (DataW H) → Bool := fun _ ds => decide (uptoBulkAll ds ≤ 1048576)
def OpenSpec.upto (s : _root_.Go.ChangeSpec) : _root_.Go.OpenSpec := { _root_.Go.OpenSpec.ofChange s with cond := some uptoSmall }

/-- 'spigotlaw18.PartAsks', WHERE WHAT IT READS IS OF BULK AT MOST 1048576: true; the input reads as it did. -/
def partAsksUptoRow : OpenClaim := { program := "ytfoelbdkgaliaaagreat", sum := "dee41643a637b35921ce392661395f76e41e3e6b5d9557b43d66aa2bcde7cf08", func := "spigot/spigotlaw18.PartAsks", spec := "partAsks", inPlace := ["math/bits.Add64", "math/bits.Sub64"], unfollowed := true, recurses := true, named := ["math/bits.divideError", "math/bits.overflowError"], apart := false, narrowed := true }
def PartAsksUptoSaid : Prop := partAsksUptoRow.holds Tryz.pinned (OpenSpec.upto partAsksSpec)

/-- 'spigotlaw18.PartAll', WHERE WHAT IT READS IS OF BULK AT MOST 1048576: true; the input reads as it did. -/
def partAllUptoRow : OpenClaim := { program := "ytfoelbdkgaliaaagreat", sum := "dee41643a637b35921ce392661395f76e41e3e6b5d9557b43d66aa2bcde7cf08", func := "spigot/spigotlaw18.PartAll", spec := "partAll", inPlace := ["math/bits.Add64", "math/bits.Sub64"], unfollowed := true, recurses := true, named := ["math/bits.divideError", "math/bits.overflowError"], apart := false, narrowed := true }
def PartAllUptoSaid : Prop := partAllUptoRow.holds Tryz.pinned (OpenSpec.upto partAllSpec)

/-- 'spigotlaw18.PartOthers', WHERE WHAT IT READS IS OF BULK AT MOST 1048576: true; the input reads as it did. -/
def partOthersUptoRow : OpenClaim := { program := "ytfoelbdkgaliaaagreat", sum := "dee41643a637b35921ce392661395f76e41e3e6b5d9557b43d66aa2bcde7cf08", func := "spigot/spigotlaw18.PartOthers", spec := "partOthers", inPlace := ["math/bits.Add64", "math/bits.Sub64"], unfollowed := true, recurses := true, named := ["math/bits.divideError", "math/bits.overflowError"], apart := false, narrowed := true }
def PartOthersUptoSaid : Prop := partOthersUptoRow.holds Tryz.pinned (OpenSpec.upto partOthersSpec)

/-- 'spigotlaw18.PartWaits', WHERE WHAT IT READS IS OF BULK AT MOST 1048576: true; the input reads as it did. -/
def partWaitsUptoRow : OpenClaim := { program := "ytfoelbdkgaliaaagreat", sum := "dee41643a637b35921ce392661395f76e41e3e6b5d9557b43d66aa2bcde7cf08", func := "spigot/spigotlaw18.PartWaits", spec := "partWaits", inPlace := ["math/bits.Add64", "math/bits.Sub64"], unfollowed := true, recurses := true, named := ["math/bits.divideError", "math/bits.overflowError"], apart := false, narrowed := true }
def PartWaitsUptoSaid : Prop := partWaitsUptoRow.holds Tryz.pinned (OpenSpec.upto partWaitsSpec)

/-- 'spigotlaw18.PartLimits', WHERE WHAT IT READS IS OF BULK AT MOST 1048576: true; the input reads as it did. -/
def partLimitsUptoRow : OpenClaim := { program := "ytfoelbdkgaliaaagreat", sum := "dee41643a637b35921ce392661395f76e41e3e6b5d9557b43d66aa2bcde7cf08", func := "spigot/spigotlaw18.PartLimits", spec := "partLimits", inPlace := ["math/bits.Add64", "math/bits.Sub64", "slices.overlaps[uint32]"], unfollowed := true, recurses := true, named := ["math/bits.divideError", "math/bits.overflowError"], apart := false, narrowed := true }
def PartLimitsUptoSaid : Prop := partLimitsUptoRow.holds Tryz.pinned (OpenSpec.upto partLimitsSpec)

end Rows
end Go.Proofs.YtfoelbdkgaliaaaGreat
