/-
  No cell of these rows narrows 'for every input' (looked for: loops, veiled, ifaces, maps, wideKeys, modest, calm, conditions, laid).
  DERIVED. THE GIVEN ROWS OF THIS SEAT. 4 by the template 'for every input the law returns true; each argument reads behind the call as it read before'; 0 by the template 'total and deterministic' (their statements: YthmdbafinpmojaaGreatTotals.lean).
  GIVEN WITH THE SEED: the statements are not yours to turn. If you find one false, say at which input.
  Laid BY PROGRAM, IN A SANDBOX (cutbox-rows.mjs): the forced cells as the released guide's own fill.sh prints them over the translation b618d6c3d06bbefa… (all of the seat's roots in one cut). By AI agents, Wed Nov 11 2026. No macro, syntax, notation, axiom, sorry.
-/
import Derived.Test.YthmdbafinpmojaaGreatChecked
import GoSem.Claim
import GoSem.ClaimJoined
import GoSem.ClaimMapViews
import Derived.JoinedTies
import Derived.KernelRfl
namespace Go.Proofs.YthmdbafinpmojaaGreat
/- THE CELL 'sum', in the pinned program and in every row, IS THE sha256 OF THE DUMP (.gsa) THAT YthmdbafinpmojaaGreatProg.lean LOADS. Nothing in Lean hashes anything: it is a label: what it is worth is what the hold of that sum in a sandbox is worth. -/
noncomputable def Tryz.pinned : Pinned := { name := "ythmdbafinpmojaagreat", sum := "b618d6c3d06bbefa5fc30c4b03f357d8dd07cf4eaebe7188e93183552003101c", checked := Tryz.checked }
namespace Rows
def none {H : Type} : Left H := { results := [], args := [] }

/-- 'fulcrumlaw08.BoundsPlays': WHATEVER THE INPUT: true; the input reads as it did. -/
def boundsPlaysSpec : ChangeSpec := { name := "boundsPlays", fn := fun _ => fun
  | [d] => { results := [.lit (.bool true)], args := [d] }
  | _ => none }
def boundsPlaysRow : OpenClaim := { program := "ythmdbafinpmojaagreat", sum := "b618d6c3d06bbefa5fc30c4b03f357d8dd07cf4eaebe7188e93183552003101c", func := "fulcrum/fulcrumlaw08.BoundsPlays", spec := "boundsPlays", named := ["math/bits.overflowError"], apart := false }
def BoundsPlaysSaid : Prop := boundsPlaysRow.holds Tryz.pinned (OpenSpec.ofChange boundsPlaysSpec)

/-- ITS FALSE NEIGHBOUR: 'it returns false'. Refute it at one input. -/
def boundsPlaysWrong : ChangeSpec := { name := "boundsPlays", fn := fun _ => fun
  | [d] => { results := [.lit (.bool false)], args := [d] }
  | _ => none }
def BoundsPlaysWrongFalsely : Prop := boundsPlaysRow.holds Tryz.pinned (OpenSpec.ofChange boundsPlaysWrong)

/-- 'fulcrumlaw08.BoundsTwins': WHATEVER THE INPUT: true; the input reads as it did. -/
def boundsTwinsSpec : ChangeSpec := { name := "boundsTwins", fn := fun _ => fun
  | [d1, d2] => { results := [.lit (.bool true)], args := [d1, d2] }
  | _ => none }
def boundsTwinsRow : OpenClaim := { program := "ythmdbafinpmojaagreat", sum := "b618d6c3d06bbefa5fc30c4b03f357d8dd07cf4eaebe7188e93183552003101c", func := "fulcrum/fulcrumlaw08.BoundsTwins", spec := "boundsTwins", unfollowed := true, recurses := true, named := ["math/bits.overflowError"], apart := false }
def BoundsTwinsSaid : Prop := boundsTwinsRow.holds Tryz.pinned (OpenSpec.ofChange boundsTwinsSpec)

/-- ITS FALSE NEIGHBOUR: 'it returns false'. Refute it at one input. -/
def boundsTwinsWrong : ChangeSpec := { name := "boundsTwins", fn := fun _ => fun
  | [d1, d2] => { results := [.lit (.bool false)], args := [d1, d2] }
  | _ => none }
def BoundsTwinsWrongFalsely : Prop := boundsTwinsRow.holds Tryz.pinned (OpenSpec.ofChange boundsTwinsWrong)

/-- 'fulcrumlaw08.BoundsOwn': WHATEVER THE INPUT: true; the input reads as it did. -/
def boundsOwnSpec : ChangeSpec := { name := "boundsOwn", fn := fun _ => fun
  | [d] => { results := [.lit (.bool true)], args := [d] }
  | _ => none }
def boundsOwnRow : OpenClaim := { program := "ythmdbafinpmojaagreat", sum := "b618d6c3d06bbefa5fc30c4b03f357d8dd07cf4eaebe7188e93183552003101c", func := "fulcrum/fulcrumlaw08.BoundsOwn", spec := "boundsOwn", unfollowed := true, recurses := true, named := ["math/bits.overflowError"], apart := false }
def BoundsOwnSaid : Prop := boundsOwnRow.holds Tryz.pinned (OpenSpec.ofChange boundsOwnSpec)

/-- ITS FALSE NEIGHBOUR: 'it returns false'. Refute it at one input. -/
def boundsOwnWrong : ChangeSpec := { name := "boundsOwn", fn := fun _ => fun
  | [d] => { results := [.lit (.bool false)], args := [d] }
  | _ => none }
def BoundsOwnWrongFalsely : Prop := boundsOwnRow.holds Tryz.pinned (OpenSpec.ofChange boundsOwnWrong)

/-- 'fulcrumlaw08.BoundsLoads': WHATEVER THE INPUT: true; the input reads as it did. -/
def boundsLoadsSpec : ChangeSpec := { name := "boundsLoads", fn := fun _ => fun
  | [d1, d2] => { results := [.lit (.bool true)], args := [d1, d2] }
  | _ => none }
def boundsLoadsRow : OpenClaim := { program := "ythmdbafinpmojaagreat", sum := "b618d6c3d06bbefa5fc30c4b03f357d8dd07cf4eaebe7188e93183552003101c", func := "fulcrum/fulcrumlaw08.BoundsLoads", spec := "boundsLoads", unfollowed := true, recurses := true, named := ["math/bits.overflowError"], apart := false }
def BoundsLoadsSaid : Prop := boundsLoadsRow.holds Tryz.pinned (OpenSpec.ofChange boundsLoadsSpec)

/-- ITS FALSE NEIGHBOUR: 'it returns false'. Refute it at one input. -/
def boundsLoadsWrong : ChangeSpec := { name := "boundsLoads", fn := fun _ => fun
  | [d1, d2] => { results := [.lit (.bool false)], args := [d1, d2] }
  | _ => none }
def BoundsLoadsWrongFalsely : Prop := boundsLoadsRow.holds Tryz.pinned (OpenSpec.ofChange boundsLoadsWrong)

/- THE SECOND FORM. 'bulk': how many values and letters a reading holds, each counted each time it is reached (what is shared counts as often as it is met; a slice's spare places count too). A statement '..UptoSaid' is the law's where the arguments, and the package variables that the reading takes, are together of bulk at most 1048576: NARROWER than '..Said'. Prove '..Said' where nothing that the law and all that it calls make is longer than what came in: it says more and counts as full. Else prove '..UptoSaid'. A law counts once. -/
mutual
def uptoBulk {H : Type} : DataW H → Nat
  | .lit (.string bytes) => bytes.length + 1
  | .lit _ => 1
  | .nil => 1
  | .ptr d => uptoBulk d + 1
  | .slice elems spare => uptoBulkAll elems + uptoBulkAll spare + 1
  | .agg parts => uptoBulkAll parts + 1
  | .iface _ d => uptoBulk d + 1
  | .map entries => uptoBulkEntries entries + 1
  | .held _ => 1
def uptoBulkAll {H : Type} : List (DataW H) → Nat
  | [] => 0
  | d :: r => uptoBulk d + uptoBulkAll r
def uptoBulkEntries {H : Type} : List (Lit × DataW H) → Nat
  | [] => 0
  | x :: r => uptoBulkEntry x + uptoBulkEntries r
def uptoBulkEntry {H : Type} : Lit × DataW H → Nat
  | (.string bytes, d) => bytes.length + uptoBulk d + 1
  | (_, d) => uptoBulk d + 1
 end
def uptoSmall : (H : Type) → List (DataW H) → Bool := fun _ ds => decide (uptoBulkAll ds ≤ 1048576)
def OpenSpec.upto (s : _root_.Go.ChangeSpec) : _root_.Go.OpenSpec := { _root_.Go.OpenSpec.ofChange s with cond := some uptoSmall }

/-- 'fulcrumlaw08.BoundsPlays', WHERE WHAT IT READS IS OF BULK AT MOST 1048576: true; the input reads as it did. -/
def boundsPlaysUptoRow : OpenClaim := { program := "ythmdbafinpmojaagreat", sum := "b618d6c3d06bbefa5fc30c4b03f357d8dd07cf4eaebe7188e93183552003101c", func := "fulcrum/fulcrumlaw08.BoundsPlays", spec := "boundsPlays", named := ["math/bits.overflowError"], apart := false, narrowed := true }
def BoundsPlaysUptoSaid : Prop := boundsPlaysUptoRow.holds Tryz.pinned (OpenSpec.upto boundsPlaysSpec)

/-- 'fulcrumlaw08.BoundsTwins', WHERE WHAT IT READS IS OF BULK AT MOST 1048576: true; the input reads as it did. -/
def boundsTwinsUptoRow : OpenClaim := { program := "ythmdbafinpmojaagreat", sum := "b618d6c3d06bbefa5fc30c4b03f357d8dd07cf4eaebe7188e93183552003101c", func := "fulcrum/fulcrumlaw08.BoundsTwins", spec := "boundsTwins", unfollowed := true, recurses := true, named := ["math/bits.overflowError"], apart := false, narrowed := true }
def BoundsTwinsUptoSaid : Prop := boundsTwinsUptoRow.holds Tryz.pinned (OpenSpec.upto boundsTwinsSpec)

/-- 'fulcrumlaw08.BoundsOwn', WHERE WHAT IT READS IS OF BULK AT MOST 1048576: true; the input reads as it did. -/
def boundsOwnUptoRow : OpenClaim := { program := "ythmdbafinpmojaagreat", sum := "b618d6c3d06bbefa5fc30c4b03f357d8dd07cf4eaebe7188e93183552003101c", func := "fulcrum/fulcrumlaw08.BoundsOwn", spec := "boundsOwn", unfollowed := true, recurses := true, named := ["math/bits.overflowError"], apart := false, narrowed := true }
def BoundsOwnUptoSaid : Prop := boundsOwnUptoRow.holds Tryz.pinned (OpenSpec.upto boundsOwnSpec)

/-- 'fulcrumlaw08.BoundsLoads', WHERE WHAT IT READS IS OF BULK AT MOST 1048576: true; the input reads as it did. -/
def boundsLoadsUptoRow : OpenClaim := { program := "ythmdbafinpmojaagreat", sum := "b618d6c3d06bbefa5fc30c4b03f357d8dd07cf4eaebe7188e93183552003101c", func := "fulcrum/fulcrumlaw08.BoundsLoads", spec := "boundsLoads", unfollowed := true, recurses := true, named := ["math/bits.overflowError"], apart := false, narrowed := true }
def BoundsLoadsUptoSaid : Prop := boundsLoadsUptoRow.holds Tryz.pinned (OpenSpec.upto boundsLoadsSpec)

end Rows
end Go.Proofs.YthmdbafinpmojaaGreat
