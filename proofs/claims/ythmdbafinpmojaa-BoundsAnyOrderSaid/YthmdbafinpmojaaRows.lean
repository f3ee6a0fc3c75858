/-
  No cell of these rows narrows 'for every input' (looked for: loops, veiled, ifaces, maps, wideKeys, modest, calm, conditions, laid).
  DERIVED. THE GIVEN ROWS OF THIS SEAT. 5 by the template 'for every input the law returns true; each argument reads behind the call as it read before'; 0 by the template 'total and deterministic' (their statements: YthmdbafinpmojaaTotals.lean).
  GIVEN WITH THE SEED: the statements are not yours to turn. If you find one false, say at which input.
  Laid BY PROGRAM, IN A SANDBOX (cutbox-rows.mjs): the forced cells as the released guide's own fill.sh prints them over the translation bbd2e9768bc37fb8… (all of the seat's roots in one cut). By AI agents, Wed Nov 11 2026. No macro, syntax, notation, axiom, sorry.
-/
import Derived.Test.YthmdbafinpmojaaChecked
import GoSem.Claim
import GoSem.ClaimJoined
import GoSem.ClaimMapViews
import Derived.JoinedTies
import Derived.KernelRfl
namespace Go.Proofs.Ythmdbafinpmojaa
/- THE CELL 'sum', in the pinned program and in every row, IS THE sha256 OF THE DUMP (.gsa) THAT YthmdbafinpmojaaProg.lean LOADS. Nothing in Lean hashes anything: it is a label: what it is worth is what the hold of that sum in a sandbox is worth. -/
noncomputable def Try.pinned : Pinned := { name := "ythmdbafinpmojaa", sum := "bbd2e9768bc37fb8011224363eea9a9bf77e3f8b00b7234788f23f21776b7921", checked := Try.checked }
namespace Rows
def none {H : Type} : Left H := { results := [], args := [] }

/-- 'fulcrumlaw08.BoundsMakes': WHATEVER THE INPUT: true; the input reads as it did. -/
def boundsMakesSpec : ChangeSpec := { name := "boundsMakes", fn := fun _ => fun
  | [d] => { results := [.lit (.bool true)], args := [d] }
  | _ => none }
def boundsMakesRow : OpenClaim := { program := "ythmdbafinpmojaa", sum := "bbd2e9768bc37fb8011224363eea9a9bf77e3f8b00b7234788f23f21776b7921", func := "fulcrum/fulcrumlaw08.BoundsMakes", spec := "boundsMakes", apart := false }
def BoundsMakesSaid : Prop := boundsMakesRow.holds Try.pinned (OpenSpec.ofChange boundsMakesSpec)

/-- ITS FALSE NEIGHBOUR: 'it returns false'. Refute it at one input. -/
def boundsMakesWrong : ChangeSpec := { name := "boundsMakes", fn := fun _ => fun
  | [d] => { results := [.lit (.bool false)], args := [d] }
  | _ => none }
def BoundsMakesWrongFalsely : Prop := boundsMakesRow.holds Try.pinned (OpenSpec.ofChange boundsMakesWrong)

/-- 'fulcrumlaw08.BoundsAnyOrder': WHATEVER THE INPUT: true; the input reads as it did. -/
def boundsAnyOrderSpec : ChangeSpec := { name := "boundsAnyOrder", fn := fun _ => fun
  | [d1, d2] => { results := [.lit (.bool true)], args := [d1, d2] }
  | _ => none }
def boundsAnyOrderRow : OpenClaim := { program := "ythmdbafinpmojaa", sum := "bbd2e9768bc37fb8011224363eea9a9bf77e3f8b00b7234788f23f21776b7921", func := "fulcrum/fulcrumlaw08.BoundsAnyOrder", spec := "boundsAnyOrder", named := ["math/bits.overflowError"], apart := false }
def BoundsAnyOrderSaid : Prop := boundsAnyOrderRow.holds Try.pinned (OpenSpec.ofChange boundsAnyOrderSpec)

/-- ITS FALSE NEIGHBOUR: 'it returns false'. Refute it at one input. -/
def boundsAnyOrderWrong : ChangeSpec := { name := "boundsAnyOrder", fn := fun _ => fun
  | [d1, d2] => { results := [.lit (.bool false)], args := [d1, d2] }
  | _ => none }
def BoundsAnyOrderWrongFalsely : Prop := boundsAnyOrderRow.holds Try.pinned (OpenSpec.ofChange boundsAnyOrderWrong)

/-- 'fulcrumlaw08.BoundsTightens': WHATEVER THE INPUT: true; the input reads as it did. -/
def boundsTightensSpec : ChangeSpec := { name := "boundsTightens", fn := fun _ => fun
  | [d1, d2] => { results := [.lit (.bool true)], args := [d1, d2] }
  | _ => none }
def boundsTightensRow : OpenClaim := { program := "ythmdbafinpmojaa", sum := "bbd2e9768bc37fb8011224363eea9a9bf77e3f8b00b7234788f23f21776b7921", func := "fulcrum/fulcrumlaw08.BoundsTightens", spec := "boundsTightens", named := ["math/bits.overflowError"], apart := false }
def BoundsTightensSaid : Prop := boundsTightensRow.holds Try.pinned (OpenSpec.ofChange boundsTightensSpec)

/-- ITS FALSE NEIGHBOUR: 'it returns false'. Refute it at one input. -/
def boundsTightensWrong : ChangeSpec := { name := "boundsTightens", fn := fun _ => fun
  | [d1, d2] => { results := [.lit (.bool false)], args := [d1, d2] }
  | _ => none }
def BoundsTightensWrongFalsely : Prop := boundsTightensRow.holds Try.pinned (OpenSpec.ofChange boundsTightensWrong)

/-- 'fulcrumlaw08.BoundsReturns': WHATEVER THE INPUT: true; the input reads as it did. -/
def boundsReturnsSpec : ChangeSpec := { name := "boundsReturns", fn := fun _ => fun
  | [d1, d2] => { results := [.lit (.bool true)], args := [d1, d2] }
  | _ => none }
def boundsReturnsRow : OpenClaim := { program := "ythmdbafinpmojaa", sum := "bbd2e9768bc37fb8011224363eea9a9bf77e3f8b00b7234788f23f21776b7921", func := "fulcrum/fulcrumlaw08.BoundsReturns", spec := "boundsReturns", named := ["math/bits.overflowError"], apart := false }
def BoundsReturnsSaid : Prop := boundsReturnsRow.holds Try.pinned (OpenSpec.ofChange boundsReturnsSpec)

/-- ITS FALSE NEIGHBOUR: 'it returns false'. Refute it at one input. -/
def boundsReturnsWrong : ChangeSpec := { name := "boundsReturns", fn := fun _ => fun
  | [d1, d2] => { results := [.lit (.bool false)], args := [d1, d2] }
  | _ => none }
def BoundsReturnsWrongFalsely : Prop := boundsReturnsRow.holds Try.pinned (OpenSpec.ofChange boundsReturnsWrong)

/-- 'fulcrumlaw08.BoundsNobody': WHATEVER THE INPUT: true; the input reads as it did. -/
def boundsNobodySpec : ChangeSpec := { name := "boundsNobody", fn := fun _ => fun
  | [d] => { results := [.lit (.bool true)], args := [d] }
  | _ => none }
def boundsNobodyRow : OpenClaim := { program := "ythmdbafinpmojaa", sum := "bbd2e9768bc37fb8011224363eea9a9bf77e3f8b00b7234788f23f21776b7921", func := "fulcrum/fulcrumlaw08.BoundsNobody", spec := "boundsNobody", named := ["math/bits.overflowError"], apart := false }
def BoundsNobodySaid : Prop := boundsNobodyRow.holds Try.pinned (OpenSpec.ofChange boundsNobodySpec)

/-- ITS FALSE NEIGHBOUR: 'it returns false'. Refute it at one input. -/
def boundsNobodyWrong : ChangeSpec := { name := "boundsNobody", fn := fun _ => fun
  | [d] => { results := [.lit (.bool false)], args := [d] }
  | _ => none }
def BoundsNobodyWrongFalsely : Prop := boundsNobodyRow.holds Try.pinned (OpenSpec.ofChange boundsNobodyWrong)

/- THE SECOND FORM. 'bulk': how many values and letters a reading holds, each counted each time it is reached (what is shared counts as often as it is met; a slice's spare places count too). A statement '..UptoSaid' is the law's where the arguments, and the package variables that the reading takes, are together of bulk at most 1048576: NARROWER than '..Said'. Prove '..Said' where nothing that the law and all that it calls make is longer than what came in: it says more and counts as full. Else prove '..UptoSaid'. A law counts once. -/
mutual
def uptoBulk {H : Type} : DataW H → Nat
  | .lit (.string bytes) => bytes.length + 1
  | .lit _ => 1
  | .nil => 1
  | .ptr d => uptoBulk d + 1
  | .slice elems spare => uptoBulkAll elems + uptoBulkAll spare + 1
  | .agg parts => uptoBulkAll parts + 1
  | .iface _ d => uptoBulk d + 1
  | .map entries => uptoBulkEntries entries + 1
  | .held _ => 1
def uptoBulkAll {H : Type} : List (DataW H) → Nat
  | [] => 0
  | d :: r => uptoBulk d + uptoBulkAll r
def uptoBulkEntries {H : Type} : List (Lit × DataW H) → Nat
  | [] => 0
  | x :: r => uptoBulkEntry x + uptoBulkEntries r
def uptoBulkEntry {H : Type} : Lit × DataW H → Nat
  | (.string bytes, d) => bytes.length + uptoBulk d + 1
  | (_, d) => uptoBulk d + 1
 end
def uptoSmall : (H : Type) → List (DataW H) → Bool := fun _ ds => decide (uptoBulkAll ds ≤ 1048576)
def OpenSpec.upto (s : _root_.Go.ChangeSpec) : _root_.Go.OpenSpec := { _root_.Go.OpenSpec.ofChange s with cond := some uptoSmall }

/-- 'fulcrumlaw08.BoundsMakes', WHERE WHAT IT READS IS OF BULK AT MOST 1048576: true; the input reads as it did. -/
def boundsMakesUptoRow : OpenClaim := { program := "ythmdbafinpmojaa", sum := "bbd2e9768bc37fb8011224363eea9a9bf77e3f8b00b7234788f23f21776b7921", func := "fulcrum/fulcrumlaw08.BoundsMakes", spec := "boundsMakes", apart := false, narrowed := true }
def BoundsMakesUptoSaid : Prop := boundsMakesUptoRow.holds Try.pinned (OpenSpec.upto boundsMakesSpec)

/-- 'fulcrumlaw08.BoundsAnyOrder', WHERE WHAT IT READS IS OF BULK AT MOST 1048576: true; the input reads as it did. -/
def boundsAnyOrderUptoRow : OpenClaim := { program := "ythmdbafinpmojaa", sum := "bbd2e9768bc37fb8011224363eea9a9bf77e3f8b00b7234788f23f21776b7921", func := "fulcrum/fulcrumlaw08.BoundsAnyOrder", spec := "boundsAnyOrder", named := ["math/bits.overflowError"], apart := false, narrowed := true }
def BoundsAnyOrderUptoSaid : Prop := boundsAnyOrderUptoRow.holds Try.pinned (OpenSpec.upto boundsAnyOrderSpec)

/-- 'fulcrumlaw08.BoundsTightens', WHERE WHAT IT READS IS OF BULK AT MOST 1048576: true; the input reads as it did. -/
def boundsTightensUptoRow : OpenClaim := { program := "ythmdbafinpmojaa", sum := "bbd2e9768bc37fb8011224363eea9a9bf77e3f8b00b7234788f23f21776b7921", func := "fulcrum/fulcrumlaw08.BoundsTightens", spec := "boundsTightens", named := ["math/bits.overflowError"], apart := false, narrowed := true }
def BoundsTightensUptoSaid : Prop := boundsTightensUptoRow.holds Try.pinned (OpenSpec.upto boundsTightensSpec)

/-- 'fulcrumlaw08.BoundsReturns', WHERE WHAT IT READS IS OF BULK AT MOST 1048576: true; the input reads as it did. -/
def boundsReturnsUptoRow : OpenClaim := { program := "ythmdbafinpmojaa", sum := "bbd2e9768bc37fb8011224363eea9a9bf77e3f8b00b7234788f23f21776b7921", func := "fulcrum/fulcrumlaw08.BoundsReturns", spec := "boundsReturns", named := ["math/bits.overflowError"], apart := false, narrowed := true }
def BoundsReturnsUptoSaid : Prop := boundsReturnsUptoRow.holds Try.pinned (OpenSpec.upto boundsReturnsSpec)

/-- 'fulcrumlaw08.BoundsNobody', WHERE WHAT IT READS IS OF BULK AT MOST 1048576: true; the input reads as it did. -/
def boundsNobodyUptoRow : OpenClaim := { program := "ythmdbafinpmojaa", sum := "bbd2e9768bc37fb8011224363eea9a9bf77e3f8b00b7234788f23f21776b7921", func := "fulcrum/fulcrumlaw08.BoundsNobody", spec := "boundsNobody", named := ["math/bits.overflowError"], apart := false, narrowed := true }
def BoundsNobodyUptoSaid : Prop := boundsNobodyUptoRow.holds Try.pinned (OpenSpec.upto boundsNobodySpec)

end Rows
end Go.Proofs.Ythmdbafinpmojaa
