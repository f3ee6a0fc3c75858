/-
  No cell of these rows narrows 'for every input' (looked for: loops, veiled, ifaces, maps, wideKeys, modest, calm, conditions, laid).
  DERIVED. THE GIVEN ROWS OF THIS SEAT. 14 by the template 'for every input the law returns true; each argument reads behind the call as it read before'; 0 by the template 'total and deterministic' (their statements: YtjhbcpnliiegoaaTotals.lean).
  GIVEN WITH THE SEED: the statements are not yours to turn. If you find one false, say at which input.
  Laid BY PROGRAM, IN A SANDBOX (cutbox-rows.mjs): the forced cells as the released guide's own fill.sh prints them over the translation 17d81c4927764096… (all of the seat's roots in one cut). By AI agents, Wed Nov 11 2026. No macro, syntax, notation, axiom, sorry.
-/
import Derived.Test.YtjhbcpnliiegoaaChecked
import GoSem.Claim
import GoSem.ClaimJoined
import GoSem.ClaimMapViews
import Derived.JoinedTies
import Derived.KernelRfl
namespace Go.Proofs.Ytjhbcpnliiegoaa
/- THE CELL 'sum', in the pinned program and in every row, IS THE sha256 OF THE DUMP (.gsa) THAT YtjhbcpnliiegoaaProg.lean LOADS. Nothing in Lean hashes anything: it is a label: what it is worth is what the hold of that sum in a sandbox is worth. -/
noncomputable def Try.pinned : Pinned := { name := "ytjhbcpnliiegoaa", sum := "17d81c49277640968d11813d2719acbd355844b07f82a0817b476a6eab81fb47", checked := Try.checked }
namespace Rows
def none {H : Type} : Left H := { results := [], args := [] }

/-- 'fulcrumlaw02.WholeMakes': WHATEVER THE INPUT: true; the input reads as it did. -/
def wholeMakesSpec : ChangeSpec := { name := "wholeMakes", fn := fun _ => fun
  | [d1, d2] => { results := [.lit (.bool true)], args := [d1, d2] }
  | _ => none }
def wholeMakesRow : OpenClaim := { program := "ytjhbcpnliiegoaa", sum := "17d81c49277640968d11813d2719acbd355844b07f82a0817b476a6eab81fb47", func := "fulcrum/fulcrumlaw02.WholeMakes", spec := "wholeMakes", apart := false }
def WholeMakesSaid : Prop := wholeMakesRow.holds Try.pinned (OpenSpec.ofChange wholeMakesSpec)

/-- ITS FALSE NEIGHBOUR: 'it returns false'. Refute it at one input. -/
def wholeMakesWrong : ChangeSpec := { name := "wholeMakes", fn := fun _ => fun
  | [d1, d2] => { results := [.lit (.bool false)], args := [d1, d2] }
  | _ => none }
def WholeMakesWrongFalsely : Prop := wholeMakesRow.holds Try.pinned (OpenSpec.ofChange wholeMakesWrong)

/-- 'fulcrumlaw02.WholeReckons': WHATEVER THE INPUT: true; the input reads as it did. -/
def wholeReckonsSpec : ChangeSpec := { name := "wholeReckons", fn := fun _ => fun
  | [d1, d2] => { results := [.lit (.bool true)], args := [d1, d2] }
  | _ => none }
def wholeReckonsRow : OpenClaim := { program := "ytjhbcpnliiegoaa", sum := "17d81c49277640968d11813d2719acbd355844b07f82a0817b476a6eab81fb47", func := "fulcrum/fulcrumlaw02.WholeReckons", spec := "wholeReckons", apart := false }
def WholeReckonsSaid : Prop := wholeReckonsRow.holds Try.pinned (OpenSpec.ofChange wholeReckonsSpec)

/-- ITS FALSE NEIGHBOUR: 'it returns false'. Refute it at one input. -/
def wholeReckonsWrong : ChangeSpec := { name := "wholeReckons", fn := fun _ => fun
  | [d1, d2] => { results := [.lit (.bool false)], args := [d1, d2] }
  | _ => none }
def WholeReckonsWrongFalsely : Prop := wholeReckonsRow.holds Try.pinned (OpenSpec.ofChange wholeReckonsWrong)

/-- 'fulcrumlaw02.WholeOrder': WHATEVER THE INPUT: true; the input reads as it did. -/
def wholeOrderSpec : ChangeSpec := { name := "wholeOrder", fn := fun _ => fun
  | [d1, d2, d3] => { results := [.lit (.bool true)], args := [d1, d2, d3] }
  | _ => none }
def wholeOrderRow : OpenClaim := { program := "ytjhbcpnliiegoaa", sum := "17d81c49277640968d11813d2719acbd355844b07f82a0817b476a6eab81fb47", func := "fulcrum/fulcrumlaw02.WholeOrder", spec := "wholeOrder", apart := false }
def WholeOrderSaid : Prop := wholeOrderRow.holds Try.pinned (OpenSpec.ofChange wholeOrderSpec)

/-- ITS FALSE NEIGHBOUR: 'it returns false'. Refute it at one input. -/
def wholeOrderWrong : ChangeSpec := { name := "wholeOrder", fn := fun _ => fun
  | [d1, d2, d3] => { results := [.lit (.bool false)], args := [d1, d2, d3] }
  | _ => none }
def WholeOrderWrongFalsely : Prop := wholeOrderRow.holds Try.pinned (OpenSpec.ofChange wholeOrderWrong)

/-- 'fulcrumlaw02.WholeRing': WHATEVER THE INPUT: true; the input reads as it did. -/
def wholeRingSpec : ChangeSpec := { name := "wholeRing", fn := fun _ => fun
  | [d1, d2, d3] => { results := [.lit (.bool true)], args := [d1, d2, d3] }
  | _ => none }
def wholeRingRow : OpenClaim := { program := "ytjhbcpnliiegoaa", sum := "17d81c49277640968d11813d2719acbd355844b07f82a0817b476a6eab81fb47", func := "fulcrum/fulcrumlaw02.WholeRing", spec := "wholeRing", apart := false }
def WholeRingSaid : Prop := wholeRingRow.holds Try.pinned (OpenSpec.ofChange wholeRingSpec)

/-- ITS FALSE NEIGHBOUR: 'it returns false'. Refute it at one input. -/
def wholeRingWrong : ChangeSpec := { name := "wholeRing", fn := fun _ => fun
  | [d1, d2, d3] => { results := [.lit (.bool false)], args := [d1, d2, d3] }
  | _ => none }
def WholeRingWrongFalsely : Prop := wholeRingRow.holds Try.pinned (OpenSpec.ofChange wholeRingWrong)

/-- 'fulcrumlaw02.WholeShifts': WHATEVER THE INPUT: true; the input reads as it did. -/
def wholeShiftsSpec : ChangeSpec := { name := "wholeShifts", fn := fun _ => fun
  | [d1, d2] => { results := [.lit (.bool true)], args := [d1, d2] }
  | _ => none }
def wholeShiftsRow : OpenClaim := { program := "ytjhbcpnliiegoaa", sum := "17d81c49277640968d11813d2719acbd355844b07f82a0817b476a6eab81fb47", func := "fulcrum/fulcrumlaw02.WholeShifts", spec := "wholeShifts", apart := false }
def WholeShiftsSaid : Prop := wholeShiftsRow.holds Try.pinned (OpenSpec.ofChange wholeShiftsSpec)

/-- ITS FALSE NEIGHBOUR: 'it returns false'. Refute it at one input. -/
def wholeShiftsWrong : ChangeSpec := { name := "wholeShifts", fn := fun _ => fun
  | [d1, d2] => { results := [.lit (.bool false)], args := [d1, d2] }
  | _ => none }
def WholeShiftsWrongFalsely : Prop := wholeShiftsRow.holds Try.pinned (OpenSpec.ofChange wholeShiftsWrong)

/-- 'fulcrumlaw02.WholeDivides': WHATEVER THE INPUT: true; the input reads as it did. -/
def wholeDividesSpec : ChangeSpec := { name := "wholeDivides", fn := fun _ => fun
  | [d1, d2] => { results := [.lit (.bool true)], args := [d1, d2] }
  | _ => none }
def wholeDividesRow : OpenClaim := { program := "ytjhbcpnliiegoaa", sum := "17d81c49277640968d11813d2719acbd355844b07f82a0817b476a6eab81fb47", func := "fulcrum/fulcrumlaw02.WholeDivides", spec := "wholeDivides", named := ["math/bits.overflowError"], apart := false }
def WholeDividesSaid : Prop := wholeDividesRow.holds Try.pinned (OpenSpec.ofChange wholeDividesSpec)

/-- ITS FALSE NEIGHBOUR: 'it returns false'. Refute it at one input. -/
def wholeDividesWrong : ChangeSpec := { name := "wholeDivides", fn := fun _ => fun
  | [d1, d2] => { results := [.lit (.bool false)], args := [d1, d2] }
  | _ => none }
def WholeDividesWrongFalsely : Prop := wholeDividesRow.holds Try.pinned (OpenSpec.ofChange wholeDividesWrong)

/-- 'fulcrumlaw02.WholeDivision': WHATEVER THE INPUT: true; the input reads as it did. -/
def wholeDivisionSpec : ChangeSpec := { name := "wholeDivision", fn := fun _ => fun
  | [d1, d2] => { results := [.lit (.bool true)], args := [d1, d2] }
  | _ => none }
def wholeDivisionRow : OpenClaim := { program := "ytjhbcpnliiegoaa", sum := "17d81c49277640968d11813d2719acbd355844b07f82a0817b476a6eab81fb47", func := "fulcrum/fulcrumlaw02.WholeDivision", spec := "wholeDivision", named := ["math/bits.overflowError"], apart := false }
def WholeDivisionSaid : Prop := wholeDivisionRow.holds Try.pinned (OpenSpec.ofChange wholeDivisionSpec)

/-- ITS FALSE NEIGHBOUR: 'it returns false'. Refute it at one input. -/
def wholeDivisionWrong : ChangeSpec := { name := "wholeDivision", fn := fun _ => fun
  | [d1, d2] => { results := [.lit (.bool false)], args := [d1, d2] }
  | _ => none }
def WholeDivisionWrongFalsely : Prop := wholeDivisionRow.holds Try.pinned (OpenSpec.ofChange wholeDivisionWrong)

/-- 'fulcrumlaw02.WholePowers': WHATEVER THE INPUT: true; the input reads as it did. -/
def wholePowersSpec : ChangeSpec := { name := "wholePowers", fn := fun _ => fun
  | [d1, d2] => { results := [.lit (.bool true)], args := [d1, d2] }
  | _ => none }
def wholePowersRow : OpenClaim := { program := "ytjhbcpnliiegoaa", sum := "17d81c49277640968d11813d2719acbd355844b07f82a0817b476a6eab81fb47", func := "fulcrum/fulcrumlaw02.WholePowers", spec := "wholePowers", recurses := true, named := ["math/bits.overflowError"], apart := false }
def WholePowersSaid : Prop := wholePowersRow.holds Try.pinned (OpenSpec.ofChange wholePowersSpec)

/-- ITS FALSE NEIGHBOUR: 'it returns false'. Refute it at one input. -/
def wholePowersWrong : ChangeSpec := { name := "wholePowers", fn := fun _ => fun
  | [d1, d2] => { results := [.lit (.bool false)], args := [d1, d2] }
  | _ => none }
def WholePowersWrongFalsely : Prop := wholePowersRow.holds Try.pinned (OpenSpec.ofChange wholePowersWrong)

/-- 'fulcrumlaw02.WholeRoots': WHATEVER THE INPUT: true; the input reads as it did. -/
def wholeRootsSpec : ChangeSpec := { name := "wholeRoots", fn := fun _ => fun
  | [d] => { results := [.lit (.bool true)], args := [d] }
  | _ => none }
def wholeRootsRow : OpenClaim := { program := "ytjhbcpnliiegoaa", sum := "17d81c49277640968d11813d2719acbd355844b07f82a0817b476a6eab81fb47", func := "fulcrum/fulcrumlaw02.WholeRoots", spec := "wholeRoots", named := ["math/bits.overflowError"], apart := false }
def WholeRootsSaid : Prop := wholeRootsRow.holds Try.pinned (OpenSpec.ofChange wholeRootsSpec)

/-- ITS FALSE NEIGHBOUR: 'it returns false'. Refute it at one input. -/
def wholeRootsWrong : ChangeSpec := { name := "wholeRoots", fn := fun _ => fun
  | [d] => { results := [.lit (.bool false)], args := [d] }
  | _ => none }
def WholeRootsWrongFalsely : Prop := wholeRootsRow.holds Try.pinned (OpenSpec.ofChange wholeRootsWrong)

/-- 'fulcrumlaw02.WholeInverse': WHATEVER THE INPUT: true; the input reads as it did. -/
def wholeInverseSpec : ChangeSpec := { name := "wholeInverse", fn := fun _ => fun
  | [d1, d2] => { results := [.lit (.bool true)], args := [d1, d2] }
  | _ => none }
def wholeInverseRow : OpenClaim := { program := "ytjhbcpnliiegoaa", sum := "17d81c49277640968d11813d2719acbd355844b07f82a0817b476a6eab81fb47", func := "fulcrum/fulcrumlaw02.WholeInverse", spec := "wholeInverse", named := ["math/bits.overflowError"], apart := false }
def WholeInverseSaid : Prop := wholeInverseRow.holds Try.pinned (OpenSpec.ofChange wholeInverseSpec)

/-- ITS FALSE NEIGHBOUR: 'it returns false'. Refute it at one input. -/
def wholeInverseWrong : ChangeSpec := { name := "wholeInverse", fn := fun _ => fun
  | [d1, d2] => { results := [.lit (.bool false)], args := [d1, d2] }
  | _ => none }
def WholeInverseWrongFalsely : Prop := wholeInverseRow.holds Try.pinned (OpenSpec.ofChange wholeInverseWrong)

/-- 'fulcrumlaw02.WholeHalves': WHATEVER THE INPUT: true; the input reads as it did. -/
def wholeHalvesSpec : ChangeSpec := { name := "wholeHalves", fn := fun _ => fun
  | [d1, d2] => { results := [.lit (.bool true)], args := [d1, d2] }
  | _ => none }
def wholeHalvesRow : OpenClaim := { program := "ytjhbcpnliiegoaa", sum := "17d81c49277640968d11813d2719acbd355844b07f82a0817b476a6eab81fb47", func := "fulcrum/fulcrumlaw02.WholeHalves", spec := "wholeHalves", named := ["math/bits.overflowError"], apart := false }
def WholeHalvesSaid : Prop := wholeHalvesRow.holds Try.pinned (OpenSpec.ofChange wholeHalvesSpec)

/-- ITS FALSE NEIGHBOUR: 'it returns false'. Refute it at one input. -/
def wholeHalvesWrong : ChangeSpec := { name := "wholeHalves", fn := fun _ => fun
  | [d1, d2] => { results := [.lit (.bool false)], args := [d1, d2] }
  | _ => none }
def WholeHalvesWrongFalsely : Prop := wholeHalvesRow.holds Try.pinned (OpenSpec.ofChange wholeHalvesWrong)

/-- 'fulcrumlaw02.WholeBezout': WHATEVER THE INPUT: true; the input reads as it did. -/
def wholeBezoutSpec : ChangeSpec := { name := "wholeBezout", fn := fun _ => fun
  | [d1, d2] => { results := [.lit (.bool true)], args := [d1, d2] }
  | _ => none }
def wholeBezoutRow : OpenClaim := { program := "ytjhbcpnliiegoaa", sum := "17d81c49277640968d11813d2719acbd355844b07f82a0817b476a6eab81fb47", func := "fulcrum/fulcrumlaw02.WholeBezout", spec := "wholeBezout", named := ["math/bits.overflowError"], apart := false }
def WholeBezoutSaid : Prop := wholeBezoutRow.holds Try.pinned (OpenSpec.ofChange wholeBezoutSpec)

/-- ITS FALSE NEIGHBOUR: 'it returns false'. Refute it at one input. -/
def wholeBezoutWrong : ChangeSpec := { name := "wholeBezout", fn := fun _ => fun
  | [d1, d2] => { results := [.lit (.bool false)], args := [d1, d2] }
  | _ => none }
def WholeBezoutWrongFalsely : Prop := wholeBezoutRow.holds Try.pinned (OpenSpec.ofChange wholeBezoutWrong)

/-- 'fulcrumlaw02.WholeCommon': WHATEVER THE INPUT: true; the input reads as it did. -/
def wholeCommonSpec : ChangeSpec := { name := "wholeCommon", fn := fun _ => fun
  | [d1, d2] => { results := [.lit (.bool true)], args := [d1, d2] }
  | _ => none }
def wholeCommonRow : OpenClaim := { program := "ytjhbcpnliiegoaa", sum := "17d81c49277640968d11813d2719acbd355844b07f82a0817b476a6eab81fb47", func := "fulcrum/fulcrumlaw02.WholeCommon", spec := "wholeCommon", named := ["math/bits.overflowError"], apart := false }
def WholeCommonSaid : Prop := wholeCommonRow.holds Try.pinned (OpenSpec.ofChange wholeCommonSpec)

/-- ITS FALSE NEIGHBOUR: 'it returns false'. Refute it at one input. -/
def wholeCommonWrong : ChangeSpec := { name := "wholeCommon", fn := fun _ => fun
  | [d1, d2] => { results := [.lit (.bool false)], args := [d1, d2] }
  | _ => none }
def WholeCommonWrongFalsely : Prop := wholeCommonRow.holds Try.pinned (OpenSpec.ofChange wholeCommonWrong)

/-- 'fulcrumlaw02.WholeOwn': WHATEVER THE INPUT: true; the input reads as it did. -/
def wholeOwnSpec : ChangeSpec := { name := "wholeOwn", fn := fun _ => fun
  | [d1, d2] => { results := [.lit (.bool true)], args := [d1, d2] }
  | _ => none }
def wholeOwnRow : OpenClaim := { program := "ytjhbcpnliiegoaa", sum := "17d81c49277640968d11813d2719acbd355844b07f82a0817b476a6eab81fb47", func := "fulcrum/fulcrumlaw02.WholeOwn", spec := "wholeOwn", named := ["math/bits.overflowError"], apart := false }
def WholeOwnSaid : Prop := wholeOwnRow.holds Try.pinned (OpenSpec.ofChange wholeOwnSpec)

/-- ITS FALSE NEIGHBOUR: 'it returns false'. Refute it at one input. -/
def wholeOwnWrong : ChangeSpec := { name := "wholeOwn", fn := fun _ => fun
  | [d1, d2] => { results := [.lit (.bool false)], args := [d1, d2] }
  | _ => none }
def WholeOwnWrongFalsely : Prop := wholeOwnRow.holds Try.pinned (OpenSpec.ofChange wholeOwnWrong)

/- THE SECOND FORM. 'bulk': how many values and letters a reading holds, each counted each time it is reached (what is shared counts as often as it is met; a slice's spare places count too). A statement '..UptoSaid' is the law's where the arguments, and the package variables that the reading takes, are together of bulk at most 1048576: NARROWER than '..Said'. Prove '..Said' where nothing that the law and all that it calls make is longer than what came in: it says more and counts as full. Else prove '..UptoSaid'. A law counts once. -/
mutual
def uptoBulk {H : Type} : DataW H → Nat
  | .lit (.string bytes) => bytes.length + 1
  | .lit _ => 1
  | .nil => 1
  | .ptr d => uptoBulk d + 1
  | .slice elems spare => uptoBulkAll elems + uptoBulkAll spare + 1
  | .agg parts => uptoBulkAll parts + 1
  | .iface _ d => uptoBulk d + 1
  | .map entries => uptoBulkEntries entries + 1
  | .held _ => 1
def uptoBulkAll {H : Type} : List (DataW H) → Nat
  | [] => 0
  | d :: r => uptoBulk d + uptoBulkAll r
def uptoBulkEntries {H : Type} : List (Lit × DataW H) → Nat
  | [] => 0
  | x :: r => uptoBulkEntry x + uptoBulkEntries r
def uptoBulkEntry {H : Type} : Lit × DataW H → Nat
  | (.string bytes, d) => bytes.length + uptoBulk d + 1
  | (_, d) => uptoBulk d + 1
 end
def uptoSmall : (H : Type) → List (DataW H) → Bool := fun _ ds => decide (uptoBulkAll ds ≤ 1048576)
def OpenSpec.upto (s : _root_.Go.ChangeSpec) : _root_.Go.OpenSpec := { _root_.Go.OpenSpec.ofChange s with cond := some uptoSmall }

/-- 'fulcrumlaw02.WholeMakes', WHERE WHAT IT READS IS OF BULK AT MOST 1048576: true; the input reads as it did. -/
def wholeMakesUptoRow : OpenClaim := { program := "ytjhbcpnliiegoaa", sum := "17d81c49277640968d11813d2719acbd355844b07f82a0817b476a6eab81fb47", func := "fulcrum/fulcrumlaw02.WholeMakes", spec := "wholeMakes", apart := false, narrowed := true }
def WholeMakesUptoSaid : Prop := wholeMakesUptoRow.holds Try.pinned (OpenSpec.upto wholeMakesSpec)

/-- 'fulcrumlaw02.WholeReckons', WHERE WHAT IT READS IS OF BULK AT MOST 1048576: true; the input reads as it did. -/
def wholeReckonsUptoRow : OpenClaim := { program := "ytjhbcpnliiegoaa", sum := "17d81c49277640968d11813d2719acbd355844b07f82a0817b476a6eab81fb47", func := "fulcrum/fulcrumlaw02.WholeReckons", spec := "wholeReckons", apart := false, narrowed := true }
def WholeReckonsUptoSaid : Prop := wholeReckonsUptoRow.holds Try.pinned (OpenSpec.upto wholeReckonsSpec)

/-- 'fulcrumlaw02.WholeOrder', WHERE WHAT IT READS IS OF BULK AT MOST 1048576: true; the input reads as it did. -/
def wholeOrderUptoRow : OpenClaim := { program := "ytjhbcpnliiegoaa", sum := "17d81c49277640968d11813d2719acbd355844b07f82a0817b476a6eab81fb47", func := "fulcrum/fulcrumlaw02.WholeOrder", spec := "wholeOrder", apart := false, narrowed := true }
def WholeOrderUptoSaid : Prop := wholeOrderUptoRow.holds Try.pinned (OpenSpec.upto wholeOrderSpec)

/-- 'fulcrumlaw02.WholeRing', WHERE WHAT IT READS IS OF BULK AT MOST 1048576: true; the input reads as it did. -/
def wholeRingUptoRow : OpenClaim := { program := "ytjhbcpnliiegoaa", sum := "17d81c49277640968d11813d2719acbd355844b07f82a0817b476a6eab81fb47", func := "fulcrum/fulcrumlaw02.WholeRing", spec := "wholeRing", apart := false, narrowed := true }
def WholeRingUptoSaid : Prop := wholeRingUptoRow.holds Try.pinned (OpenSpec.upto wholeRingSpec)

/-- 'fulcrumlaw02.WholeShifts', WHERE WHAT IT READS IS OF BULK AT MOST 1048576: true; the input reads as it did. -/
def wholeShiftsUptoRow : OpenClaim := { program := "ytjhbcpnliiegoaa", sum := "17d81c49277640968d11813d2719acbd355844b07f82a0817b476a6eab81fb47", func := "fulcrum/fulcrumlaw02.WholeShifts", spec := "wholeShifts", apart := false, narrowed := true }
def WholeShiftsUptoSaid : Prop := wholeShiftsUptoRow.holds Try.pinned (OpenSpec.upto wholeShiftsSpec)

/-- 'fulcrumlaw02.WholeDivides', WHERE WHAT IT READS IS OF BULK AT MOST 1048576: true; the input reads as it did. -/
def wholeDividesUptoRow : OpenClaim := { program := "ytjhbcpnliiegoaa", sum := "17d81c49277640968d11813d2719acbd355844b07f82a0817b476a6eab81fb47", func := "fulcrum/fulcrumlaw02.WholeDivides", spec := "wholeDivides", named := ["math/bits.overflowError"], apart := false, narrowed := true }
def WholeDividesUptoSaid : Prop := wholeDividesUptoRow.holds Try.pinned (OpenSpec.upto wholeDividesSpec)

/-- 'fulcrumlaw02.WholeDivision', WHERE WHAT IT READS IS OF BULK AT MOST 1048576: true; the input reads as it did. -/
def wholeDivisionUptoRow : OpenClaim := { program := "ytjhbcpnliiegoaa", sum := "17d81c49277640968d11813d2719acbd355844b07f82a0817b476a6eab81fb47", func := "fulcrum/fulcrumlaw02.WholeDivision", spec := "wholeDivision", named := ["math/bits.overflowError"], apart := false, narrowed := true }
def WholeDivisionUptoSaid : Prop := wholeDivisionUptoRow.holds Try.pinned (OpenSpec.upto wholeDivisionSpec)

/-- 'fulcrumlaw02.WholePowers', WHERE WHAT IT READS IS OF BULK AT MOST 1048576: true; the input reads as it did. -/
def wholePowersUptoRow : OpenClaim := { program := "ytjhbcpnliiegoaa", sum := "17d81c49277640968d11813d2719acbd355844b07f82a0817b476a6eab81fb47", func := "fulcrum/fulcrumlaw02.WholePowers", spec := "wholePowers", recurses := true, named := ["math/bits.overflowError"], apart := false, narrowed := true }
def WholePowersUptoSaid : Prop := wholePowersUptoRow.holds Try.pinned (OpenSpec.upto wholePowersSpec)

/-- 'fulcrumlaw02.WholeRoots', WHERE WHAT IT READS IS OF BULK AT MOST 1048576: true; the input reads as it did. -/
def wholeRootsUptoRow : OpenClaim := { program := "ytjhbcpnliiegoaa", sum := "17d81c49277640968d11813d2719acbd355844b07f82a0817b476a6eab81fb47", func := "fulcrum/fulcrumlaw02.WholeRoots", spec := "wholeRoots", named := ["math/bits.overflowError"], apart := false, narrowed := true }
def WholeRootsUptoSaid : Prop := wholeRootsUptoRow.holds Try.pinned (OpenSpec.upto wholeRootsSpec)

/-- 'fulcrumlaw02.WholeInverse', WHERE WHAT IT READS IS OF BULK AT MOST 1048576: true; the input reads as it did. -/
def wholeInverseUptoRow : OpenClaim := { program := "ytjhbcpnliiegoaa", sum := "17d81c49277640968d11813d2719acbd355844b07f82a0817b476a6eab81fb47", func := "fulcrum/fulcrumlaw02.WholeInverse", spec := "wholeInverse", named := ["math/bits.overflowError"], apart := false, narrowed := true }
def WholeInverseUptoSaid : Prop := wholeInverseUptoRow.holds Try.pinned (OpenSpec.upto wholeInverseSpec)

/-- 'fulcrumlaw02.WholeHalves', WHERE WHAT IT READS IS OF BULK AT MOST 1048576: true; the input reads as it did. -/
def wholeHalvesUptoRow : OpenClaim := { program := "ytjhbcpnliiegoaa", sum := "17d81c49277640968d11813d2719acbd355844b07f82a0817b476a6eab81fb47", func := "fulcrum/fulcrumlaw02.WholeHalves", spec := "wholeHalves", named := ["math/bits.overflowError"], apart := false, narrowed := true }
def WholeHalvesUptoSaid : Prop := wholeHalvesUptoRow.holds Try.pinned (OpenSpec.upto wholeHalvesSpec)

/-- 'fulcrumlaw02.WholeBezout', WHERE WHAT IT READS IS OF BULK AT MOST 1048576: true; the input reads as it did. -/
def wholeBezoutUptoRow : OpenClaim := { program := "ytjhbcpnliiegoaa", sum := "17d81c49277640968d11813d2719acbd355844b07f82a0817b476a6eab81fb47", func := "fulcrum/fulcrumlaw02.WholeBezout", spec := "wholeBezout", named := ["math/bits.overflowError"], apart := false, narrowed := true }
def WholeBezoutUptoSaid : Prop := wholeBezoutUptoRow.holds Try.pinned (OpenSpec.upto wholeBezoutSpec)

/-- 'fulcrumlaw02.WholeCommon', WHERE WHAT IT READS IS OF BULK AT MOST 1048576: true; the input reads as it did. -/
def wholeCommonUptoRow : OpenClaim := { program := "ytjhbcpnliiegoaa", sum := "17d81c49277640968d11813d2719acbd355844b07f82a0817b476a6eab81fb47", func := "fulcrum/fulcrumlaw02.WholeCommon", spec := "wholeCommon", named := ["math/bits.overflowError"], apart := false, narrowed := true }
def WholeCommonUptoSaid : Prop := wholeCommonUptoRow.holds Try.pinned (OpenSpec.upto wholeCommonSpec)

/-- 'fulcrumlaw02.WholeOwn', WHERE WHAT IT READS IS OF BULK AT MOST 1048576: true; the input reads as it did. -/
def wholeOwnUptoRow : OpenClaim := { program := "ytjhbcpnliiegoaa", sum := "17d81c49277640968d11813d2719acbd355844b07f82a0817b476a6eab81fb47", func := "fulcrum/fulcrumlaw02.WholeOwn", spec := "wholeOwn", named := ["math/bits.overflowError"], apart := false, narrowed := true }
def WholeOwnUptoSaid : Prop := wholeOwnUptoRow.holds Try.pinned (OpenSpec.upto wholeOwnSpec)

end Rows
end Go.Proofs.Ytjhbcpnliiegoaa
