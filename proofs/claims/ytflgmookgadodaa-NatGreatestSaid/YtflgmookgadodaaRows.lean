/-
  No cell of these rows narrows 'for every input' (looked for: loops, veiled, ifaces, maps, wideKeys, modest, calm, conditions, laid).
  DERIVED. THE GIVEN ROWS OF THIS SEAT. 15 by the template 'for every input the law returns true; each argument reads behind the call as it read before'; 0 by the template 'total and deterministic' (their statements: YtflgmookgadodaaTotals.lean).
  GIVEN WITH THE SEED: the statements are not yours to turn. If you find one false, say at which input.
  Laid BY PROGRAM, IN A SANDBOX (cutbox-rows.mjs): the forced cells as the released guide's own fill.sh prints them over the translation c4340ab68a416ef0… (all of the seat's roots in one cut). By AI agents, Wed Nov 11 2026. No macro, syntax, notation, axiom, sorry.
-/
import Derived.Test.YtflgmookgadodaaChecked
import GoSem.Claim
import GoSem.ClaimJoined
import GoSem.ClaimMapViews
import Derived.JoinedTies
import Derived.KernelRfl
namespace Go.Proofs.Ytflgmookgadodaa
/- THE CELL 'sum', in the pinned program and in every row, IS THE sha256 OF THE DUMP (.gsa) THAT YtflgmookgadodaaProg.lean LOADS. Nothing in Lean hashes anything: it is a label: what it is worth is what the hold of that sum in a sandbox is worth. -/
noncomputable def Try.pinned : Pinned := { name := "ytflgmookgadodaa", sum := "c4340ab68a416ef0ab200a84e72710e8ae08b51dc1d19c7cce3228ef55df3999", checked := Try.checked }
namespace Rows
def none {H : Type} : Left H := { results := [], args := [] }

/-- 'fulcrumlaw01.NatConsts': WHATEVER THE INPUT: true; the input reads as it did. -/
def natConstsSpec : ChangeSpec := { name := "natConsts", fn := fun _ => fun
  | [] => { results := [.lit (.bool true)], args := [] }
  | _ => none }
def natConstsRow : OpenClaim := { program := "ytflgmookgadodaa", sum := "c4340ab68a416ef0ab200a84e72710e8ae08b51dc1d19c7cce3228ef55df3999", func := "fulcrum/fulcrumlaw01.NatConsts", spec := "natConsts", apart := false }
def NatConstsSaid : Prop := natConstsRow.holds Try.pinned (OpenSpec.ofChange natConstsSpec)

/-- ITS FALSE NEIGHBOUR: 'it returns false'. Refute it at one input. -/
def natConstsWrong : ChangeSpec := { name := "natConsts", fn := fun _ => fun
  | [] => { results := [.lit (.bool false)], args := [] }
  | _ => none }
def NatConstsWrongFalsely : Prop := natConstsRow.holds Try.pinned (OpenSpec.ofChange natConstsWrong)

/-- 'fulcrumlaw01.NatNorms': WHATEVER THE INPUT: true; the input reads as it did. -/
def natNormsSpec : ChangeSpec := { name := "natNorms", fn := fun _ => fun
  | [d1, d2] => { results := [.lit (.bool true)], args := [d1, d2] }
  | _ => none }
def natNormsRow : OpenClaim := { program := "ytflgmookgadodaa", sum := "c4340ab68a416ef0ab200a84e72710e8ae08b51dc1d19c7cce3228ef55df3999", func := "fulcrum/fulcrumlaw01.NatNorms", spec := "natNorms", apart := false }
def NatNormsSaid : Prop := natNormsRow.holds Try.pinned (OpenSpec.ofChange natNormsSpec)

/-- ITS FALSE NEIGHBOUR: 'it returns false'. Refute it at one input. -/
def natNormsWrong : ChangeSpec := { name := "natNorms", fn := fun _ => fun
  | [d1, d2] => { results := [.lit (.bool false)], args := [d1, d2] }
  | _ => none }
def NatNormsWrongFalsely : Prop := natNormsRow.holds Try.pinned (OpenSpec.ofChange natNormsWrong)

/-- 'fulcrumlaw01.NatBits': WHATEVER THE INPUT: true; the input reads as it did. -/
def natBitsSpec : ChangeSpec := { name := "natBits", fn := fun _ => fun
  | [d1, d2] => { results := [.lit (.bool true)], args := [d1, d2] }
  | _ => none }
def natBitsRow : OpenClaim := { program := "ytflgmookgadodaa", sum := "c4340ab68a416ef0ab200a84e72710e8ae08b51dc1d19c7cce3228ef55df3999", func := "fulcrum/fulcrumlaw01.NatBits", spec := "natBits", apart := false }
def NatBitsSaid : Prop := natBitsRow.holds Try.pinned (OpenSpec.ofChange natBitsSpec)

/-- ITS FALSE NEIGHBOUR: 'it returns false'. Refute it at one input. -/
def natBitsWrong : ChangeSpec := { name := "natBits", fn := fun _ => fun
  | [d1, d2] => { results := [.lit (.bool false)], args := [d1, d2] }
  | _ => none }
def NatBitsWrongFalsely : Prop := natBitsRow.holds Try.pinned (OpenSpec.ofChange natBitsWrong)

/-- 'fulcrumlaw01.NatShifts': WHATEVER THE INPUT: true; the input reads as it did. -/
def natShiftsSpec : ChangeSpec := { name := "natShifts", fn := fun _ => fun
  | [d1, d2] => { results := [.lit (.bool true)], args := [d1, d2] }
  | _ => none }
def natShiftsRow : OpenClaim := { program := "ytflgmookgadodaa", sum := "c4340ab68a416ef0ab200a84e72710e8ae08b51dc1d19c7cce3228ef55df3999", func := "fulcrum/fulcrumlaw01.NatShifts", spec := "natShifts", apart := false }
def NatShiftsSaid : Prop := natShiftsRow.holds Try.pinned (OpenSpec.ofChange natShiftsSpec)

/-- ITS FALSE NEIGHBOUR: 'it returns false'. Refute it at one input. -/
def natShiftsWrong : ChangeSpec := { name := "natShifts", fn := fun _ => fun
  | [d1, d2] => { results := [.lit (.bool false)], args := [d1, d2] }
  | _ => none }
def NatShiftsWrongFalsely : Prop := natShiftsRow.holds Try.pinned (OpenSpec.ofChange natShiftsWrong)

/-- 'fulcrumlaw01.NatTexts': WHATEVER THE INPUT: true; the input reads as it did. -/
def natTextsSpec : ChangeSpec := { name := "natTexts", fn := fun _ => fun
  | [d1, d2] => { results := [.lit (.bool true)], args := [d1, d2] }
  | _ => none }
def natTextsRow : OpenClaim := { program := "ytflgmookgadodaa", sum := "c4340ab68a416ef0ab200a84e72710e8ae08b51dc1d19c7cce3228ef55df3999", func := "fulcrum/fulcrumlaw01.NatTexts", spec := "natTexts", named := ["math/bits.overflowError"], apart := false }
def NatTextsSaid : Prop := natTextsRow.holds Try.pinned (OpenSpec.ofChange natTextsSpec)

/-- ITS FALSE NEIGHBOUR: 'it returns false'. Refute it at one input. -/
def natTextsWrong : ChangeSpec := { name := "natTexts", fn := fun _ => fun
  | [d1, d2] => { results := [.lit (.bool false)], args := [d1, d2] }
  | _ => none }
def NatTextsWrongFalsely : Prop := natTextsRow.holds Try.pinned (OpenSpec.ofChange natTextsWrong)

/-- 'fulcrumlaw01.NatOrder': WHATEVER THE INPUT: true; the input reads as it did. -/
def natOrderSpec : ChangeSpec := { name := "natOrder", fn := fun _ => fun
  | [d1, d2, d3] => { results := [.lit (.bool true)], args := [d1, d2, d3] }
  | _ => none }
def natOrderRow : OpenClaim := { program := "ytflgmookgadodaa", sum := "c4340ab68a416ef0ab200a84e72710e8ae08b51dc1d19c7cce3228ef55df3999", func := "fulcrum/fulcrumlaw01.NatOrder", spec := "natOrder", apart := false }
def NatOrderSaid : Prop := natOrderRow.holds Try.pinned (OpenSpec.ofChange natOrderSpec)

/-- ITS FALSE NEIGHBOUR: 'it returns false'. Refute it at one input. -/
def natOrderWrong : ChangeSpec := { name := "natOrder", fn := fun _ => fun
  | [d1, d2, d3] => { results := [.lit (.bool false)], args := [d1, d2, d3] }
  | _ => none }
def NatOrderWrongFalsely : Prop := natOrderRow.holds Try.pinned (OpenSpec.ofChange natOrderWrong)

/-- 'fulcrumlaw01.NatSums': WHATEVER THE INPUT: true; the input reads as it did. -/
def natSumsSpec : ChangeSpec := { name := "natSums", fn := fun _ => fun
  | [d1, d2] => { results := [.lit (.bool true)], args := [d1, d2] }
  | _ => none }
def natSumsRow : OpenClaim := { program := "ytflgmookgadodaa", sum := "c4340ab68a416ef0ab200a84e72710e8ae08b51dc1d19c7cce3228ef55df3999", func := "fulcrum/fulcrumlaw01.NatSums", spec := "natSums", apart := false }
def NatSumsSaid : Prop := natSumsRow.holds Try.pinned (OpenSpec.ofChange natSumsSpec)

/-- ITS FALSE NEIGHBOUR: 'it returns false'. Refute it at one input. -/
def natSumsWrong : ChangeSpec := { name := "natSums", fn := fun _ => fun
  | [d1, d2] => { results := [.lit (.bool false)], args := [d1, d2] }
  | _ => none }
def NatSumsWrongFalsely : Prop := natSumsRow.holds Try.pinned (OpenSpec.ofChange natSumsWrong)

/-- 'fulcrumlaw01.NatRing': WHATEVER THE INPUT: true; the input reads as it did. -/
def natRingSpec : ChangeSpec := { name := "natRing", fn := fun _ => fun
  | [d1, d2, d3] => { results := [.lit (.bool true)], args := [d1, d2, d3] }
  | _ => none }
def natRingRow : OpenClaim := { program := "ytflgmookgadodaa", sum := "c4340ab68a416ef0ab200a84e72710e8ae08b51dc1d19c7cce3228ef55df3999", func := "fulcrum/fulcrumlaw01.NatRing", spec := "natRing", apart := false }
def NatRingSaid : Prop := natRingRow.holds Try.pinned (OpenSpec.ofChange natRingSpec)

/-- ITS FALSE NEIGHBOUR: 'it returns false'. Refute it at one input. -/
def natRingWrong : ChangeSpec := { name := "natRing", fn := fun _ => fun
  | [d1, d2, d3] => { results := [.lit (.bool false)], args := [d1, d2, d3] }
  | _ => none }
def NatRingWrongFalsely : Prop := natRingRow.holds Try.pinned (OpenSpec.ofChange natRingWrong)

/-- 'fulcrumlaw01.NatDivisors': WHATEVER THE INPUT: true; the input reads as it did. -/
def natDivisorsSpec : ChangeSpec := { name := "natDivisors", fn := fun _ => fun
  | [d1, d2] => { results := [.lit (.bool true)], args := [d1, d2] }
  | _ => none }
def natDivisorsRow : OpenClaim := { program := "ytflgmookgadodaa", sum := "c4340ab68a416ef0ab200a84e72710e8ae08b51dc1d19c7cce3228ef55df3999", func := "fulcrum/fulcrumlaw01.NatDivisors", spec := "natDivisors", named := ["math/bits.overflowError"], apart := false }
def NatDivisorsSaid : Prop := natDivisorsRow.holds Try.pinned (OpenSpec.ofChange natDivisorsSpec)

/-- ITS FALSE NEIGHBOUR: 'it returns false'. Refute it at one input. -/
def natDivisorsWrong : ChangeSpec := { name := "natDivisors", fn := fun _ => fun
  | [d1, d2] => { results := [.lit (.bool false)], args := [d1, d2] }
  | _ => none }
def NatDivisorsWrongFalsely : Prop := natDivisorsRow.holds Try.pinned (OpenSpec.ofChange natDivisorsWrong)

/-- 'fulcrumlaw01.NatProducts': WHATEVER THE INPUT: true; the input reads as it did. -/
def natProductsSpec : ChangeSpec := { name := "natProducts", fn := fun _ => fun
  | [d1, d2] => { results := [.lit (.bool true)], args := [d1, d2] }
  | _ => none }
def natProductsRow : OpenClaim := { program := "ytflgmookgadodaa", sum := "c4340ab68a416ef0ab200a84e72710e8ae08b51dc1d19c7cce3228ef55df3999", func := "fulcrum/fulcrumlaw01.NatProducts", spec := "natProducts", named := ["math/bits.overflowError"], apart := false }
def NatProductsSaid : Prop := natProductsRow.holds Try.pinned (OpenSpec.ofChange natProductsSpec)

/-- ITS FALSE NEIGHBOUR: 'it returns false'. Refute it at one input. -/
def natProductsWrong : ChangeSpec := { name := "natProducts", fn := fun _ => fun
  | [d1, d2] => { results := [.lit (.bool false)], args := [d1, d2] }
  | _ => none }
def NatProductsWrongFalsely : Prop := natProductsRow.holds Try.pinned (OpenSpec.ofChange natProductsWrong)

/-- 'fulcrumlaw01.NatGreatest': WHATEVER THE INPUT: true; the input reads as it did. -/
def natGreatestSpec : ChangeSpec := { name := "natGreatest", fn := fun _ => fun
  | [d1, d2, d3] => { results := [.lit (.bool true)], args := [d1, d2, d3] }
  | _ => none }
def natGreatestRow : OpenClaim := { program := "ytflgmookgadodaa", sum := "c4340ab68a416ef0ab200a84e72710e8ae08b51dc1d19c7cce3228ef55df3999", func := "fulcrum/fulcrumlaw01.NatGreatest", spec := "natGreatest", named := ["math/bits.overflowError"], apart := false }
def NatGreatestSaid : Prop := natGreatestRow.holds Try.pinned (OpenSpec.ofChange natGreatestSpec)

/-- ITS FALSE NEIGHBOUR: 'it returns false'. Refute it at one input. -/
def natGreatestWrong : ChangeSpec := { name := "natGreatest", fn := fun _ => fun
  | [d1, d2, d3] => { results := [.lit (.bool false)], args := [d1, d2, d3] }
  | _ => none }
def NatGreatestWrongFalsely : Prop := natGreatestRow.holds Try.pinned (OpenSpec.ofChange natGreatestWrong)

/-- 'fulcrumlaw01.NatDivision': WHATEVER THE INPUT: true; the input reads as it did. -/
def natDivisionSpec : ChangeSpec := { name := "natDivision", fn := fun _ => fun
  | [d1, d2, d3] => { results := [.lit (.bool true)], args := [d1, d2, d3] }
  | _ => none }
def natDivisionRow : OpenClaim := { program := "ytflgmookgadodaa", sum := "c4340ab68a416ef0ab200a84e72710e8ae08b51dc1d19c7cce3228ef55df3999", func := "fulcrum/fulcrumlaw01.NatDivision", spec := "natDivision", named := ["math/bits.overflowError"], apart := false }
def NatDivisionSaid : Prop := natDivisionRow.holds Try.pinned (OpenSpec.ofChange natDivisionSpec)

/-- ITS FALSE NEIGHBOUR: 'it returns false'. Refute it at one input. -/
def natDivisionWrong : ChangeSpec := { name := "natDivision", fn := fun _ => fun
  | [d1, d2, d3] => { results := [.lit (.bool false)], args := [d1, d2, d3] }
  | _ => none }
def NatDivisionWrongFalsely : Prop := natDivisionRow.holds Try.pinned (OpenSpec.ofChange natDivisionWrong)

/-- 'fulcrumlaw01.NatMoves': WHATEVER THE INPUT: true; the input reads as it did. -/
def natMovesSpec : ChangeSpec := { name := "natMoves", fn := fun _ => fun
  | [d1, d2] => { results := [.lit (.bool true)], args := [d1, d2] }
  | _ => none }
def natMovesRow : OpenClaim := { program := "ytflgmookgadodaa", sum := "c4340ab68a416ef0ab200a84e72710e8ae08b51dc1d19c7cce3228ef55df3999", func := "fulcrum/fulcrumlaw01.NatMoves", spec := "natMoves", named := ["math/bits.overflowError"], apart := false }
def NatMovesSaid : Prop := natMovesRow.holds Try.pinned (OpenSpec.ofChange natMovesSpec)

/-- ITS FALSE NEIGHBOUR: 'it returns false'. Refute it at one input. -/
def natMovesWrong : ChangeSpec := { name := "natMoves", fn := fun _ => fun
  | [d1, d2] => { results := [.lit (.bool false)], args := [d1, d2] }
  | _ => none }
def NatMovesWrongFalsely : Prop := natMovesRow.holds Try.pinned (OpenSpec.ofChange natMovesWrong)

/-- 'fulcrumlaw01.NatPowers': WHATEVER THE INPUT: true; the input reads as it did. -/
def natPowersSpec : ChangeSpec := { name := "natPowers", fn := fun _ => fun
  | [d1, d2] => { results := [.lit (.bool true)], args := [d1, d2] }
  | _ => none }
def natPowersRow : OpenClaim := { program := "ytflgmookgadodaa", sum := "c4340ab68a416ef0ab200a84e72710e8ae08b51dc1d19c7cce3228ef55df3999", func := "fulcrum/fulcrumlaw01.NatPowers", spec := "natPowers", named := ["math/bits.overflowError"], apart := false }
def NatPowersSaid : Prop := natPowersRow.holds Try.pinned (OpenSpec.ofChange natPowersSpec)

/-- ITS FALSE NEIGHBOUR: 'it returns false'. Refute it at one input. -/
def natPowersWrong : ChangeSpec := { name := "natPowers", fn := fun _ => fun
  | [d1, d2] => { results := [.lit (.bool false)], args := [d1, d2] }
  | _ => none }
def NatPowersWrongFalsely : Prop := natPowersRow.holds Try.pinned (OpenSpec.ofChange natPowersWrong)

/-- 'fulcrumlaw01.NatOwn': WHATEVER THE INPUT: true; the input reads as it did. -/
def natOwnSpec : ChangeSpec := { name := "natOwn", fn := fun _ => fun
  | [d1, d2, d3] => { results := [.lit (.bool true)], args := [d1, d2, d3] }
  | _ => none }
def natOwnRow : OpenClaim := { program := "ytflgmookgadodaa", sum := "c4340ab68a416ef0ab200a84e72710e8ae08b51dc1d19c7cce3228ef55df3999", func := "fulcrum/fulcrumlaw01.NatOwn", spec := "natOwn", named := ["math/bits.overflowError"], apart := false }
def NatOwnSaid : Prop := natOwnRow.holds Try.pinned (OpenSpec.ofChange natOwnSpec)

/-- ITS FALSE NEIGHBOUR: 'it returns false'. Refute it at one input. -/
def natOwnWrong : ChangeSpec := { name := "natOwn", fn := fun _ => fun
  | [d1, d2, d3] => { results := [.lit (.bool false)], args := [d1, d2, d3] }
  | _ => none }
def NatOwnWrongFalsely : Prop := natOwnRow.holds Try.pinned (OpenSpec.ofChange natOwnWrong)

/- THE SECOND FORM. 'bulk': how many values and letters a reading holds, each counted each time it is reached (what is shared counts as often as it is met; a slice's spare places count too). A statement '..UptoSaid' is the law's where the arguments, and the package variables that the reading takes, are together of bulk at most 1048576: NARROWER than '..Said'. Prove '..Said' where nothing that the law and all that it calls make is longer than what came in: it says more and counts as full. Else prove '..UptoSaid'. A law counts once. -/
mutual
def uptoBulk {H : Type} : DataW H → Nat
  | .lit (.string bytes) => bytes.length + 1
  | .lit _ => 1
  | .nil => 1
  | .ptr d => uptoBulk d + 1
  | .slice elems spare => uptoBulkAll elems + uptoBulkAll spare + 1
  | .agg parts => uptoBulkAll parts + 1
  | .iface _ d => uptoBulk d + 1
  | .map entries => uptoBulkEntries entries + 1
  | .held _ => 1
def uptoBulkAll {H : Type} : List (DataW H) → Nat
  | [] => 0
  | d :: r => uptoBulk d + uptoBulkAll r
def uptoBulkEntries {H : Type} : List (Lit × DataW H) → Nat
  | [] => 0
  | x :: r => uptoBulkEntry x + uptoBulkEntries r
def uptoBulkEntry {H : Type} : Lit × DataW H → Nat
  | (.string bytes, d) => bytes.length + uptoBulk d + 1
  | (_, d) => uptoBulk d + 1
 end
def uptoSmall : (H : Type) → List (DataW H) → Bool := fun _ ds => decide (uptoBulkAll ds ≤ 1048576)
def OpenSpec.upto (s : _root_.Go.ChangeSpec) : _root_.Go.OpenSpec := { _root_.Go.OpenSpec.ofChange s with cond := some uptoSmall }

/-- 'fulcrumlaw01.NatConsts', WHERE WHAT IT READS IS OF BULK AT MOST 1048576: true; the input reads as it did. -/
def natConstsUptoRow : OpenClaim := { program := "ytflgmookgadodaa", sum := "c4340ab68a416ef0ab200a84e72710e8ae08b51dc1d19c7cce3228ef55df3999", func := "fulcrum/fulcrumlaw01.NatConsts", spec := "natConsts", apart := false, narrowed := true }
def NatConstsUptoSaid : Prop := natConstsUptoRow.holds Try.pinned (OpenSpec.upto natConstsSpec)

/-- 'fulcrumlaw01.NatNorms', WHERE WHAT IT READS IS OF BULK AT MOST 1048576: true; the input reads as it did. -/
def natNormsUptoRow : OpenClaim := { program := "ytflgmookgadodaa", sum := "c4340ab68a416ef0ab200a84e72710e8ae08b51dc1d19c7cce3228ef55df3999", func := "fulcrum/fulcrumlaw01.NatNorms", spec := "natNorms", apart := false, narrowed := true }
def NatNormsUptoSaid : Prop := natNormsUptoRow.holds Try.pinned (OpenSpec.upto natNormsSpec)

/-- 'fulcrumlaw01.NatBits', WHERE WHAT IT READS IS OF BULK AT MOST 1048576: true; the input reads as it did. -/
def natBitsUptoRow : OpenClaim := { program := "ytflgmookgadodaa", sum := "c4340ab68a416ef0ab200a84e72710e8ae08b51dc1d19c7cce3228ef55df3999", func := "fulcrum/fulcrumlaw01.NatBits", spec := "natBits", apart := false, narrowed := true }
def NatBitsUptoSaid : Prop := natBitsUptoRow.holds Try.pinned (OpenSpec.upto natBitsSpec)

/-- 'fulcrumlaw01.NatShifts', WHERE WHAT IT READS IS OF BULK AT MOST 1048576: true; the input reads as it did. -/
def natShiftsUptoRow : OpenClaim := { program := "ytflgmookgadodaa", sum := "c4340ab68a416ef0ab200a84e72710e8ae08b51dc1d19c7cce3228ef55df3999", func := "fulcrum/fulcrumlaw01.NatShifts", spec := "natShifts", apart := false, narrowed := true }
def NatShiftsUptoSaid : Prop := natShiftsUptoRow.holds Try.pinned (OpenSpec.upto natShiftsSpec)

/-- 'fulcrumlaw01.NatTexts', WHERE WHAT IT READS IS OF BULK AT MOST 1048576: true; the input reads as it did. -/
def natTextsUptoRow : OpenClaim := { program := "ytflgmookgadodaa", sum := "c4340ab68a416ef0ab200a84e72710e8ae08b51dc1d19c7cce3228ef55df3999", func := "fulcrum/fulcrumlaw01.NatTexts", spec := "natTexts", named := ["math/bits.overflowError"], apart := false, narrowed := true }
def NatTextsUptoSaid : Prop := natTextsUptoRow.holds Try.pinned (OpenSpec.upto natTextsSpec)

/-- 'fulcrumlaw01.NatOrder', WHERE WHAT IT READS IS OF BULK AT MOST 1048576: true; the input reads as it did. -/
def natOrderUptoRow : OpenClaim := { program := "ytflgmookgadodaa", sum := "c4340ab68a416ef0ab200a84e72710e8ae08b51dc1d19c7cce3228ef55df3999", func := "fulcrum/fulcrumlaw01.NatOrder", spec := "natOrder", apart := false, narrowed := true }
def NatOrderUptoSaid : Prop := natOrderUptoRow.holds Try.pinned (OpenSpec.upto natOrderSpec)

/-- 'fulcrumlaw01.NatSums', WHERE WHAT IT READS IS OF BULK AT MOST 1048576: true; the input reads as it did. -/
def natSumsUptoRow : OpenClaim := { program := "ytflgmookgadodaa", sum := "c4340ab68a416ef0ab200a84e72710e8ae08b51dc1d19c7cce3228ef55df3999", func := "fulcrum/fulcrumlaw01.NatSums", spec := "natSums", apart := false, narrowed := true }
def NatSumsUptoSaid : Prop := natSumsUptoRow.holds Try.pinned (OpenSpec.upto natSumsSpec)

/-- 'fulcrumlaw01.NatRing', WHERE WHAT IT READS IS OF BULK AT MOST 1048576: true; the input reads as it did. -/
def natRingUptoRow : OpenClaim := { program := "ytflgmookgadodaa", sum := "c4340ab68a416ef0ab200a84e72710e8ae08b51dc1d19c7cce3228ef55df3999", func := "fulcrum/fulcrumlaw01.NatRing", spec := "natRing", apart := false, narrowed := true }
def NatRingUptoSaid : Prop := natRingUptoRow.holds Try.pinned (OpenSpec.upto natRingSpec)

/-- 'fulcrumlaw01.NatDivisors', WHERE WHAT IT READS IS OF BULK AT MOST 1048576: true; the input reads as it did. -/
def natDivisorsUptoRow : OpenClaim := { program := "ytflgmookgadodaa", sum := "c4340ab68a416ef0ab200a84e72710e8ae08b51dc1d19c7cce3228ef55df3999", func := "fulcrum/fulcrumlaw01.NatDivisors", spec := "natDivisors", named := ["math/bits.overflowError"], apart := false, narrowed := true }
def NatDivisorsUptoSaid : Prop := natDivisorsUptoRow.holds Try.pinned (OpenSpec.upto natDivisorsSpec)

/-- 'fulcrumlaw01.NatProducts', WHERE WHAT IT READS IS OF BULK AT MOST 1048576: true; the input reads as it did. -/
def natProductsUptoRow : OpenClaim := { program := "ytflgmookgadodaa", sum := "c4340ab68a416ef0ab200a84e72710e8ae08b51dc1d19c7cce3228ef55df3999", func := "fulcrum/fulcrumlaw01.NatProducts", spec := "natProducts", named := ["math/bits.overflowError"], apart := false, narrowed := true }
def NatProductsUptoSaid : Prop := natProductsUptoRow.holds Try.pinned (OpenSpec.upto natProductsSpec)

/-- 'fulcrumlaw01.NatGreatest', WHERE WHAT IT READS IS OF BULK AT MOST 1048576: true; the input reads as it did. -/
def natGreatestUptoRow : OpenClaim := { program := "ytflgmookgadodaa", sum := "c4340ab68a416ef0ab200a84e72710e8ae08b51dc1d19c7cce3228ef55df3999", func := "fulcrum/fulcrumlaw01.NatGreatest", spec := "natGreatest", named := ["math/bits.overflowError"], apart := false, narrowed := true }
def NatGreatestUptoSaid : Prop := natGreatestUptoRow.holds Try.pinned (OpenSpec.upto natGreatestSpec)

/-- 'fulcrumlaw01.NatDivision', WHERE WHAT IT READS IS OF BULK AT MOST 1048576: true; the input reads as it did. -/
def natDivisionUptoRow : OpenClaim := { program := "ytflgmookgadodaa", sum := "c4340ab68a416ef0ab200a84e72710e8ae08b51dc1d19c7cce3228ef55df3999", func := "fulcrum/fulcrumlaw01.NatDivision", spec := "natDivision", named := ["math/bits.overflowError"], apart := false, narrowed := true }
def NatDivisionUptoSaid : Prop := natDivisionUptoRow.holds Try.pinned (OpenSpec.upto natDivisionSpec)

/-- 'fulcrumlaw01.NatMoves', WHERE WHAT IT READS IS OF BULK AT MOST 1048576: true; the input reads as it did. -/
def natMovesUptoRow : OpenClaim := { program := "ytflgmookgadodaa", sum := "c4340ab68a416ef0ab200a84e72710e8ae08b51dc1d19c7cce3228ef55df3999", func := "fulcrum/fulcrumlaw01.NatMoves", spec := "natMoves", named := ["math/bits.overflowError"], apart := false, narrowed := true }
def NatMovesUptoSaid : Prop := natMovesUptoRow.holds Try.pinned (OpenSpec.upto natMovesSpec)

/-- 'fulcrumlaw01.NatPowers', WHERE WHAT IT READS IS OF BULK AT MOST 1048576: true; the input reads as it did. -/
def natPowersUptoRow : OpenClaim := { program := "ytflgmookgadodaa", sum := "c4340ab68a416ef0ab200a84e72710e8ae08b51dc1d19c7cce3228ef55df3999", func := "fulcrum/fulcrumlaw01.NatPowers", spec := "natPowers", named := ["math/bits.overflowError"], apart := false, narrowed := true }
def NatPowersUptoSaid : Prop := natPowersUptoRow.holds Try.pinned (OpenSpec.upto natPowersSpec)

/-- 'fulcrumlaw01.NatOwn', WHERE WHAT IT READS IS OF BULK AT MOST 1048576: true; the input reads as it did. -/
def natOwnUptoRow : OpenClaim := { program := "ytflgmookgadodaa", sum := "c4340ab68a416ef0ab200a84e72710e8ae08b51dc1d19c7cce3228ef55df3999", func := "fulcrum/fulcrumlaw01.NatOwn", spec := "natOwn", named := ["math/bits.overflowError"], apart := false, narrowed := true }
def NatOwnUptoSaid : Prop := natOwnUptoRow.holds Try.pinned (OpenSpec.upto natOwnSpec)

end Rows
end Go.Proofs.Ytflgmookgadodaa
