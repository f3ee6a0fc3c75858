/-
  NARROWER THAN 'FOR EVERY INPUT', by the rows' own cells (each row's printed sentence says how): WholeTexts: laid · WholeOneText: laid · WholeBack: laid.
  DERIVED. THE GIVEN ROWS OF THIS SEAT. 3 by the template 'for every input the law returns true; each argument reads behind the call as it read before'; 0 by the template 'total and deterministic' (their statements: YtjhbcpnliiegoaaDoorTotals.lean).
  GIVEN WITH THE SEED: the statements are not yours to turn. If you find one false, say at which input.
  Laid BY PROGRAM, IN A SANDBOX (cutbox-rows.mjs): the forced cells as the released guide's own fill.sh prints them over the translation 5368f33d8f2d4921… (all of the seat's roots in one cut). By AI agents, Wed Nov 11 2026. No macro, syntax, notation, axiom, sorry.
-/
import Derived.Test.YtjhbcpnliiegoaaDoorChecked
import GoSem.Claim
import GoSem.ClaimJoined
import GoSem.ClaimMapViews
import Derived.JoinedTies
import Derived.KernelRfl
namespace Go.Proofs.YtjhbcpnliiegoaaDoor
/- THE CELL 'sum', in the pinned program and in every row, IS THE sha256 OF THE DUMP (.gsa) THAT YtjhbcpnliiegoaaDoorProg.lean LOADS. Nothing in Lean hashes anything: it is a label: what it is worth is what the hold of that sum in a sandbox is worth. -/
noncomputable def Tryd.pinned : Pinned := { name := "ytjhbcpnliiegoaadoor", sum := "5368f33d8f2d4921baa2cb48aa55f5af1221c6a0a16dface32ec45389aaf4da4", checked := Tryd.checked }
namespace Rows
def none {H : Type} : Left H := { results := [], args := [] }

/- WHAT THE LISTED PACKAGE-LEVEL VARIABLES READ AS WHEN THE CALL BEGINS. Each datum BY PROGRAM (the guide's laid-datum.mjs) off the statement by which the dump's own 'gosem.cut.vars' lays the variable. In a bare row this is a premise. The card (YtjhbcpnliiegoaaDoorCards.lean) ties it to the program's text. -/
def laid_fulcrum_nat_values {H : Type} : DataW H := .agg [.lit (.int .u32 0), .lit (.int .u32 1), .lit (.int .u32 2), .lit (.int .u32 3), .lit (.int .u32 4), .lit (.int .u32 5), .lit (.int .u32 6), .lit (.int .u32 7), .lit (.int .u32 8), .lit (.int .u32 9), .lit (.int .u32 99), .lit (.int .u32 99), .lit (.int .u32 99), .lit (.int .u32 99), .lit (.int .u32 99), .lit (.int .u32 99), .lit (.int .u32 99), .lit (.int .u32 99), .lit (.int .u32 99), .lit (.int .u32 99), .lit (.int .u32 99), .lit (.int .u32 99), .lit (.int .u32 99), .lit (.int .u32 99), .lit (.int .u32 99), .lit (.int .u32 99), .lit (.int .u32 99), .lit (.int .u32 99), .lit (.int .u32 99), .lit (.int .u32 99), .lit (.int .u32 99), .lit (.int .u32 99), .lit (.int .u32 99), .lit (.int .u32 99), .lit (.int .u32 99), .lit (.int .u32 99), .lit (.int .u32 99), .lit (.int .u32 99), .lit (.int .u32 99), .lit (.int .u32 99), .lit (.int .u32 99), .lit (.int .u32 99), .lit (.int .u32 99), .lit (.int .u32 99), .lit (.int .u32 99), .lit (.int .u32 99), .lit (.int .u32 99), .lit (.int .u32 99), .lit (.int .u32 99), .lit (.int .u32 10), .lit (.int .u32 11), .lit (.int .u32 12), .lit (.int .u32 13), .lit (.int .u32 14), .lit (.int .u32 15)]

/-- 'fulcrumlaw02.WholeTexts': WHATEVER THE INPUT: true; the input reads as it did. -/
def wholeTextsSpec : ChangeSpec := { name := "wholeTexts", fn := fun _ => fun
  | [d1, d2] => { results := [.lit (.bool true)], args := [d1, d2] }
  | _ => none }
def wholeTextsRow : OpenClaim := { program := "ytjhbcpnliiegoaadoor", sum := "5368f33d8f2d4921baa2cb48aa55f5af1221c6a0a16dface32ec45389aaf4da4", func := "fulcrum/fulcrumlaw02.WholeTexts", spec := "wholeTexts", named := ["fulcrum/nat.values", "math/bits.overflowError"], apart := false, laid := [("fulcrum/nat.values", laid_fulcrum_nat_values)] }
def WholeTextsSaid : Prop := wholeTextsRow.holds Tryd.pinned (OpenSpec.ofChange wholeTextsSpec)

/-- ITS FALSE NEIGHBOUR: 'it returns false'. Refute it at one input. -/
def wholeTextsWrong : ChangeSpec := { name := "wholeTexts", fn := fun _ => fun
  | [d1, d2] => { results := [.lit (.bool false)], args := [d1, d2] }
  | _ => none }
def WholeTextsWrongFalsely : Prop := wholeTextsRow.holds Tryd.pinned (OpenSpec.ofChange wholeTextsWrong)

/-- 'fulcrumlaw02.WholeOneText': WHATEVER THE INPUT: true; the input reads as it did. -/
def wholeOneTextSpec : ChangeSpec := { name := "wholeOneText", fn := fun _ => fun
  | [d] => { results := [.lit (.bool true)], args := [d] }
  | _ => none }
def wholeOneTextRow : OpenClaim := { program := "ytjhbcpnliiegoaadoor", sum := "5368f33d8f2d4921baa2cb48aa55f5af1221c6a0a16dface32ec45389aaf4da4", func := "fulcrum/fulcrumlaw02.WholeOneText", spec := "wholeOneText", named := ["fulcrum/nat.values", "math/bits.overflowError"], apart := false, laid := [("fulcrum/nat.values", laid_fulcrum_nat_values)] }
def WholeOneTextSaid : Prop := wholeOneTextRow.holds Tryd.pinned (OpenSpec.ofChange wholeOneTextSpec)

/-- ITS FALSE NEIGHBOUR: 'it returns false'. Refute it at one input. -/
def wholeOneTextWrong : ChangeSpec := { name := "wholeOneText", fn := fun _ => fun
  | [d] => { results := [.lit (.bool false)], args := [d] }
  | _ => none }
def WholeOneTextWrongFalsely : Prop := wholeOneTextRow.holds Tryd.pinned (OpenSpec.ofChange wholeOneTextWrong)

/-- 'fulcrumlaw02.WholeBack': WHATEVER THE INPUT: true; the input reads as it did. -/
def wholeBackSpec : ChangeSpec := { name := "wholeBack", fn := fun _ => fun
  | [d1, d2] => { results := [.lit (.bool true)], args := [d1, d2] }
  | _ => none }
def wholeBackRow : OpenClaim := { program := "ytjhbcpnliiegoaadoor", sum := "5368f33d8f2d4921baa2cb48aa55f5af1221c6a0a16dface32ec45389aaf4da4", func := "fulcrum/fulcrumlaw02.WholeBack", spec := "wholeBack", named := ["math/bits.overflowError", "fulcrum/nat.values"], apart := false, laid := [("fulcrum/nat.values", laid_fulcrum_nat_values)] }
def WholeBackSaid : Prop := wholeBackRow.holds Tryd.pinned (OpenSpec.ofChange wholeBackSpec)

/-- ITS FALSE NEIGHBOUR: 'it returns false'. Refute it at one input. -/
def wholeBackWrong : ChangeSpec := { name := "wholeBack", fn := fun _ => fun
  | [d1, d2] => { results := [.lit (.bool false)], args := [d1, d2] }
  | _ => none }
def WholeBackWrongFalsely : Prop := wholeBackRow.holds Tryd.pinned (OpenSpec.ofChange wholeBackWrong)

/- THE SECOND FORM. 'bulk': how many values and letters a reading holds, each counted each time it is reached (what is shared counts as often as it is met; a slice's spare places count too). A statement '..UptoSaid' is the law's where the arguments, and the package variables that the reading takes, are together of bulk at most 1048576: NARROWER than '..Said'. Prove '..Said' where nothing that the law and all that it calls make is longer than what came in: it says more and counts as full. Else prove '..UptoSaid'. A law counts once. -/
mutual
def uptoBulk {H : Type} : DataW H → Nat
  | .lit (.string bytes) => bytes.length + 1
  | .lit _ => 1
  | .nil => 1
  | .ptr d => uptoBulk d + 1
  | .slice elems spare => uptoBulkAll elems + uptoBulkAll spare + 1
  | .agg parts => uptoBulkAll parts + 1
  | .iface _ d => uptoBulk d + 1
  | .map entries => uptoBulkEntries entries + 1
  | .held _ => 1
def uptoBulkAll {H : Type} : List (DataW H) → Nat
  | [] => 0
  | d :: r => uptoBulk d + uptoBulkAll r
def uptoBulkEntries {H : Type} : List (Lit × DataW H) → Nat
  | [] => 0
  | x :: r => uptoBulkEntry x + uptoBulkEntries r
def uptoBulkEntry {H : Type} : Lit × DataW H → Nat
  | (.string bytes, d) => bytes.length + uptoBulk d + 1
  | (_, d) => uptoBulk d + 1
 end
def uptoSmall : (H : Type) → List (DataW H) → Bool := fun _ ds => decide (uptoBulkAll ds ≤ 1048576)
def OpenSpec.upto (s : _root_.Go.ChangeSpec) : _root_.Go.OpenSpec := { _root_.Go.OpenSpec.ofChange s with cond := some uptoSmall }

/-- 'fulcrumlaw02.WholeTexts', WHERE WHAT IT READS IS OF BULK AT MOST 1048576: true; the input reads as it did. -/
def wholeTextsUptoRow : OpenClaim := { program := "ytjhbcpnliiegoaadoor", sum := "5368f33d8f2d4921baa2cb48aa55f5af1221c6a0a16dface32ec45389aaf4da4", func := "fulcrum/fulcrumlaw02.WholeTexts", spec := "wholeTexts", named := ["fulcrum/nat.values", "math/bits.overflowError"], apart := false, laid := [("fulcrum/nat.values", laid_fulcrum_nat_values)], narrowed := true }
def WholeTextsUptoSaid : Prop := wholeTextsUptoRow.holds Tryd.pinned (OpenSpec.upto wholeTextsSpec)

/-- 'fulcrumlaw02.WholeOneText', WHERE WHAT IT READS IS OF BULK AT MOST 1048576: true; the input reads as it did. -/
def wholeOneTextUptoRow : OpenClaim := { program := "ytjhbcpnliiegoaadoor", sum := "5368f33d8f2d4921baa2cb48aa55f5af1221c6a0a16dface32ec45389aaf4da4", func := "fulcrum/fulcrumlaw02.WholeOneText", spec := "wholeOneText", named := ["fulcrum/nat.values", "math/bits.overflowError"], apart := false, laid := [("fulcrum/nat.values", laid_fulcrum_nat_values)], narrowed := true }
def WholeOneTextUptoSaid : Prop := wholeOneTextUptoRow.holds Tryd.pinned (OpenSpec.upto wholeOneTextSpec)

/-- 'fulcrumlaw02.WholeBack', WHERE WHAT IT READS IS OF BULK AT MOST 1048576: true; the input reads as it did. -/
def wholeBackUptoRow : OpenClaim := { program := "ytjhbcpnliiegoaadoor", sum := "5368f33d8f2d4921baa2cb48aa55f5af1221c6a0a16dface32ec45389aaf4da4", func := "fulcrum/fulcrumlaw02.WholeBack", spec := "wholeBack", named := ["math/bits.overflowError", "fulcrum/nat.values"], apart := false, laid := [("fulcrum/nat.values", laid_fulcrum_nat_values)], narrowed := true }
def WholeBackUptoSaid : Prop := wholeBackUptoRow.holds Tryd.pinned (OpenSpec.upto wholeBackSpec)

end Rows
end Go.Proofs.YtjhbcpnliiegoaaDoor
