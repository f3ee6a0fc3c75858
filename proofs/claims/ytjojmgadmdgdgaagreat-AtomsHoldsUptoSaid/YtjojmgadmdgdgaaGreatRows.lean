/-
  No cell of these rows narrows 'for every input' (looked for: loops, veiled, ifaces, maps, wideKeys, modest, calm, conditions, laid).
  DERIVED. THE GIVEN ROWS OF THIS SEAT. 11 by the template 'for every input the law returns true; each argument reads behind the call as it read before'; 0 by the template 'total and deterministic' (their statements: YtjojmgadmdgdgaaGreatTotals.lean).
  GIVEN WITH THE SEED: the statements are not yours to turn. If you find one false, say at which input.
  Laid BY PROGRAM, IN A SANDBOX (cutbox-rows.mjs): the forced cells as the released guide's own fill.sh prints them over the translation 20ea0effff85fe51… (all of the seat's roots in one cut). By AI agents, Wed Nov 11 2026. No macro, syntax, notation, axiom, sorry.
-/
import Derived.Test.YtjojmgadmdgdgaaGreatChecked
import GoSem.Claim
import GoSem.ClaimJoined
import GoSem.ClaimMapViews
import Derived.JoinedTies
import Derived.KernelRfl
namespace Go.Proofs.YtjojmgadmdgdgaaGreat
/- THE CELL 'sum', in the pinned program and in every row, IS THE sha256 OF THE DUMP (.gsa) THAT YtjojmgadmdgdgaaGreatProg.lean LOADS. Nothing in Lean hashes anything: it is a label: what it is worth is what the hold of that sum in a sandbox is worth. -/
noncomputable def Tryz.pinned : Pinned := { name := "ytjojmgadmdgdgaagreat", sum := "20ea0effff85fe51047ae6245ec326b70631dfedd83c46e3033cb149853bcabc", checked := Tryz.checked }
namespace Rows
def none {H : Type} : Left H := { results := [], args := [] }

/-- 'fulcrumlaw17.AtomsHolds': WHATEVER THE INPUT: true; the input reads as it did. -/
def atomsHoldsSpec : ChangeSpec := { name := "atomsHolds", fn := fun _ => fun
  | [d1, d2, d3] => { results := [.lit (.bool true)], args := [d1, d2, d3] }
  | _ => none }
def atomsHoldsRow : OpenClaim := { program := "ytjojmgadmdgdgaagreat", sum := "20ea0effff85fe51047ae6245ec326b70631dfedd83c46e3033cb149853bcabc", func := "fulcrum/fulcrumlaw17.AtomsHolds", spec := "atomsHolds", unfollowed := true, recurses := true, named := ["math/bits.overflowError"], apart := false }
def AtomsHoldsSaid : Prop := atomsHoldsRow.holds Tryz.pinned (OpenSpec.ofChange atomsHoldsSpec)

/-- ITS FALSE NEIGHBOUR: 'it returns false'. Refute it at one input. -/
def atomsHoldsWrong : ChangeSpec := { name := "atomsHolds", fn := fun _ => fun
  | [d1, d2, d3] => { results := [.lit (.bool false)], args := [d1, d2, d3] }
  | _ => none }
def AtomsHoldsWrongFalsely : Prop := atomsHoldsRow.holds Tryz.pinned (OpenSpec.ofChange atomsHoldsWrong)

/-- 'fulcrumlaw17.AtomsMeans': WHATEVER THE INPUT: true; the input reads as it did. -/
def atomsMeansSpec : ChangeSpec := { name := "atomsMeans", fn := fun _ => fun
  | [d1, d2] => { results := [.lit (.bool true)], args := [d1, d2] }
  | _ => none }
def atomsMeansRow : OpenClaim := { program := "ytjojmgadmdgdgaagreat", sum := "20ea0effff85fe51047ae6245ec326b70631dfedd83c46e3033cb149853bcabc", func := "fulcrum/fulcrumlaw17.AtomsMeans", spec := "atomsMeans", unfollowed := true, recurses := true, named := ["math/bits.overflowError"], apart := false }
def AtomsMeansSaid : Prop := atomsMeansRow.holds Tryz.pinned (OpenSpec.ofChange atomsMeansSpec)

/-- ITS FALSE NEIGHBOUR: 'it returns false'. Refute it at one input. -/
def atomsMeansWrong : ChangeSpec := { name := "atomsMeans", fn := fun _ => fun
  | [d1, d2] => { results := [.lit (.bool false)], args := [d1, d2] }
  | _ => none }
def AtomsMeansWrongFalsely : Prop := atomsMeansRow.holds Tryz.pinned (OpenSpec.ofChange atomsMeansWrong)

/-- 'fulcrumlaw17.AtomsBelows': WHATEVER THE INPUT: true; the input reads as it did. -/
def atomsBelowsSpec : ChangeSpec := { name := "atomsBelows", fn := fun _ => fun
  | [d1, d2, d3] => { results := [.lit (.bool true)], args := [d1, d2, d3] }
  | _ => none }
def atomsBelowsRow : OpenClaim := { program := "ytjojmgadmdgdgaagreat", sum := "20ea0effff85fe51047ae6245ec326b70631dfedd83c46e3033cb149853bcabc", func := "fulcrum/fulcrumlaw17.AtomsBelows", spec := "atomsBelows", unfollowed := true, recurses := true, named := ["math/bits.overflowError"], apart := false }
def AtomsBelowsSaid : Prop := atomsBelowsRow.holds Tryz.pinned (OpenSpec.ofChange atomsBelowsSpec)

/-- ITS FALSE NEIGHBOUR: 'it returns false'. Refute it at one input. -/
def atomsBelowsWrong : ChangeSpec := { name := "atomsBelows", fn := fun _ => fun
  | [d1, d2, d3] => { results := [.lit (.bool false)], args := [d1, d2, d3] }
  | _ => none }
def AtomsBelowsWrongFalsely : Prop := atomsBelowsRow.holds Tryz.pinned (OpenSpec.ofChange atomsBelowsWrong)

/-- 'fulcrumlaw17.AtomsOne': WHATEVER THE INPUT: true; the input reads as it did. -/
def atomsOneSpec : ChangeSpec := { name := "atomsOne", fn := fun _ => fun
  | [d1, d2, d3] => { results := [.lit (.bool true)], args := [d1, d2, d3] }
  | _ => none }
def atomsOneRow : OpenClaim := { program := "ytjojmgadmdgdgaagreat", sum := "20ea0effff85fe51047ae6245ec326b70631dfedd83c46e3033cb149853bcabc", func := "fulcrum/fulcrumlaw17.AtomsOne", spec := "atomsOne", unfollowed := true, recurses := true, named := ["math/bits.overflowError"], apart := false }
def AtomsOneSaid : Prop := atomsOneRow.holds Tryz.pinned (OpenSpec.ofChange atomsOneSpec)

/-- ITS FALSE NEIGHBOUR: 'it returns false'. Refute it at one input. -/
def atomsOneWrong : ChangeSpec := { name := "atomsOne", fn := fun _ => fun
  | [d1, d2, d3] => { results := [.lit (.bool false)], args := [d1, d2, d3] }
  | _ => none }
def AtomsOneWrongFalsely : Prop := atomsOneRow.holds Tryz.pinned (OpenSpec.ofChange atomsOneWrong)

/-- 'fulcrumlaw17.AtomsOwn': WHATEVER THE INPUT: true; the input reads as it did. -/
def atomsOwnSpec : ChangeSpec := { name := "atomsOwn", fn := fun _ => fun
  | [d1, d2, d3] => { results := [.lit (.bool true)], args := [d1, d2, d3] }
  | _ => none }
def atomsOwnRow : OpenClaim := { program := "ytjojmgadmdgdgaagreat", sum := "20ea0effff85fe51047ae6245ec326b70631dfedd83c46e3033cb149853bcabc", func := "fulcrum/fulcrumlaw17.AtomsOwn", spec := "atomsOwn", unfollowed := true, recurses := true, named := ["math/bits.overflowError"], apart := false }
def AtomsOwnSaid : Prop := atomsOwnRow.holds Tryz.pinned (OpenSpec.ofChange atomsOwnSpec)

/-- ITS FALSE NEIGHBOUR: 'it returns false'. Refute it at one input. -/
def atomsOwnWrong : ChangeSpec := { name := "atomsOwn", fn := fun _ => fun
  | [d1, d2, d3] => { results := [.lit (.bool false)], args := [d1, d2, d3] }
  | _ => none }
def AtomsOwnWrongFalsely : Prop := atomsOwnRow.holds Tryz.pinned (OpenSpec.ofChange atomsOwnWrong)

/-- 'fulcrumlaw17.AtomsChecks': WHATEVER THE INPUT: true; the input reads as it did. -/
def atomsChecksSpec : ChangeSpec := { name := "atomsChecks", fn := fun _ => fun
  | [d] => { results := [.lit (.bool true)], args := [d] }
  | _ => none }
def atomsChecksRow : OpenClaim := { program := "ytjojmgadmdgdgaagreat", sum := "20ea0effff85fe51047ae6245ec326b70631dfedd83c46e3033cb149853bcabc", func := "fulcrum/fulcrumlaw17.AtomsChecks", spec := "atomsChecks", unfollowed := true, recurses := true, named := ["math/bits.overflowError"], apart := false }
def AtomsChecksSaid : Prop := atomsChecksRow.holds Tryz.pinned (OpenSpec.ofChange atomsChecksSpec)

/-- ITS FALSE NEIGHBOUR: 'it returns false'. Refute it at one input. -/
def atomsChecksWrong : ChangeSpec := { name := "atomsChecks", fn := fun _ => fun
  | [d] => { results := [.lit (.bool false)], args := [d] }
  | _ => none }
def AtomsChecksWrongFalsely : Prop := atomsChecksRow.holds Tryz.pinned (OpenSpec.ofChange atomsChecksWrong)

/-- 'fulcrumlaw17.AtomsNames': WHATEVER THE INPUT: true; the input reads as it did. -/
def atomsNamesSpec : ChangeSpec := { name := "atomsNames", fn := fun _ => fun
  | [d1, d2] => { results := [.lit (.bool true)], args := [d1, d2] }
  | _ => none }
def atomsNamesRow : OpenClaim := { program := "ytjojmgadmdgdgaagreat", sum := "20ea0effff85fe51047ae6245ec326b70631dfedd83c46e3033cb149853bcabc", func := "fulcrum/fulcrumlaw17.AtomsNames", spec := "atomsNames", unfollowed := true, recurses := true, named := ["math/bits.overflowError"], apart := false }
def AtomsNamesSaid : Prop := atomsNamesRow.holds Tryz.pinned (OpenSpec.ofChange atomsNamesSpec)

/-- ITS FALSE NEIGHBOUR: 'it returns false'. Refute it at one input. -/
def atomsNamesWrong : ChangeSpec := { name := "atomsNames", fn := fun _ => fun
  | [d1, d2] => { results := [.lit (.bool false)], args := [d1, d2] }
  | _ => none }
def AtomsNamesWrongFalsely : Prop := atomsNamesRow.holds Tryz.pinned (OpenSpec.ofChange atomsNamesWrong)

/-- 'fulcrumlaw17.AtomsPlays': WHATEVER THE INPUT: true; the input reads as it did. -/
def atomsPlaysSpec : ChangeSpec := { name := "atomsPlays", fn := fun _ => fun
  | [d] => { results := [.lit (.bool true)], args := [d] }
  | _ => none }
def atomsPlaysRow : OpenClaim := { program := "ytjojmgadmdgdgaagreat", sum := "20ea0effff85fe51047ae6245ec326b70631dfedd83c46e3033cb149853bcabc", func := "fulcrum/fulcrumlaw17.AtomsPlays", spec := "atomsPlays", unfollowed := true, recurses := true, named := ["math/bits.overflowError"], apart := false }
def AtomsPlaysSaid : Prop := atomsPlaysRow.holds Tryz.pinned (OpenSpec.ofChange atomsPlaysSpec)

/-- ITS FALSE NEIGHBOUR: 'it returns false'. Refute it at one input. -/
def atomsPlaysWrong : ChangeSpec := { name := "atomsPlays", fn := fun _ => fun
  | [d] => { results := [.lit (.bool false)], args := [d] }
  | _ => none }
def AtomsPlaysWrongFalsely : Prop := atomsPlaysRow.holds Tryz.pinned (OpenSpec.ofChange atomsPlaysWrong)

/-- 'fulcrumlaw17.AtomsImplies': WHATEVER THE INPUT: true; the input reads as it did. -/
def atomsImpliesSpec : ChangeSpec := { name := "atomsImplies", fn := fun _ => fun
  | [d1, d2, d3] => { results := [.lit (.bool true)], args := [d1, d2, d3] }
  | _ => none }
def atomsImpliesRow : OpenClaim := { program := "ytjojmgadmdgdgaagreat", sum := "20ea0effff85fe51047ae6245ec326b70631dfedd83c46e3033cb149853bcabc", func := "fulcrum/fulcrumlaw17.AtomsImplies", spec := "atomsImplies", unfollowed := true, recurses := true, named := ["math/bits.overflowError"], apart := false }
def AtomsImpliesSaid : Prop := atomsImpliesRow.holds Tryz.pinned (OpenSpec.ofChange atomsImpliesSpec)

/-- ITS FALSE NEIGHBOUR: 'it returns false'. Refute it at one input. -/
def atomsImpliesWrong : ChangeSpec := { name := "atomsImplies", fn := fun _ => fun
  | [d1, d2, d3] => { results := [.lit (.bool false)], args := [d1, d2, d3] }
  | _ => none }
def AtomsImpliesWrongFalsely : Prop := atomsImpliesRow.holds Tryz.pinned (OpenSpec.ofChange atomsImpliesWrong)

/-- 'fulcrumlaw17.AtomsFollows': WHATEVER THE INPUT: true; the input reads as it did. -/
def atomsFollowsSpec : ChangeSpec := { name := "atomsFollows", fn := fun _ => fun
  | [d] => { results := [.lit (.bool true)], args := [d] }
  | _ => none }
def atomsFollowsRow : OpenClaim := { program := "ytjojmgadmdgdgaagreat", sum := "20ea0effff85fe51047ae6245ec326b70631dfedd83c46e3033cb149853bcabc", func := "fulcrum/fulcrumlaw17.AtomsFollows", spec := "atomsFollows", unfollowed := true, recurses := true, named := ["math/bits.overflowError"], apart := false }
def AtomsFollowsSaid : Prop := atomsFollowsRow.holds Tryz.pinned (OpenSpec.ofChange atomsFollowsSpec)

/-- ITS FALSE NEIGHBOUR: 'it returns false'. Refute it at one input. -/
def atomsFollowsWrong : ChangeSpec := { name := "atomsFollows", fn := fun _ => fun
  | [d] => { results := [.lit (.bool false)], args := [d] }
  | _ => none }
def AtomsFollowsWrongFalsely : Prop := atomsFollowsRow.holds Tryz.pinned (OpenSpec.ofChange atomsFollowsWrong)

/-- 'fulcrumlaw17.AtomsSays': WHATEVER THE INPUT: true; the input reads as it did. -/
def atomsSaysSpec : ChangeSpec := { name := "atomsSays", fn := fun _ => fun
  | [d1, d2] => { results := [.lit (.bool true)], args := [d1, d2] }
  | _ => none }
def atomsSaysRow : OpenClaim := { program := "ytjojmgadmdgdgaagreat", sum := "20ea0effff85fe51047ae6245ec326b70631dfedd83c46e3033cb149853bcabc", func := "fulcrum/fulcrumlaw17.AtomsSays", spec := "atomsSays", unfollowed := true, recurses := true, named := ["math/bits.overflowError"], apart := false }
def AtomsSaysSaid : Prop := atomsSaysRow.holds Tryz.pinned (OpenSpec.ofChange atomsSaysSpec)

/-- ITS FALSE NEIGHBOUR: 'it returns false'. Refute it at one input. -/
def atomsSaysWrong : ChangeSpec := { name := "atomsSays", fn := fun _ => fun
  | [d1, d2] => { results := [.lit (.bool false)], args := [d1, d2] }
  | _ => none }
def AtomsSaysWrongFalsely : Prop := atomsSaysRow.holds Tryz.pinned (OpenSpec.ofChange atomsSaysWrong)

/- THE SECOND FORM. 'bulk': how many values and letters a reading holds, each counted each time it is reached (what is shared counts as often as it is met; a slice's spare places count too). A statement '..UptoSaid' is the law's where the arguments, and the package variables that the reading takes, are together of bulk at most 1048576: NARROWER than '..Said'. Prove '..Said' where nothing that the law and all that it calls make is longer than what came in: it says more and counts as full. Else prove '..UptoSaid'. A law counts once. -/
mutual
def uptoBulk {H : Type} : DataW H → Nat
  | .lit (.string bytes) => bytes.length + 1
  | .lit _ => 1
  | .nil => 1
  | .ptr d => uptoBulk d + 1
  | .slice elems spare => uptoBulkAll elems + uptoBulkAll spare + 1
  | .agg parts => uptoBulkAll parts + 1
  | .iface _ d => uptoBulk d + 1
  | .map entries => uptoBulkEntries entries + 1
  | .held _ => 1
def uptoBulkAll {H : Type} : List (DataW H) → Nat
  | [] => 0
  | d :: r => uptoBulk d + uptoBulkAll r
def uptoBulkEntries {H : Type} : List (Lit × DataW H) → Nat
  | [] => 0
  | x :: r => uptoBulkEntry x + uptoBulkEntries r
def uptoBulkEntry {H : Type} : Lit × DataW H → Nat
  | (.string bytes, d) => bytes.length + uptoBulk d + 1
  | (_, d) => uptoBulk d + 1
 end
def uptoSmall : (H : Type) → List (DataW H) → Bool := fun _ ds => decide (uptoBulkAll ds ≤ 1048576)
def OpenSpec.upto (s : _root_.Go.ChangeSpec) : _root_.Go.OpenSpec := { _root_.Go.OpenSpec.ofChange s with cond := some uptoSmall }

/-- 'fulcrumlaw17.AtomsHolds', WHERE WHAT IT READS IS OF BULK AT MOST 1048576: true; the input reads as it did. -/
def atomsHoldsUptoRow : OpenClaim := { program := "ytjojmgadmdgdgaagreat", sum := "20ea0effff85fe51047ae6245ec326b70631dfedd83c46e3033cb149853bcabc", func := "fulcrum/fulcrumlaw17.AtomsHolds", spec := "atomsHolds", unfollowed := true, recurses := true, named := ["math/bits.overflowError"], apart := false, narrowed := true }
def AtomsHoldsUptoSaid : Prop := atomsHoldsUptoRow.holds Tryz.pinned (OpenSpec.upto atomsHoldsSpec)

/-- 'fulcrumlaw17.AtomsMeans', WHERE WHAT IT READS IS OF BULK AT MOST 1048576: true; the input reads as it did. -/
def atomsMeansUptoRow : OpenClaim := { program := "ytjojmgadmdgdgaagreat", sum := "20ea0effff85fe51047ae6245ec326b70631dfedd83c46e3033cb149853bcabc", func := "fulcrum/fulcrumlaw17.AtomsMeans", spec := "atomsMeans", unfollowed := true, recurses := true, named := ["math/bits.overflowError"], apart := false, narrowed := true }
def AtomsMeansUptoSaid : Prop := atomsMeansUptoRow.holds Tryz.pinned (OpenSpec.upto atomsMeansSpec)

/-- 'fulcrumlaw17.AtomsBelows', WHERE WHAT IT READS IS OF BULK AT MOST 1048576: true; the input reads as it did. -/
def atomsBelowsUptoRow : OpenClaim := { program := "ytjojmgadmdgdgaagreat", sum := "20ea0effff85fe51047ae6245ec326b70631dfedd83c46e3033cb149853bcabc", func := "fulcrum/fulcrumlaw17.AtomsBelows", spec := "atomsBelows", unfollowed := true, recurses := true, named := ["math/bits.overflowError"], apart := false, narrowed := true }
def AtomsBelowsUptoSaid : Prop := atomsBelowsUptoRow.holds Tryz.pinned (OpenSpec.upto atomsBelowsSpec)

/-- 'fulcrumlaw17.AtomsOne', WHERE WHAT IT READS IS OF BULK AT MOST 1048576: true; the input reads as it did. -/
def atomsOneUptoRow : OpenClaim := { program := "ytjojmgadmdgdgaagreat", sum := "20ea0effff85fe51047ae6245ec326b70631dfedd83c46e3033cb149853bcabc", func := "fulcrum/fulcrumlaw17.AtomsOne", spec := "atomsOne", unfollowed := true, recurses := true, named := ["math/bits.overflowError"], apart := false, narrowed := true }
def AtomsOneUptoSaid : Prop := atomsOneUptoRow.holds Tryz.pinned (OpenSpec.upto atomsOneSpec)

/-- 'fulcrumlaw17.AtomsOwn', WHERE WHAT IT READS IS OF BULK AT MOST 1048576: true; the input reads as it did. -/
def atomsOwnUptoRow : OpenClaim := { program := "ytjojmgadmdgdgaagreat", sum := "20ea0effff85fe51047ae6245ec326b70631dfedd83c46e3033cb149853bcabc", func := "fulcrum/fulcrumlaw17.AtomsOwn", spec := "atomsOwn", unfollowed := true, recurses := true, named := ["math/bits.overflowError"], apart := false, narrowed := true }
def AtomsOwnUptoSaid : Prop := atomsOwnUptoRow.holds Tryz.pinned (OpenSpec.upto atomsOwnSpec)

/-- 'fulcrumlaw17.AtomsChecks', WHERE WHAT IT READS IS OF BULK AT MOST 1048576: true; the input reads as it did. -/
def atomsChecksUptoRow : OpenClaim := { program := "ytjojmgadmdgdgaagreat", sum := "20ea0effff85fe51047ae6245ec326b70631dfedd83c46e3033cb149853bcabc", func := "fulcrum/fulcrumlaw17.AtomsChecks", spec := "atomsChecks", unfollowed := true, recurses := true, named := ["math/bits.overflowError"], apart := false, narrowed := true }
def AtomsChecksUptoSaid : Prop := atomsChecksUptoRow.holds Tryz.pinned (OpenSpec.upto atomsChecksSpec)

/-- 'fulcrumlaw17.AtomsNames', WHERE WHAT IT READS IS OF BULK AT MOST 1048576: true; the input reads as it did. -/
def atomsNamesUptoRow : OpenClaim := { program := "ytjojmgadmdgdgaagreat", sum := "20ea0effff85fe51047ae6245ec326b70631dfedd83c46e3033cb149853bcabc", func := "fulcrum/fulcrumlaw17.AtomsNames", spec := "atomsNames", unfollowed := true, recurses := true, named := ["math/bits.overflowError"], apart := false, narrowed := true }
def AtomsNamesUptoSaid : Prop := atomsNamesUptoRow.holds Tryz.pinned (OpenSpec.upto atomsNamesSpec)

/-- 'fulcrumlaw17.AtomsPlays', WHERE WHAT IT READS IS OF BULK AT MOST 1048576: true; the input reads as it did. -/
def atomsPlaysUptoRow : OpenClaim := { program := "ytjojmgadmdgdgaagreat", sum := "20ea0effff85fe51047ae6245ec326b70631dfedd83c46e3033cb149853bcabc", func := "fulcrum/fulcrumlaw17.AtomsPlays", spec := "atomsPlays", unfollowed := true, recurses := true, named := ["math/bits.overflowError"], apart := false, narrowed := true }
def AtomsPlaysUptoSaid : Prop := atomsPlaysUptoRow.holds Tryz.pinned (OpenSpec.upto atomsPlaysSpec)

/-- 'fulcrumlaw17.AtomsImplies', WHERE WHAT IT READS IS OF BULK AT MOST 1048576: true; the input reads as it did. -/
def atomsImpliesUptoRow : OpenClaim := { program := "ytjojmgadmdgdgaagreat", sum := "20ea0effff85fe51047ae6245ec326b70631dfedd83c46e3033cb149853bcabc", func := "fulcrum/fulcrumlaw17.AtomsImplies", spec := "atomsImplies", unfollowed := true, recurses := true, named := ["math/bits.overflowError"], apart := false, narrowed := true }
def AtomsImpliesUptoSaid : Prop := atomsImpliesUptoRow.holds Tryz.pinned (OpenSpec.upto atomsImpliesSpec)

/-- 'fulcrumlaw17.AtomsFollows', WHERE WHAT IT READS IS OF BULK AT MOST 1048576: true; the input reads as it did. -/
def atomsFollowsUptoRow : OpenClaim := { program := "ytjojmgadmdgdgaagreat", sum := "20ea0effff85fe51047ae6245ec326b70631dfedd83c46e3033cb149853bcabc", func := "fulcrum/fulcrumlaw17.AtomsFollows", spec := "atomsFollows", unfollowed := true, recurses := true, named := ["math/bits.overflowError"], apart := false, narrowed := true }
def AtomsFollowsUptoSaid : Prop := atomsFollowsUptoRow.holds Tryz.pinned (OpenSpec.upto atomsFollowsSpec)

/-- 'fulcrumlaw17.AtomsSays', WHERE WHAT IT READS IS OF BULK AT MOST 1048576: true; the input reads as it did. -/
def atomsSaysUptoRow : OpenClaim := { program := "ytjojmgadmdgdgaagreat", sum := "20ea0effff85fe51047ae6245ec326b70631dfedd83c46e3033cb149853bcabc", func := "fulcrum/fulcrumlaw17.AtomsSays", spec := "atomsSays", unfollowed := true, recurses := true, named := ["math/bits.overflowError"], apart := false, narrowed := true }
def AtomsSaysUptoSaid : Prop := atomsSaysUptoRow.holds Tryz.pinned (OpenSpec.upto atomsSaysSpec)

end Rows
end Go.Proofs.YtjojmgadmdgdgaaGreat
