/- The law NatReads: Parse of every text in every base. -/
import Derived.Test.YtflgmookgadodaaDoorNB
import Derived.Test.YtflgmookgadodaaDoorNC
namespace Go.Fx.Tryd
open Go Go.Fx Go.Fx.Num
set_option linter.unusedVariables false
set_option linter.unusedSimpArgs false

section
variable {α β : Type}
theorem st {x : Option α} {a : α} {f : α → Option β} {r : Option β} (h : x = some a) (g : f a = r) : x.bind f = r := by rw [h]; exact g
theorem yes {b : Bool} {x y r : Option β} (h : b = true) (g : x = r) : (bif b then x else y) = r := by rw [h]; exact g
theorem no {b : Bool} {x y r : Option β} (h : b = false) (g : y = r) : (bif b then x else y) = r := by rw [h]; exact g
end
theorem rsi64_of {i : Int} (h : (Lit.int .i64 i).wf = true) : -9223372036854775808 ≤ i ∧ i ≤ 9223372036854775807 := by
  simp [Lit.wf, IntKind.min, IntKind.max, IntKind.bits, IntKind.signed] at h
  omega
theorem parseI_len {s : ByteArray} (hs : s.size ≤ 140737488355328) (b : Int) : (parseI s b).1.length ≤ 70368744177664 := by
  unfold parseI
  split
  · simp
  · split
    · simp
    · split
      · simp
      · rename_i h1 h2 h3
        have hj : ∀ j, j < s.size → dval (btI s (j : Int)) < b := fun j hj => by
          have : ¬ b ≤ dval (btI s (j : Int)) := fun h => h3 ⟨j, hj, h⟩
          omega
        exact Nat.le_trans (pv_nm (by omega) hj).len (by omega)
theorem parse_ff : parseI ⟨#[102, 102]⟩ 16 = ([255], 0, ()) := by
  unfold parseI
  have hs : (⟨#[102, 102]⟩ : ByteArray).size = 2 := rfl
  have h0 : btI ⟨#[102, 102]⟩ 0 = 102 := rfl
  have h1 : btI ⟨#[102, 102]⟩ 1 = 102 := rfl
  have hnb : ¬ bad ⟨#[102, 102]⟩ 16 := by
    rintro ⟨i, hi, hb⟩
    rw [hs] at hi
    rcases (show i = 0 ∨ i = 1 by omega) with rfl | rfl
    · rw [show ((0 : Nat) : Int) = 0 from rfl, h0] at hb; revert hb; decide
    · rw [show ((1 : Nat) : Int) = 1 from rfl, h1] at hb; revert hb; decide
  rw [if_neg (by decide), if_neg (by rw [hs, h0]; decide), if_neg hnb, hs]
  have : pv ⟨#[102, 102]⟩ 16 2 = 255 := by decide
  rw [this, canon_one (by decide)]
theorem natReads_true (s : ByteArray) (i : Int) (ls : s.size ≤ 140737488351232) (wi : (Lit.int .i64 i).wf = true) : fulcrumlaw01_NatReads.F (s, i, ()) = some (true, ()) := by
  have hi := rsi64_of wi
  have ls : s.size ≤ 140737488355328 := by omega
  have k1 := Parse_F ls hi
  have k2 := rParse_F ls hi
  have k3 := Parse_F (s := ⟨#[102, 102]⟩) (b := 16) (by decide) (by decide)
  rw [parse_ff] at k3
  have s1 := same_F (parseI s i).1 (parseI s i).1 (parseI_len ls i)
  have s2 := same_F [255] [255] (by decide)
  rw [decide_eq_true rfl] at s1 s2
  exact fulcrumlaw01_NatReads.of 0 s i (st k1 (st k2 (no (by simp) (st s1 (no rfl (st k3 (yes rfl (st s2 rfl))))))))
end Go.Fx.Tryd
