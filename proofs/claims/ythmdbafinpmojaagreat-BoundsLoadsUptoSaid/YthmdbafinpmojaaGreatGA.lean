/- slices.Clone at limits: what a call of it does. -/
import Derived.Test.YthmdbafinpmojaaGreatW08b
import Derived.WalkKit
import Derived.Lib.Walk
import Derived.Lib.SliceRun
import Derived.Test.YthmdbafinpmojaaGreatEvR
import Derived.RangeFuncNested
import Derived.RangeFuncBox
import Derived.RangeFuncLeaves
import Derived.Shelf.Abstract
import Derived.OwnWalkIn
import Derived.TacticsInMore
import Derived.LoopNIn
import Derived.LoopIn
namespace Go.Fx.Tryz
open Go Go.Proofs Go.Fx Go.RowKit
set_option linter.unusedVariables false
set_option linter.unusedSimpArgs false
def slices_Clone_Limit.oth : Oth := .cl 68 16 256
set_option maxHeartbeats 2000000 in
set_option maxRecDepth 100000 in
theorem Clone_calls (w : World) (A : Option Addr) (len c : Nat) (cs : List Value) (hl : cs.length = len * 16) (h1 : ∀ u ∈ cs, u.oneCell' = true) (hA : len ≠ 0 → ∃ ad, A = some ad ∧ ∀ j u, cs[j]? = some u → w.cell? (ad.add j) = some u) (hc : len ≤ c) (hlim : len < lim 256) :
    Calls Tryz.prog 51 #[.slice A len c] w fun e' w' => ∃ v, e' = .returned v ∧ w'.ownsRow 0 68 16 v len cs ∧ (∀ d, v.ownBlock = some d → w.heap.size ≤ d) ∧ Below w.heap.size w w' := by
  have q29 : ∀ (w : World) (a : Option Addr) (n c n' c' : Nat), (binOp .eql 29 (.slice a n c) (.slice none n' c')).run Tryz.prog w = .ok (.bool a.isNone) w := fun w a n c n' c' => Lib.run_eql_slice_nil w _ _ a n c n' c' Tryz.underlying29
  have u29 : ∀ w, Sem.run Tryz.prog (underlying 29) w = .ok (TypeDesc.slice 68) w := run_underlying Tryz.underlying29
  obtain ⟨i0, hi, hs, hb, z, hz, hzc⟩ := (tabOk 68 ti68 (by kernel_rfl)).info
  have hzs : z.cells.size = 16 := by
    have : z.cells.toList.length = 16 := by rw [hzc]; rfl
    simpa using this
  have hlim' : len * 256 < 140737488355328 := by unfold lim at hlim; omega
  refine calls_of_wp Tryz.func51 rfl ?_
  simp only [Tryz.ntmps51, List.size_toArray, List.length_cons, List.length_nil, Nat.reduceAdd, Nat.reduceSub, Array.replicate_succ, Array.replicate_zero, List.push_toArray, List.append_toArray, List.nil_append, List.cons_append]
  cases A with
  | none =>
    obtain rfl : len = 0 := Classical.byContradiction fun h => by obtain ⟨ad, e, _⟩ := hA h; cases e
    go_wp2
    go_ret
    obtain rfl : cs = [] := List.eq_nil_of_length_eq_zero (by omega)
    exact ⟨.slice none 0 0, rfl, World.ownsRow_nil w 0 68 16, fun d e => by simp [Value.ownBlock] at e, Below.refl _ _⟩
  | some ad =>
    have hA' : ∀ j u, cs[j]? = some u → w.cell? (ad.add j) = some u := by
      by_cases h : len = 0
      · intro j u hj
        have := (List.getElem?_eq_some_iff.1 hj).1
        omega
      · obtain ⟨ad', e, h2⟩ := hA h
        cases e; exact h2
    go_wp2_with (at_builtin; refine wpList_append_own _ rfl _ _ 29 rfl w.heap.size 68 i0 z 16 256 Tryz.underlying29 hi hz hs hb hzs (by decide) _ _ _ rfl (World.ownsRow_made w #[] 0 (Nat.le_refl _) (Nat.zero_le _) rfl) ad len c cs rfl hl ?qc2 h1 ?qc4 ?qc5 ?qc6 ?_)
    case qc2 => exact fun j u hj => Lib.cell?_alloc_some _ (hA' j u hj)
    case qc4 => unfold maxLen; omega
    case qc5 => omega
    case qc6 => simp
    intro v' w1 hown hgrow hnil
    go_wp2
    go_ret
    have hown' : w1.ownsRow w.heap.size 68 16 v' len cs := by simpa using hown
    refine ⟨v', rfl, ⟨hown'.1, hown'.2.imp id fun ⟨g, cap, cur, h, hg, r⟩ => ⟨g, cap, cur, h, Nat.zero_le _, r⟩⟩, fun d hd => (World.ownsRow.lt hown' d hd).1, ?_⟩
    exact ((Below.refl _ w).alloc (Nat.le_refl _) _).grown hgrow (by simp) (by intro k hk; simp [Value.ownBlock] at hk; omega)
theorem slices_Clone_Limit.ok : OthOk Tryz.prog 51 slices_Clone_Limit.oth := ⟨⟨_, Tryz.func51, by kernel_rfl, by kernel_rfl⟩, fun w A len c cs h1 h2 h3 h4 h5 => Clone_calls w A len c cs h1 h2 h3 h4 h5⟩
end Go.Fx.Tryz

namespace Go.Fx.Tryz
open Go Go.Proofs Go.RowKit Go.Shelf Go.Fx
set_option linter.unusedVariables false
set_option linter.unusedSimpArgs false
attribute [local go_sem] Oper.semAt_some
theorem load70 (w : World) (ad : Addr) (es : List Value) (hl : es.length = 11) (h : ∀ j v, es[j]? = some v → w.cell? (ad.add j) = some v) : (loadVar 70 ad).run Tryz.prog w = .ok (.agg es.toArray) w := by
  have hl2 := run_loadCells_list (P := Tryz.prog) w ad es h
  rw [hl] at hl2
  have h1 : (isAgg 70).run Tryz.prog w = .ok true w := (tabOk 70 ti70 (by kernel_rfl)).isAgg
  have h2 : (sizeOf 70).run Tryz.prog w = .ok 11 w := (tabOk 70 ti70 (by kernel_rfl)).size
  simp [loadVar, h1, h2, hl2]
theorem wpListIn_load70 {n : Nat} {ops : Array Oper} {Q : Exit → Act → World → Prop} {a : Act} {w : World} {rest : List Oper} {o : Oper} {t : Nat} {ad : Addr} {es : List Value} (ho : o.op = .load 70 (.tmp t)) (hg : o.guard = none) (ha : a.eval (.tmp t) = .pointer (some ad)) (hL : (loadVar 70 ad).run Tryz.prog w = .ok (.agg es.toArray) w)
    (h : wpListIn Fence.wide n Tryz.prog ops Q rest (a.put o.dst (.agg es.toArray)) w) : wpListIn Fence.wide n Tryz.prog ops Q (o :: rest) a w := by
  refine wpListIn_plain hg fun K hK => ⟨fun _ _ => trivial, ?_⟩
  rw [Oper.semAt_eq _ _ _ (by rw [ho]; intro c e; cases e)]
  have e : (execOp a.eval o).run Tryz.prog w = .ok (.value (.agg es.toArray)) w := by simp [execOp, ho, ha, Instr.loadAt, Instr.sureAddr, hL]
  rw [e]
  exact hK _ _ h
def down {α : Type} (f : Nat → α) (len k : Nat) : List α := (List.range k).map fun j => f (len - 1 - j)
theorem down_succ {α : Type} (f : Nat → α) (len k : Nat) : down f len (k + 1) = down f len k ++ [f (len - 1 - k)] := by simp [down, List.range_succ]
theorem down_length {α : Type} (f : Nat → α) (len k : Nat) : (down f len k).length = k := by simp [down]
set_option maxRecDepth 100000 in
set_option maxHeartbeats 2000000 in
theorem bw1_in (n : Nat) (hn : 1 ≤ n) (l Bs len cap : Nat) (A : Addr) (enc : Nat → List Value) (hel : ∀ j, j < len → (enc j).length = 11) (hreach : len < 4611686018427387904)
    {α : Type} (f : Nat → α) (encs : α → Array Value) (hf : ∀ j, j < len → encs (f j) = #[.int .i64 (j : Int), .agg (enc j).toArray]) (Kp : World → World → Prop) (hKr : ∀ W, Kp W W) (hKt : ∀ {X Y Z}, Kp X Y → Kp Y Z → Kp X Z)
    (hKc : ∀ W W', Kp W W' → ∀ (p : Addr) v, p.block = Bs ∨ p.block = A.block → W.cell? p = some v → W'.cell? p = some v) (J Jx : List α → World → Prop)
    (hY : ∀ pre x W, J pre W → pre.length < len → YieldAt Fence.wide (n - 1) Tryz.prog l (encs x) W fun e W' => (e = .returned (.bool true) ∧ J (pre ++ [x]) W' ∧ Kp W W') ∨ (e = .returned (.bool false) ∧ Jx (pre ++ [x]) W'))
    (W : World) (hBs : W.cell? ⟨Bs, 0, none⟩ = some (.slice (some A) len cap)) (hc : ∀ j, j < len → ∀ i u, (enc j)[i]? = some u → W.cell? (A.add (j * 11 + i)) = some u) (h0 : J [] W) :
    CallsIn Fence.wide n Tryz.prog 92 #[.func (.yield l) #[] #[], .pointer (some ⟨Bs, 0, none⟩)] W fun e W' => (∃ v, e = .returned v) ∧ (J (down f len len) W' ∨ ∃ k, k ≤ len ∧ Jx (down f len k) W') := by
  refine callsIn_of_wp Tryz.func92 rfl trivial ?_ rfl
  simp only [Tryz.ntmps92, List.size_toArray, List.length_cons, List.length_nil, Nat.reduceAdd, Nat.reduceSub, Array.replicate_succ, Array.replicate_zero, List.push_toArray, List.append_toArray, List.nil_append, List.cons_append]
  gi_wp2
  gi_loopw [3] (fun i wr => ∃ k : Nat, k ≤ len ∧ i = .int .i64 ((len : Int) - 1 - k) ∧ J (down f len k) wr ∧ Kp W wr)
    (fun i _ => (intOf i + 1).toNat)
  case atStart => exact ⟨0, Nat.zero_le _, by simp, h0, hKr _⟩
  case round =>
    obtain ⟨k, hk, rfl, hJs, hnx⟩ := hrel
    have hBs' := hKc _ _ hnx ⟨Bs, 0, none⟩ _ (.inl rfl) hBs
    by_cases hlt : k < len
    · obtain ⟨i, hi⟩ : ∃ i : Nat, len - 1 - k = i := ⟨_, rfl⟩
      have hi2 : (len : Int) - 1 - k = (i : Int) := by omega
      have hilt : i < len := by omega
      obtain ⟨fn, tmps, assign, body, hy, hR⟩ := hY _ (f i) wr hJs (by rw [down_length]; exact hlt)
      rw [hf i hilt] at hy
      have hL := load70 wr (A.add (i * 11)) (enc i) (hel i hilt) (fun j v hv => by
        have := hKc _ _ hnx (A.add (i * 11 + j)) v (.inr (Addr.add_block _ _)) (hc i hilt j v hv)
        rwa [← Addr.add_add] at this)
      rw [hi2]
      gi_wp2_with (refine wpListIn_load70 (ad := A.add (i * 11)) (es := enc i) rfl rfl rfl hL ?_)
      refine hR.mono ?_
      rintro e W3 (⟨rfl, hJ3, hk3⟩ | ⟨rfl, hJx3⟩)
      · gi_wp2
        go_roundw
        case rel => exact ⟨k + 1, by omega, by first | (simp; done) | (simp; omega), by rw [down_succ, hi]; exact hJ3, hKt hnx hk3⟩
        case measure => first | (simp [intOf]; done) | (simp [intOf]; omega)
      · gi_wp2
        refine bodyPost_ret (results_none rfl _ _ _) rfl ?_
        exact ⟨⟨_, rfl⟩, .inr ⟨k + 1, by omega, by rw [down_succ, hi]; exact hJx3⟩⟩
    · obtain rfl : k = len := by omega
      have hi2 : (k : Int) - 1 - k = -1 := by omega
      rw [hi2]
      gi_wp2
      go_end0
      exact ⟨⟨_, rfl⟩, .inl hJs⟩
set_option maxRecDepth 100000 in
set_option maxHeartbeats 1000000 in
theorem bw0_in (n : Nat) (l Bs cap : Nat) (A : Option Addr) (W : World) (hBs : W.cell? ⟨Bs, 0, none⟩ = some (.slice A 0 cap)) :
    CallsIn Fence.wide n Tryz.prog 92 #[.func (.yield l) #[] #[], .pointer (some ⟨Bs, 0, none⟩)] W fun e W' => (∃ v, e = .returned v) ∧ W' = W := by
  refine callsIn_of_wp Tryz.func92 rfl trivial ?_ rfl
  simp only [Tryz.ntmps92, List.size_toArray, List.length_cons, List.length_nil, Nat.reduceAdd, Nat.reduceSub, Array.replicate_succ, Array.replicate_zero, List.push_toArray, List.append_toArray, List.nil_append, List.cons_append]
  gi_wp2
  gi_loopw [3] (fun i wr => i = .int .i64 (-1) ∧ wr = W) (fun _ _ => 0)
  case atStart => exact ⟨by first | rfl | (simp; done), rfl⟩
  case round =>
    obtain ⟨rfl, rfl⟩ := hrel
    gi_wp2
    go_end0
    exact ⟨⟨_, rfl⟩, rfl⟩
set_option maxHeartbeats 1000000 in
theorem bk_in (n : Nat) (a : Option Addr) (len cap : Nat) (w : World) :
    CallsIn Fence.wide n Tryz.prog 74 #[.slice a len cap] w fun e w' => e = .returned (.func (.func 92) #[] #[.pointer (some ⟨w.heap.size, 0, none⟩)]) ∧ w' = w.alloc (.cells #[.slice a len cap] 30) := by
  refine callsIn_of_wp Tryz.func74 rfl trivial ?_ rfl
  simp only [Tryz.ntmps74, List.size_toArray, List.length_cons, List.length_nil, Nat.reduceAdd, Nat.reduceSub, Array.replicate_succ, Array.replicate_zero, List.push_toArray, List.append_toArray, List.nil_append, List.cons_append]
  gi_wp2
  go_ret
  exact ⟨rfl, rfl⟩
theorem bw_stops (n : Nat) (hn : 1 ≤ n) (Bs cap : Nat) (A : Option Addr) {α : Type} (xs : List α) (hreach : xs.length < 4611686018427387904) (Kp : World → World → Prop) (hKr : ∀ W, Kp W W) (hKt : ∀ {X Y Z}, Kp X Y → Kp Y Z → Kp X Z)
    (hKc : ∀ W W', Kp W W' → ∀ (p : Addr) v, p.block = Bs ∨ (∃ ad, A = some ad ∧ p.block = ad.block ∧ 0 < xs.length) → W.cell? p = some v → W'.cell? p = some v) (encs : α → Array Value) (cs : Nat → List Value)
    (hf : ∀ (j : Nat) (x : α), xs[j]? = some x → encs x = #[.int .i64 (j : Int), .agg (cs j).toArray] ∧ (cs j).length = 11) (w : World) (hB : Bs < w.heap.size) (hBs : w.cell? ⟨Bs, 0, none⟩ = some (.slice A xs.length cap))
    (hA : ∀ (j : Nat), j < xs.length → ∃ ad, A = some ad ∧ ad.block < w.heap.size ∧ ∀ i u, (cs j)[i]? = some u → w.cell? (ad.add (j * 11 + i)) = some u) :
    SeqStopsK Fence.wide n Tryz.prog 92 #[.pointer (some ⟨Bs, 0, none⟩)] encs Kp (fun ys => ys = xs.reverse) (fun pre => ∃ k, k ≤ xs.length ∧ pre = xs.reverse.take k) xs.length w := fun l J Jx W hW _ _ hY h0 => by
  have hc' := (hW.cell (p := ⟨Bs, 0, none⟩) hB).trans hBs
  cases xs with
  | nil =>
    refine (bw0_in n l Bs cap A W hc').mono ?_
    rintro e W' ⟨he, rfl⟩
    exact ⟨he, .inl ⟨[], rfl, h0⟩⟩
  | cons x0 xs =>
    obtain ⟨ad, rfl, hlt, _⟩ := hA 0 (by simp)
    have hA' : ∀ j, j < (x0 :: xs).length → ∀ i u, (cs j)[i]? = some u → W.cell? (ad.add (j * 11 + i)) = some u := fun j hj i u hu => by
      obtain ⟨ad', e, hlt', h⟩ := hA j hj
      cases e
      exact (hW.cell (p := ad.add (j * 11 + i)) (by rw [Addr.add_block]; exact hlt')).trans (h i u hu)
    have hd : ∀ k, k ≤ (x0 :: xs).length → down (fun j => ((x0 :: xs)[j]?).getD x0) (x0 :: xs).length k = (x0 :: xs).reverse.take k := fun k hk => by
      apply List.ext_getElem
      · simp only [down, List.length_map, List.length_range, List.length_take, List.length_reverse]; omega
      · intro i h1 h2
        have hik : i < k := by simpa [down] using h1
        have hi : i < (x0 :: xs).length := by omega
        simp only [down, List.getElem_map, List.getElem_range, List.getElem_take, List.getElem_reverse]
        rw [List.getElem?_eq_getElem (by omega)]
        rfl
    refine (bw1_in n hn l Bs (x0 :: xs).length cap ad cs (fun j hj => (hf j _ (List.getElem?_eq_getElem hj)).2) hreach (fun j => ((x0 :: xs)[j]?).getD x0) encs (fun j hj => by
      rw [List.getElem?_eq_getElem hj]; exact (hf j _ (List.getElem?_eq_getElem hj)).1) Kp hKr (fun h k => hKt h k) (fun W W' h p v hp => hKc W W' h p v (hp.imp id fun e => ⟨ad, rfl, e, by simp⟩)) J Jx hY W hc' hA' h0).mono ?_
    rintro e W' ⟨he, hj | ⟨k, hk, hj⟩⟩
    · rw [hd _ (Nat.le_refl _)] at hj
      exact ⟨he, .inl ⟨_, by rw [List.take_of_length_le (by simp)], hj⟩⟩
    · rw [hd k hk] at hj
      exact ⟨he, .inr ⟨_, ⟨k, hk, rfl⟩, hj⟩⟩
end Go.Fx.Tryz
