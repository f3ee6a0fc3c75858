/- fulcrummem.Spoil: what its pieces of code do. -/
import Derived.Test.YtjhbcpnliiegoaaWA
import Derived.Test.YtjhbcpnliiegoaaW02o
import Derived.Test.YtjhbcpnliiegoaaW02h
import Derived.IntWalk
import Derived.Tactics
namespace Go.Fx.Try
open Go Go.Proofs Go.Fx Go.RowKit
set_option linter.unusedVariables false
set_option linter.unusedSimpArgs false
set_option maxRecDepth 100000
def spT : Tab := Tab.cons 61 ⟨.sl 22, .sl 22 (.sl 70 (.int .u32)), false, 24⟩ T
theorem spTok : TabOk Try.prog spT := TabOk.cons (by kernel_rfl) { info := ⟨Try.t61, by kernel_rfl, by kernel_rfl, by kernel_rfl, (.slice none 0 0), by kernel_rfl, by kernel_rfl⟩, agg := ⟨_, Try.underlying61, rfl⟩, desc := ⟨Try.underlying61, ti22, by kernel_rfl, rfl, by decide⟩ } tabOk
noncomputable def spC : Cals := Cals.cons 97 fulcrummem_mark.sig (Cals.base tabs)
theorem spCk : CalsOk Try.prog spC := CalsOk.cons fulcrummem_mark.cal (CalsOk.base tabsOk)
/-- A mark. -/
def M (i k : Int) : Int := IntKind.u32.wrap ((2768240640 : Int) + IntKind.u32.wrap (IntKind.i64.wrap (IntKind.i64.wrap (i * (4096 : Int)) + k)))
theorem mark_F (i k : Int) : fulcrummem_mark.F (i, k, ()) = some (M i k, ()) := fulcrummem_mark.of 0 i k rfl
noncomputable def rS (j : Nat) : Code := regF Try.f66 j
abbrev slH (vs : List Value) : SV := .one (.lf (.val true (.sl 22 .hd) vs))
abbrev slD (xs : List (List Int)) : SV := .one (.lf (.val true (.sl 22 (.sl 70 (.int .u32))) xs))
abbrev rowU (xs : List Int) : Row := ⟨70, .int .u32, true, true, xs⟩
abbrev rowG (gs : List Value) : Row := ⟨22, .hd, true, true, gs⟩
abbrev oL (r : Nat) : SV := .one (.lf (.own r))
noncomputable def hA : Code := .seq (rS 2) (.cond (.tmp 15) .skip (.exit 0))
theorem eA (vs : List Value) (i : Int) : goO spC spT 107 9 hA ⟨[(0, slH vs), (3, ci .i64 i)], ⟨[], []⟩⟩ [0, 3] = bif decide (i < (List.length vs : Int)) then some (.nrm [slH vs, ci .i64 i] ⟨[], []⟩) else some (.ext 0 [slH vs, ci .i64 i] ⟨[], []⟩) := by kernel_rfl
theorem e4 (vs : List Value) (i : Int) : goO spC spT 107 9 (rS 4) ⟨[(0, slH vs), (3, ci .i64 i)], ⟨[], []⟩⟩ [0, 3, 4] = some (.nrm [slH vs, ci .i64 i, ci .i64 0] ⟨[], []⟩) := by kernel_rfl
theorem e3 (vs : List Value) (i : Int) : goO spC spT 107 9 (rS 3) ⟨[(0, slH vs), (3, ci .i64 i)], ⟨[], []⟩⟩ [0, 3] = some (.nrm [slH vs, ci .i64 (IntKind.i64.wrap (i + 1))] ⟨[], []⟩) := by kernel_rfl
noncomputable def cAi : Code := .seq (.seq (rS 5) (.cond (.tmp 24) .skip (.exit 2))) (.seq (.block 3 (rS 7)) (rS 6))
theorem eAi (vs : List Value) (i k : Int) (zs : List Int) : goO spC spT 107 19 cAi ⟨[(0, .hsl 22 vs i 0), (3, ci .i64 i), (4, ci .i64 k)], ⟨[some (rowU zs)], []⟩⟩ [0, 3, 4] =
    bif decide (i = i) then (bif decide (k < (List.length zs : Int)) then (bif decide (i = i) then ((fulcrummem_mark.F (i, k, ())).bind fun v => bif decide (0 ≤ k) && decide (k < (List.length zs : Int)) then some (.nrm [.hsl 22 vs i 0, ci .i64 i, ci .i64 (IntKind.i64.wrap (k + 1))] ⟨[some (rowU (List.set zs k.toNat v.1))], []⟩) else none) else none)
    else some (.ext 2 [.hsl 22 vs i 0, ci .i64 i, ci .i64 k] ⟨[some (rowU zs)], []⟩)) else none := by kernel_rfl
theorem e8 (vs : List Value) : goO spC spT 107 9 (rS 8) ⟨[(0, slH vs)], ⟨[], []⟩⟩ [0, 5] = some (.nrm [slH vs, .one (.lf .nil)] ⟨[], []⟩) := by kernel_rfl
theorem e9 (vs gs : List Value) : goO spC spT 107 9 (rS 9) ⟨[(0, slH vs), (5, oL 0)], ⟨[some (rowG gs)], []⟩⟩ [0, 5, 6] = some (.nrm [slH vs, oL 0, ci .i64 0] ⟨[some (rowG gs)], []⟩) := by kernel_rfl
noncomputable def hB : Code := .seq (rS 10) (.cond (.tmp 39) .skip (.exit 4))
theorem eB (vs gs : List Value) (i : Int) : goO spC spT 107 9 hB ⟨[(0, slH vs), (5, oL 0), (6, ci .i64 i)], ⟨[some (rowG gs)], []⟩⟩ [0, 5, 6] = bif decide (i < (List.length vs : Int)) then some (.nrm [slH vs, oL 0, ci .i64 i] ⟨[some (rowG gs)], []⟩) else some (.ext 4 [slH vs, oL 0, ci .i64 i] ⟨[some (rowG gs)], []⟩) := by kernel_rfl
theorem e12 (vs gs : List Value) (i : Int) (zs : List Int) : goO spC spT 107 9 (rS 12) ⟨[(0, .hsl 22 vs i 1), (5, oL 0), (6, ci .i64 i)], ⟨[some (rowG gs), some (rowU zs)], []⟩⟩ [0, 5, 6, 7] = bif decide (i = i) then some (.nrm [.hsl 22 vs i 1, oL 0, ci .i64 i, oL 1] ⟨[some (rowG gs), some (rowU zs)], []⟩) else none := by kernel_rfl
abbrev rV (u : Value) : SV := .one (.lf (.val true .raw u))
abbrev sG (u : Value) (gs : List Value) (i k : Int) (zs : List Int) : S := ⟨[(0, rV u), (5, oL 0), (6, ci .i64 i), (7, oL 1), (8, ci .i64 k)], ⟨[some (rowG gs), some (rowU zs)], []⟩⟩
theorem e13 (u : Value) (gs : List Value) (i : Int) (zs : List Int) : goO spC spT 107 9 (rS 13) ⟨[(0, rV u), (5, oL 0), (6, ci .i64 i), (7, oL 1)], ⟨[some (rowG gs), some (rowU zs)], []⟩⟩ [0, 5, 6, 7, 8] = some (.nrm [rV u, oL 0, ci .i64 i, oL 1, ci .i64 0] ⟨[some (rowG gs), some (rowU zs)], []⟩) := by kernel_rfl
noncomputable def hBi : Code := .seq (rS 14) (.cond (.tmp 47) .skip (.exit 6))
theorem eBi (u : Value) (gs : List Value) (i k : Int) (zs : List Int) : goO spC spT 107 9 hBi (sG u gs i k zs) [0, 5, 6, 7, 8] = bif decide (k < 16) then some (.nrm [rV u, oL 0, ci .i64 i, oL 1, ci .i64 k] ⟨[some (rowG gs), some (rowU zs)], []⟩) else some (.ext 6 [rV u, oL 0, ci .i64 i, oL 1, ci .i64 k] ⟨[some (rowG gs), some (rowU zs)], []⟩) := by kernel_rfl
noncomputable def ops16 : Array Oper := match rS 16 with
  | .region _ ops _ => ops
  | _ => #[]
theorem rS16 : rS 16 = .region 16 ops16 false := by kernel_rfl
theorem e16 (u : Value) (gs : List Value) (i k : Int) (zs : List Int) : evalOps spC spT 107 ops16.toList (ops16.toList.take 6) (sG u gs i k zs) (fun s' => some (Out.nrm ([0, 5, 6, 8, 50, 55].map s'.get) s'.m.trim)) =
    (fulcrummem_mark.F (i, (List.length zs : Int), ())).bind fun v => some (.nrm [rV u, oL 0, ci .i64 i, ci .i64 k, oL 1, oL 2] ⟨[some (rowG gs), some (rowU zs), some (rowU [v.1])], []⟩) := by kernel_rfl
theorem e16b (u : Value) (gs : List Value) (i k : Int) (zs : List Int) : evalOps spC spT 107 ops16.toList (ops16.toList.drop 7) ⟨[(0, rV u), (5, oL 0), (6, ci .i64 i), (8, ci .i64 k), (56, oL 1)], ⟨[some (rowG gs), some (rowU zs)], []⟩⟩ (fun s' => some (Out.nrm ([0, 5, 6, 7, 8].map s'.get) s'.m.trim)) =
    some (.nrm [rV u, oL 0, ci .i64 i, oL 1, ci .i64 k] ⟨[some (rowG gs), some (rowU zs)], []⟩) := by kernel_rfl
theorem o16 : ∃ o, ops16[6]? = some o ∧ o.guard = none ∧ o.dst = some 56 ∧ o.op = .call { callee := .builtin .append, args := #[.tmp 50, .tmp 55], argTypes := #[22, 22] } := ⟨_, rfl, rfl, rfl, rfl⟩
theorem e15 (u : Value) (gs : List Value) (i k : Int) (zs : List Int) : goO spC spT 107 9 (rS 15) (sG u gs i k zs) [0, 5, 6, 7, 8] = some (.nrm [rV u, oL 0, ci .i64 i, oL 1, ci .i64 (IntKind.i64.wrap (k + 1))] ⟨[some (rowG gs), some (rowU zs)], []⟩) := by kernel_rfl
theorem e17 (u : Value) (gs : List Value) (i : Int) (g : Value) : goO spC Hd.T 107 9 (rS 17) ⟨[(0, rV u), (5, oL 0), (6, ci .i64 i), (7, .one (.lf (.val true .hd g)))], ⟨[some (rowG gs)], []⟩⟩ [0, 5, 6] =
    bif decide (List.length gs + List.length [g] < lim 24) then some (.nrm [rV u, oL 2, ci .i64 i] ⟨[none, some ⟨22, .hd, true, false, [g]⟩, some (rowG (List.append gs [g]))], []⟩) else none := by kernel_rfl
theorem e11 (vs gs : List Value) (i : Int) : goO spC spT 107 9 (rS 11) ⟨[(0, slH vs), (5, oL 0), (6, ci .i64 i)], ⟨[some (rowG gs)], []⟩⟩ [0, 5, 6] = some (.nrm [slH vs, oL 0, ci .i64 (IntKind.i64.wrap (i + 1))] ⟨[some (rowG gs)], []⟩) := by kernel_rfl
theorem e18 (xs gs : List (List Int)) : goO spC spT 107 9 (rS 18) ⟨[(0, slD xs), (5, slD gs)], ⟨[], []⟩⟩ [0, 5, 9] = some (.nrm [slD xs, slD gs, ci .i64 0] ⟨[], []⟩) := by kernel_rfl
noncomputable def hC : Code := .seq (rS 19) (.cond (.tmp 64) .skip (.exit 8))
theorem eC (xs gs : List (List Int)) (i : Int) : goO spC spT 107 9 hC ⟨[(0, slD xs), (5, slD gs), (9, ci .i64 i)], ⟨[], []⟩⟩ [0, 5, 9] = bif decide (i < (List.length xs : Int)) then some (.nrm [slD xs, slD gs, ci .i64 i] ⟨[], []⟩) else some (.ext 8 [slD xs, slD gs, ci .i64 i] ⟨[], []⟩) := by kernel_rfl
theorem e21 (xs gs : List (List Int)) (i : Int) : goO spC spT 107 9 (rS 21) ⟨[(0, slD xs), (5, slD gs), (9, ci .i64 i)], ⟨[], []⟩⟩ [0, 5, 9, 10] = some (.nrm [slD xs, slD gs, ci .i64 i, ci .i64 0] ⟨[], []⟩) := by kernel_rfl
theorem e26 (xs gs : List (List Int)) (i : Int) : goO spC spT 107 9 (rS 26) ⟨[(0, slD xs), (5, slD gs), (9, ci .i64 i)], ⟨[], []⟩⟩ [0, 5, 9, 11] = some (.nrm [slD xs, slD gs, ci .i64 i, ci .i64 0] ⟨[], []⟩) := by kernel_rfl
theorem e20 (xs gs : List (List Int)) (i : Int) : goO spC spT 107 9 (rS 20) ⟨[(0, slD xs), (5, slD gs), (9, ci .i64 i)], ⟨[], []⟩⟩ [0, 5, 9] = some (.nrm [slD xs, slD gs, ci .i64 (IntKind.i64.wrap (i + 1))] ⟨[], []⟩) := by kernel_rfl
noncomputable def cC1 : Code := .seq (.seq (rS 22) (.cond (.tmp 73) .skip (.exit 10))) (.seq (.block 11 (.seq (rS 24) (.cond (.tmp 86) (.seq (rS 25) .ret) .skip))) (rS 23))
theorem eC1 (xs gs : List (List Int)) (i k : Int) : goO spC spT 107 19 cC1 ⟨[(0, slD xs), (5, slD gs), (9, ci .i64 i), (10, ci .i64 k)], ⟨[], []⟩⟩ [0, 5, 9, 10] =
    bif decide (0 ≤ i) && decide (i < (List.length xs : Int)) then (bif decide (k < (List.length (List.getD xs i.toNat []) : Int)) then (bif decide (0 ≤ i) && decide (i < (List.length xs : Int)) then (bif decide (0 ≤ k) && decide (k < (List.length (List.getD xs i.toNat []) : Int)) then ((fulcrummem_mark.F (i, k, ())).bind fun v => bif !(List.getD (List.getD xs i.toNat []) k.toNat (0 : Int) == v.1) then some (.rt [slD xs, slD gs, ci .i64 i, ci .i64 k] ⟨[], []⟩)
      else some (.nrm [slD xs, slD gs, ci .i64 i, ci .i64 (IntKind.i64.wrap (k + 1))] ⟨[], []⟩)) else none) else none)
    else some (.ext 10 [slD xs, slD gs, ci .i64 i, ci .i64 k] ⟨[], []⟩)) else none := by kernel_rfl
noncomputable def cC2 : Code := .seq (.seq (rS 27) (.cond (.tmp 93) .skip (.exit 12))) (.seq (.block 13 (.seq (rS 29) (.cond (.tmp 106) (.seq (rS 30) .ret) .skip))) (rS 28))
theorem eC2 (xs gs : List (List Int)) (i k : Int) : goO spC spT 107 19 cC2 ⟨[(0, slD xs), (5, slD gs), (9, ci .i64 i), (11, ci .i64 k)], ⟨[], []⟩⟩ [0, 5, 9, 11] =
    bif decide (0 ≤ i) && decide (i < (List.length gs : Int)) then (bif decide (k < (List.length (List.getD gs i.toNat []) : Int)) then (bif decide (0 ≤ i) && decide (i < (List.length gs : Int)) then (bif decide (0 ≤ k) && decide (k < (List.length (List.getD gs i.toNat []) : Int)) then ((fulcrummem_mark.F (i, k, ())).bind fun v => bif !(List.getD (List.getD gs i.toNat []) k.toNat (0 : Int) == v.1) then some (.rt [slD xs, slD gs, ci .i64 i, ci .i64 k] ⟨[], []⟩)
      else some (.nrm [slD xs, slD gs, ci .i64 i, ci .i64 (IntKind.i64.wrap (k + 1))] ⟨[], []⟩)) else none) else none)
    else some (.ext 12 [slD xs, slD gs, ci .i64 i, ci .i64 k] ⟨[], []⟩)) else none := by kernel_rfl
theorem e31 : goO spC spT 107 9 (.seq (rS 31) .ret) ⟨[], ⟨[], []⟩⟩ [2] = some (.rt [cb true] ⟨[], []⟩) := by kernel_rfl
theorem e0 (vs : List Value) : goO spC spT 107 9 (rS 0) ⟨[(0, slH vs)], ⟨[], []⟩⟩ [0] = some (.nrm [slH vs] ⟨[], []⟩) := by kernel_rfl
theorem e1 (vs : List Value) : goO spC spT 107 9 (rS 1) ⟨[(0, slH vs)], ⟨[], []⟩⟩ [0, 3] = some (.nrm [slH vs, ci .i64 0] ⟨[], []⟩) := by kernel_rfl
theorem sp_body : Try.f66.body = some (.seq (rS 0) (.seq (.seq (rS 1) (.block 0 (.loop (.seq hA (.seq (.block 1 (.seq (rS 4) (.block 2 (.loop cAi)))) (rS 3)))))) (.seq (rS 8) (.seq (.seq (rS 9) (.block 4 (.loop (.seq hB (.seq (.block 5 (.seq (rS 12) (.seq (.seq (rS 13) (.block 6 (.loop (.seq hBi (.seq (.block 7 (rS 16)) (rS 15)))))) (rS 17)))) (rS 11))))))
    (.seq (.seq (rS 18) (.block 8 (.loop (.seq hC (.seq (.block 9 (.seq (.seq (rS 21) (.block 10 (.loop cC1))) (.seq (rS 26) (.block 12 (.loop cC2))))) (rS 20)))))) (.seq (rS 31) .ret)))))) := by kernel_rfl
set_option maxRecDepth 100000
/-- Blocks that none of the slices has. -/
def offF (vs : List Value) (b : Nat) : Prop := ∀ v ∈ vs, v.ownBlock ≠ some b
/-- Slices that share no block, all of them there already. -/
structure SpV (w0 : World) (vs : List Value) : Prop where
  slice : ∀ v ∈ vs, ∃ A n c, v = Value.slice A n c
  lt : ∀ v ∈ vs, ∀ b, v.ownBlock = some b → b < w0.heap.size
  dis : ∀ (i j : Nat) (v v' : Value) (b : Nat), vs[i]? = some v → vs[j]? = some v' → v.ownBlock = some b → v'.ownBlock = some b → i = j
/-- What else was there is as it was. -/
structure SpX (w0 w : World) (vs : List Value) : Prop where
  size : w0.heap.size ≤ w.heap.size
  block : ∀ b, b < w0.heap.size → offF vs b → w.heap[b]? = w0.heap[b]?
  os : w.os = w0.os
  tape : w.tape = w0.tape
  output : w.output = w0.output
/-- What the slices hold. -/
def SpR (w : World) (vs : List Value) (yss : List (List Int)) : Prop :=
  yss.length = vs.length ∧ ∀ (j : Nat) (v : Value) (ys : List Int), vs[j]? = some v → yss[j]? = some ys → w.ownsRow 0 70 1 v ys.length (ys.map (Value.int .u32))
theorem SpX.keep {w0 w w' : World} {vs : List Value} {may : Nat → Prop} {ow ow' : Ow} {m m' : Mem} (X : SpX w0 w vs) (K : Keep may w ow m w' ow' m') (hok : ∀ b, b < w0.heap.size → offF vs b → okOf ow m b) : SpX w0 w' vs :=
  ⟨Nat.le_trans X.size K.size, fun b hb ho => (K.stay b (Nat.lt_of_lt_of_le hb X.size) (hok b hb ho)).2.2.trans (X.block b hb ho), K.os.trans X.os, K.tape.trans X.tape, K.output.trans X.output⟩
theorem SpR.keep {w w' : World} {vs : List Value} {yss : List (List Int)} (R : SpR w vs yss) (h : ∀ v ∈ vs, ∀ b, v.ownBlock = some b → w'.heap[b]? = w.heap[b]?) : SpR w' vs yss :=
  ⟨R.1, fun j v ys hv hy => ownsRow_same (R.2 j v ys hv hy) fun g hg => h v (List.mem_of_getElem? hv) g hg⟩
theorem _root_.List.set_getElem?_eq {α : Type} : ∀ {l : List α} {i : Nat} {x : α}, l[i]? = some x → l.set i x = l
  | [], i, x, h => by simp at h
  | y :: r, 0, x, h => by simp at h; simp [h]
  | y :: r, i + 1, x, h => by simp only [List.set_cons_succ]; rw [List.set_getElem?_eq (by simpa using h)]
theorem spTabs : spC.tabs = noTabs := rfl
theorem liveS {may : Nat → Prop} {w : World} {ow : Ow} {m : Mem} (h : ∀ b, w.heap.size ≤ b → may b) : Live spC may w ow m := ⟨h, (fun g tb e => by rw [spTabs] at e; cases e), (fun g tb e => by rw [spTabs] at e; cases e)⟩
theorem SpV.new {w0 w : World} {vs : List Value} (V : SpV w0 vs) (X : SpX w0 w vs) {b : Nat} (h : w.heap.size ≤ b) : offF vs b := fun v hv e => by
  have := V.lt v hv b e
  have := X.size
  omega
theorem wrapS {k : Nat} (h : k < 4611686018427387904) : IntKind.i64.wrap ((k : Int) + 1) = ((k + 1 : Nat) : Int) := by rw [IntWalk.i64_in _ (by omega)]; omega
theorem eAi_lt {vs : List Value} {i : Int} {k : Nat} {zs : List Int} (h : k < zs.length) (hb : zs.length < 4611686018427387904) : goO spC spT 107 19 cAi ⟨[(0, .hsl 22 vs i 0), (3, ci .i64 i), (4, ci .i64 (k : Int))], ⟨[some (rowU zs)], []⟩⟩ [0, 3, 4] =
    some (.nrm [.hsl 22 vs i 0, ci .i64 i, ci .i64 ((k + 1 : Nat) : Int)] ⟨[some (rowU (zs.set k (M i k)))], []⟩) := by
  have h1 : (k : Int) < (zs.length : Int) := by omega
  rw [eAi, mark_F]
  simp only [decide_true, cond_true, Option.bind_some, decide_eq_true h1, decide_eq_true (Int.natCast_nonneg k), Bool.and_self, wrapS (show k < 4611686018427387904 by omega), Int.toNat_natCast]
theorem eAi_ge {vs : List Value} {i : Int} {k : Nat} {zs : List Int} (h : zs.length ≤ k) : goO spC spT 107 19 cAi ⟨[(0, .hsl 22 vs i 0), (3, ci .i64 i), (4, ci .i64 (k : Int))], ⟨[some (rowU zs)], []⟩⟩ [0, 3, 4] =
    some (.ext 2 [.hsl 22 vs i 0, ci .i64 i, ci .i64 (k : Int)] ⟨[some (rowU zs)], []⟩) := by
  have h1 : ¬ (k : Int) < (zs.length : Int) := by omega
  rw [eAi]
  simp only [decide_true, cond_true, decide_eq_false h1, cond_false]
abbrev sA (vs : List Value) (i k : Int) (zs : List Int) : S := ⟨[(0, .hsl 22 vs i 0), (3, ci .i64 i), (4, ci .i64 k)], ⟨[some (rowU zs)], []⟩⟩
theorem marksOne {vs : List Value} {i : Int} {may : Nat → Prop} {a : Act} {w : World} {ow : Ow} {zs0 : List Int} {Q : Exit → Act → World → Prop} (I : Stand spC 107 may (sA vs i 0 zs0) a w ow) (hb : zs0.length < 4611686018427387904)
    (hQ : ∀ (zs : List Int) a' w' ow', zs.length = zs0.length → (∀ j : Nat, j < zs.length → zs[j]? = some (M i j)) → Stand spC 107 may (sA vs i (zs.length : Int) zs) a' w' ow' → Keep may w ow ⟨[some (rowU zs0)], []⟩ w' ow' ⟨[some (rowU zs)], []⟩ → Q .normal a' w') : (Code.block 2 (.loop cAi)).wp Try.prog Q a w := by
  refine wp_block (wp_loop (fun a' w' => ∃ (k : Nat) (zs : List Int) (ow' : Ow), k ≤ zs0.length ∧ zs.length = zs0.length ∧ (∀ j : Nat, j < k → zs[j]? = some (M i j)) ∧ Stand spC 107 may (sA vs i (k : Int) zs) a' w' ow' ∧ Keep may w ow ⟨[some (rowU zs0)], []⟩ w' ow' ⟨[some (rowU zs)], []⟩)
    (fun a' _ => zs0.length - slotN 4 a') ⟨0, zs0, ow, Nat.zero_le _, rfl, fun j h => absurd h (by omega), I, Keep.refl _ _ _ _⟩ ?_)
  rintro a1 w1 ⟨k, zs, ow1, hk, hl, hz, I1, K1⟩
  have h4 : slotN 4 a1 = k := I1.slotN rfl
  by_cases hlt : k < zs0.length
  · refine goO_ok spTok spCk mix I1 (eAi_lt (by omega) (by omega)) (fun vs' m' a2 w2 ow2 e I2 K2 => ?_) (fun j vs' m' a2 w2 ow2 e => by cases e) (fun vs' m' a2 w2 ow2 e => by cases e)
    cases e
    refine ⟨⟨k + 1, zs.set k (M i k), ow2, by omega, by simp [hl], fun j hj => ?_, I2, K1.trans K2⟩, ?_⟩
    · by_cases e : j = k
      · subst e; rw [List.getElem?_set_self (by omega)]
      · rw [List.getElem?_set_ne (by omega)]; exact hz j (by omega)
    · have h5 : slotN 4 a2 = k + 1 := I2.slotN rfl
      show zs0.length - slotN 4 a2 < zs0.length - slotN 4 a1
      omega
  · have hkl : zs.length ≤ k := by omega
    refine goO_ok spTok spCk mix I1 (eAi_ge hkl) (fun vs' m' a2 w2 ow2 e => by cases e) (fun j vs' m' a2 w2 ow2 e I2 K2 => ?_) (fun vs' m' a2 w2 ow2 e => by cases e)
    cases e
    have e : k = zs.length := by omega
    subst e
    simp only [Exit.then, Exit.inBlock, if_true]
    exact hQ zs a2 w2 ow2 hl (fun j hj => hz j hj) I2 (K1.trans K2)
abbrev s0 (vs : List Value) (i : Int) : S := ⟨[(0, slH vs), (3, ci .i64 i)], ⟨[], []⟩⟩
theorem okNone (b : Nat) : okOf ⟨[], []⟩ ⟨[], []⟩ b := fun x h => by cases x <;> simp [blk, Mem.row?, Mem.box?] at h
theorem memNone {w : World} {may : Nat → Prop} : MemRel w may ⟨[], []⟩ ⟨[], []⟩ :=
  ⟨rfl, rfl, fun i row e => by simp [Mem.row?] at e, fun i bx e => by simp [Mem.box?] at e, fun x y b h => absurd h (okNone b x), fun x b h => absurd h (okNone b x), fun i h => absurd h (Nat.not_lt_zero _)⟩
theorem okOne {v : Value} {xs : List Int} (hv : ∃ A n c, v = Value.slice A n c) {b : Nat} : okOf ⟨[v], []⟩ ⟨[some (rowU xs)], []⟩ b ↔ v.ownBlock ≠ some b := by
  have := okOf_rows (rows := [rowU xs]) (rv := [v]) rfl (by simp) (by simpa using hv) (b := b)
  simpa using this
theorem memOne {w : World} {may : Nat → Prop} {v : Value} {xs : List Int} (hv : ∃ A n c, v = Value.slice A n c) (h : w.ownsRow 0 70 1 v xs.length (xs.map (Value.int .u32))) (hm : ∀ b, v.ownBlock = some b → may b) : MemRel w may ⟨[v], []⟩ ⟨[some (rowU xs)], []⟩ := by
  refine MemRel.ofRows (rows := [rowU xs]) (rv := [v]) rfl (by simp) (by simpa using hv) (fun i row u hi hu => ?_) (fun i j u u' b hi hj _ _ => ?_) (by simpa using hm)
  · cases i with
    | zero =>
      obtain rfl := Option.some.inj hi
      obtain rfl := Option.some.inj hu
      exact ⟨_, h, RdEach_ints _⟩
    | succ i => simp at hi
  · have := (List.getElem?_eq_some_iff.1 hi).1
    have := (List.getElem?_eq_some_iff.1 hj).1
    simp at *
    omega
/-- One of the slices is looked at as a row of the call's own. -/
def mayF (vs : List Value) (v : Value) (b : Nat) : Prop := offF vs b ∨ v.ownBlock = some b
theorem hsl_of {w : World} {vs : List Value} {v u : Value} {i : Nat} {ow : Ow} {m : Mem} {r : Nat} (hv : vs[i]? = some v) (hr : ow.rv[r]? = some v) (hok : ∀ b, offF vs b → okOf ow m b) (hS : Rd w (okf (okOf ⟨[], []⟩ ⟨[], []⟩) (offF vs) true) (.sl 22 .hd) vs [u]) :
    SVRel w (okOf ow m) (mayF vs v) ow m (.hsl 22 vs (i : Int) r) u := by
  refine ⟨Rd.mono (fun b h => ⟨hok b (h.2 rfl), fun _ => .inl (h.2 rfl)⟩) hS, Int.natCast_nonneg i, v, by simpa using hv, hr⟩
theorem sl_back {w : World} {vs : List Value} {v u : Value} {i : Int} {r : Nat} {ow : Ow} {m : Mem} (hb : ∀ b, okOf ow m b → v.ownBlock ≠ some b) (h : SVRel w (okOf ow m) (mayF vs v) ow m (.hsl 22 vs i r) u) :
    Rd w (okf (okOf ⟨[], []⟩ ⟨[], []⟩) (offF vs) true) (.sl 22 .hd) vs [u] :=
  Rd.mono (fun b h => ⟨okNone b, fun _ => (h.2 rfl).resolve_right (hb b h.1)⟩) h.1
theorem marksAll {w0 : World} {vs : List Value} (V : SpV w0 vs) {a : Act} {w : World} {xss : List (List Int)} {Q : Exit → Act → World → Prop} (X : SpX w0 w vs) (R : SpR w vs xss) (hb : ∀ xs ∈ xss, xs.length < 4611686018427387904) (hvl : vs.length < 4611686018427387904)
    (I : Stand spC 107 (offF vs) (s0 vs 0) a w ⟨[], []⟩)
    (hQ : ∀ (yss : List (List Int)) a' w', yss.map List.length = xss.map List.length → (∀ (i : Nat) (ys : List Int), yss[i]? = some ys → ∀ j : Nat, j < ys.length → ys[j]? = some (M i j)) → SpX w0 w' vs → SpR w' vs yss → Stand spC 107 (offF vs) (s0 vs (vs.length : Int)) a' w' ⟨[], []⟩ → Q .normal a' w') :
    (Code.block 0 (.loop (.seq hA (.seq (.block 1 (.seq (rS 4) (.block 2 (.loop cAi)))) (rS 3))))).wp Try.prog Q a w := by
  refine wp_block (wp_loop (fun a' w' => ∃ (i : Nat) (yss : List (List Int)), i ≤ vs.length ∧ yss.map List.length = xss.map List.length ∧ (∀ (j : Nat) (ys : List Int), j < i → yss[j]? = some ys → ∀ l : Nat, l < ys.length → ys[l]? = some (M j l)) ∧ SpX w0 w' vs ∧ SpR w' vs yss ∧ Stand spC 107 (offF vs) (s0 vs (i : Int)) a' w' ⟨[], []⟩)
    (fun a' _ => vs.length - slotN 3 a') ⟨0, xss, Nat.zero_le _, rfl, fun j ys h => absurd h (by omega), X, R, I⟩ ?_)
  rintro a1 w1 ⟨i, yss, hi, hl, hz, X1, R1, I1⟩
  have h3 : slotN 3 a1 = i := I1.slotN rfl
  have eow : ∀ {ow : Ow} {a : Act} {w : World} {fr : List (Nat × SV)}, Stand spC 107 (offF vs) ⟨fr, ⟨[], []⟩⟩ a w ow → ow = ⟨[], []⟩ := fun {ow a w fr} J => by
    have h1 := J.mem.rlen
    have h2 := J.mem.blen
    obtain ⟨rv, bb⟩ := ow
    have h1 : rv.length = 0 := h1
    have h2 : bb.length = 0 := h2
    rw [List.length_eq_zero_iff] at h1 h2
    rw [h1, h2]
  by_cases hlt : i < vs.length
  · have hi1 : (i : Int) < (vs.length : Int) := by omega
    refine wp_seq (goO_ok spTok spCk mix I1 ((eA vs i).trans (by rw [decide_eq_true hi1]; rfl)) (fun vs' m' a2 w2 ow2 e I2 K2 => ?_) (fun j vs' m' a2 w2 ow2 e => by cases e) (fun vs' m' a2 w2 ow2 e => by cases e))
    cases e
    obtain rfl := eow I2
    refine wp_seq (wp_block (wp_seq (goO_ok spTok spCk mix I2 (e4 vs i) (fun vs' m' a3 w3 ow3 e I3 K3 => ?_) (fun j vs' m' a3 w3 ow3 e => by cases e) (fun vs' m' a3 w3 ow3 e => by cases e))))
    cases e
    obtain rfl := eow I3
    have K13 := K2.trans K3
    have X3 := X1.keep K13 fun b _ _ => okNone b
    have R3 : SpR w3 vs yss := R1.keep fun v hv b e => (K13.stay b (Nat.lt_of_lt_of_le (V.lt v hv b e) X1.size) (okNone b)).2.2
    obtain ⟨v, hv⟩ : ∃ v, vs[i]? = some v := ⟨_, List.getElem?_eq_getElem hlt⟩
    have hvm : v ∈ vs := List.mem_of_getElem? hv
    obtain ⟨ys, hy⟩ : ∃ ys, yss[i]? = some ys := ⟨_, List.getElem?_eq_getElem (by rw [R3.1]; exact hlt)⟩
    have hown := R3.2 i v ys hv hy
    have hsl := V.slice v hvm
    have hylen : ys.length < 4611686018427387904 := by
      have h1 : (yss.map List.length)[i]? = some ys.length := by rw [List.getElem?_map, hy]; rfl
      rw [hl, List.getElem?_map] at h1
      obtain ⟨xs, hx, e⟩ := Option.map_eq_some_iff.1 h1
      have := hb xs (List.mem_of_getElem? hx)
      omega
    have I4 : Stand spC 107 (mayF vs v) (sA vs i 0 ys) a3 w3 ⟨[v], []⟩ := by
      refine ⟨liveS fun b h => .inl (V.new X3 h), memOne hsl hown fun b e => .inr e, FrRel.of ⟨?_, ?_, ?_, trivial⟩, I3.size, I3.defers⟩
      · exact hsl_of hv rfl (fun b h => (okOne hsl).2 (h v hvm)) (I3.fr 0)
      · exact (I3.fr 3 : SVRel _ _ _ _ _ _ _)
      · exact (I3.fr 4 : SVRel _ _ _ _ _ _ _)
    refine marksOne I4 hylen fun zs a4 w4 ow4 hzl hzm I5 K5 => ?_
    obtain ⟨v', cs, hv', _, hown', hrd⟩ := I5.mem.own (r := 0) (row := rowU zs) rfl rfl rfl
    have e : v' = v := by
      have := K5.rv 0 v rfl
      rw [hv'] at this
      exact Option.some.inj this
    subst e
    obtain rfl := RdEach_ints' hrd
    have hrv0 : ∀ b, okOf ow4 ⟨[some (rowU zs)], []⟩ b → v'.ownBlock ≠ some b := fun b h e => h (.row 0) (by
      show (if true = true then (ow4.rv[0]?).bind oblk else none) = some b
      rw [hv', if_pos rfl]
      show oblk v' = some b
      rw [oblk_own hsl]; exact e)
    have I6 : Stand spC 107 (offF vs) (s0 vs i) a4 w4 ⟨[], []⟩ := by
      refine ⟨liveS fun b h => V.new X3 (Nat.le_trans K5.size h), memNone, FrRel.of ⟨?_, ?_, trivial⟩, I5.size, I5.defers⟩
      · exact sl_back (m := ⟨[some (rowU zs)], []⟩) (ow := ow4) hrv0 (I5.fr 0)
      · exact (I5.fr 3 : SVRel _ _ _ _ _ _ _)
    have X6 := X3.keep K5 fun b _ h => (okOne hsl).2 (h v' hvm)
    have R6 : SpR w4 vs (yss.set i zs) := by
      refine ⟨by rw [List.length_set]; exact R3.1, fun j u ys' hu hy' => ?_⟩
      by_cases e : j = i
      · subst e
        rw [List.getElem?_set_self (by rw [R3.1]; exact hlt)] at hy'
        obtain rfl := Option.some.inj hy'
        rw [hv] at hu
        obtain rfl := Option.some.inj hu
        exact hown'
      · rw [List.getElem?_set_ne (by omega)] at hy'
        refine ownsRow_same (R3.2 j u ys' hu hy') fun g hg => K5.frame g (Nat.lt_of_lt_of_le (V.lt u (List.mem_of_getElem? hu) g hg) X3.size) fun h => ?_
        rcases h with h | h
        · exact h u (List.mem_of_getElem? hu) hg
        · exact e (V.dis i j v' u g hv hu h hg).symm
    refine goO_ok spTok spCk mix I6 (e3 vs i) (fun vs' m' a7 w7 ow7 e I7 K7 => ?_) (fun j vs' m' a7 w7 ow7 e => by cases e) (fun vs' m' a7 w7 ow7 e => by cases e)
    cases e
    obtain rfl := eow I7
    rw [wrapS (show i < 4611686018427387904 by omega)] at I7
    refine ⟨⟨i + 1, yss.set i zs, by omega, ?_, fun j ys' hj hy' => ?_, X6.keep K7 fun b _ _ => okNone b, R6.keep fun u hu b e => (K7.stay b (Nat.lt_of_lt_of_le (V.lt u hu b e) X6.size) (okNone b)).2.2, I7⟩, ?_⟩
    · rw [← hl, List.map_set]
      apply List.set_getElem?_eq
      rw [List.getElem?_map, hy, hzl]; rfl
    · by_cases e : j = i
      · subst e
        rw [List.getElem?_set_self (by rw [R3.1]; exact hlt)] at hy'
        obtain rfl := Option.some.inj hy'
        exact hzm
      · rw [List.getElem?_set_ne (by omega)] at hy'
        exact hz j ys' (by omega) hy'
    · have h5 : slotN 3 a7 = i + 1 := I7.slotN rfl
      show vs.length - slotN 3 a7 < vs.length - slotN 3 a1
      omega
  · have hi1 : ¬ (i : Int) < (vs.length : Int) := by omega
    refine wp_seq (goO_ok spTok spCk mix I1 ((eA vs i).trans (by rw [decide_eq_false hi1]; rfl)) (fun vs' m' a2 w2 ow2 e => by cases e) (fun j vs' m' a2 w2 ow2 e I2 K2 => ?_) (fun vs' m' a2 w2 ow2 e => by cases e))
    cases e
    obtain rfl := eow I2
    obtain rfl : i = vs.length := by omega
    simp only [Exit.then, Exit.inBlock, if_true]
    exact hQ yss a2 w2 hl (fun j ys hy => hz j ys (by have := (List.getElem?_eq_some_iff.1 hy).1; rw [R1.1] at this; exact this) hy) (X1.keep K2 fun b _ _ => okNone b) (R1.keep fun u hu b e => (K2.stay b (Nat.lt_of_lt_of_le (V.lt u hu b e) X1.size) (okNone b)).2.2) I2
end Go.Fx.Try

namespace Go.Fx
open Go Go.RowKit
theorem get_put_same {a : Act} {d : Nat} {u : Value} (h : d < a.tmps.size) : (a.put (some d) u).tmps.getD d undef = u := by
  simp [Act.put, Array.getElem?_setIfInBounds, h]
theorem get_put_other {a : Act} {d t : Nat} {u : Value} (h : d ≠ t) : (a.put (some d) u).tmps.getD t undef = a.tmps.getD t undef := by
  simp [Act.put, Array.getElem?_setIfInBounds_ne h]
theorem Keep.rv_eq {may may' : Nat → Prop} {w w' : World} {o o' : Ow} {m m' : Mem} (M : MemRel w may o m) (M' : MemRel w' may' o' m') (K : Keep may w o m w' o' m') (h : m'.rows.length = m.rows.length) : o'.rv = o.rv := by
  apply List.ext_getElem?
  intro i
  cases e : o.rv[i]? with
  | some v => exact K.rv i v e
  | none =>
    have h1 := M.rlen
    have h2 := M'.rlen
    rw [List.getElem?_eq_none_iff] at e ⊢
    omega
theorem MemRel.bb_nil {may : Nat → Prop} {w : World} {o : Ow} {m : Mem} (M : MemRel w may o m) (h : m.boxes = []) : o.bb = [] := by
  have h1 := M.blen
  rw [h] at h1
  exact List.length_eq_zero_iff.1 h1
theorem Ow.ext' {o : Ow} {rv : List Value} (h1 : o.rv = rv) (h2 : o.bb = []) : o = ⟨rv, []⟩ := by cases o; simp only at h1 h2; rw [h1, h2]
end Go.Fx
namespace Go.Fx.Try
open Go Go.Proofs Go.Fx Go.RowKit
set_option linter.unusedVariables false
set_option linter.unusedSimpArgs false
set_option maxRecDepth 100000
/-- The first n marks of list number i. -/
def marksN (i : Int) (n : Nat) : List Int := (List.range n).map fun (j : Nat) => M i (j : Int)
theorem marksN_len (i : Int) (n : Nat) : (marksN i n).length = n := by simp [marksN]
theorem marksN_succ (i : Int) (n : Nat) : marksN i n ++ [M i (n : Int)] = marksN i (n + 1) := by simp [marksN, List.range_succ]
theorem marks_eq {i : Int} {ys : List Int} (h : ∀ j : Nat, j < ys.length → ys[j]? = some (M i j)) : ys = marksN i ys.length := by
  apply List.ext_getElem?
  intro j
  by_cases hj : j < ys.length
  · rw [h j hj]
    simp [marksN, hj]
  · rw [List.getElem?_eq_none (by omega), List.getElem?_eq_none (by rw [marksN_len]; omega)]
theorem okTwo {vg v : Value} {gs : List Value} {xs : List Int} (hg : ∃ A n c, vg = Value.slice A n c) (hv : ∃ A n c, v = Value.slice A n c) {b : Nat} : okOf ⟨[vg, v], []⟩ ⟨[some (rowG gs), some (rowU xs)], []⟩ b ↔ vg.ownBlock ≠ some b ∧ v.ownBlock ≠ some b := by
  have := okOf_rows (rows := [rowG gs, rowU xs]) (rv := [vg, v]) rfl (by simp) (by simpa using ⟨hg, hv⟩) (b := b)
  simpa using this
theorem memTwo {w : World} {may : Nat → Prop} {vg v : Value} {gs cs : List Value} {xs : List Int} (hg : ∃ A n c, vg = Value.slice A n c) (hv : ∃ A n c, v = Value.slice A n c) (h1 : w.ownsRow 0 22 1 vg gs.length cs) (h2 : ∀ ok, RdEach w ok .hd gs cs) (h : w.ownsRow 0 70 1 v xs.length (xs.map (Value.int .u32)))
    (hd : ∀ b, vg.ownBlock = some b → v.ownBlock ≠ some b) (hmg : ∀ b, vg.ownBlock = some b → may b) (hm : ∀ b, v.ownBlock = some b → may b) : MemRel w may ⟨[vg, v], []⟩ ⟨[some (rowG gs), some (rowU xs)], []⟩ := by
  refine MemRel.ofRows (rows := [rowG gs, rowU xs]) (rv := [vg, v]) rfl (by simp) (by simpa using ⟨hg, hv⟩) (fun i row u hi hu => ?_) (fun i j u u' b hi hj e e' => ?_) (by simpa using ⟨hmg, hm⟩)
  · match i with
    | 0 => obtain rfl := Option.some.inj hi; obtain rfl := Option.some.inj hu; exact ⟨cs, h1, h2 _⟩
    | 1 => obtain rfl := Option.some.inj hi; obtain rfl := Option.some.inj hu; exact ⟨_, h, RdEach_ints _⟩
    | i + 2 => simp at hi
  · match i, j with
    | 0, 0 => rfl
    | 1, 1 => rfl
    | 0, 1 => obtain rfl := Option.some.inj hi; obtain rfl := Option.some.inj hj; exact absurd e' (hd b e)
    | 1, 0 => obtain rfl := Option.some.inj hi; obtain rfl := Option.some.inj hj; exact absurd e (hd b e')
    | i + 2, _ => simp at hi
    | _, j + 2 => simp at hj
theorem range16 : List.range ops16.size = List.range' 0 (ops16.toList.take 6).length ++ (6 :: List.range' 7 (ops16.toList.drop 7).length) := by kernel_rfl
theorem spInfo : ∃ i, Try.prog.info? 70 = some i ∧ i.size = 1 ∧ i.bytes = 4 ∧ ∃ z, i.zero = some z ∧ z.cells.size = 1 := by
  obtain ⟨i0, hi, hs, hb, z, hz, hzc⟩ := (spTok 70 ti70 (by kernel_rfl)).info
  refine ⟨i0, hi, hs, hb, z, hz, ?_⟩
  have : z.cells.toList.length = 1 := by rw [hzc]; rfl
  simpa using this
/-- One mark more. -/
theorem growStep {may : Nat → Prop} {u : Value} {gs : List Value} {i : Int} {k n : Nat} {a : Act} {w : World} {vg g : Value} (hmay : ∀ b, w.heap.size ≤ b → may b) (hn : n < 35184372088000) (I : Stand spC 107 may (sG u gs i k (marksN i n)) a w ⟨[vg, g], []⟩) {Q : Exit → Act → World → Prop}
    (hQ : ∀ a' w' g', Stand spC 107 may (sG u gs i k (marksN i (n + 1))) a' w' ⟨[vg, g'], []⟩ → Kp may w ⟨[vg, g], []⟩ ⟨[some (rowG gs), some (rowU (marksN i n))], []⟩ w' ⟨[vg, g'], []⟩ ⟨[some (rowG gs), some (rowU (marksN i (n + 1)))], []⟩ →
      (∀ b, g.ownBlock = some b → ∀ (j : Nat) (x : Value), ((marksN i n).map (Value.int .u32))[j]? = some x → w'.cell? ((⟨b, 0, none⟩ : Addr).add j) = some x) → (∀ b, g'.ownBlock = some b → b < w.heap.size → g.ownBlock = some b) → Q .normal a' w') : (rS 16).wp Try.prog Q a w := by
  rw [rS16]
  refine wp_region ?_
  rw [range16]
  refine wpOps_app _ _ _ _ ?_
  have e16' := (e16 u gs i k (marksN i n)).trans (by rw [mark_F, marksN_len]; rfl : _ = some (Out.nrm [rV u, oL 0, ci .i64 i, ci .i64 (k : Int), oL 1, oL 2] ⟨[some (rowG gs), some (rowU (marksN i n)), some (rowU [M i (n : Int)])], []⟩))
  refine ops_nrm spTok spCk I (fun j hj => ?_) e16' fun a3 w3 ow3 I3 K3 => ?_
  · rw [List.getElem?_take_of_lt (by rw [List.length_take] at hj; omega), Array.getElem?_toList, Nat.zero_add]
  obtain ⟨vg', cgs, hvg', hgsl, hgown, hgrd⟩ := I3.mem.own (r := 0) (row := rowG gs) rfl rfl rfl
  obtain ⟨g', csg, hg', hsl, hown, hrd⟩ := I3.mem.own (r := 1) (row := rowU (marksN i n)) rfl rfl rfl
  obtain ⟨ve, cse, hve, hesl, heown, herd⟩ := I3.mem.own (r := 2) (row := rowU [M i (n : Int)]) rfl rfl rfl
  obtain rfl : vg = vg' := Option.some.inj ((K3.rv 0 vg rfl).symm.trans hvg')
  obtain rfl : g = g' := Option.some.inj ((K3.rv 1 g rfl).symm.trans hg')
  obtain rfl := RdEach_ints' hrd
  obtain rfl := RdEach_ints' herd
  have hown : w3.ownsRow 0 70 1 g (marksN i n).length ((marksN i n).map (Value.int .u32)) := hown
  have heown : w3.ownsRow 0 70 1 ve 1 [Value.int .u32 (M i (n : Int))] := heown
  have hbk : ∀ (r : Nat) (row : Row) (v : Value), (⟨[some (rowG gs), some (rowU (marksN i n)), some (rowU [M i (n : Int)])], []⟩ : Mem).row? r = some row → row.rw = true → ow3.rv[r]? = some v → (∃ A n c, v = Value.slice A n c) → ∀ b, v.ownBlock = some b → blk ow3 ⟨[some (rowG gs), some (rowU (marksN i n)), some (rowU [M i (n : Int)])], []⟩ (.row r) = some b := by
    intro r row v h1 h2 h3 h4 b e
    rw [blk_row h1 h3 h2, oblk_own h4]; exact e
  have hdis : ∀ b, vg.ownBlock = some b → g.ownBlock ≠ some b := fun b e1 e2 => by
    have := I3.mem.dis _ _ b (hbk 0 _ vg rfl rfl hvg' hgsl b e1) (hbk 1 _ g rfl rfl hg' hsl b e2)
    cases this
  have hmg : ∀ b, vg.ownBlock = some b → may b := fun b e => (I3.mem.may_ _ b (hbk 0 _ vg rfl rfl hvg' hgsl b e)).1
  have hmv : ∀ b, g.ownBlock = some b → may b := fun b e => (I3.mem.may_ _ b (hbk 1 _ g rfl rfl hg' hsl b e)).1
  show wpOps Try.prog ops16 Q (6 :: List.range' 7 (ops16.toList.drop 7).length) a3 w3
  obtain ⟨o, ho, hog, hod, hop⟩ := o16
  refine wpOps_one ho hog ?_
  obtain ⟨i0, hi, hs, hb, z, hz, hzs⟩ := spInfo
  have h50 : a3.eval (.tmp 50) = g := by
    have h : SVRel w3 (okOf ow3 _) may ow3 _ (oL 1) (a3.tmps.getD 50 undef) := I3.fr 50
    have h : ow3.rv[1]? = some (a3.tmps.getD 50 undef) ∧ _ := h
    exact Option.some.inj (h.1.symm.trans hg')
  have h55 : a3.eval (.tmp 55) = ve := by
    have h : SVRel w3 (okOf ow3 _) may ow3 _ (oL 2) (a3.tmps.getD 55 undef) := I3.fr 55
    have h : ow3.rv[2]? = some (a3.tmps.getD 55 undef) ∧ _ := h
    exact Option.some.inj (h.1.symm.trans hve)
  obtain ⟨ge, ce, rfl⟩ : ∃ ge ce, ve = .slice (some ⟨ge, 0, none⟩) 1 ce := by
    rcases heown.2 with ⟨_, h⟩ | ⟨ge, ce, _, h, _⟩
    · cases h
    · exact ⟨ge, ce, h⟩
  refine wp_append_keeps (.tmp 50) (.tmp 55) 22 hop 70 i0 z 1 4 Try.underlying22 hi hz hs hb hzs (by decide) g _ _ h50 hown ⟨ge, 0, none⟩ 1 ce [Value.int .u32 (M i (n : Int))] h55 rfl (fun j x hj => World.ownsRow.cells heown rfl j x hj) (by simp [Value.oneCell']) (by rw [marksN_len]; unfold maxLen; omega) (by rw [marksN_len]; omega) fun v' w4 h1 h2 h3 h4 => ?_
  rw [hod]
  rw [← List.map_singleton, ← List.map_append, marksN_succ, marksN_len] at h1
  have h1 : w4.ownsRow 0 70 1 v' (marksN i (n + 1)).length ((marksN i (n + 1)).map (Value.int .u32)) := by rw [marksN_len]; exact h1
  have hsl' : ∃ A n c, v' = Value.slice A n c := by
    obtain ⟨A, c, e⟩ := ownsRow.slice h1
    exact ⟨A, _, c, e⟩
  have hsame : ∀ b, b < w3.heap.size → g.ownBlock ≠ some b → w4.heap[b]? = w3.heap[b]? := fun b hb hne => h2.block b hb fun e => hne e.symm
  have hgown' : w4.ownsRow 0 22 1 vg gs.length cgs := ownsRow_same hgown fun b e => hsame b (World.ownsRow.lt hgown b e).2 (hdis b e)
  have hdis' : ∀ b, vg.ownBlock = some b → v'.ownBlock ≠ some b := fun b e1 e2 => hdis b e1 (h4 b e2 (World.ownsRow.lt hgown b e1).2)
  have hmv' : ∀ b, v'.ownBlock = some b → may b := fun b e => by
    by_cases hb : b < w3.heap.size
    · exact hmv b (h4 b e hb)
    · exact hmay b (by have := K3.size; omega)
  have M4 : MemRel w4 may ⟨[vg, v'], []⟩ ⟨[some (rowG gs), some (rowU (marksN i (n + 1)))], []⟩ := memTwo hgsl hsl' hgown' (fun ok => RdEach.flat rfl hgrd) h1 hdis' hmg hmv'
  have hN : (56 : Nat) < a3.tmps.size := by rw [I3.size]; decide
  have I5 : Stand spC 107 may ⟨[(0, rV u), (5, oL 0), (6, ci .i64 i), (8, ci .i64 (k : Int)), (56, oL 1)], ⟨[some (rowG gs), some (rowU (marksN i (n + 1)))], []⟩⟩ (a3.put (some 56) v') w4 ⟨[vg, v'], []⟩ := by
    refine ⟨liveS fun b h => hmay b (by have := K3.size; have := h2.size; omega), M4, FrRel.of ⟨?_, ?_, ?_, ?_, ?_, trivial⟩, by rw [put_size]; exact I3.size, by rw [put_defers']; exact I3.defers⟩
    · have h : SVRel w3 _ may ow3 _ (rV u) (a3.tmps.getD 0 undef) := I3.fr 0
      show SVRel _ _ _ _ _ _ ((a3.put (some 56) v').tmps.getD 0 undef)
      rw [get_put_other (t := 0) (by decide)]; exact h
    · have h : SVRel w3 _ may ow3 _ (oL 0) (a3.tmps.getD 5 undef) := I3.fr 5
      have h : ow3.rv[0]? = some (a3.tmps.getD 5 undef) ∧ _ := h
      show SVRel _ _ _ _ _ _ ((a3.put (some 56) v').tmps.getD 5 undef)
      rw [get_put_other (t := 5) (by decide)]
      obtain e := Option.some.inj (hvg'.symm.trans h.1)
      exact ⟨by rw [← e]; rfl, h.2⟩
    · have h : SVRel w3 _ may ow3 _ (ci .i64 i) (a3.tmps.getD 6 undef) := I3.fr 6
      show SVRel _ _ _ _ _ _ ((a3.put (some 56) v').tmps.getD 6 undef)
      rw [get_put_other (t := 6) (by decide)]; exact h
    · have h : SVRel w3 _ may ow3 _ (ci .i64 (k : Int)) (a3.tmps.getD 8 undef) := I3.fr 8
      show SVRel _ _ _ _ _ _ ((a3.put (some 56) v').tmps.getD 8 undef)
      rw [get_put_other (t := 8) (by decide)]; exact h
    · show SVRel _ _ _ _ _ _ _
      rw [get_put_same hN]
      exact ⟨rfl, hsl'⟩
  have KpA : Kp may w3 ow3 ⟨[some (rowG gs), some (rowU (marksN i n)), some (rowU [M i (n : Int)])], []⟩ w4 ⟨[vg, v'], []⟩ ⟨[some (rowG gs), some (rowU (marksN i (n + 1)))], []⟩ := by
    have hne : ∀ b, okOf ow3 ⟨[some (rowG gs), some (rowU (marksN i n)), some (rowU [M i (n : Int)])], []⟩ b → vg.ownBlock ≠ some b ∧ g.ownBlock ≠ some b := fun b h => ⟨fun e => h _ (hbk 0 _ vg rfl rfl hvg' hgsl b e), fun e => h _ (hbk 1 _ g rfl rfl hg' hsl b e)⟩
    refine ⟨fun b hb h => ⟨(okTwo hgsl hsl').2 ⟨(hne b h).1, fun e => (hne b h).2 (h4 b e hb)⟩, Nat.lt_of_lt_of_le hb h2.size, hsame b hb (hne b h).2⟩, h2.size, fun b hb hm => hsame b hb fun e => hm (hmv b e), h2.os, h2.tape, h2.output⟩
  have hcells : ∀ b, g.ownBlock = some b → ∀ (j : Nat) (x : Value), ((marksN i n).map (Value.int .u32))[j]? = some x → w4.cell? ((⟨b, 0, none⟩ : Addr).add j) = some x := h3
  refine ops_nrm spTok spCk (l := ops16.toList.drop 7) I5 (fun j hj => ?_) (e16b u gs i k (marksN i (n + 1))) fun a6 w6 ow6 I6 K6 => ?_
  · rw [List.getElem?_drop, Array.getElem?_toList]
  obtain rfl : ow6 = ⟨[vg, v'], []⟩ := Ow.ext' (K6.rv_eq M4 I6.mem rfl) (I6.mem.bb_nil rfl)
  refine hQ a6 w6 v' I6 ((K3.kp.trans KpA).trans K6.kp) (fun b e j x hj => ?_) (fun b e hb => h4 b e (by have := K3.size; omega))
  have hb4 : b < w4.heap.size := Nat.lt_of_lt_of_le (World.ownsRow.lt hown b e).2 h2.size
  by_cases he : v'.ownBlock = some b
  · obtain ⟨v6, cs6, hv6, _, ho6, hr6⟩ := I6.mem.own (r := 1) (row := rowU (marksN i (n + 1))) rfl rfl rfl
    obtain rfl : v' = v6 := Option.some.inj hv6
    obtain rfl := RdEach_ints' hr6
    refine World.ownsRow.cells ho6 he j x ?_
    rw [← marksN_succ, List.map_append, List.getElem?_append_left (List.getElem?_eq_some_iff.1 hj).1]; exact hj
  · exact K6.stay.cell (by rw [Addr.add_block]; exact (okTwo hgsl hsl').2 ⟨fun e' => hdis b e' e, he⟩) (hcells b e j x hj)
end Go.Fx.Try

namespace Go.Fx.Try
open Go Go.Proofs Go.Fx Go.RowKit
set_option linter.unusedVariables false
set_option linter.unusedSimpArgs false
set_option maxRecDepth 100000
theorem marksN_pre {i : Int} {n k j : Nat} {x : Value} (h : ((marksN i n).map (Value.int .u32))[j]? = some x) : ((marksN i (n + k)).map (Value.int .u32))[j]? = some x := by
  have hj : j < n := by have := (List.getElem?_eq_some_iff.1 h).1; rw [List.length_map, marksN_len] at this; exact this
  rw [← h]
  simp [marksN, hj, show j < n + k by omega]
abbrev KU : K := .sl 70 (.int .u32)
/-- 16 marks more. -/
theorem growOne {may : Nat → Prop} {u : Value} {gs : List Value} {i : Int} {n : Nat} {a : Act} {w : World} {vg v : Value} (hmay : ∀ b, w.heap.size ≤ b → may b) (hn : n + 16 < 35184372088000) (I : Stand spC 107 may (sG u gs i 0 (marksN i n)) a w ⟨[vg, v], []⟩) {Q : Exit → Act → World → Prop}
    (hQ : ∀ a' w' g, Stand spC 107 may (sG u gs i (16 : Nat) (marksN i (n + 16))) a' w' ⟨[vg, g], []⟩ → Kp may w ⟨[vg, v], []⟩ ⟨[some (rowG gs), some (rowU (marksN i n))], []⟩ w' ⟨[vg, g], []⟩ ⟨[some (rowG gs), some (rowU (marksN i (n + 16)))], []⟩ →
      (∀ b, v.ownBlock = some b → ∀ (j : Nat) (x : Value), ((marksN i n).map (Value.int .u32))[j]? = some x → w'.cell? ((⟨b, 0, none⟩ : Addr).add j) = some x) → (∀ b, g.ownBlock = some b → b < w.heap.size → v.ownBlock = some b) → Q .normal a' w') :
    (Code.block 6 (.loop (.seq hBi (.seq (.block 7 (rS 16)) (rS 15))))).wp Try.prog Q a w := by
  obtain ⟨vg', cgs, hvg', hgsl, hgown, hgrd⟩ := I.mem.own (r := 0) (row := rowG gs) rfl rfl rfl
  obtain ⟨v', csv, hv', hvsl, hvown, hvrd⟩ := I.mem.own (r := 1) (row := rowU (marksN i n)) rfl rfl rfl
  obtain rfl : vg = vg' := Option.some.inj hvg'
  obtain rfl : v = v' := Option.some.inj hv'
  obtain rfl := RdEach_ints' hvrd
  have hvg0 : ∀ b, vg.ownBlock = some b → v.ownBlock ≠ some b := fun b e1 e2 => by
    have h1 : blk ⟨[vg, v], []⟩ ⟨[some (rowG gs), some (rowU (marksN i n))], []⟩ (.row 0) = some b := by rw [blk_row rfl rfl rfl, oblk_own hgsl]; exact e1
    have h2 : blk ⟨[vg, v], []⟩ ⟨[some (rowG gs), some (rowU (marksN i n))], []⟩ (.row 1) = some b := by rw [blk_row rfl rfl rfl, oblk_own hvsl]; exact e2
    cases I.mem.dis _ _ b h1 h2
  -- what the list held is there still, whatever a step of the reading does
  have carry : ∀ {k : Nat} {g : Value} {w1 w2 : World} {a2 : Act} {z : Int}, (∃ A n c, g = Value.slice A n c) → Kp may w1 ⟨[vg, g], []⟩ ⟨[some (rowG gs), some (rowU (marksN i (n + k)))], []⟩ w2 ⟨[vg, g], []⟩ ⟨[some (rowG gs), some (rowU (marksN i (n + k)))], []⟩ → Stand spC 107 may (sG u gs i z (marksN i (n + k))) a2 w2 ⟨[vg, g], []⟩ →
      (∀ b, v.ownBlock = some b → ∀ (j : Nat) (x : Value), ((marksN i n).map (Value.int .u32))[j]? = some x → w1.cell? ((⟨b, 0, none⟩ : Addr).add j) = some x) → (∀ b, v.ownBlock = some b → ∀ (j : Nat) (x : Value), ((marksN i n).map (Value.int .u32))[j]? = some x → w2.cell? ((⟨b, 0, none⟩ : Addr).add j) = some x) := by
    intro k g w1 w2 a2 z hg Kp1 J P b e j x hj
    by_cases he : g.ownBlock = some b
    · obtain ⟨g', cs, h1, _, h2, h3⟩ := J.mem.own (r := 1) (row := rowU (marksN i (n + k))) rfl rfl rfl
      obtain rfl : g = g' := Option.some.inj h1
      obtain rfl := RdEach_ints' h3
      exact World.ownsRow.cells h2 he j x (marksN_pre hj)
    · exact Kp1.stay.cell (by rw [Addr.add_block]; exact (okTwo hgsl hg).2 ⟨fun e' => hvg0 b e' e, he⟩) (P b e j x hj)
  refine wp_block (wp_loop (fun a' w' => ∃ (k : Nat) (g : Value), k ≤ 16 ∧ Stand spC 107 may (sG u gs i (k : Int) (marksN i (n + k))) a' w' ⟨[vg, g], []⟩ ∧ Kp may w ⟨[vg, v], []⟩ ⟨[some (rowG gs), some (rowU (marksN i n))], []⟩ w' ⟨[vg, g], []⟩ ⟨[some (rowG gs), some (rowU (marksN i (n + k)))], []⟩ ∧
      (∀ b, v.ownBlock = some b → ∀ (j : Nat) (x : Value), ((marksN i n).map (Value.int .u32))[j]? = some x → w'.cell? ((⟨b, 0, none⟩ : Addr).add j) = some x) ∧ (∀ b, g.ownBlock = some b → b < w.heap.size → v.ownBlock = some b))
    (fun a' _ => 16 - slotN 8 a') ⟨0, v, by omega, I, Kp.refl _ _ _ _, fun b e j x hj => World.ownsRow.cells hvown e j x hj, fun b e _ => e⟩ ?_)
  rintro a1 w1 ⟨k, g, hk, I1, K1, P1, B1⟩
  have h8 : slotN 8 a1 = k := I1.slotN rfl
  obtain ⟨g', _, hg', hgsl1, _, _⟩ := I1.mem.own (r := 1) (row := rowU (marksN i (n + k))) rfl rfl rfl
  obtain rfl : g = g' := Option.some.inj hg'
  by_cases hlt : k < 16
  · have hk1 : (k : Int) < 16 := by omega
    refine wp_seq (goO_ok spTok spCk mix I1 ((eBi u gs i k (marksN i (n + k))).trans (by rw [decide_eq_true hk1]; rfl)) (fun vs' m' a2 w2 ow2 e I2 K2 => ?_) (fun j vs' m' a2 w2 ow2 e => by cases e) (fun vs' m' a2 w2 ow2 e => by cases e))
    cases e
    obtain rfl : ow2 = ⟨[vg, g], []⟩ := Ow.ext' (K2.rv_eq I1.mem I2.mem rfl) (I2.mem.bb_nil rfl)
    have P2 := carry hgsl1 K2.kp I2 P1
    refine wp_seq (wp_block (growStep (n := n + k) (k := k) (fun b h => hmay b (by have := K1.size; have := K2.size; omega)) (by omega) I2 fun a3 w3 g3 I3 K3 P3 B3 => ?_))
    obtain ⟨g', _, hg', hgsl3, _, _⟩ := I3.mem.own (r := 1) (row := rowU (marksN i (n + k + 1))) rfl rfl rfl
    obtain rfl : g3 = g' := Option.some.inj hg'
    have P3' : ∀ b, v.ownBlock = some b → ∀ (j : Nat) (x : Value), ((marksN i n).map (Value.int .u32))[j]? = some x → w3.cell? ((⟨b, 0, none⟩ : Addr).add j) = some x := fun b e j x hj => by
      by_cases he : g.ownBlock = some b
      · exact P3 b he j x (marksN_pre hj)
      · exact K3.stay.cell (by rw [Addr.add_block]; exact (okTwo hgsl hgsl1).2 ⟨fun e' => hvg0 b e' e, he⟩) (P2 b e j x hj)
    refine goO_ok spTok spCk mix I3 (e15 u gs i k (marksN i (n + k + 1))) (fun vs' m' a4 w4 ow4 e I4 K4 => ?_) (fun j vs' m' a4 w4 ow4 e => by cases e) (fun vs' m' a4 w4 ow4 e => by cases e)
    cases e
    obtain rfl : ow4 = ⟨[vg, g3], []⟩ := Ow.ext' (K4.rv_eq I3.mem I4.mem rfl) (I4.mem.bb_nil rfl)
    rw [wrapS (show k < 4611686018427387904 by omega)] at I4
    refine ⟨⟨k + 1, g3, by omega, I4, ((K1.trans K2.kp).trans K3).trans K4.kp, carry (k := k + 1) hgsl3 K4.kp I4 P3', fun b e hb => B1 b (B3 b e (by have := K1.size; have := K2.size; omega)) hb⟩, ?_⟩
    have h9 : slotN 8 a4 = k + 1 := I4.slotN rfl
    show 16 - slotN 8 a4 < 16 - slotN 8 a1
    omega
  · have hk1 : ¬ (k : Int) < 16 := by omega
    refine wp_seq (goO_ok spTok spCk mix I1 ((eBi u gs i k (marksN i (n + k))).trans (by rw [decide_eq_false hk1]; rfl)) (fun vs' m' a2 w2 ow2 e => by cases e) (fun j vs' m' a2 w2 ow2 e I2 K2 => ?_) (fun vs' m' a2 w2 ow2 e => by cases e))
    cases e
    obtain rfl : ow2 = ⟨[vg, g], []⟩ := Ow.ext' (K2.rv_eq I1.mem I2.mem rfl) (I2.mem.bb_nil rfl)
    obtain rfl : k = 16 := by omega
    simp only [Exit.then, Exit.inBlock, if_true]
    exact hQ a2 w2 g I2 (K1.trans K2.kp) (carry hgsl1 K2.kp I2 P1) B1
set_option maxRecDepth 100000
abbrev mB (gs : List Value) : Mem := ⟨[some (rowG gs)], []⟩
abbrev sB (vs gs : List Value) (i : Int) : S := ⟨[(0, slH vs), (5, oL 0), (6, ci .i64 i)], mB gs⟩
theorem okG {vg : Value} {gs : List Value} (hg : ∃ A n c, vg = Value.slice A n c) {b : Nat} : okOf ⟨[vg], []⟩ (mB gs) b ↔ vg.ownBlock ≠ some b := by
  have := okOf_rows (rows := [rowG gs]) (rv := [vg]) rfl (by simp) (by simpa using hg) (b := b)
  simpa using this
theorem memG {w : World} {may : Nat → Prop} {vg : Value} {gs cs : List Value} (hg : ∃ A n c, vg = Value.slice A n c) (h1 : w.ownsRow 0 22 1 vg gs.length cs) (h2 : ∀ ok, RdEach w ok .hd gs cs) (hm : ∀ b, vg.ownBlock = some b → may b) : MemRel w may ⟨[vg], []⟩ (mB gs) := by
  refine MemRel.ofRows (rows := [rowG gs]) (rv := [vg]) rfl (by simp) (by simpa using hg) (fun i row u hi hu => ?_) (fun i j u u' b hi hj _ _ => ?_) (by simpa using hm)
  · cases i with
    | zero => obtain rfl := Option.some.inj hi; obtain rfl := Option.some.inj hu; exact ⟨cs, h1, h2 _⟩
    | succ i => simp at hi
  · have := (List.getElem?_eq_some_iff.1 hi).1
    have := (List.getElem?_eq_some_iff.1 hj).1
    simp at *
    omega
/-- Where the lists that are done lie, and those that grew out of them. -/
def dn (w0 : World) (vg v : Value) (b : Nat) : Prop := vg.ownBlock ≠ some b ∧ (v.ownBlock = some b ∨ w0.heap.size ≤ b)
structure Grown (w0 w : World) (vs : List Value) (yss : List (List Int)) (vg : Value) (gs : List Value) (i : Nat) : Prop where
  len : gs.length = i
  ylen : yss.length = vs.length
  done : ∀ (j : Nat) (v : Value) (ys : List Int), j < i → vs[j]? = some v → yss[j]? = some ys → ∃ g, gs[j]? = some g ∧ Rd w (dn w0 vg v) KU ys [v] ∧ Rd w (dn w0 vg v) KU (marksN j (ys.length + 16)) [g]
  todo : ∀ (j : Nat) (v : Value) (ys : List Int), i ≤ j → vs[j]? = some v → yss[j]? = some ys → w.ownsRow 0 70 1 v ys.length (ys.map (Value.int .u32))
  new : ∀ b, vg.ownBlock = some b → w0.heap.size ≤ b
theorem Grown.keep {w0 w w' : World} {vs : List Value} {yss : List (List Int)} {vg : Value} {gs : List Value} {i : Nat} (V : SpV w0 vs) (X : SpX w0 w vs) (G : Grown w0 w vs yss vg gs i) (h : ∀ b, b < w.heap.size → vg.ownBlock ≠ some b → b < w'.heap.size ∧ w'.heap[b]? = w.heap[b]?) : Grown w0 w' vs yss vg gs i := by
  have st : ∀ v, Stay w (dn w0 vg v) w' (dn w0 vg v) := fun v b hb hd => ⟨hd, h b hb hd.1⟩
  refine ⟨G.len, G.ylen, fun j v ys hj hv hy => ?_, fun j v ys hj hv hy => ?_, G.new⟩
  · obtain ⟨g, h1, h2, h3⟩ := G.done j v ys hj hv hy
    exact ⟨g, h1, h2.keep (st v), h3.keep (st v)⟩
  · refine ownsRow_same (G.todo j v ys hj hv hy) fun b hb => (h b ?_ fun e => ?_).2
    · exact Nat.lt_of_lt_of_le (V.lt v (List.mem_of_getElem? hv) b hb) X.size
    · have := V.lt v (List.mem_of_getElem? hv) b hb
      have := G.new b e
      omega
theorem growAll {w0 : World} {vs : List Value} (V : SpV w0 vs) {a : Act} {w : World} {yss : List (List Int)} {Q : Exit → Act → World → Prop} (X : SpX w0 w vs) (R : SpR w vs yss) (hb : ∀ ys ∈ yss, ys.length < 35184372087000) (hvl : vs.length < 5864062014000)
    (hm : ∀ (i : Nat) (ys : List Int), yss[i]? = some ys → ys = marksN i ys.length)
    (I : Stand spC 107 (offF vs) ⟨[(0, slH vs), (5, .one (.lf .nil))], ⟨[], []⟩⟩ a w ⟨[], []⟩)
    (hQ : ∀ (vg : Value) (gs : List Value) a' w', SpX w0 w' vs → Grown w0 w' vs yss vg gs vs.length → Stand spC 107 (offF vs) (sB vs gs (vs.length : Int)) a' w' ⟨[vg], []⟩ → Q .normal a' w') :
    (Code.seq (rS 9) (.block 4 (.loop (.seq hB (.seq (.block 5 (.seq (rS 12) (.seq (.seq (rS 13) (.block 6 (.loop (.seq hBi (.seq (.block 7 (rS 16)) (rS 15)))))) (rS 17)))) (rS 11)))))).wp Try.prog Q a w := by
  have e5 : a.tmps.getD 5 undef = .slice none 0 0 := I.fr 5
  have I0 : Stand spC 107 (offF vs) ⟨[(0, slH vs), (5, oL 0)], mB []⟩ a w ⟨[.slice none 0 0], []⟩ := by
    refine ⟨liveS fun b h => V.new X h, memG ⟨_, _, _, rfl⟩ (World.ownsRow_nil _ _ _ _) (fun ok => rfl) (fun b e => by cases e), FrRel.of ⟨?_, ?_, trivial⟩, I.size, I.defers⟩
    · exact Rd.mono (fun b h => ⟨(okG ⟨_, _, _, rfl⟩).2 (by simp [Value.ownBlock]), h.2⟩) (I.fr 0 : Rd _ _ _ _ _)
    · show SVRel _ _ _ _ _ (oL 0) (a.tmps.getD 5 undef)
      rw [e5]
      exact ⟨rfl, _, _, _, rfl⟩
  refine wp_seq (goO_ok spTok spCk mix I0 (e9 vs []) (fun vs' m' a1 w1 ow1 e I1 K1 => ?_) (fun j vs' m' a2 w2 ow2 e => by cases e) (fun vs' m' a2 w2 ow2 e => by cases e))
  cases e
  obtain rfl : ow1 = ⟨[.slice none 0 0], []⟩ := Ow.ext' (K1.rv_eq I0.mem I1.mem rfl) (I1.mem.bb_nil rfl)
  have hall : ∀ b, okOf ⟨[.slice none 0 0], []⟩ (mB []) b := fun b => (okG ⟨_, _, _, rfl⟩).2 (by simp [Value.ownBlock])
  have X1 := X.keep K1 fun b _ _ => hall b
  have R1 := R.keep (w' := w1) fun v hv b e => (K1.stay b (Nat.lt_of_lt_of_le (V.lt v hv b e) X.size) (hall b)).2.2
  refine wp_block (wp_loop (fun a' w' => ∃ (i : Nat) (gs : List Value) (vg : Value), i ≤ vs.length ∧ SpX w0 w' vs ∧ Grown w0 w' vs yss vg gs i ∧ Stand spC 107 (offF vs) (sB vs gs (i : Int)) a' w' ⟨[vg], []⟩)
    (fun a' _ => vs.length - slotN 6 a') ⟨0, [], .slice none 0 0, Nat.zero_le _, X1, ⟨rfl, R1.1, fun j v ys h => absurd h (Nat.not_lt_zero _), fun j v ys _ hv hy => R1.2 j v ys hv hy, (fun b e => by cases e)⟩, I1⟩ ?_)
  clear I I0 I1 K1 X R X1 R1 hall e5
  rintro a1 w1 ⟨i, gs, vg, hi, X1, G1, I1⟩
  have h6 : slotN 6 a1 = i := I1.slotN rfl
  obtain ⟨vg', cgs, hvg', hgsl, hgown, hgrd⟩ := I1.mem.own (r := 0) (row := rowG gs) rfl rfl rfl
  obtain rfl : vg = vg' := Option.some.inj hvg'
  have okold : ∀ b, b < w0.heap.size → okOf ⟨[vg], []⟩ (mB gs) b := fun b hb => (okG hgsl).2 fun e => by have := G1.new b e; omega
  by_cases hlt : i < vs.length
  · have hi1 : (i : Int) < (vs.length : Int) := by omega
    refine wp_seq (goO_ok spTok spCk mix I1 ((eB vs gs i).trans (by rw [decide_eq_true hi1]; rfl)) (fun vs' m' a2 w2 ow2 e I2 K2 => ?_) (fun j vs' m' a2 w2 ow2 e => by cases e) (fun vs' m' a2 w2 ow2 e => by cases e))
    cases e
    obtain rfl : ow2 = ⟨[vg], []⟩ := Ow.ext' (K2.rv_eq I1.mem I2.mem rfl) (I2.mem.bb_nil rfl)
    obtain ⟨vg', cgs2, hvg', _, hgown2, hgrd2⟩ := I2.mem.own (r := 0) (row := rowG gs) rfl rfl rfl
    obtain rfl : vg = vg' := Option.some.inj hvg'
    obtain ⟨v, hv⟩ : ∃ v, vs[i]? = some v := ⟨_, List.getElem?_eq_getElem hlt⟩
    have hvm : v ∈ vs := List.mem_of_getElem? hv
    have hsl := V.slice v hvm
    obtain ⟨ys, hy⟩ : ∃ ys, yss[i]? = some ys := ⟨_, List.getElem?_eq_getElem (by rw [G1.ylen]; exact hlt)⟩
    have hylen := hb ys (List.mem_of_getElem? hy)
    have hold := G1.todo i v ys (Nat.le_refl _) hv hy
    obtain ⟨n, rfl⟩ : ∃ n, ys = marksN i n := ⟨_, hm i ys hy⟩
    rw [marksN_len] at hylen
    have X2 := X1.keep K2 fun b hb _ => okold b hb
    have hown2 : w2.ownsRow 0 70 1 v (marksN i n).length ((marksN i n).map (Value.int .u32)) := ownsRow_same hold fun b e => (K2.stay b (Nat.lt_of_lt_of_le (V.lt v hvm b e) X1.size) (okold b (V.lt v hvm b e))).2.2
    have hvgv : ∀ b, vg.ownBlock = some b → v.ownBlock ≠ some b := fun b e e' => by
      have := G1.new b e
      have := V.lt v hvm b e'
      omega
    have I3 : Stand spC 107 (mayF vs v) ⟨[(0, .hsl 22 vs (i : Int) 1), (5, oL 0), (6, ci .i64 (i : Int))], ⟨[some (rowG gs), some (rowU (marksN i n))], []⟩⟩ a2 w2 ⟨[vg, v], []⟩ := by
      refine ⟨liveS fun b h => .inl (V.new X2 h), memTwo hgsl hsl hgown2 (fun ok => RdEach.flat rfl hgrd2) hown2 hvgv (fun b e => .inl fun v' hv' e' => ?_) (fun b e => .inr e), FrRel.of ⟨?_, ?_, ?_, trivial⟩, I2.size, I2.defers⟩
      · have := G1.new b e
        have := V.lt v' hv' b e'
        omega
      · exact ⟨Rd.mono (fun b h => ⟨(okTwo hgsl hsl).2 ⟨(okG hgsl).1 h.1, h.2 rfl v hvm⟩, fun _ => .inl (h.2 rfl)⟩) (I2.fr 0 : Rd _ _ _ _ _), Int.natCast_nonneg i, v, by simpa using hv, rfl⟩
      · have h : ([vg] : List Value)[0]? = some (a2.tmps.getD 5 undef) ∧ _ := I2.fr 5
        exact ⟨h.1, h.2⟩
      · exact (I2.fr 6 : SVRel _ _ _ _ _ _ _)
    refine wp_seq (wp_block (wp_seq (goO_ok spTok spCk mix I3 ((e12 vs gs i (marksN i n)).trans (by rw [decide_eq_true rfl]; rfl)) (fun vs' m' a4 w4 ow4 e I4 K4 => ?_) (fun j vs' m' a2 w2 ow2 e => by cases e) (fun vs' m' a2 w2 ow2 e => by cases e))))
    cases e
    obtain rfl : ow4 = ⟨[vg, v], []⟩ := Ow.ext' (K4.rv_eq I3.mem I4.mem rfl) (I4.mem.bb_nil rfl)
    obtain ⟨u, hu⟩ : ∃ u, u = a4.tmps.getD 0 undef := ⟨_, rfl⟩
    have S0 : Rd w4 (fun b => vg.ownBlock ≠ some b ∧ offF vs b) (.sl 22 .hd) vs [u] := by
      rw [hu]
      have h : SVRel w4 _ (mayF vs v) _ _ (.hsl 22 vs (i : Int) 1) (a4.tmps.getD 0 undef) := I4.fr 0
      exact Rd.mono (fun b hb => ⟨((okTwo hgsl hsl).1 hb.1).1, (hb.2 rfl).resolve_right ((okTwo hgsl hsl).1 hb.1).2⟩) h.1
    have I4' : Stand spC 107 (mayF vs v) ⟨[(0, rV u), (5, oL 0), (6, ci .i64 (i : Int)), (7, oL 1)], ⟨[some (rowG gs), some (rowU (marksN i n))], []⟩⟩ a4 w4 ⟨[vg, v], []⟩ := by
      refine ⟨I4.live, I4.mem, FrRel.of ⟨?_, I4.fr 5, I4.fr 6, I4.fr 7, trivial⟩, I4.size, I4.defers⟩
      show [a4.tmps.getD 0 undef] = [u] ∧ _
      exact ⟨by rw [hu], Rd.one S0 u (by simp)⟩
    refine wp_seq (wp_seq (goO_ok spTok spCk mix I4' (e13 u gs i (marksN i n)) (fun vs' m' a5 w5 ow5 e I5 K5 => ?_) (fun j vs' m' a2 w2 ow2 e => by cases e) (fun vs' m' a2 w2 ow2 e => by cases e)))
    cases e
    obtain rfl : ow5 = ⟨[vg, v], []⟩ := Ow.ext' (K5.rv_eq I4'.mem I5.mem rfl) (I5.mem.bb_nil rfl)
    have hs25 : w2.heap.size ≤ w5.heap.size := Nat.le_trans K4.size K5.size
    refine growOne (fun b h => .inl (V.new X2 (by omega))) (by omega) I5 fun a6 w6 g I6 K6 P6 B6 => ?_
    obtain ⟨vg', cgs6, hvg', _, hgown6, hgrd6⟩ := I6.mem.own (r := 0) (row := rowG gs) rfl rfl rfl
    obtain rfl : vg = vg' := Option.some.inj hvg'
    obtain ⟨g', csg, hg', hgsl6, hown6, hrd6⟩ := I6.mem.own (r := 1) (row := rowU (marksN i (n + 16))) rfl rfl rfl
    obtain rfl : g = g' := Option.some.inj hg'
    have hvgg : ∀ b, vg.ownBlock = some b → g.ownBlock ≠ some b := fun b e1 e2 => by
      have h1 : blk ⟨[vg, g], []⟩ ⟨[some (rowG gs), some (rowU (marksN i (n + 16)))], []⟩ (.row 0) = some b := by rw [blk_row rfl rfl rfl, oblk_own hgsl]; exact e1
      have h2 : blk ⟨[vg, g], []⟩ ⟨[some (rowG gs), some (rowU (marksN i (n + 16)))], []⟩ (.row 1) = some b := by rw [blk_row rfl rfl rfl, oblk_own hgsl6]; exact e2
      cases I6.mem.dis _ _ b h1 h2
    have I6' : Stand spC 107 (fun b => w0.heap.size ≤ b) ⟨[(0, rV u), (5, oL 0), (6, ci .i64 (i : Int)), (7, .one (.lf (.val true .hd g)))], mB gs⟩ a6 w6 ⟨[vg], []⟩ := by
      refine ⟨liveS fun b h => ?_, memG hgsl hgown6 (fun ok => RdEach.flat rfl hgrd6) G1.new, FrRel.of ⟨(I6.fr 0 : SVRel _ _ _ _ _ _ _), ?_, (I6.fr 6 : SVRel _ _ _ _ _ _ _), ?_, trivial⟩, I6.size, I6.defers⟩
      · have := X2.size
        have := K6.size
        omega
      · have h : ([vg, g] : List Value)[0]? = some (a6.tmps.getD 5 undef) ∧ _ := I6.fr 5
        exact ⟨h.1, h.2⟩
      · have h : ([vg, g] : List Value)[1]? = some (a6.tmps.getD 7 undef) ∧ _ := I6.fr 7
        have e := Option.some.inj h.1
        show [a6.tmps.getD 7 undef] = [g] ∧ _
        exact ⟨by rw [← e], hgsl6⟩
    have hlim : (decide (List.length gs + List.length [g] < lim 24)) = true := by
      have := G1.len
      rw [decide_eq_true_eq]
      simp only [List.length_singleton]
      show gs.length + 1 < 5864062014805
      omega
    refine goO_ok Hd.tabOk spCk mix I6' ((e17 u gs i g).trans (by rw [hlim]; rfl)) (fun vs' m' a7 w7 ow7 e I7 K7 => ?_) (fun j vs' m' a2 w2 ow2 e => by cases e) (fun vs' m' a2 w2 ow2 e => by cases e)
    cases e
    obtain ⟨vg2, cgs7, hvg2, hgsl7, hgown7, hgrd7⟩ := I7.mem.own (r := 2) (row := rowG (List.append gs [g])) rfl rfl rfl
    have blk7 : ∀ b, vg2.ownBlock = some b → blk ow7 ⟨[none, some ⟨22, .hd, true, false, [g]⟩, some (rowG (List.append gs [g]))], []⟩ (.row 2) = some b := fun b e => by
      rw [blk_row rfl hvg2 rfl, oblk_own hgsl7]; exact e
    have new2 : ∀ b, vg2.ownBlock = some b → w0.heap.size ≤ b := fun b e => (I7.mem.may_ _ b (blk7 b e)).1
    have st67 : ∀ b, b < w6.heap.size → vg.ownBlock ≠ some b → vg2.ownBlock ≠ some b ∧ b < w7.heap.size ∧ w7.heap[b]? = w6.heap[b]? := fun b hb h => by
      obtain ⟨h1, h2, h3⟩ := K7.stay b hb ((okG hgsl).2 h)
      exact ⟨fun e => h1 _ (blk7 b e), h2, h3⟩
    have st47 : ∀ b, b < w4.heap.size → vg.ownBlock ≠ some b → v.ownBlock ≠ some b → vg2.ownBlock ≠ some b ∧ b < w7.heap.size ∧ w7.heap[b]? = w4.heap[b]? := fun b hb h h' => by
      obtain ⟨_, h2, h3⟩ := K5.stay b hb ((okTwo hgsl hsl).2 ⟨h, h'⟩)
      obtain ⟨_, h5, h6⟩ := K6.stay b h2 ((okTwo hgsl hsl).2 ⟨h, h'⟩)
      obtain ⟨h7, h8, h9⟩ := st67 b h5 h
      exact ⟨h7, h8, (h9.trans h6).trans h3⟩
    have st17 : ∀ b, b < w1.heap.size → vg.ownBlock ≠ some b → v.ownBlock ≠ some b → vg2.ownBlock ≠ some b ∧ b < w7.heap.size ∧ w7.heap[b]? = w1.heap[b]? := fun b hb h h' => by
      obtain ⟨_, h2, h3⟩ := K2.stay b hb ((okG hgsl).2 h)
      obtain ⟨_, h5, h6⟩ := K4.stay b h2 ((okTwo hgsl hsl).2 ⟨h, h'⟩)
      obtain ⟨h7, h8, h9⟩ := st47 b h5 h h'
      exact ⟨h7, h8, (h9.trans h6).trans h3⟩
    have X7 : SpX w0 w7 vs := ⟨Nat.le_trans X2.size (Nat.le_trans hs25 (Nat.le_trans K6.size K7.size)), fun b hb ho => ((st17 b (Nat.lt_of_lt_of_le hb X1.size) ((okG hgsl).1 (okold b hb)) (ho v hvm)).2.2).trans (X1.block b hb ho),
      K7.os.trans (K6.os.trans (K5.os.trans (K4.os.trans X2.os))), K7.tape.trans (K6.tape.trans (K5.tape.trans (K4.tape.trans X2.tape))), K7.output.trans (K6.output.trans (K5.output.trans (K4.output.trans X2.output)))⟩
    have I7' : Stand spC 107 (offF vs) (sB vs (gs ++ [g]) i) a7 w7 ⟨[vg2], []⟩ := by
      refine ⟨liveS fun b h => V.new X7 h, memG hgsl7 hgown7 (fun ok => RdEach.flat rfl hgrd7) (fun b e v' hv' e' => ?_), FrRel.of ⟨?_, ?_, (I7.fr 6 : SVRel _ _ _ _ _ _ _), trivial⟩, I7.size, I7.defers⟩
      · have := new2 b e
        have := V.lt v' hv' b e'
        omega
      · have h : [a7.tmps.getD 0 undef] = [u] ∧ _ := I7.fr 0
        show Rd w7 _ (.sl 22 .hd) vs [a7.tmps.getD 0 undef]
        rw [h.1]
        exact S0.keep fun b hb ⟨h1, h2⟩ => by
          obtain ⟨h3, h4, h5⟩ := st47 b hb h1 (h2 v hvm)
          exact ⟨⟨(okG hgsl7).2 h3, fun _ => h2⟩, h4, h5⟩
      · have h : ow7.rv[2]? = some (a7.tmps.getD 5 undef) ∧ _ := I7.fr 5
        rw [hvg2] at h
        exact ⟨h.1, h.2⟩
    refine goO_ok spTok spCk mix I7' (e11 vs (gs ++ [g]) i) (fun vs' m' a8 w8 ow8 e I8 K8 => ?_) (fun j vs' m' a2 w2 ow2 e => by cases e) (fun vs' m' a2 w2 ow2 e => by cases e)
    cases e
    obtain rfl : ow8 = ⟨[vg2], []⟩ := Ow.ext' (K8.rv_eq I7'.mem I8.mem rfl) (I8.mem.bb_nil rfl)
    rw [wrapS (show i < 4611686018427387904 by omega)] at I8
    have G7 : Grown w0 w7 vs yss vg2 (gs ++ [g]) (i + 1) := by
      refine ⟨by rw [List.length_append, G1.len]; rfl, G1.ylen, fun j v' ys' hj hv' hy' => ?_, fun j v' ys' hj hv' hy' => ?_, new2⟩
      · by_cases e : j = i
        · subst e
          obtain rfl : v = v' := Option.some.inj (hv.symm.trans hv')
          obtain rfl := Option.some.inj (hy.symm.trans hy')
          have st : Stay w6 (dn w0 vg v) w7 (dn w0 vg2 v) := fun b hb hd => by
            obtain ⟨h1, h2⟩ := st67 b hb hd.1
            exact ⟨⟨h1, hd.2⟩, h2⟩
          refine ⟨g, by rw [← G1.len, List.getElem?_append_right (Nat.le_refl _), Nat.sub_self]; rfl, Rd.keep st ?_, Rd.keep st ?_⟩
          · exact rd_prefix hown2 (fun b e => Nat.lt_of_lt_of_le (V.lt v hvm b e) (Nat.le_trans X2.size (Nat.le_trans hs25 K6.size))) P6 fun b e => ⟨fun e' => hvgv b e' e, .inl e⟩
          · rw [marksN_len]
            refine ownsRow_rd hown6 (RdEach.flat rfl hrd6) fun b e => ⟨fun e' => hvgg b e' e, ?_⟩
            by_cases hb5 : b < w5.heap.size
            · exact .inl (B6 b e hb5)
            · exact .inr (by have := X2.size; omega)
        · obtain ⟨g1, h1, h2, h3⟩ := G1.done j v' ys' (by omega) hv' hy'
          have st : Stay w1 (dn w0 vg v') w7 (dn w0 vg2 v') := fun b hb hd => by
            obtain ⟨h1, h2⟩ := st17 b hb hd.1 fun e' => by
              rcases hd.2 with h | h
              · exact e (V.dis j i v' v b hv' hv h e')
              · have := V.lt v hvm b e'
                omega
            exact ⟨⟨h1, hd.2⟩, h2⟩
          exact ⟨g1, by rw [List.getElem?_append_left (List.getElem?_eq_some_iff.1 h1).1]; exact h1, h2.keep st, h3.keep st⟩
      · refine ownsRow_same (G1.todo j v' ys' (by omega) hv' hy') fun b e => (st17 b ?_ ?_ ?_).2.2
        · exact Nat.lt_of_lt_of_le (V.lt v' (List.mem_of_getElem? hv') b e) X1.size
        · exact (okG hgsl).1 (okold b (V.lt v' (List.mem_of_getElem? hv') b e))
        · intro e'
          have := V.dis j i v' v b hv' hv e e'
          omega
    have k8 : ∀ b, b < w7.heap.size → vg2.ownBlock ≠ some b → b < w8.heap.size ∧ w8.heap[b]? = w7.heap[b]? := fun b hb h => (K8.stay b hb ((okG hgsl7).2 h)).2
    refine ⟨⟨i + 1, gs ++ [g], vg2, by omega, X7.keep K8 fun b hb _ => (okG hgsl7).2 fun e => by have := new2 b e; omega, G7.keep V X7 k8, I8⟩, ?_⟩
    have h9 : slotN 6 a8 = i + 1 := I8.slotN rfl
    show vs.length - slotN 6 a8 < vs.length - slotN 6 a1
    omega
  · have hi1 : ¬ (i : Int) < (vs.length : Int) := by omega
    refine wp_seq (goO_ok spTok spCk mix I1 ((eB vs gs i).trans (by rw [decide_eq_false hi1]; rfl)) (fun vs' m' a2 w2 ow2 e => by cases e) (fun j vs' m' a2 w2 ow2 e I2 K2 => ?_) (fun vs' m' a2 w2 ow2 e => by cases e))
    cases e
    obtain rfl : ow2 = ⟨[vg], []⟩ := Ow.ext' (K2.rv_eq I1.mem I2.mem rfl) (I2.mem.bb_nil rfl)
    obtain rfl : i = vs.length := by omega
    simp only [Exit.then, Exit.inBlock, if_true]
    exact hQ vg gs a2 w2 (X1.keep K2 fun b hb _ => okold b hb) (G1.keep V X1 fun b hb h => (K2.stay b hb ((okG hgsl).2 h)).2) I2
set_option maxRecDepth 100000
abbrev tt : Nat → Prop := fun _ => True
abbrev sC (xs gs : List (List Int)) (i : Int) : S := ⟨[(0, slD xs), (5, slD gs), (9, ci .i64 i)], ⟨[], []⟩⟩
abbrev sC1 (xs gs : List (List Int)) (i k : Int) : S := ⟨[(0, slD xs), (5, slD gs), (9, ci .i64 i), (10, ci .i64 k)], ⟨[], []⟩⟩
abbrev sC2 (xs gs : List (List Int)) (i k : Int) : S := ⟨[(0, slD xs), (5, slD gs), (9, ci .i64 i), (11, ci .i64 k)], ⟨[], []⟩⟩
theorem owNone {may : Nat → Prop} {ow : Ow} {a : Act} {w : World} {fr : List (Nat × SV)} (J : Stand spC 107 may ⟨fr, ⟨[], []⟩⟩ a w ow) : ow = ⟨[], []⟩ :=
  Ow.ext' (List.length_eq_zero_iff.1 J.mem.rlen) (J.mem.bb_nil rfl)
/-- Lists that hold their marks. -/
def Marked (xs : List (List Int)) : Prop := ∀ (i : Nat) (ys : List Int), xs[i]? = some ys → ys = marksN i ys.length ∧ ys.length < 4611686018427387904
theorem marksN_at {i : Int} {n k : Nat} (h : k < n) : (marksN i n).getD k 0 = M i (k : Int) := by simp [marksN, h]
theorem Marked.at {xs : List (List Int)} (h : Marked xs) {i : Nat} (hi : i < xs.length) : ∃ n, xs.getD i [] = marksN i n ∧ n < 4611686018427387904 := by
  have e : xs[i]? = some xs[i] := List.getElem?_eq_getElem hi
  obtain ⟨h1, h2⟩ := h i _ e
  refine ⟨xs[i].length, ?_, h2⟩
  rw [List.getD_eq_getElem?_getD, e]; exact h1
theorem look1 {xs gs : List (List Int)} (hx : Marked xs) {i : Nat} (hi : i < xs.length) {a : Act} {w : World} {Q : Exit → Act → World → Prop} (I : Stand spC 107 tt (sC1 xs gs i 0) a w ⟨[], []⟩)
    (hQ : ∀ (k : Int) a' w', Stand spC 107 tt (sC1 xs gs i k) a' w' ⟨[], []⟩ → Kp tt w ⟨[], []⟩ ⟨[], []⟩ w' ⟨[], []⟩ ⟨[], []⟩ → Q .normal a' w') : (Code.block 10 (.loop cC1)).wp Try.prog Q a w := by
  obtain ⟨n, hn, hb⟩ := hx.at hi
  have hi1 : (decide (0 ≤ (i : Int)) && decide ((i : Int) < (xs.length : Int))) = true := by simp [hi]
  refine wp_block (wp_loop (fun a' w' => ∃ k : Nat, k ≤ n ∧ Stand spC 107 tt (sC1 xs gs i (k : Int)) a' w' ⟨[], []⟩ ∧ Kp tt w ⟨[], []⟩ ⟨[], []⟩ w' ⟨[], []⟩ ⟨[], []⟩) (fun a' _ => n - slotN 10 a') ⟨0, Nat.zero_le _, I, Kp.refl _ _ _ _⟩ ?_)
  rintro a1 w1 ⟨k, hk, I1, K1⟩
  have h10 : slotN 10 a1 = k := I1.slotN rfl
  by_cases hlt : k < n
  · have hk1 : (k : Int) < ((marksN i n).length : Int) := by rw [marksN_len]; omega
    have hk2 : (decide (0 ≤ (k : Int)) && decide ((k : Int) < ((marksN i n).length : Int))) = true := by rw [decide_eq_true hk1]; simp
    have e := eC1 xs gs i k
    rw [hi1, Int.toNat_natCast, hn, hk2, decide_eq_true hk1, mark_F] at e
    simp only [cond_true, Option.bind_some, Int.toNat_natCast, marksN_at hlt, beq_self_eq_true, Bool.not_true, cond_false, wrapS (show k < 4611686018427387904 by omega)] at e
    refine goO_ok spTok spCk mix I1 e (fun vs' m' a2 w2 ow2 e I2 K2 => ?_) (fun j vs' m' a2 w2 ow2 e => by cases e) (fun vs' m' a2 w2 ow2 e => by cases e)
    cases e
    obtain rfl := owNone I2
    refine ⟨⟨k + 1, by omega, I2, K1.trans K2.kp⟩, ?_⟩
    have h11 : slotN 10 a2 = k + 1 := I2.slotN rfl
    show n - slotN 10 a2 < n - slotN 10 a1
    omega
  · have hk1 : ¬ (k : Int) < ((marksN i n).length : Int) := by rw [marksN_len]; omega
    have e := eC1 xs gs i k
    rw [hi1, Int.toNat_natCast, hn, decide_eq_false hk1] at e
    simp only [cond_true, cond_false] at e
    refine goO_ok spTok spCk mix I1 e (fun vs' m' a2 w2 ow2 e => by cases e) (fun j vs' m' a2 w2 ow2 e I2 K2 => ?_) (fun vs' m' a2 w2 ow2 e => by cases e)
    cases e
    obtain rfl := owNone I2
    simp only [Exit.then, Exit.inBlock, if_true]
    exact hQ _ a2 w2 I2 (K1.trans K2.kp)
theorem look2 {xs gs : List (List Int)} (hx : Marked gs) {i : Nat} (hi : i < gs.length) {a : Act} {w : World} {Q : Exit → Act → World → Prop} (I : Stand spC 107 tt (sC2 xs gs i 0) a w ⟨[], []⟩)
    (hQ : ∀ (k : Int) a' w', Stand spC 107 tt (sC2 xs gs i k) a' w' ⟨[], []⟩ → Kp tt w ⟨[], []⟩ ⟨[], []⟩ w' ⟨[], []⟩ ⟨[], []⟩ → Q .normal a' w') : (Code.block 12 (.loop cC2)).wp Try.prog Q a w := by
  obtain ⟨n, hn, hb⟩ := hx.at hi
  have hi1 : (decide (0 ≤ (i : Int)) && decide ((i : Int) < (gs.length : Int))) = true := by simp [hi]
  refine wp_block (wp_loop (fun a' w' => ∃ k : Nat, k ≤ n ∧ Stand spC 107 tt (sC2 xs gs i (k : Int)) a' w' ⟨[], []⟩ ∧ Kp tt w ⟨[], []⟩ ⟨[], []⟩ w' ⟨[], []⟩ ⟨[], []⟩) (fun a' _ => n - slotN 11 a') ⟨0, Nat.zero_le _, I, Kp.refl _ _ _ _⟩ ?_)
  rintro a1 w1 ⟨k, hk, I1, K1⟩
  have h10 : slotN 11 a1 = k := I1.slotN rfl
  by_cases hlt : k < n
  · have hk1 : (k : Int) < ((marksN i n).length : Int) := by rw [marksN_len]; omega
    have hk2 : (decide (0 ≤ (k : Int)) && decide ((k : Int) < ((marksN i n).length : Int))) = true := by rw [decide_eq_true hk1]; simp
    have e := eC2 xs gs i k
    rw [hi1, Int.toNat_natCast, hn, hk2, decide_eq_true hk1, mark_F] at e
    simp only [cond_true, Option.bind_some, Int.toNat_natCast, marksN_at hlt, beq_self_eq_true, Bool.not_true, cond_false, wrapS (show k < 4611686018427387904 by omega)] at e
    refine goO_ok spTok spCk mix I1 e (fun vs' m' a2 w2 ow2 e I2 K2 => ?_) (fun j vs' m' a2 w2 ow2 e => by cases e) (fun vs' m' a2 w2 ow2 e => by cases e)
    cases e
    obtain rfl := owNone I2
    refine ⟨⟨k + 1, by omega, I2, K1.trans K2.kp⟩, ?_⟩
    have h11 : slotN 11 a2 = k + 1 := I2.slotN rfl
    show n - slotN 11 a2 < n - slotN 11 a1
    omega
  · have hk1 : ¬ (k : Int) < ((marksN i n).length : Int) := by rw [marksN_len]; omega
    have e := eC2 xs gs i k
    rw [hi1, Int.toNat_natCast, hn, decide_eq_false hk1] at e
    simp only [cond_true, cond_false] at e
    refine goO_ok spTok spCk mix I1 e (fun vs' m' a2 w2 ow2 e => by cases e) (fun j vs' m' a2 w2 ow2 e I2 K2 => ?_) (fun vs' m' a2 w2 ow2 e => by cases e)
    cases e
    obtain rfl := owNone I2
    simp only [Exit.then, Exit.inBlock, if_true]
    exact hQ _ a2 w2 I2 (K1.trans K2.kp)
theorem lookAll {xs gs : List (List Int)} (hx : Marked xs) (hg : Marked gs) (hl : gs.length = xs.length) (hb : xs.length < 4611686018427387904) {a : Act} {w : World} {Q : Exit → Act → World → Prop} (I : Stand spC 107 tt ⟨[(0, slD xs), (5, slD gs)], ⟨[], []⟩⟩ a w ⟨[], []⟩)
    (hQ : ∀ a' w', Stand spC 107 tt (sC xs gs (xs.length : Int)) a' w' ⟨[], []⟩ → Kp tt w ⟨[], []⟩ ⟨[], []⟩ w' ⟨[], []⟩ ⟨[], []⟩ → Q .normal a' w') :
    (Code.seq (rS 18) (.block 8 (.loop (.seq hC (.seq (.block 9 (.seq (.seq (rS 21) (.block 10 (.loop cC1))) (.seq (rS 26) (.block 12 (.loop cC2))))) (rS 20)))))).wp Try.prog Q a w := by
  refine wp_seq (goO_ok spTok spCk mix I (e18 xs gs) (fun vs' m' a0 w0 ow0 e I0 K0 => ?_) (fun j vs' m' a2 w2 ow2 e => by cases e) (fun vs' m' a2 w2 ow2 e => by cases e))
  cases e
  obtain rfl := owNone I0
  refine wp_block (wp_loop (fun a' w' => ∃ i : Nat, i ≤ xs.length ∧ Stand spC 107 tt (sC xs gs (i : Int)) a' w' ⟨[], []⟩ ∧ Kp tt w ⟨[], []⟩ ⟨[], []⟩ w' ⟨[], []⟩ ⟨[], []⟩) (fun a' _ => xs.length - slotN 9 a') ⟨0, Nat.zero_le _, I0, K0.kp⟩ ?_)
  rintro a1 w1 ⟨i, hi, I1, K1⟩
  have h9 : slotN 9 a1 = i := I1.slotN rfl
  by_cases hlt : i < xs.length
  · have hi1 : (i : Int) < (xs.length : Int) := by omega
    refine wp_seq (goO_ok spTok spCk mix I1 ((eC xs gs i).trans (by rw [decide_eq_true hi1]; rfl)) (fun vs' m' a2 w2 ow2 e I2 K2 => ?_) (fun j vs' m' a2 w2 ow2 e => by cases e) (fun vs' m' a2 w2 ow2 e => by cases e))
    cases e
    obtain rfl := owNone I2
    refine wp_seq (wp_block (wp_seq (wp_seq (goO_ok spTok spCk mix I2 (e21 xs gs i) (fun vs' m' a3 w3 ow3 e I3 K3 => ?_) (fun j vs' m' a2 w2 ow2 e => by cases e) (fun vs' m' a2 w2 ow2 e => by cases e)))))
    cases e
    obtain rfl := owNone I3
    refine look1 hx hlt I3 fun k a4 w4 I4 K4 => ?_
    have I4' : Stand spC 107 tt (sC xs gs i) a4 w4 ⟨[], []⟩ := ⟨I4.live, I4.mem, FrRel.of ⟨I4.fr 0, I4.fr 5, I4.fr 9, trivial⟩, I4.size, I4.defers⟩
    refine wp_seq (goO_ok spTok spCk mix I4' (e26 xs gs i) (fun vs' m' a5 w5 ow5 e I5 K5 => ?_) (fun j vs' m' a2 w2 ow2 e => by cases e) (fun vs' m' a2 w2 ow2 e => by cases e))
    cases e
    obtain rfl := owNone I5
    refine look2 hg (by omega) I5 fun k' a6 w6 I6 K6 => ?_
    have I6' : Stand spC 107 tt (sC xs gs i) a6 w6 ⟨[], []⟩ := ⟨I6.live, I6.mem, FrRel.of ⟨I6.fr 0, I6.fr 5, I6.fr 9, trivial⟩, I6.size, I6.defers⟩
    refine goO_ok spTok spCk mix I6' (e20 xs gs i) (fun vs' m' a7 w7 ow7 e I7 K7 => ?_) (fun j vs' m' a2 w2 ow2 e => by cases e) (fun vs' m' a2 w2 ow2 e => by cases e)
    cases e
    obtain rfl := owNone I7
    rw [wrapS (show i < 4611686018427387904 by omega)] at I7
    refine ⟨⟨i + 1, by omega, I7, (((((K1.trans K2.kp).trans K3.kp).trans K4).trans K5.kp).trans K6).trans K7.kp⟩, ?_⟩
    have h10 : slotN 9 a7 = i + 1 := I7.slotN rfl
    show xs.length - slotN 9 a7 < xs.length - slotN 9 a1
    omega
  · have hi1 : ¬ (i : Int) < (xs.length : Int) := by omega
    refine wp_seq (goO_ok spTok spCk mix I1 ((eC xs gs i).trans (by rw [decide_eq_false hi1]; rfl)) (fun vs' m' a2 w2 ow2 e => by cases e) (fun j vs' m' a2 w2 ow2 e I2 K2 => ?_) (fun vs' m' a2 w2 ow2 e => by cases e))
    cases e
    obtain rfl := owNone I2
    obtain rfl : i = xs.length := by omega
    simp only [Exit.then, Exit.inBlock, if_true]
    exact hQ a2 w2 I2 (K1.trans K2.kp)
/-- Slices by their cells, as data. -/
theorem hd_data {w : World} {Qd Qd' : Nat → Prop} {vs : List Value} {xs : List (List Int)} {u : Value} (h : Rd w Qd (.sl 22 .hd) vs [u]) (hl : xs.length = vs.length) (hQ : ∀ b, Qd b → Qd' b) (hx : ∀ (j : Nat) (v : Value) (ys : List Int), vs[j]? = some v → xs[j]? = some ys → Rd w Qd' KU ys [v]) : Rd w Qd' (.sl 22 KU) xs [u] := by
  obtain ⟨A, c, e, hc, hel⟩ := h
  refine ⟨A, c, by rw [e]; exact congrArg (fun n => [Value.slice A n c]) hl.symm, Nat.le_trans (Nat.le_of_eq hl) hc, fun j ys hj => ?_⟩
  have hjl : j < vs.length := by rw [← hl]; exact (List.getElem?_eq_some_iff.1 hj).1
  obtain ⟨ad, es, rfl, h1, h2, ⟨rfl, h3⟩, h4⟩ := hel j vs[j] (List.getElem?_eq_getElem hjl)
  exact ⟨ad, [vs[j]], rfl, h1, hQ _ h2, hx j vs[j] ys (List.getElem?_eq_getElem hjl) hj, h4⟩
theorem getD_args1 {u : Value} {n : Nat} : ((#[u] : Array Value) ++ Array.replicate n undef).getD 0 undef = u := by
  rw [Array.getD_eq_getD_getElem?, Array.getElem?_append_left (by simp)]; rfl
theorem size_args1 {u : Value} {n N : Nat} (h : n = N + 1) : ((#[u] : Array Value) ++ Array.replicate (n - (#[u] : Array Value).size) undef).size = N + 1 := by subst h; simp; omega
theorem Spoil_calls {w : World} {vs : List Value} {xss : List (List Int)} {u : Value} (V : SpV w vs) (R : SpR w vs xss) (hu : Rd w (offF vs) (.sl 22 .hd) vs [u]) (hb : ∀ xs ∈ xss, xs.length < 35184372087000) (hvl : vs.length < 5864062014000) :
    Calls Try.prog 66 #[u] w fun e w' => e = .returned (.bool true) ∧ SpX w w' vs := by
  refine calls_of_wp Try.func66 sp_body ?_
  obtain ⟨a0, ha0⟩ : ∃ a0 : Act, a0 = { tmps := #[u] ++ Array.replicate (Try.f66.ntmps - (#[u] : Array Value).size) undef, defers := [] } := ⟨_, rfl⟩
  have h0 : a0.tmps.getD 0 undef = u := by rw [ha0]; exact getD_args1
  have h1 : a0.tmps.size = 107 := by rw [ha0]; exact size_args1 (by kernel_rfl)
  have h2 : a0.defers = [] := by rw [ha0]
  rw [← ha0]
  clear ha0
  have I0 : Stand spC 107 (offF vs) ⟨[(0, slH vs)], ⟨[], []⟩⟩ a0 w ⟨[], []⟩ := by
    refine ⟨liveS fun b h v hv e => by have := V.lt v hv b e; omega, memNone, FrRel.of ⟨?_, trivial⟩, h1, h2⟩
    show Rd w _ (.sl 22 .hd) vs [a0.tmps.getD 0 undef]
    rw [h0]
    exact Rd.mono (fun b h => ⟨okNone b, fun _ => h⟩) hu
  have X0 : SpX w w vs := ⟨Nat.le_refl _, fun _ _ _ => rfl, rfl, rfl, rfl⟩
  refine wp_seq (goO_ok spTok spCk mix I0 (e0 vs) (fun vs' m' a1 w1 ow1 e I1 K1 => ?_) (fun j vs' m' a2 w2 ow2 e => by cases e) (fun vs' m' a2 w2 ow2 e => by cases e))
  cases e
  obtain rfl := owNone I1
  refine wp_seq (wp_seq (goO_ok spTok spCk mix I1 (e1 vs) (fun vs' m' a2 w2 ow2 e I2 K2 => ?_) (fun j vs' m' a2 w2 ow2 e => by cases e) (fun vs' m' a2 w2 ow2 e => by cases e)))
  cases e
  obtain rfl := owNone I2
  have K12 := K1.trans K2
  have X2 := X0.keep K12 fun b _ _ => okNone b
  have R2 := R.keep (w' := w2) fun v hv b e => (K12.stay b (V.lt v hv b e) (okNone b)).2.2
  refine marksAll V X2 R2 (fun xs h => by have := hb xs h; omega) (by omega) I2 fun yss a3 w3 hl hz X3 R3 I3 => ?_
  have hyb : ∀ ys ∈ yss, ys.length < 35184372087000 := fun ys h => by
    have h1 : ys.length ∈ xss.map List.length := by rw [← hl]; exact List.mem_map_of_mem h
    obtain ⟨xs, h2, h3⟩ := List.mem_map.1 h1
    rw [← h3]; exact hb xs h2
  have I3' : Stand spC 107 (offF vs) ⟨[(0, slH vs)], ⟨[], []⟩⟩ a3 w3 ⟨[], []⟩ := ⟨I3.live, I3.mem, FrRel.of ⟨I3.fr 0, trivial⟩, I3.size, I3.defers⟩
  refine wp_seq (goO_ok spTok spCk mix I3' (e8 vs) (fun vs' m' a4 w4 ow4 e I4 K4 => ?_) (fun j vs' m' a2 w2 ow2 e => by cases e) (fun vs' m' a2 w2 ow2 e => by cases e))
  cases e
  obtain rfl := owNone I4
  have X4 := X3.keep K4 fun b _ _ => okNone b
  have R4 := R3.keep (w' := w4) fun v hv b e => (K4.stay b (Nat.lt_of_lt_of_le (V.lt v hv b e) X3.size) (okNone b)).2.2
  refine wp_seq (growAll V X4 R4 hyb hvl (fun i ys hy => marks_eq (hz i ys hy)) I4 fun vg gs a5 w5 X5 G5 I5 => ?_)
  obtain ⟨vg', cgs, hvg', hgsl, hgown, hgrd⟩ := I5.mem.own (r := 0) (row := rowG gs) rfl rfl rfl
  obtain rfl : vg = vg' := Option.some.inj hvg'
  obtain ⟨gss, hgs⟩ : ∃ gss, gss = (List.range vs.length).map fun (j : Nat) => marksN (j : Int) ((yss.getD j []).length + 16) := ⟨_, rfl⟩
  have hgl : gss.length = vs.length := by rw [hgs]; simp
  have hgat : ∀ (j : Nat) (ys : List Int), yss[j]? = some ys → gss[j]? = some (marksN (j : Int) (ys.length + 16)) := fun j ys hy => by
    have hj : j < vs.length := by rw [← G5.ylen]; exact (List.getElem?_eq_some_iff.1 hy).1
    rw [hgs, List.getElem?_map, List.getElem?_range hj]
    simp [List.getD_eq_getElem?_getD, hy]
  have all : ∀ {b : Nat}, okf (okOf ⟨[], []⟩ ⟨[], []⟩) tt true b := fun {b} => ⟨okNone b, fun _ => trivial⟩
  have I5' : Stand spC 107 tt ⟨[(0, slD yss), (5, slD gss)], ⟨[], []⟩⟩ a5 w5 ⟨[], []⟩ := by
    refine ⟨liveS fun b h => trivial, memNone, FrRel.of ⟨?_, ?_, trivial⟩, I5.size, I5.defers⟩
    · refine hd_data (I5.fr 0 : Rd _ _ _ _ _) G5.ylen (fun b h => all) fun j v ys hv hy => ?_
      obtain ⟨g, _, h2, _⟩ := G5.done j v ys (List.getElem?_eq_some_iff.1 hv).1 hv hy
      exact h2.mono fun b h => all
    · have h : ([vg] : List Value)[0]? = some (a5.tmps.getD 5 undef) ∧ _ := I5.fr 5
      have e := Option.some.inj h.1
      show Rd w5 _ (.sl 22 KU) gss [a5.tmps.getD 5 undef]
      rw [← e]
      have hh : Rd w5 (fun _ => True) (.sl 22 .hd) gs [vg] := ownsRow_rd hgown (RdEach.flat rfl hgrd) fun b e => trivial
      refine hd_data hh (by rw [hgl, G5.len]) (fun b h => all) fun j g ys hg hy => ?_
      have hj : j < vs.length := by rw [← hgl]; exact (List.getElem?_eq_some_iff.1 hy).1
      have hjy : j < yss.length := by rw [G5.ylen]; exact hj
      have hyj : yss[j]? = some yss[j] := List.getElem?_eq_getElem hjy
      obtain ⟨g', h1, _, h3⟩ := G5.done j vs[j] _ hj (List.getElem?_eq_getElem hj) hyj
      obtain rfl : g = g' := Option.some.inj (hg.symm.trans h1)
      rw [hgat j _ hyj] at hy
      obtain rfl := Option.some.inj hy
      exact h3.mono fun b h => all
  have hm1 : Marked yss := fun i ys hy => ⟨marks_eq (hz i ys hy), by have := hyb ys (List.mem_of_getElem? hy); omega⟩
  have hm2 : Marked gss := fun i ys hy => by
    have hj : i < vs.length := by rw [← hgl]; exact (List.getElem?_eq_some_iff.1 hy).1
    have hjy : i < yss.length := by rw [G5.ylen]; exact hj
    have hyj : yss[i]? = some yss[i] := List.getElem?_eq_getElem hjy
    rw [hgat i _ hyj] at hy
    obtain rfl := Option.some.inj hy
    rw [marksN_len]
    exact ⟨rfl, by have := hyb _ (List.mem_of_getElem? hyj); omega⟩
  refine wp_seq (lookAll hm1 hm2 (by rw [hgl, G5.ylen]) (by rw [G5.ylen]; omega) I5' fun a6 w6 I6 K6 => ?_)
  have I6' : Stand spC 107 tt ⟨[], ⟨[], []⟩⟩ a6 w6 ⟨[], []⟩ := ⟨I6.live, I6.mem, FrRel.of trivial, I6.size, I6.defers⟩
  refine goO_ok spTok spCk mix I6' e31 (fun vs' m' a2 w2 ow2 e => by cases e) (fun j vs' m' a2 w2 ow2 e => by cases e) (fun vs' m' a7 w7 ow7 e I7 K7 => ?_)
  cases e
  have h2 : [a7.tmps.getD 2 undef] = [Value.bool true] := I7.fr 2
  have st : ∀ b, b < w5.heap.size → w7.heap[b]? = w5.heap[b]? := fun b hb => by
    obtain ⟨_, h3, h4⟩ := K6.stay b hb (okNone b)
    exact (K7.stay b h3 (okNone b)).2.2.trans h4
  refine ⟨I7.defers, .bool true, ?_, rfl, ⟨Nat.le_trans X5.size (Nat.le_trans K6.size K7.size), fun b hb ho => (st b (Nat.lt_of_lt_of_le hb X5.size)).trans (X5.block b hb ho), K7.os.trans (K6.os.trans X5.os), K7.tape.trans (K6.tape.trans X5.tape), K7.output.trans (K6.output.trans X5.output)⟩⟩
  rw [results_tmp (t := 2) rfl]
  rw [(List.cons.inj h2).1]
end Go.Fx.Try
