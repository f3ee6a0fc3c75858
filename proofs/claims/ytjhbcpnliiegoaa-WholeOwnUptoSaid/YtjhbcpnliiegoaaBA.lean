/- WholeOwn: what its pieces of code do. -/
import Derived.Test.YtjhbcpnliiegoaaAA
import Derived.Test.YtjhbcpnliiegoaaSA
import Derived.Tactics
import Derived.Test.YtjhbcpnliiegoaaWB
namespace Go.Fx.Try
open Go Go.Proofs Go.Fx Go.RowKit
set_option linter.unusedVariables false
set_option linter.unusedSimpArgs false
set_option maxRecDepth 100000
noncomputable def woC : Cals := Cals.cons 63 fulcrummem_Room.sig (Cals.cons 68 fulcrummem_Kept.sig (Cals.cons 19 fulcrumlaw02_same.sig (Cals.cons 39 fulcrumlaw02_awake.sig (Cals.base tabs))))
theorem woCk : CalsOk Try.prog woC := CalsOk.cons fulcrummem_Room.cal (CalsOk.cons fulcrummem_Kept.cal (CalsOk.cons fulcrumlaw02_same.cal (CalsOk.cons fulcrumlaw02_awake.cal (CalsOk.base tabsOk))))
noncomputable def rW (j : Nat) : Code := regF Try.f16 j
noncomputable def opsW (j : Nat) : Array Oper := match rW j with
  | .region _ ops _ => ops
  | _ => #[]
theorem rW8 : rW 8 = .region 8 (opsW 8) false := by kernel_rfl
theorem rW9 : rW 9 = .region 9 (opsW 9) false := by kernel_rfl
theorem rW10 : rW 10 = .region 10 (opsW 10) false := by kernel_rfl
theorem rW12 : rW 12 = .region 12 (opsW 12) false := by kernel_rfl
abbrev vN (x : List Int) : SV := .one (.lf (.val false (.sl 70 (.int .u32)) x))
abbrev vI (x : List (Bool × List Int)) : SV := .one (.lf (.val false Kt56 x))
abbrev aI (f : Bool) (p : Bool × List Int) : SV := .one (.agg [.val f .bool p.1, .val f (.sl 70 (.int .u32)) p.2])
/-- The law's variables: the two numbers, and the two that have room behind them. -/
abbrev bs4 (p q : Bool × List Int) (xs ys : List Int) : List (Option Box) := [bxV p, bxV q, bxV (p.1, xs), bxV (q.1, ys)]
abbrev sM (p q : Bool × List Int) (xs ys rx ry : List Int) (k : Int) (more : List (Nat × SV)) : S := ⟨(2, .box 0 0) :: (3, .box 1 0) :: (6, vN rx) :: (8, vN ry) :: (9, .box 2 0) :: (10, .box 3 0) :: (11, ci .i64 k) :: more, ⟨[], bs4 p q xs ys⟩⟩
theorem w0 (p q : Bool × List Int) : goO woC T 92 9 (rW 0) ⟨[(0, aI false p), (1, aI false q)], ⟨[], []⟩⟩ [2, 3] = some (.nrm [.box 0 0, .box 1 0] ⟨[], [bxV p, bxV q]⟩) := by kernel_rfl
theorem w1 (p q : Bool × List Int) : goO woC T 92 9 (rW 1) ⟨[(2, .box 0 0), (3, .box 1 0)], ⟨[], [bxV p, bxV q]⟩⟩ [2, 3, 5, 6] =
    (fulcrummem_Room.F (p.2, ())).bind fun y => some (.nrm [.box 0 0, .box 1 0, .one (.lf (.val true (.sl 70 (.int .u32)) y.1)), .one (.lf (.val true (.sl 70 (.int .u32)) y.2.1))] ⟨[], [bxV p, bxV q]⟩) := by kernel_rfl
theorem w2 (p q : Bool × List Int) (x rx : List Int) : goO woC T 92 9 (rW 2) ⟨[(2, .box 0 0), (3, .box 1 0), (5, vN x), (6, vN rx)], ⟨[], [bxV p, bxV q]⟩⟩ [2, 3, 5, 6, 7, 8] =
    (fulcrummem_Room.F (q.2, ())).bind fun y => some (.nrm [.box 0 0, .box 1 0, vN x, vN rx, .one (.lf (.val true (.sl 70 (.int .u32)) y.1)), .one (.lf (.val true (.sl 70 (.int .u32)) y.2.1))] ⟨[], [bxV p, bxV q]⟩) := by kernel_rfl
theorem w3 (p q : Bool × List Int) (x rx y ry : List Int) : goO woC T 92 9 (rW 3) ⟨[(2, .box 0 0), (3, .box 1 0), (5, vN x), (6, vN rx), (7, vN y), (8, vN ry)], ⟨[], [bxV p, bxV q]⟩⟩ [2, 3, 6, 7, 8, 9] =
    some (.nrm [.box 0 0, .box 1 0, vN rx, vN y, vN ry, .box 2 0] ⟨[], [bxV p, bxV q, bxV (p.1, x)]⟩) := by kernel_rfl
theorem w4 (p q : Bool × List Int) (x rx y ry : List Int) : goO woC T 92 9 (rW 4) ⟨[(2, .box 0 0), (3, .box 1 0), (6, vN rx), (7, vN y), (8, vN ry), (9, .box 2 0)], ⟨[], [bxV p, bxV q, bxV (p.1, x)]⟩⟩ [2, 3, 6, 8, 9, 10] =
    some (.nrm [.box 0 0, .box 1 0, vN rx, vN ry, .box 2 0, .box 3 0] ⟨[], bs4 p q x y⟩) := by kernel_rfl
theorem w5 (p q : Bool × List Int) (x rx y ry : List Int) : goO woC T 92 9 (rW 5) ⟨[(2, .box 0 0), (3, .box 1 0), (6, vN rx), (8, vN ry), (9, .box 2 0), (10, .box 3 0)], ⟨[], bs4 p q x y⟩⟩ [2, 3, 6, 8, 9, 10, 11] =
    some (.nrm [.box 0 0, .box 1 0, vN rx, vN ry, .box 2 0, .box 3 0, ci .i64 0] ⟨[], bs4 p q x y⟩) := by kernel_rfl
section
variable (p q : Bool × List Int) (x y rx ry : List Int) (k j : Int) (zs : List (Bool × List Int))
noncomputable def hW : Code := .seq (rW 6) (.cond (.tmp 37) .skip (.exit 0))
theorem w6 : goO woC T 92 9 hW (sM p q x y rx ry k []) [2, 3, 6, 8, 9, 10, 11] = bif decide (k < 16) then some (.nrm [.box 0 0, .box 1 0, vN rx, vN ry, .box 2 0, .box 3 0, ci .i64 k] ⟨[], bs4 p q x y⟩) else some (.ext 0 [.box 0 0, .box 1 0, vN rx, vN ry, .box 2 0, .box 3 0, ci .i64 k] ⟨[], bs4 p q x y⟩) := by kernel_rfl
theorem w7 : goO woC T 92 9 (rW 7) (sM p q x y rx ry k []) [2, 3, 6, 8, 9, 10, 11] = some (.nrm [.box 0 0, .box 1 0, vN rx, vN ry, .box 2 0, .box 3 0, ci .i64 (IntKind.i64.wrap (k + 1))] ⟨[], bs4 p q x y⟩) := by kernel_rfl
theorem w8a : evalOps woC T 92 (opsW 8).toList ((opsW 8).toList.take 3) (sM p q x y rx ry k []) (fun s' => some (Out.nrm ([2, 3, 6, 8, 9, 10, 11, 40, 41, 42].map s'.get) s'.m.trim)) = some (.nrm [.box 0 0, .box 1 0, vN rx, vN ry, .box 2 0, .box 3 0, ci .i64 k, ci .i64 k, aI false (p.1, x), aI false (q.1, y)] ⟨[], bs4 p q x y⟩) := by kernel_rfl
theorem w12a : evalOps woC T 92 (opsW 12).toList ((opsW 12).toList.take 3) (sM p q x y rx ry k [(13, vI zs)]) (fun s' => some (Out.nrm ([2, 3, 6, 8, 9, 10, 11, 13, 64, 65, 66].map s'.get) s'.m.trim)) = some (.nrm [.box 0 0, .box 1 0, vN rx, vN ry, .box 2 0, .box 3 0, ci .i64 k, vI zs, ci .i64 k, aI false (p.1, x), aI false (q.1, y)] ⟨[], bs4 p q x y⟩) := by kernel_rfl
theorem w10b : evalOps woC T 92 (opsW 10).toList ((opsW 10).toList.drop 3) (sM p q x y rx ry k [(13, vI zs), (48, cb true)]) (fun s' => some (Out.nrm ([2, 3, 6, 8, 9, 10, 11, 13, 63].map s'.get) s'.m.trim)) =
    (fulcrummem_Kept.F (rx, p.2, ())).bind fun u => bif not u.1 then some (.nrm [.box 0 0, .box 1 0, vN rx, vN ry, .box 2 0, .box 3 0, ci .i64 k, vI zs, cb true] ⟨[], bs4 p q x y⟩) else ((fulcrummem_Kept.F (ry, q.2, ())).bind fun v => some (.nrm [.box 0 0, .box 1 0, vN rx, vN ry, .box 2 0, .box 3 0, ci .i64 k, vI zs, cb (not v.1)] ⟨[], bs4 p q x y⟩)) := by kernel_rfl
theorem wc10 : goO woC T 92 9 (.cond (.tmp 63) (.seq (rW 11) .ret) .skip) (sM p q x y rx ry k [(13, vI zs), (63, cb false)]) [2, 3, 6, 8, 9, 10, 11, 13] = some (.nrm [.box 0 0, .box 1 0, vN rx, vN ry, .box 2 0, .box 3 0, ci .i64 k, vI zs] ⟨[], bs4 p q x y⟩) := by kernel_rfl
theorem w13 : goO woC T 92 9 (rW 13) (sM p q x y rx ry k [(13, vI zs), (14, vI zs)]) [2, 3, 6, 8, 9, 10, 11, 13, 14, 15] = some (.nrm [.box 0 0, .box 1 0, vN rx, vN ry, .box 2 0, .box 3 0, ci .i64 k, vI zs, vI zs, ci .i64 0] ⟨[], bs4 p q x y⟩) := by kernel_rfl
noncomputable def cW2 : Code := .seq (.seq (rW 14) (.cond (.tmp 71) .skip (.exit 2))) (.seq (.block 3 (.seq (rW 16) (.cond (.tmp 90) (.seq (rW 17) .ret) .skip))) (rW 15))
abbrev zI : Bool × List Int := (false, [])
theorem w14 : goO woC T 92 19 cW2 (sM p q x y rx ry k [(13, vI zs), (14, vI zs), (15, ci .i64 j)]) [2, 3, 6, 8, 9, 10, 11, 13, 14, 15] =
    bif decide (j < (List.length zs : Int)) then (bif not ((List.length zs : Int) == (List.length zs : Int)) then some (.rt [.box 0 0, .box 1 0, vN rx, vN ry, .box 2 0, .box 3 0, ci .i64 k, vI zs, vI zs, ci .i64 j] ⟨[], bs4 p q x y⟩) else
      (bif decide (0 ≤ j) && decide (j < (List.length zs : Int)) then (bif decide (0 ≤ j) && decide (j < (List.length zs : Int)) then ((fulcrumlaw02_same.F (((List.getD zs j.toNat zI).1, (List.getD zs j.toNat zI).2), ((List.getD zs j.toNat zI).1, (List.getD zs j.toNat zI).2), ())).bind fun v => bif not v.1 then some (.rt [.box 0 0, .box 1 0, vN rx, vN ry, .box 2 0, .box 3 0, ci .i64 k, vI zs, vI zs, ci .i64 j] ⟨[], bs4 p q x y⟩)
        else some (.nrm [.box 0 0, .box 1 0, vN rx, vN ry, .box 2 0, .box 3 0, ci .i64 k, vI zs, vI zs, ci .i64 (IntKind.i64.wrap (j + 1))] ⟨[], bs4 p q x y⟩)) else none) else none))
    else some (.ext 2 [.box 0 0, .box 1 0, vN rx, vN ry, .box 2 0, .box 3 0, ci .i64 k, vI zs, vI zs, ci .i64 j] ⟨[], bs4 p q x y⟩) := by kernel_rfl
end
theorem w18 : goO woC T 92 9 (.seq (rW 18) .ret) ⟨[], ⟨[], []⟩⟩ [4] = (fulcrumlaw02_awake.F ()).bind fun v => some (.rt [cb v.1] ⟨[], []⟩) := by kernel_rfl
theorem wo_body : Try.f16.body = some (.seq (rW 0) (.seq (rW 1) (.seq (rW 2) (.seq (rW 3) (.seq (rW 4) (.seq (.seq (rW 5) (.block 0 (.loop (.seq hW (.seq (.block 1 (.seq (rW 8) (.seq (rW 9) (.seq (.seq (rW 10) (.cond (.tmp 63) (.seq (rW 11) .ret) .skip)) (.seq (rW 12) (.seq (rW 13) (.block 2 (.loop cW2)))))))) (rW 7)))))) (.seq (rW 18) .ret))))))) := by kernel_rfl
end Go.Fx.Try

namespace Go.Fx
open Go Go.RowKit
set_option linter.unusedVariables false
set_option linter.unusedSimpArgs false
/-- The slots 'ts' are as they were. -/
structure Same (ts : List Nat) (a a' : Act) : Prop where
  get : ∀ t ∈ ts, a'.tmps.getD t undef = a.tmps.getD t undef
  size : a'.tmps.size = a.tmps.size
  defers : a'.defers = a.defers
theorem Same.refl (ts : List Nat) (a : Act) : Same ts a a := ⟨fun _ _ => rfl, rfl, rfl⟩
theorem Same.put {ts : List Nat} {a a' : Act} (h : Same ts a a') {t : Nat} (v : Value) (ht : t ∉ ts) : Same ts a (a'.put (some t) v) :=
  ⟨fun u hu => by rw [get_put_other (t := u) (by intro e; subst e; exact ht hu)]; exact h.get u hu, (put_size _ _ _).trans h.size, (put_defers' _ _ _).trans h.defers⟩
theorem Stand.reset {C : Cals} {N : Nat} {may : Nat → Prop} {s : S} {a : Act} {w : World} {ow : Ow} (I : Stand C N may s a w ow) {fr : List (Nat × SV)} (h : FrL w (okOf ow s.m) may ow s.m a fr) : Stand C N may ⟨fr, s.m⟩ a w ow :=
  ⟨I.live, I.mem, FrRel.of h, I.size, I.defers⟩
end Go.Fx
namespace Go.Fx.Try
open Go Go.Proofs Go.Fx Go.RowKit
set_option linter.unusedVariables false
set_option linter.unusedSimpArgs false
set_option maxRecDepth 100000
/-- Answers as data, in a later world. -/
theorem AskR.data {w w' w2 : World} {hs : List (Bool × Value)} {zs : List (Bool × List Int)} {u : Value} (A : AskR w w' hs zs u) (hb : ∀ b, b < w'.heap.size → w2.heap[b]? = w'.heap[b]?) {Q : Nat → Prop} (hQ : ∀ b, w.heap.size ≤ b → Q b) : Rd w2 Q (.sl 25 Kt25) zs [u] := by
  obtain ⟨cs, hown, hrd⟩ := A.own
  have hown2 : w2.ownsRow 0 25 2 u hs.length cs := ownsRow_same hown fun g hg => hb g (World.ownsRow.lt hown g hg).2
  have h : Rd w2 Q (.sl 25 KH) hs [u] := ownsRow_rd hown2 (RdEach.flat rfl (hrd (fun _ => True))) fun b e => hQ b (A.newU b e)
  obtain ⟨X, c, e, hc, hel⟩ := h
  have hl : zs.length = hs.length := A.len.symm
  refine ⟨X, c, by rw [e]; exact congrArg (fun n => [Value.slice X n c]) hl.symm, Nat.le_trans (Nat.le_of_eq hl) hc, fun j z hj => ?_⟩
  have hjl : j < hs.length := by rw [← hl]; exact (List.getElem?_eq_some_iff.1 hj).1
  obtain ⟨ad, es, rfl, h1, h2, ⟨c1, c2, rfl, h3, h4, _⟩, h5⟩ := hel j hs[j] (List.getElem?_eq_getElem hjl)
  subst h4
  obtain ⟨e1, e2⟩ := A.rows j hs[j] z (List.getElem?_eq_getElem hjl) hj
  have e3 : w2.ownsRow 0 70 1 hs[j].2 z.2.length (z.2.map (Value.int .u32)) := ownsRow_same e2 fun g hg => hb g (World.ownsRow.lt e2 g hg).2
  refine ⟨ad, _, rfl, h1, h2, ⟨c1, [hs[j].2], rfl, ?_, ?_⟩, h5⟩
  · show c1 = [.bool z.1]
    rw [← e1]; exact h3
  · exact ownsRow_rd e3 (RdEach_ints z.2) fun b e => hQ b (A.newH _ (List.getElem_mem hjl) b e)
/-- Their slices, in a later world. -/
theorem AskR.heads {w w' w2 : World} {hs : List (Bool × Value)} {zs : List (Bool × List Int)} {u : Value} (A : AskR w w' hs zs u) (hb : ∀ b, b < w'.heap.size → w2.heap[b]? = w'.heap[b]?) {Q : Nat → Prop} (hQ : ∀ b, u.ownBlock = some b → Q b) : Rd w2 Q (.sl 25 KH) hs [u] := by
  obtain ⟨cs, hown, hrd⟩ := A.own
  have hown2 : w2.ownsRow 0 25 2 u hs.length cs := ownsRow_same hown fun g hg => hb g (World.ownsRow.lt hown g hg).2
  exact ownsRow_rd hown2 (RdEach.flat rfl (hrd (fun _ => True))) fun b e => hQ b e
theorem AskR.sp {w w' w2 : World} {hs : List (Bool × Value)} {zs : List (Bool × List Int)} {u : Value} (A : AskR w w' hs zs u) (hb : ∀ b, b < w'.heap.size → w2.heap[b]? = w'.heap[b]?) (hz : w'.heap.size ≤ w2.heap.size) : SpV w2 (hs.map (·.2)) ∧ SpR w2 (hs.map (·.2)) (zs.map (·.2)) := by
  have at' : ∀ (j : Nat) (v : Value), (hs.map (·.2))[j]? = some v → ∃ h z, hs[j]? = some h ∧ h.2 = v ∧ zs[j]? = some z ∧ w2.ownsRow 0 70 1 v z.2.length (z.2.map (Value.int .u32)) ∧ w'.ownsRow 0 70 1 v z.2.length (z.2.map (Value.int .u32)) := fun j v hj => by
    rw [List.getElem?_map] at hj
    obtain ⟨h, h1, rfl⟩ := Option.map_eq_some_iff.1 hj
    have hz : j < zs.length := by rw [← A.len]; exact (List.getElem?_eq_some_iff.1 h1).1
    obtain ⟨_, e2⟩ := A.rows j h _ h1 (List.getElem?_eq_getElem hz)
    exact ⟨h, _, h1, rfl, List.getElem?_eq_getElem hz, ownsRow_same e2 fun g hg => hb g (World.ownsRow.lt e2 g hg).2, e2⟩
  refine ⟨⟨fun v hv => ?_, fun v hv b e => ?_, fun i j v v' b hi hj e e' => ?_⟩, ⟨by simp [A.len], fun j v ys hj hy => ?_⟩⟩
  · obtain ⟨j, hj, rfl⟩ := List.getElem_of_mem hv
    obtain ⟨h, z, _, _, _, e2, _⟩ := at' j _ (List.getElem?_eq_getElem hj)
    obtain ⟨X, c, e⟩ := ownsRow.slice e2
    exact ⟨X, _, c, e⟩
  · obtain ⟨j, hj, rfl⟩ := List.getElem_of_mem hv
    obtain ⟨h, z, _, _, _, _, e2⟩ := at' j _ (List.getElem?_eq_getElem hj)
    exact Nat.lt_of_lt_of_le (World.ownsRow.lt e2 b e).2 hz
  · obtain ⟨h, _, h1, rfl, _⟩ := at' i v hi
    obtain ⟨h', _, h2, rfl, _⟩ := at' j v' hj
    exact A.dis i j h h' b h1 h2 e e'
  · obtain ⟨h, z, h1, rfl, h2, e2, _⟩ := at' j v hj
    rw [List.getElem?_map, h2] at hy
    obtain rfl := Option.some.inj hy
    exact e2
end Go.Fx.Try

namespace Go.Fx.Try
open Go Go.Proofs Go.Fx Go.RowKit
open Go.BigFrame (wp_move wp_assign)
set_option linter.unusedVariables false
set_option linter.unusedSimpArgs false
set_option maxRecDepth 100000
theorem body64 : Body Try.prog 64 := ⟨Try.f64, by kernel_rfl, by kernel_rfl, by kernel_rfl⟩
theorem body66 : Body Try.prog 66 := ⟨Try.f66, by kernel_rfl, by kernel_rfl, by kernel_rfl⟩
theorem r8 : List.range (opsW 8).size = List.range' 0 ((opsW 8).toList.take 3).length ++ [3, 4] := by kernel_rfl
theorem r12 : List.range (opsW 12).size = List.range' 0 ((opsW 12).toList.take 3).length ++ [3, 4] := by kernel_rfl
theorem r9 : List.range (opsW 9).size = [0, 1, 2] := by kernel_rfl
theorem r10 : List.range (opsW 10).size = [0, 1, 2] ++ List.range' 3 ((opsW 10).toList.drop 3).length := by kernel_rfl
theorem o8_3 : ∃ o, (opsW 8)[3]? = some o ∧ o.guard = none ∧ o.dst = some 43 ∧ ∃ ty, o.op = .call { callee := .value (.func 64), args := #[.tmp 40, .tmp 41, .tmp 42], argTypes := ty } := ⟨_, rfl, rfl, rfl, _, rfl⟩
theorem o8_4 : ∃ o, (opsW 8)[4]? = some o ∧ o.guard = none ∧ o.dst = some 12 ∧ o.op = .assign (.tmp 43) := ⟨_, rfl, rfl, rfl, rfl⟩
theorem o12_3 : ∃ o, (opsW 12)[3]? = some o ∧ o.guard = none ∧ o.dst = some 67 ∧ ∃ ty, o.op = .call { callee := .value (.func 64), args := #[.tmp 64, .tmp 65, .tmp 66], argTypes := ty } := ⟨_, rfl, rfl, rfl, _, rfl⟩
theorem o12_4 : ∃ o, (opsW 12)[4]? = some o ∧ o.guard = none ∧ o.dst = some 14 ∧ o.op = .assign (.tmp 67) := ⟨_, rfl, rfl, rfl, rfl⟩
theorem o9_0 : ∃ o, (opsW 9)[0]? = some o ∧ o.guard = none ∧ o.dst = some 44 ∧ o.op = .move (.tmp 12) := ⟨_, rfl, rfl, rfl, rfl⟩
theorem o9_1 : ∃ o, (opsW 9)[1]? = some o ∧ o.guard = none ∧ o.dst = some 45 ∧ ∃ ty, o.op = .call { callee := .value (.func 65), args := #[.tmp 44], argTypes := ty } := ⟨_, rfl, rfl, rfl, _, rfl⟩
theorem o9_2 : ∃ o, (opsW 9)[2]? = some o ∧ o.guard = none ∧ o.dst = some 13 ∧ o.op = .assign (.tmp 45) := ⟨_, rfl, rfl, rfl, rfl⟩
theorem o10_0 : ∃ o, (opsW 10)[0]? = some o ∧ o.guard = none ∧ o.dst = some 46 ∧ o.op = .move (.tmp 12) := ⟨_, rfl, rfl, rfl, rfl⟩
theorem o10_1 : ∃ o, (opsW 10)[1]? = some o ∧ o.guard = none ∧ o.dst = some 47 ∧ ∃ ty, o.op = .call { callee := .value (.func 67), args := #[.tmp 46], argTypes := ty } := ⟨_, rfl, rfl, rfl, _, rfl⟩
theorem o10_2 : ∃ o, (opsW 10)[2]? = some o ∧ o.guard = none ∧ o.dst = some 48 ∧ ∃ ty, o.op = .call { callee := .value (.func 66), args := #[.tmp 47], argTypes := ty } := ⟨_, rfl, rfl, rfl, _, rfl⟩
/-- Slots that a turn leaves. -/
abbrev ts7 : List Nat := [2, 3, 6, 8, 9, 10, 11]
abbrev f7 (p q : Bool × List Int) (rx ry : List Int) (k : Int) : List (Nat × SV) := [(2, .box 0 0), (3, .box 1 0), (6, vN rx), (8, vN ry), (9, .box 2 0), (10, .box 3 0), (11, ci .i64 k)]
/-- Two slots that hold a number of the law's, as a call takes it. -/
theorem arg_of {w : World} {ok may : Nat → Prop} {ow : Ow} {m : Mem} {x : Bool × List Int} {v : Value} (h : SVRel w ok may ow m (aI false x) v) : RdV w (fun _ => True) (true, Kt25) x v := by
  obtain ⟨vs, rfl, h⟩ := h
  unfold RdV
  rw [if_pos rfl]
  refine ⟨vs, rfl, ?_⟩
  match vs, h with
  | [v1, v2], h =>
    obtain ⟨h1, h2, _⟩ := h
    exact ⟨[v1], [v2], rfl, h1, Rd.mono (fun _ _ => trivial) (h2 : Rd _ _ _ _ _)⟩
section
variable {p q : Bool × List Int} {x y rx ry : List Int} {k : Nat} {zs : List (Bool × List Int)} {may : Nat → Prop} {w : World} {ow : Ow} {a : Act} {Q : Exit → Act → World → Prop}
/-- The first answers, looked at and spoilt. -/
theorem turn1 (hm : ∀ b, w.heap.size ≤ b → may b) (hA : askD k (p.1, x) (q.1, y) = some zs) (hz : ∀ z ∈ zs, z.2.length < 35184372087000) (hzl : zs.length < 5864062014000) (hI : fulcrumlaw02_ints.F (zs, ()) = some (zs, ()))
    (hL : ∀ hs : List (Bool × Value), hs.length < 5864062014000 → Hd.fulcrumlaw02_lists.F (hs, ()) = some (hs.map (·.2), ()))
    (I : Stand woC 92 may (sM p q x y rx ry k []) a w ow) {c1 c2 : Code}
    (hQ : ∀ a' w' ow', Stand woC 92 may (sM p q x y rx ry k [(13, vI zs), (48, cb true)]) a' w' ow' → Kp may w ow (sM p q x y rx ry k []).m w' ow' (sM p q x y rx ry k []).m →
      wpOps Try.prog (opsW 10) (Exit.then (c1.wp Try.prog (Exit.then (c2.wp Try.prog Q) Q)) (Exit.then (c2.wp Try.prog Q) Q)) (List.range' 3 ((opsW 10).toList.drop 3).length) a' w') :
    (Code.seq (rW 8) (.seq (rW 9) (.seq (.seq (rW 10) c1) c2))).wp Try.prog Q a w := by
  rw [rW8, rW9, rW10]
  refine wp_seq (wp_region ?_)
  rw [r8]
  refine wpOps_app _ _ _ _ ?_
  refine ops_nrm tabOk woCk I (fun j hj => ?_) (w8a p q x y rx ry k) fun a1 w1 ow1 I1 K1 => ?_
  · rw [List.getElem?_take_of_lt (by rw [List.length_take] at hj; omega), Array.getElem?_toList, Nat.zero_add]
  have I1' : Stand woC 92 may (sM p q x y rx ry k []) a1 w1 ow1 := I1.reset ⟨I1.fr 2, I1.fr 3, I1.fr 6, I1.fr 8, I1.fr 9, I1.fr 10, I1.fr 11, trivial⟩
  have h40 : a1.tmps.getD 40 undef = .int .i64 (k : Int) := I1.int (t := 40) rfl
  have h41 : RdV w1 (fun _ => True) (true, Kt25) (p.1, x) (a1.tmps.getD 41 undef) := arg_of (I1.fr 41 : SVRel _ _ _ _ _ (aI false (p.1, x)) _)
  have h42 : RdV w1 (fun _ => True) (true, Kt25) (q.1, y) (a1.tmps.getD 42 undef) := arg_of (I1.fr 42 : SVRel _ _ _ _ _ (aI false (q.1, y)) _)
  have hsz : a1.tmps.size = 92 := I1.size
  have hs1 : w.heap.size ≤ w1.heap.size := K1.size
  obtain ⟨o, ho, hog, hod, ty, hop⟩ := o8_3
  refine wpOps_one ho hog (wp_call_hand hop body64 rfl rfl ?_)
  have e40 : #[Operand.tmp 40, Operand.tmp 41, Operand.tmp 42].toList.map a1.eval = [a1.tmps.getD 40 undef, a1.tmps.getD 41 undef, a1.tmps.getD 42 undef] := rfl
  show Calls Try.prog 64 (#[Operand.tmp 40, Operand.tmp 41, Operand.tmp 42].toList.map a1.eval).toArray w1 _
  rw [e40, h40]
  refine (ask_calls hA h41 h42).mono fun e w2 he => ?_
  obtain ⟨hs, u, rfl, A⟩ := he
  refine ⟨u, rfl, ?_⟩
  rw [hod]
  obtain ⟨o, ho, hog, hod, hop⟩ := o8_4
  refine wpOps_one ho hog (wp_assign _ hop ?_)
  rw [hod]
  have eu : (a1.put (some 43) u).eval (.tmp 43) = u := get_put_same (by rw [hsz]; decide)
  rw [eu]
  have S2 : Same ts7 a1 ((a1.put (some 43) u).put (some 12) u) := ((Same.refl ts7 a1).put u (by decide)).put u (by decide)
  have g2 : ((a1.put (some 43) u).put (some 12) u).tmps.getD 12 undef = u := get_put_same (by rw [put_size, hsz]; decide)
  generalize (a1.put (some 43) u).put (some 12) u = a2 at S2 g2
  show ((Code.region 9 (opsW 9) false).seq _).wp Try.prog Q a2 w2
  refine wp_seq (wp_region ?_)
  rw [r9]
  obtain ⟨o, ho, hog, hod, hop⟩ := o9_0
  refine wpOps_one ho hog (wp_move _ hop ?_)
  rw [hod]
  have e12 : a2.eval (.tmp 12) = u := g2
  rw [e12]
  have S3 := S2.put (t := 44) u (by decide)
  have g3 : (a2.put (some 44) u).tmps.getD 12 undef = u := by rw [get_put_other (by decide)]; exact g2
  have h44 : (a2.put (some 44) u).tmps.getD 44 undef = u := get_put_same (by rw [S2.size, hsz]; decide)
  generalize a2.put (some 44) u = a3 at S3 g3 h44
  clear S2 g2 e12 eu a2
  obtain ⟨o, ho, hog, hod, ty, hop⟩ := o9_1
  refine wpOps_one ho hog (wp_call_hand hop fulcrumlaw02_ints.cal.fn rfl rfl ?_)
  have e44 : #[Operand.tmp 44].toList.map a3.eval = [u] := by rw [← h44]; rfl
  show Calls Try.prog 65 (#[Operand.tmp 44].toList.map a3.eval).toArray w2 _
  rw [e44]
  have hd2 : Rd w2 (fun _ => True) (.sl 25 Kt25) zs [u] := A.data (fun b _ => rfl) fun _ _ => trivial
  refine (fulcrumlaw02_ints.cal.contract w2 (fun _ => True) (zs, ()) (zs, ()) [u] (fun g tb e => by cases e) hI ⟨u, [], rfl, hd2, rfl⟩).mono fun e w3 he => ?_
  obtain ⟨v, cs, rows, ow3, rfl, hth, M3, R3, B3⟩ := he
  refine ⟨v, rfl, ?_⟩
  rw [hod]
  cases hth
  have hv3 : ow3.rv[0]? = some v := (R3 : ow3.rv[0]? = some v ∧ _).1
  obtain ⟨v', cs3, hv', hsl3, hown3, hrd3⟩ := M3.own (r := 0) (row := ⟨25, Kt25, true, true, zs⟩) rfl rfl rfl
  obtain rfl : v = v' := Option.some.inj (hv3.symm.trans hv')
  have hd3 : Rd w3 (fun b => w2.heap.size ≤ b) (.sl 25 Kt25) zs [v] := ownsRow_rd hown3 (hrd3.keep (Stay.mono fun b _ h => h.2 rfl)) fun b e => (M3.may_ (.row 0) b (by rw [blk_row rfl hv3 rfl, oblk_own hsl3]; exact e)).1
  obtain ⟨o, ho, hog, hod, hop⟩ := o9_2
  refine wpOps_one ho hog (wp_assign _ hop ?_)
  rw [hod]
  have ev : (a3.put (some 45) v).eval (.tmp 45) = v := get_put_same (by rw [S3.size, hsz]; decide)
  rw [ev]
  have S5 := (S3.put (t := 45) v (by decide)).put (t := 13) v (by decide)
  have g5 : ((a3.put (some 45) v).put (some 13) v).tmps.getD 12 undef = u := by rw [get_put_other (by decide), get_put_other (by decide)]; exact g3
  have v5 : ((a3.put (some 45) v).put (some 13) v).tmps.getD 13 undef = v := get_put_same (by rw [put_size, S3.size, hsz]; decide)
  generalize (a3.put (some 45) v).put (some 13) v = a5 at S5 g5 v5
  clear S3 g3 h44 e44 ev a3
  show (((Code.region 10 (opsW 10) false).seq c1).seq c2).wp Try.prog Q a5 w3
  refine wp_seq (wp_seq (wp_region ?_))
  rw [r10]
  refine wpOps_app _ _ _ _ ?_
  obtain ⟨o, ho, hog, hod, hop⟩ := o10_0
  refine wpOps_one ho hog (wp_move _ hop ?_)
  rw [hod]
  have e12 : a5.eval (.tmp 12) = u := g5
  rw [e12]
  have S6 := S5.put (t := 46) u (by decide)
  have v6 : (a5.put (some 46) u).tmps.getD 13 undef = v := by rw [get_put_other (by decide)]; exact v5
  have h46 : (a5.put (some 46) u).tmps.getD 46 undef = u := get_put_same (by rw [S5.size, hsz]; decide)
  generalize a5.put (some 46) u = a6 at S6 v6 h46
  clear S5 g5 v5 e12 a5
  obtain ⟨o, ho, hog, hod, ty, hop⟩ := o10_1
  refine wpOps_one ho hog (wp_call_hand hop Hd.fulcrumlaw02_lists.cal.fn rfl rfl ?_)
  have e46 : #[Operand.tmp 46].toList.map a6.eval = [u] := by rw [← h46]; rfl
  show Calls Try.prog 67 (#[Operand.tmp 46].toList.map a6.eval).toArray w3 _
  rw [e46]
  have hd3u : Rd w3 (fun _ => True) (.sl 25 KH) hs [u] := A.heads (fun b hb => B3.block b hb) fun _ _ => trivial
  have hLs := hL hs (by rw [A.len]; exact hzl)
  have h24 : ∀ b, b < w3.heap.size → b < w2.heap.size → w3.heap[b]? = w2.heap[b]? := fun b _ hb => B3.block b hb
  obtain ⟨V0, R0⟩ := A.sp (w2 := w2) (fun b _ => rfl) (Nat.le_refl _)
  have hVR : ∀ w', (∀ b, b < w2.heap.size → w'.heap[b]? = w2.heap[b]?) → w2.heap.size ≤ w'.heap.size → SpV w' (hs.map (·.2)) ∧ SpR w' (hs.map (·.2)) (zs.map (·.2)) := fun w' h1 h2 => A.sp h1 h2
  have hlt : ∀ v ∈ hs.map (·.2), ∀ b, v.ownBlock = some b → b < w2.heap.size ∧ w1.heap.size ≤ b := fun v hv b e => by
    refine ⟨V0.lt v hv b e, ?_⟩
    obtain ⟨h, hh, rfl⟩ := List.mem_map.1 hv
    exact A.newH h hh b e
  have hvl : (hs.map (·.2)).length < 5864062014000 := by simp [A.len]; exact hzl
  generalize hs.map (·.2) = vs at hLs hVR hlt hvl
  clear h24 V0 R0
  refine (Hd.fulcrumlaw02_lists.cal.contract w3 (fun _ => True) (hs, ()) (vs, ()) [u] (fun g tb e => by cases e) hLs ⟨u, [], rfl, hd3u, rfl⟩).mono fun e w4 he => ?_
  obtain ⟨v4, cs4, rows4, ow4, rfl, hth, M4, R4, B4⟩ := he
  refine ⟨v4, rfl, ?_⟩
  rw [hod]
  cases hth
  have hv4 : ow4.rv[0]? = some v4 := (R4 : ow4.rv[0]? = some v4 ∧ _).1
  obtain ⟨v4', cs4, hv4', hsl4, hown4, hrd4⟩ := M4.own (r := 0) (row := ⟨22, .hd, true, true, vs⟩) rfl rfl rfl
  obtain rfl : v4 = v4' := Option.some.inj (hv4.symm.trans hv4')
  have hd4 : Rd w4 (fun b => w3.heap.size ≤ b) (.sl 22 .hd) vs [v4] := ownsRow_rd hown4 (RdEach.flat rfl hrd4) fun b e => (M4.may_ (.row 0) b (by rw [blk_row rfl hv4 rfl, oblk_own hsl4]; exact e)).1
  have h24 : ∀ b, b < w2.heap.size → w4.heap[b]? = w2.heap[b]? := fun b hb => (B4.block b (Nat.lt_of_lt_of_le hb B3.size)).trans (B3.block b hb)
  obtain ⟨V, R⟩ := hVR w4 h24 (Nat.le_trans B3.size B4.size)
  obtain ⟨o, ho, hog, hod, ty, hop⟩ := o10_2
  refine wpOps_one ho hog (wp_call_hand hop body66 rfl rfl ?_)
  have e47 : #[Operand.tmp 47].toList.map (a6.put (some 47) v4).eval = [v4] := by
    show [(a6.put (some 47) v4).tmps.getD 47 undef] = [v4]
    rw [get_put_same (by rw [S6.size, hsz]; decide)]
  show Calls Try.prog 66 (#[Operand.tmp 47].toList.map (a6.put (some 47) v4).eval).toArray w4 _
  rw [e47]
  refine (Spoil_calls V R (hd4.mono fun b hb v hv e => by have := (hlt v hv b e).1; have := B3.size; omega) (fun xs hxs => by obtain ⟨z, hz', rfl⟩ := List.mem_map.1 hxs; exact hz z hz') hvl).mono fun e w5 he => ?_
  obtain ⟨rfl, X⟩ := he
  refine ⟨.bool true, rfl, ?_⟩
  rw [hod]
  have S8 := (S6.put (t := 47) v4 (by decide)).put (t := 48) (.bool true) (by decide)
  have v8 : ((a6.put (some 47) v4).put (some 48) (.bool true)).tmps.getD 13 undef = v := by rw [get_put_other (by decide), get_put_other (by decide)]; exact v6
  have t8 : ((a6.put (some 47) v4).put (some 48) (.bool true)).tmps.getD 48 undef = .bool true := get_put_same (by rw [put_size, S6.size, hsz]; decide)
  generalize (a6.put (some 47) v4).put (some 48) (.bool true) = a8 at S8 v8 t8
  have BX : Below w1.heap.size w1 w5 := by
    refine ⟨X.os.trans (B4.os.trans (B3.os.trans A.below.os)), X.tape.trans (B4.tape.trans (B3.tape.trans A.below.tape)), X.output.trans (B4.output.trans (B3.output.trans A.below.output)), Nat.le_trans A.below.size (Nat.le_trans B3.size (Nat.le_trans B4.size X.size)), fun b hb => ?_⟩
    have h2 := A.below.size
    refine (X.block b (by have := B3.size; have := B4.size; omega) fun v hv e => ?_).trans ((h24 b (by omega)).trans (A.below.block b hb))
    have := (hlt v hv b e).2
    omega
  have I8 : Stand woC 92 may (sM p q x y rx ry k []) a8 w5 ow1 := I1'.ofBelow BX (fun t ht => S8.get t ht) S8.size S8.defers
  have d13 : Rd w5 (okf (okOf ow1 ⟨[], bs4 p q x y⟩) may false) (.sl 25 Kt25) zs [v] := by
    refine hd3.keep fun b hb ho => ?_
    have h1 : w5.heap[b]? = w3.heap[b]? := by
      refine (X.block b (Nat.lt_of_lt_of_le hb B4.size) fun v hv e => ?_).trans (B4.block b hb)
      have := (hlt v hv b e).1
      omega
    have h2 : okOf ow1 ⟨[], bs4 p q x y⟩ b := fun t ht => by
      have := (I1'.mem.may_ t b ht).2
      have := A.below.size
      omega
    exact ⟨⟨h2, fun e => by cases e⟩, Nat.lt_of_lt_of_le hb (Nat.le_trans B4.size X.size), h1⟩
  rw [← v8] at d13
  have d48 : [a8.tmps.getD 48 undef] = [Value.bool true] := by rw [t8]
  have I9 : Stand woC 92 may ⟨f7 p q rx ry k ++ [(13, vI zs), (48, cb true)], ⟨[], bs4 p q x y⟩⟩ a8 w5 ow1 := Stand.more I8 (more := [(13, vI zs), (48, cb true)]) ⟨d13, d48, trivial⟩
  exact hQ a8 w5 ow1 I9 (K1.kp.trans (Keep.ofBelow BX).kp)
/-- The second answers. -/
theorem turn2 (hm : ∀ b, w.heap.size ≤ b → may b) (hA : askD k (p.1, x) (q.1, y) = some zs) (I : Stand woC 92 may (sM p q x y rx ry k [(13, vI zs)]) a w ow) {code : Code}
    (hQ : ∀ a' w' ow', Stand woC 92 may (sM p q x y rx ry k [(13, vI zs), (14, vI zs)]) a' w' ow' → Kp may w ow (sM p q x y rx ry k []).m w' ow' (sM p q x y rx ry k []).m → code.wp Try.prog Q a' w') :
    (Code.seq (rW 12) code).wp Try.prog Q a w := by
  rw [rW12]
  refine wp_seq (wp_region ?_)
  rw [r12]
  refine wpOps_app _ _ _ _ ?_
  refine ops_nrm tabOk woCk I (fun j hj => ?_) (w12a p q x y rx ry k zs) fun a1 w1 ow1 I1 K1 => ?_
  · rw [List.getElem?_take_of_lt (by rw [List.length_take] at hj; omega), Array.getElem?_toList, Nat.zero_add]
  have I1' : Stand woC 92 may (sM p q x y rx ry k [(13, vI zs)]) a1 w1 ow1 := I1.reset ⟨I1.fr 2, I1.fr 3, I1.fr 6, I1.fr 8, I1.fr 9, I1.fr 10, I1.fr 11, I1.fr 13, trivial⟩
  have h40 : a1.tmps.getD 64 undef = .int .i64 (k : Int) := I1.int (t := 64) rfl
  have h41 : RdV w1 (fun _ => True) (true, Kt25) (p.1, x) (a1.tmps.getD 65 undef) := arg_of (I1.fr 65 : SVRel _ _ _ _ _ (aI false (p.1, x)) _)
  have h42 : RdV w1 (fun _ => True) (true, Kt25) (q.1, y) (a1.tmps.getD 66 undef) := arg_of (I1.fr 66 : SVRel _ _ _ _ _ (aI false (q.1, y)) _)
  have hsz : a1.tmps.size = 92 := I1.size
  obtain ⟨o, ho, hog, hod, ty, hop⟩ := o12_3
  refine wpOps_one ho hog (wp_call_hand hop body64 rfl rfl ?_)
  have e40 : #[Operand.tmp 64, Operand.tmp 65, Operand.tmp 66].toList.map a1.eval = [a1.tmps.getD 64 undef, a1.tmps.getD 65 undef, a1.tmps.getD 66 undef] := rfl
  show Calls Try.prog 64 (#[Operand.tmp 64, Operand.tmp 65, Operand.tmp 66].toList.map a1.eval).toArray w1 _
  rw [e40, h40]
  refine (ask_calls hA h41 h42).mono fun e w2 he => ?_
  obtain ⟨hs, u, rfl, A⟩ := he
  refine ⟨u, rfl, ?_⟩
  rw [hod]
  obtain ⟨o, ho, hog, hod, hop⟩ := o12_4
  refine wpOps_one ho hog (wp_assign _ hop ?_)
  rw [hod]
  have eu : (a1.put (some 67) u).eval (.tmp 67) = u := get_put_same (by rw [hsz]; decide)
  rw [eu]
  have S2 : Same [2, 3, 6, 8, 9, 10, 11, 13] a1 ((a1.put (some 67) u).put (some 14) u) := ((Same.refl _ a1).put u (by decide)).put u (by decide)
  have g2 : ((a1.put (some 67) u).put (some 14) u).tmps.getD 14 undef = u := get_put_same (by rw [put_size, hsz]; decide)
  generalize (a1.put (some 67) u).put (some 14) u = a2 at S2 g2
  have I2 : Stand woC 92 may (sM p q x y rx ry k [(13, vI zs)]) a2 w2 ow1 := I1'.ofBelow A.below (fun t ht => S2.get t ht) S2.size S2.defers
  have d : Rd w2 (okf (okOf ow1 ⟨[], bs4 p q x y⟩) may false) (.sl 25 Kt25) zs [u] := A.data (fun b _ => rfl) fun b hb => ⟨fun t ht => by have := (I1'.mem.may_ t b ht).2; omega, fun e => by cases e⟩
  rw [← g2] at d
  have I3 : Stand woC 92 may ⟨(f7 p q rx ry k ++ [(13, vI zs)]) ++ [(14, vI zs)], ⟨[], bs4 p q x y⟩⟩ a2 w2 ow1 := Stand.more I2 (more := [(14, vI zs)]) ⟨d, trivial⟩
  exact hQ a2 w2 ow1 I3 (K1.kp.trans (Keep.ofBelow A.below).kp)
/-- The answers are compared. -/
theorem turn3 (hb : zs.length < 4611686018427387904) (hz : ∀ z ∈ zs, z.2.length < 35184372087000) (hS : ∀ z : Bool × List Int, z.2.length < 35184372087000 → fulcrumlaw02_same.F (z, z, ()) = some (true, ())) (I : Stand woC 92 may (sM p q x y rx ry k [(13, vI zs), (14, vI zs), (15, ci .i64 0)]) a w ow)
    (hQ : ∀ a' w' ow', Stand woC 92 may (sM p q x y rx ry k []) a' w' ow' → Kp may w ow (sM p q x y rx ry k []).m w' ow' (sM p q x y rx ry k []).m → Q .normal a' w') :
    (Code.block 2 (.loop cW2)).wp Try.prog Q a w := by
  refine wp_block (wp_loop (fun a' w' => ∃ (j : Nat) (ow' : Ow), j ≤ zs.length ∧ Stand woC 92 may (sM p q x y rx ry k [(13, vI zs), (14, vI zs), (15, ci .i64 (j : Int))]) a' w' ow' ∧ Kp may w ow (sM p q x y rx ry k []).m w' ow' (sM p q x y rx ry k []).m) (fun a' _ => zs.length - slotN 15 a') ⟨0, ow, Nat.zero_le _, I, Kp.refl _ _ _ _⟩ ?_)
  rintro a1 w1 ⟨j, ow1, hj, I1, K1⟩
  have h15 : slotN 15 a1 = j := I1.slotN rfl
  by_cases hlt : j < zs.length
  · have e := w14 p q x y rx ry k j zs
    have h1 : (decide ((j : Int) < (List.length zs : Int))) = true := decide_eq_true (by omega)
    have h2 : (decide ((0 : Int) ≤ (j : Int))) = true := decide_eq_true (by omega)
    have hS' := hS (zs.getD j zI) (by rw [List.getD_eq_getElem?_getD, List.getElem?_eq_getElem hlt]; exact hz _ (List.getElem_mem hlt))
    rw [h1, h2, Int.toNat_natCast] at e
    have hS' : fulcrumlaw02_same.F (((List.getD zs j zI).1, (List.getD zs j zI).2), ((List.getD zs j zI).1, (List.getD zs j zI).2), ()) = some (true, ()) := hS'
    rw [hS'] at e
    simp only [cond_true, Option.bind_some, beq_self_eq_true, Bool.not_true, cond_false, Bool.and_self, wrapS (show j < 4611686018427387904 by omega)] at e
    refine goO_ok tabOk woCk mix I1 e (fun vs' m' a2 w2 ow2 e I2 K2 => ?_) (fun j vs' m' a2 w2 ow2 e => by cases e) (fun vs' m' a2 w2 ow2 e => by cases e)
    cases e
    refine ⟨⟨j + 1, ow2, by omega, I2, K1.trans K2.kp⟩, ?_⟩
    have h11 : slotN 15 a2 = j + 1 := I2.slotN rfl
    show zs.length - slotN 15 a2 < zs.length - slotN 15 a1
    omega
  · have e := w14 p q x y rx ry k j zs
    have h1 : (decide ((j : Int) < (List.length zs : Int))) = false := decide_eq_false (by omega)
    rw [h1] at e
    simp only [cond_false] at e
    refine goO_ok tabOk woCk mix I1 e (fun vs' m' a2 w2 ow2 e => by cases e) (fun j vs' m' a2 w2 ow2 e I2 K2 => ?_) (fun vs' m' a2 w2 ow2 e => by cases e)
    cases e
    simp only [Exit.then, Exit.inBlock, if_true]
    exact hQ a2 w2 ow2 (I2.reset ⟨I2.fr 2, I2.fr 3, I2.fr 6, I2.fr 8, I2.fr 9, I2.fr 10, I2.fr 11, trivial⟩) (K1.trans K2.kp)
end
set_option maxRecDepth 100000
/-- What is known of the data. -/
structure WoD (p q : Bool × List Int) (rx ry : List Int) : Prop where
  room1 : fulcrummem_Room.F (p.2, ()) = some (p.2, rx, ())
  room2 : fulcrummem_Room.F (q.2, ()) = some (q.2, ry, ())
  kept1 : fulcrummem_Kept.F (rx, p.2, ()) = some (true, ())
  kept2 : fulcrummem_Kept.F (ry, q.2, ()) = some (true, ())
  ask : ∀ k : Nat, k < 16 → ∃ zs, askD k p q = some zs ∧ (∀ z ∈ zs, z.2.length < 35184372087000) ∧ zs.length < 4611686018 ∧ fulcrumlaw02_ints.F (zs, ()) = some (zs, ())
  lists : ∀ hs : List (Bool × Value), hs.length < 5864062014000 → Hd.fulcrumlaw02_lists.F (hs, ()) = some (hs.map (·.2), ())
  same : ∀ z : Bool × List Int, z.2.length < 35184372087000 → fulcrumlaw02_same.F (z, z, ()) = some (true, ())
  awake : fulcrumlaw02_awake.F () = some (true, ())
section
variable {p q : Bool × List Int} {rx ry : List Int} {k : Nat} {may : Nat → Prop} {w : World} {ow : Ow} {a : Act} {Q : Exit → Act → World → Prop}
noncomputable def cond10 : Code := .cond (.tmp 63) (.seq (rW 11) .ret) .skip
abbrev m4 (p q : Bool × List Int) : Mem := ⟨[], bs4 p q p.2 q.2⟩
theorem turnAll (D : WoD p q rx ry) (hk : k < 16) (hm : ∀ b, w.heap.size ≤ b → may b) (I : Stand woC 92 may (sM p q p.2 q.2 rx ry k []) a w ow)
    (hQ : ∀ a' w' ow', Stand woC 92 may (sM p q p.2 q.2 rx ry k []) a' w' ow' → Kp may w ow (m4 p q) w' ow' (m4 p q) → Q .normal a' w') :
    (Code.seq (rW 8) (.seq (rW 9) (.seq (.seq (rW 10) cond10) (.seq (rW 12) (.seq (rW 13) (.block 2 (.loop cW2))))))).wp Try.prog Q a w := by
  obtain ⟨zs, hA, hz, hzl, hI⟩ := D.ask k hk
  refine turn1 hm hA hz (by omega) hI D.lists I fun a1 w1 ow1 I1 K1 => ?_
  have e10 := w10b p q p.2 q.2 rx ry k zs
  rw [D.kept1, D.kept2] at e10
  simp only [Option.bind_some, Bool.not_true, cond_false] at e10
  refine ops_nrm tabOk woCk I1 (fun j hj => ?_) e10 fun a2 w2 ow2 I2 K2 => ?_
  · rw [List.getElem?_drop, Array.getElem?_toList]
  have I2' : Stand woC 92 may (sM p q p.2 q.2 rx ry k [(13, vI zs), (63, cb false)]) a2 w2 ow2 := I2
  show cond10.wp Try.prog _ a2 w2
  refine goO_ok tabOk woCk mix I2' (wc10 p q p.2 q.2 rx ry k zs) (fun vs' m' a3 w3 ow3 e I3 K3 => ?_) (fun j vs' m' a2 w2 ow2 e => by cases e) (fun vs' m' a2 w2 ow2 e => by cases e)
  cases e
  show (Code.seq (rW 12) _).wp Try.prog Q a3 w3
  have K13 : Kp may w ow (m4 p q) w3 ow3 (m4 p q) := (K1.trans K2.kp).trans K3.kp
  refine turn2 (fun b hb => hm b (Nat.le_trans K13.size hb)) hA I3 fun a4 w4 ow4 I4 K4 => ?_
  refine wp_seq (goO_ok tabOk woCk mix I4 (w13 p q p.2 q.2 rx ry k zs) (fun vs' m' a5 w5 ow5 e I5 K5 => ?_) (fun j vs' m' a2 w2 ow2 e => by cases e) (fun vs' m' a2 w2 ow2 e => by cases e))
  cases e
  refine turn3 (by omega) hz D.same I5 fun a6 w6 ow6 I6 K6 => ?_
  exact hQ a6 w6 ow6 I6 (((K13.trans K4).trans K5.kp).trans K6)
theorem loopAll (D : WoD p q rx ry) (hm : ∀ b, w.heap.size ≤ b → may b) (I : Stand woC 92 may (sM p q p.2 q.2 rx ry 0 []) a w ow)
    (hQ : ∀ a' w', Stand woC 92 may ⟨[], ⟨[], []⟩⟩ a' w' ⟨[], []⟩ → Kp may w ow (m4 p q) w' ⟨[], []⟩ ⟨[], []⟩ → Q .normal a' w') :
    (Code.block 0 (.loop (.seq hW (.seq (.block 1 (.seq (rW 8) (.seq (rW 9) (.seq (.seq (rW 10) cond10) (.seq (rW 12) (.seq (rW 13) (.block 2 (.loop cW2)))))))) (rW 7))))).wp Try.prog Q a w := by
  refine wp_block (wp_loop (fun a' w' => ∃ (k : Nat) (ow' : Ow), k ≤ 16 ∧ Stand woC 92 may (sM p q p.2 q.2 rx ry k []) a' w' ow' ∧ Kp may w ow (m4 p q) w' ow' (m4 p q)) (fun a' _ => 16 - slotN 11 a') ⟨0, ow, Nat.zero_le _, I, Kp.refl _ _ _ _⟩ ?_)
  rintro a1 w1 ⟨k, ow1, hk, I1, K1⟩
  have h11 : slotN 11 a1 = k := I1.slotN rfl
  by_cases hlt : k < 16
  · have e := w6 p q p.2 q.2 rx ry k
    rw [decide_eq_true (by omega : (k : Int) < 16)] at e
    refine wp_seq (goO_ok tabOk woCk mix I1 e (fun vs' m' a2 w2 ow2 e I2 K2 => ?_) (fun j vs' m' a2 w2 ow2 e => by cases e) (fun vs' m' a2 w2 ow2 e => by cases e))
    cases e
    refine wp_seq (wp_block ?_)
    refine turnAll D hlt (fun b hb => hm b (Nat.le_trans K1.size (Nat.le_trans K2.size hb))) I2 fun a3 w3 ow3 I3 K3 => ?_
    have e7 := w7 p q p.2 q.2 rx ry k
    rw [wrapS (show k < 4611686018427387904 by omega)] at e7
    refine goO_ok tabOk woCk mix I3 e7 (fun vs' m' a4 w4 ow4 e I4 K4 => ?_) (fun j vs' m' a2 w2 ow2 e => by cases e) (fun vs' m' a2 w2 ow2 e => by cases e)
    cases e
    refine ⟨⟨k + 1, ow4, by omega, I4, ((K1.trans K2.kp).trans K3).trans K4.kp⟩, ?_⟩
    have h : slotN 11 a4 = k + 1 := I4.slotN rfl
    show 16 - slotN 11 a4 < 16 - slotN 11 a1
    omega
  · have e := w6 p q p.2 q.2 rx ry k
    rw [decide_eq_false (by omega : ¬ (k : Int) < 16)] at e
    refine wp_seq (goO_ok tabOk woCk mix I1 e (fun vs' m' a2 w2 ow2 e => by cases e) (fun j vs' m' a2 w2 ow2 e I2 K2 => ?_) (fun vs' m' a2 w2 ow2 e => by cases e))
    cases e
    simp only [Exit.then, Exit.inBlock, if_true]
    exact hQ a2 w2 ⟨⟨I2.live.new, (fun g tb e => by cases e), (fun g tb e => by cases e)⟩, memNone, FrRel.of trivial, I2.size, I2.defers⟩ ((K1.trans K2.kp).trans (Kp.look fun b _ _ => okNone b))
end
theorem getD_args2 {u v : Value} {n : Nat} : ((#[u, v] : Array Value) ++ Array.replicate n undef).getD 0 undef = u ∧ ((#[u, v] : Array Value) ++ Array.replicate n undef).getD 1 undef = v := by
  refine ⟨?_, ?_⟩ <;> (rw [Array.getD_eq_getD_getElem?, Array.getElem?_append_left (by simp)]; rfl)
theorem size_args2 {u v : Value} {n N : Nat} (h : n = N + 2) : ((#[u, v] : Array Value) ++ Array.replicate (n - (#[u, v] : Array Value).size) undef).size = N + 2 := by subst h; simp; omega
/-- The whole function. -/
theorem wo_calls {p q : Bool × List Int} {rx ry : List Int} (D : WoD p q rx ry) {w : World} {okA : Nat → Prop} {va vb : Value} (hA : RdV w okA (true, Kt25) p va) (hB : RdV w okA (true, Kt25) q vb) :
    Calls Try.prog 16 #[va, vb] w fun e w' => e = .returned (.bool true) ∧ Below w.heap.size w w' := by
  refine calls_of_wp Try.func16 wo_body ?_
  obtain ⟨a0, ha0⟩ : ∃ a0 : Act, a0 = { tmps := #[va, vb] ++ Array.replicate (Try.f16.ntmps - (#[va, vb] : Array Value).size) undef, defers := [] } := ⟨_, rfl⟩
  have hg : a0.tmps.getD 0 undef = va ∧ a0.tmps.getD 1 undef = vb := by rw [ha0]; exact getD_args2
  have hs : a0.tmps.size = 92 := by rw [ha0]; exact size_args2 (by kernel_rfl)
  have hd : a0.defers = [] := by rw [ha0]
  rw [← ha0]
  clear ha0
  have ar : ∀ {x : Bool × List Int} {v : Value}, RdV w okA (true, Kt25) x v → SVRel w (okOf ⟨[], []⟩ ⟨[], []⟩) (fun b => w.heap.size ≤ b) ⟨[], []⟩ ⟨[], []⟩ (aI false x) v := fun {x v} h => by
    unfold RdV at h
    rw [if_pos rfl] at h
    obtain ⟨cs, e, h⟩ := h
    exact ⟨cs, e, split_rel (fr := false) (k := .prod .bool (.sl 70 (.int .u32))) (x := x) (Rd.mono (fun b _ => ⟨okNone b, fun e => by cases e⟩) h)⟩
  have I0 : Stand woC 92 (fun b => w.heap.size ≤ b) ⟨[(0, aI false p), (1, aI false q)], ⟨[], []⟩⟩ a0 w ⟨[], []⟩ := by
    refine ⟨⟨fun b h => h, (fun g tb e => by cases e), (fun g tb e => by cases e)⟩, memNone, FrRel.of ⟨?_, ?_, trivial⟩, hs, hd⟩
    · show SVRel _ _ _ _ _ _ (a0.tmps.getD 0 undef)
      rw [hg.1]; exact ar hA
    · show SVRel _ _ _ _ _ _ (a0.tmps.getD 1 undef)
      rw [hg.2]; exact ar hB
  have weak : ∀ {w1 : World} {ok may : Nat → Prop} {ow : Ow} {m : Mem} {x : List Int} {v : Value}, SVRel w1 ok may ow m (.one (.lf (.val true (.sl 70 (.int .u32)) x))) v → SVRel w1 ok may ow m (vN x) v := fun {w1 ok may ow m x v} h => Rd.mono (fun b h => ⟨h.1, fun e => by cases e⟩) (h : Rd _ _ _ _ _)
  refine wp_seq (goO_ok tabOk woCk mix I0 (w0 p q) (fun vs' m' a1 w1 ow1 e I1 K1 => ?_) (fun j vs' m' a2 w2 ow2 e => by cases e) (fun vs' m' a2 w2 ow2 e => by cases e))
  cases e
  refine wp_seq (goO_ok tabOk woCk mix I1 ((Try.w1 p q).trans (by rw [D.room1]; rfl)) (fun vs' m' a2 w2 ow2 e I2 K2 => ?_) (fun j vs' m' a2 w2 ow2 e => by cases e) (fun vs' m' a2 w2 ow2 e => by cases e))
  cases e
  have I2 : Stand woC 92 (fun b => w.heap.size ≤ b) ⟨[(2, .box 0 0), (3, .box 1 0), (5, vN p.2), (6, vN rx)], ⟨[], [bxV p, bxV q]⟩⟩ a2 w2 ow2 := I2.reset ⟨I2.fr 2, I2.fr 3, weak (I2.fr 5), weak (I2.fr 6), trivial⟩
  refine wp_seq (goO_ok tabOk woCk mix I2 ((Try.w2 p q p.2 rx).trans (by rw [D.room2]; rfl)) (fun vs' m' a3 w3 ow3 e I3 K3 => ?_) (fun j vs' m' a2 w2 ow2 e => by cases e) (fun vs' m' a2 w2 ow2 e => by cases e))
  cases e
  have I3 : Stand woC 92 (fun b => w.heap.size ≤ b) ⟨[(2, .box 0 0), (3, .box 1 0), (5, vN p.2), (6, vN rx), (7, vN q.2), (8, vN ry)], ⟨[], [bxV p, bxV q]⟩⟩ a3 w3 ow3 := I3.reset ⟨I3.fr 2, I3.fr 3, I3.fr 5, I3.fr 6, weak (I3.fr 7), weak (I3.fr 8), trivial⟩
  refine wp_seq (goO_ok tabOk woCk mix I3 (Try.w3 p q p.2 rx q.2 ry) (fun vs' m' a4 w4 ow4 e I4 K4 => ?_) (fun j vs' m' a2 w2 ow2 e => by cases e) (fun vs' m' a2 w2 ow2 e => by cases e))
  cases e
  have I4 : Stand woC 92 (fun b => w.heap.size ≤ b) ⟨[(2, .box 0 0), (3, .box 1 0), (6, vN rx), (7, vN q.2), (8, vN ry), (9, .box 2 0)], ⟨[], [bxV p, bxV q, bxV (p.1, p.2)]⟩⟩ a4 w4 ow4 := I4
  refine wp_seq (goO_ok tabOk woCk mix I4 (Try.w4 p q p.2 rx q.2 ry) (fun vs' m' a5 w5 ow5 e I5 K5 => ?_) (fun j vs' m' a2 w2 ow2 e => by cases e) (fun vs' m' a2 w2 ow2 e => by cases e))
  cases e
  refine wp_seq (wp_seq (goO_ok tabOk woCk mix I5 (Try.w5 p q p.2 rx q.2 ry) (fun vs' m' a6 w6 ow6 e I6 K6 => ?_) (fun j vs' m' a2 w2 ow2 e => by cases e) (fun vs' m' a2 w2 ow2 e => by cases e)))
  cases e
  have K06 := ((((K1.kp.trans K2.kp).trans K3.kp).trans K4.kp).trans K5.kp).trans K6.kp
  refine loopAll D (fun b hb => Nat.le_trans K06.size hb) I6 fun a7 w7 I7 K7 => ?_
  refine goO_ok tabOk woCk mix I7 (w18.trans (by rw [D.awake]; rfl)) (fun vs' m' a2 w2 ow2 e => by cases e) (fun j vs' m' a2 w2 ow2 e => by cases e) (fun vs' m' a8 w8 ow8 e I8 K8 => ?_)
  cases e
  have h4 : [a8.tmps.getD 4 undef] = [Value.bool true] := I8.fr 4
  refine ⟨I8.defers, .bool true, ?_, rfl, Kp.below ((K06.trans K7).trans K8.kp)⟩
  rw [results_tmp (t := 4) rfl, (List.cons.inj h4).1]
end Go.Fx.Try
