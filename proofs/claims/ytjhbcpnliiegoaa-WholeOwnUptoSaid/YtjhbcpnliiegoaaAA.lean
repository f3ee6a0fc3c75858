/- ask: what its pieces of code do. -/
import Derived.Test.YtjhbcpnliiegoaaWB
import Derived.Test.YtjhbcpnliiegoaaW02o
import Derived.Test.YtjhbcpnliiegoaaW02h
import Derived.Tactics
namespace Go.Fx.Try
open Go Go.Proofs Go.Fx Go.RowKit
set_option linter.unusedVariables false
set_option linter.unusedSimpArgs false
set_option maxRecDepth 100000
noncomputable def akC : Cals := (Cals.cons 22 whole_Norm.sig (Cals.cons 24 whole_Neg.sig (Cals.cons 27 whole_Abs.sig (Cals.cons 31 whole_Add.sig (Cals.cons 33 whole_Sub.sig (Cals.cons 35 whole_Mul.sig (Cals.cons 43 whole_Quo.sig (Cals.cons 45 whole_Floor.sig (Cals.cons 47 whole_Euclid.sig (Cals.cons 56 whole_Gcd.sig (Cals.cons 59 whole_Lcm.sig (Cals.cons 57 whole_Bezout.sig (Cals.cons 55 whole_Inverse.sig (Cals.cons 41 whole_Shift.sig (Cals.cons 53 whole_Pow.sig (Cals.cons 50 whole_Root.sig (Cals.base tabs)))))))))))))))))
theorem akCk : CalsOk Try.prog akC := (CalsOk.cons whole_Norm.cal (CalsOk.cons whole_Neg.cal (CalsOk.cons whole_Abs.cal (CalsOk.cons whole_Add.cal (CalsOk.cons whole_Sub.cal (CalsOk.cons whole_Mul.cal (CalsOk.cons whole_Quo.cal (CalsOk.cons whole_Floor.cal (CalsOk.cons whole_Euclid.cal (CalsOk.cons whole_Gcd.cal (CalsOk.cons whole_Lcm.cal (CalsOk.cons whole_Bezout.cal (CalsOk.cons whole_Inverse.cal (CalsOk.cons whole_Shift.cal (CalsOk.cons whole_Pow.cal (CalsOk.cons whole_Root.cal (CalsOk.base tabsOk)))))))))))))))))
theorem akTabs : akC.tabs = fun _ => none := rfl
noncomputable def rA (j : Nat) : Code := regF Try.f64 j
noncomputable def cA : Code := match Try.f64.body with
  | some (.seq _ (.seq _ (.seq (.seq _ c) _))) => c
  | _ => .skip
theorem ak_body : Try.f64.body = some (.seq (rA 0) (.seq (rA 1) (.seq (.seq (rA 2) cA) (.seq (rA 38) .ret)))) := by kernel_rfl
noncomputable def cA11 : Code := .seq (rA 27) .ret
theorem ak_occ : occ 27 cA = [cA11] := by kernel_rfl
abbrev rowL (xs : List Int) : Row := ⟨70, .int .u32, true, true, xs⟩
abbrev bxV (p : Bool × List Int) : Option Box := some ⟨25, [.val false .bool p.1, .val false (.sl 70 (.int .u32)) p.2]⟩
abbrev bxO (b : Bool) (r : Nat) : Option Box := some ⟨25, [.val true .bool b, .own r]⟩
abbrev bxZ : Option Box := some ⟨25, [.val true .bool false, .nil]⟩
theorem ak0 (c : Int) (p q : Bool × List Int) : goO akC T 136 9 (rA 0) ⟨[(0, ci .i64 c), (1, .one (.agg [.val false .bool p.1, .val false (.sl 70 (.int .u32)) p.2])), (2, .one (.agg [.val false .bool q.1, .val false (.sl 70 (.int .u32)) q.2]))], ⟨[], []⟩⟩ [0, 4, 5] = some (.nrm [ci .i64 c, .box 0 0, .box 1 0] ⟨[], [bxV p, bxV q]⟩) := by kernel_rfl
theorem ak1 (c : Int) (p q : Bool × List Int) : goO akC T 136 9 (rA 1) ⟨[(0, ci .i64 c), (4, .box 0 0), (5, .box 1 0)], ⟨[], [bxV p, bxV q]⟩⟩ [0, 4, 5, 7, 8] = some (.nrm [ci .i64 c, .box 0 0, .box 1 0, .box 2 0, .box 3 0] ⟨[], [bxV p, bxV q, bxZ, bxZ]⟩) := by kernel_rfl
abbrev sK (c : Int) (p q : Bool × List Int) : S := ⟨[(0, ci .i64 c), (4, .box 0 0), (5, .box 1 0), (7, .box 2 0), (8, .box 3 0)], ⟨[], [bxV p, bxV q, bxZ, bxZ]⟩⟩
theorem ak2 (c : Int) (p q : Bool × List Int) : goO akC T 136 9 (rA 2) (sK c p q) [12, 4, 5, 7, 8] = some (.nrm [ci .i64 c, .box 0 0, .box 1 0, .box 2 0, .box 3 0] ⟨[], [bxV p, bxV q, bxZ, bxZ]⟩) := by kernel_rfl
abbrev sQ (c : Int) (p q : Bool × List Int) : S := ⟨[(12, ci .i64 c), (4, .box 0 0), (5, .box 1 0), (7, .box 2 0), (8, .box 3 0)], ⟨[], [bxV p, bxV q, bxZ, bxZ]⟩⟩
noncomputable def evA (c : Int) (p q : Bool × List Int) (ts : List Nat) : Option OutS := goS akC T 136 27 ts 99 cA (sQ c p q) (fun s' => some (.nrm (ts.map s'.get) s'.m.trim)) (fun _ _ => none)
theorem evA0 (p q : Bool × List Int) : evA 0 p q [7, 8] = (whole_Norm.F ((p.1, p.2), ())).bind fun y => some (.nrm [.box 2 0, .box 3 0] ⟨[some (rowL y.1.2)], [bxV p, bxV q, bxO y.1.1 0, bxZ]⟩) := by kernel_rfl
theorem evA1 (p q : Bool × List Int) : evA 1 p q [7, 8] = (whole_Neg.F ((p.1, p.2), ())).bind fun y => some (.nrm [.box 2 0, .box 3 0] ⟨[some (rowL y.1.2)], [bxV p, bxV q, bxO y.1.1 0, bxZ]⟩) := by kernel_rfl
theorem evA2 (p q : Bool × List Int) : evA 2 p q [7, 8] = (whole_Abs.F ((p.1, p.2), ())).bind fun y => some (.nrm [.box 2 0, .box 3 0] ⟨[some (rowL y.1)], [bxV p, bxV q, bxO false 0, bxZ]⟩) := by kernel_rfl
theorem evA3 (p q : Bool × List Int) : evA 3 p q [7, 8] = (whole_Add.F ((p.1, p.2), (q.1, q.2), ())).bind fun y => some (.nrm [.box 2 0, .box 3 0] ⟨[some (rowL y.1.2)], [bxV p, bxV q, bxO y.1.1 0, bxZ]⟩) := by kernel_rfl
theorem evA4 (p q : Bool × List Int) : evA 4 p q [7, 8] = (whole_Sub.F ((p.1, p.2), (q.1, q.2), ())).bind fun y => some (.nrm [.box 2 0, .box 3 0] ⟨[some (rowL y.1.2)], [bxV p, bxV q, bxO y.1.1 0, bxZ]⟩) := by kernel_rfl
theorem evA5 (p q : Bool × List Int) : evA 5 p q [7, 8] = (whole_Mul.F ((p.1, p.2), (q.1, q.2), ())).bind fun y => some (.nrm [.box 2 0, .box 3 0] ⟨[some (rowL y.1.2)], [bxV p, bxV q, bxO y.1.1 0, bxZ]⟩) := by kernel_rfl
theorem evA6 (p q : Bool × List Int) : evA 6 p q [7, 8] = (whole_Quo.F ((p.1, p.2), (q.1, q.2), ())).bind fun y => some (.nrm [.box 2 0, .box 3 0] ⟨[some (rowL y.1.2), some (rowL y.2.1.2)], [bxV p, bxV q, bxO y.1.1 0, bxO y.2.1.1 1]⟩) := by kernel_rfl
theorem evA7 (p q : Bool × List Int) : evA 7 p q [7, 8] = (whole_Floor.F ((p.1, p.2), (q.1, q.2), ())).bind fun y => some (.nrm [.box 2 0, .box 3 0] ⟨[some (rowL y.1.2), some (rowL y.2.1.2)], [bxV p, bxV q, bxO y.1.1 0, bxO y.2.1.1 1]⟩) := by kernel_rfl
theorem evA8 (p q : Bool × List Int) : evA 8 p q [7, 8] = (whole_Euclid.F ((p.1, p.2), (q.1, q.2), ())).bind fun y => some (.nrm [.box 2 0, .box 3 0] ⟨[some (rowL y.1.2), some (rowL y.2.1.2)], [bxV p, bxV q, bxO y.1.1 0, bxO y.2.1.1 1]⟩) := by kernel_rfl
theorem evA9 (p q : Bool × List Int) : evA 9 p q [7, 8] = (whole_Gcd.F ((p.1, p.2), (q.1, q.2), ())).bind fun y => some (.nrm [.box 2 0, .box 3 0] ⟨[some (rowL y.1)], [bxV p, bxV q, bxO false 0, bxZ]⟩) := by kernel_rfl
theorem evA10 (p q : Bool × List Int) : evA 10 p q [7, 8] = (whole_Lcm.F ((p.1, p.2), (q.1, q.2), ())).bind fun y => some (.nrm [.box 2 0, .box 3 0] ⟨[some (rowL y.1)], [bxV p, bxV q, bxO false 0, bxZ]⟩) := by kernel_rfl
theorem evA11 (p q : Bool × List Int) : evA 11 p q [9, 10, 11] = (whole_Bezout.F ((p.1, p.2), (q.1, q.2), ())).bind fun y => some (.stp [.one (.lf (.own 0)), .box 4 0, .box 5 0] ⟨[some (rowL y.1), some (rowL y.2.1.2), some (rowL y.2.2.1.2)], [bxV p, bxV q, bxZ, bxZ, bxO y.2.1.1 1, bxO y.2.2.1.1 2]⟩) := by kernel_rfl
theorem evA12 (p q : Bool × List Int) : evA 12 p q [7, 8] = (whole_Inverse.F ((p.1, p.2), (q.1, q.2), ())).bind fun y => some (.nrm [.box 2 0, .box 3 0] ⟨[some (rowL y.1.2)], [bxV p, bxV q, bxO y.1.1 0, bxZ]⟩) := by kernel_rfl
theorem evA13 (p q : Bool × List Int) : evA 13 p q [7, 8] = (whole_Shift.F ((p.1, p.2), (0 : Int), ())).bind fun y => (whole_Shift.F ((p.1, p.2), (32 : Int), ())).bind fun z => some (.nrm [.box 2 0, .box 3 0] ⟨[some (rowL y.1.2), some (rowL z.1.2)], [bxV p, bxV q, bxO y.1.1 0, bxO z.1.1 1]⟩) := by kernel_rfl
theorem evA14 (p q : Bool × List Int) : evA 14 p q [7, 8] = (whole_Pow.F ((p.1, p.2), (1 : Int), ())).bind fun y => (whole_Pow.F ((p.1, p.2), (0 : Int), ())).bind fun z => some (.nrm [.box 2 0, .box 3 0] ⟨[some (rowL y.1.2), some (rowL z.1.2)], [bxV p, bxV q, bxO y.1.1 0, bxO z.1.1 1]⟩) := by kernel_rfl
theorem evA15 (p q : Bool × List Int) : evA 15 p q [7, 8] = (whole_Root.F ((p.1, p.2), ())).bind fun y => some (.nrm [.box 2 0, .box 3 0] ⟨[some (rowL y.1.2)], [bxV p, bxV q, bxO y.1.1 0, bxZ]⟩) := by kernel_rfl
abbrev bxH (p : Bool × Value) : Option Box := some ⟨25, [.val true .bool p.1, .val true .hd p.2]⟩
theorem ak38 (p q : Bool × List Int) (x y : Bool × Value) (rv : List Value) : goO akC Hd.T 136 9 (.seq (rA 38) .ret) ⟨[(7, .box 2 0), (8, .box 3 0)], ⟨[], [bxV p, bxV q, bxH x, bxH y]⟩⟩ [6] = some (.rt [.one (.lf (.own 0))] ⟨[some ⟨25, .prod .bool .hd, true, true, [x, y]⟩], [bxV p, bxV q, bxH x, bxH y]⟩) := by kernel_rfl
theorem ak27 (p q : Bool × List Int) (g : Value) (x y : Bool × Value) (z1 z2 : Bool × Value) : goO akC Hd.T 136 9 cA11 ⟨[(9, .one (.lf (.val true .hd g))), (10, .box 4 0), (11, .box 5 0)], ⟨[], [bxV p, bxV q, bxH z1, bxH z2, bxH x, bxH y]⟩⟩ [6] = some (.rt [.one (.lf (.own 0))] ⟨[some ⟨25, .prod .bool .hd, true, true, [(false, g), x, y]⟩], [bxV p, bxV q, bxH z1, bxH z2, bxH x, bxH y]⟩) := by kernel_rfl
end Go.Fx.Try

namespace Go.Fx
open Go Go.RowKit
set_option linter.unusedVariables false
set_option linter.unusedSimpArgs false
/-- A leaf's slice, where it is a row of the call's own or nil. -/
def hv (rv : List Value) : Leaf → Value
  | .own r => rv.getD r nilV
  | _ => nilV
/-- What it holds. -/
def LD (rows : List Row) (l : Leaf) (xs : List Int) : Prop := (l = .nil ∧ xs = []) ∨ ∃ i, l = .own i ∧ rows[i]? = some ⟨70, .int .u32, true, true, xs⟩
section
variable {P : Program} {C : Cals} {N : Nat} {w w' : World} {may : Nat → Prop} {ow ow' : Ow} {m : Mem} {s : S} {a : Act}
theorem hdLeaf_hv {rows : List Row} {l : Leaf} {xs : List Int} {rv : List Value} (h : LD rows l xs) : hdLeaf rv l = .val true .hd (hv rv l) := by
  rcases h with ⟨rfl, _⟩ | ⟨i, rfl, _⟩ <;> rfl
theorem LD.row {rows : List Row} {bs : List (Option Box)} (M : MemRel w may ow ⟨rows.map some, bs⟩) {l : Leaf} {xs : List Int} (h : LD rows l xs) :
    w.ownsRow 0 70 1 (hv ow.rv l) xs.length (xs.map (Value.int .u32)) ∧ ∀ b, (hv ow.rv l).ownBlock = some b → may b ∧ okOf ⟨[], ow.bb⟩ ⟨[], bs.map (hdBox ow.rv)⟩ b ∧ ∃ i, l = .own i ∧ blk ow ⟨rows.map some, bs⟩ (.row i) = some b := by
  rcases h with ⟨rfl, rfl⟩ | ⟨i, rfl, hi⟩
  · exact ⟨World.ownsRow_nil _ _ _ _, fun b e => by cases e⟩
  · have hr : (⟨rows.map some, bs⟩ : Mem).row? i = some ⟨70, .int .u32, true, true, xs⟩ := by
      simp only [Mem.row?, List.getElem?_map, hi]; rfl
    obtain ⟨v, cs, h1, h2, h3, h4⟩ := M.own hr rfl rfl
    have e : hv ow.rv (.own i) = v := by show ow.rv.getD i nilV = v; rw [List.getD_eq_getElem?_getD, h1]; rfl
    rw [e]
    obtain rfl := RdEach_ints' h4
    refine ⟨h3, fun b hb => ?_⟩
    have hbk : blk ow ⟨rows.map some, bs⟩ (.row i) = some b := by rw [blk_row hr h1 rfl, oblk_own h2]; exact hb
    refine ⟨(M.may_ _ b hbk).1, fun x hx => ?_, i, rfl, hbk⟩
    cases x with
    | row j => simp [blk, Mem.row?] at hx
    | box j =>
      have : blk ow ⟨rows.map some, bs⟩ (.box j) = some b := by
        simp only [blk] at hx ⊢
        rw [box?_hd (m := ⟨rows.map some, bs⟩)] at hx
        cases h1 : (⟨rows.map some, bs⟩ : Mem).box? j with
        | none => rw [h1] at hx; cases hx
        | some bx => rw [h1] at hx; exact hx
      cases M.dis _ _ b hbk this
theorem LD.dis {rows : List Row} {bs : List (Option Box)} (M : MemRel w may ow ⟨rows.map some, bs⟩) {l l' : Leaf} {xs ys : List Int} (h : LD rows l xs) (h' : LD rows l' ys) (hne : l = l' → l = .nil) {b : Nat} (e : (hv ow.rv l).ownBlock = some b) (e' : (hv ow.rv l').ownBlock = some b) : False := by
  obtain ⟨i, rfl, hi⟩ := ((h.row M).2 b e).2.2
  obtain ⟨j, rfl, hj⟩ := ((h'.row M).2 b e').2.2
  have := M.dis _ _ b hi hj
  injection this with this
  subst this
  cases hne rfl
end
end Go.Fx
namespace Go.Fx.Try
open Go Go.Proofs Go.Fx Go.RowKit
set_option linter.unusedVariables false
set_option linter.unusedSimpArgs false
set_option maxRecDepth 100000
abbrev KH : K := .prod .bool .hd
/-- Answers that are new memory: their slices (hs), what these hold (zs). -/
structure AskR (w w' : World) (hs : List (Bool × Value)) (zs : List (Bool × List Int)) (u : Value) : Prop where
  len : hs.length = zs.length
  own : ∃ cs, w'.ownsRow 0 25 2 u hs.length cs ∧ ∀ ok, RdEach w' ok KH hs cs
  rows : ∀ (i : Nat) (h : Bool × Value) (z : Bool × List Int), hs[i]? = some h → zs[i]? = some z → h.1 = z.1 ∧ w'.ownsRow 0 70 1 h.2 z.2.length (z.2.map (Value.int .u32))
  dis : ∀ (i j : Nat) (h h' : Bool × Value) (b : Nat), hs[i]? = some h → hs[j]? = some h' → h.2.ownBlock = some b → h'.2.ownBlock = some b → i = j
  off : ∀ b, u.ownBlock = some b → ∀ h ∈ hs, h.2.ownBlock ≠ some b
  newH : ∀ h ∈ hs, ∀ b, h.2.ownBlock = some b → w.heap.size ≤ b
  newU : ∀ b, u.ownBlock = some b → w.heap.size ≤ b
  below : Below w.heap.size w w'
theorem Kp.below {w w' : World} {o o' : Ow} {m m' : Mem} (h : Kp (fun b => w.heap.size ≤ b) w o m w' o' m') : Below w.heap.size w w' :=
  ⟨h.os, h.tape, h.output, h.size, fun b hb => h.frame b hb (by omega)⟩
/-- The end of ask, from its slices on. -/
theorem ask_fin {w0 w : World} {ow : Ow} {a : Act} {fr : List (Nat × SV)} {rows : List Row} {bs bs' : List (Option Box)} {ls : List (Bool × Leaf)} {zs : List (Bool × List Int)} {D : Code} {Q : Exit → Act → World → Prop}
    (I : Stand akC 136 (fun b => w0.heap.size ≤ b) ⟨fr, ⟨rows.map some, bs⟩⟩ a w ow) (K : Kp (fun b => w0.heap.size ≤ b) w0 ⟨[], []⟩ ⟨[], []⟩ w ow ⟨rows.map some, bs⟩)
    (hl : ls.length = zs.length) (hd : ∀ (i : Nat) (b : Bool) (l : Leaf) (z : Bool × List Int), ls[i]? = some (b, l) → zs[i]? = some z → b = z.1 ∧ LD rows l z.2) (hne : ∀ (i j : Nat) (b b' : Bool) (l l' : Leaf), ls[i]? = some (b, l) → ls[j]? = some (b', l') → i ≠ j → l = l' → l = .nil)
    (e : goO akC Hd.T 136 9 D ⟨fr.map fun q => (q.1, hdSV ow.rv q.2), ⟨[], bs.map (hdBox ow.rv)⟩⟩ [6] = some (.rt [.one (.lf (.own 0))] ⟨[some ⟨25, KH, true, true, ls.map fun q => (q.1, hv ow.rv q.2)⟩], bs'⟩))
    (hQ : ∀ a' w' u, a'.defers = [] → (results Try.f64 a'.tmps).run Try.prog w' = .ok u w' → AskR w0 w' (ls.map fun q => (q.1, hv ow.rv q.2)) zs u → Q .ret a' w') : D.wp Try.prog Q a w := by
  have I1 := I.hd akTabs
  refine goO_ok Hd.tabOk akCk mix I1 e (fun vs' m' a2 w2 ow2 e => by cases e) (fun j vs' m' a2 w2 ow2 e => by cases e) (fun vs' m' a2 w2 ow2 e I2 K2 => ?_)
  cases e
  obtain ⟨u, cs, hu, hsl, hown, hrd⟩ := I2.mem.own (r := 0) (row := ⟨25, KH, true, true, ls.map fun q => (q.1, hv ow.rv q.2)⟩) rfl rfl rfl
  have h6 : SVRel w2 _ _ ow2 _ (.one (.lf (.own 0))) (a2.tmps.getD 6 undef) := I2.fr 6
  have h6 : ow2.rv[0]? = some (a2.tmps.getD 6 undef) ∧ _ := h6
  have e6 : a2.tmps.getD 6 undef = u := Option.some.inj (h6.1.symm.trans hu)
  have hblk : ∀ b, u.ownBlock = some b → blk ow2 ⟨[some ⟨25, KH, true, true, ls.map fun q => (q.1, hv ow.rv q.2)⟩], bs'⟩ (.row 0) = some b := fun b e => by
    rw [blk_row rfl hu rfl, oblk_own hsl]; exact e
  have hat : ∀ (i : Nat) (h : Bool × Value), (ls.map fun q => (q.1, hv ow.rv q.2))[i]? = some h → ∃ b l z, ls[i]? = some (b, l) ∧ h = (b, hv ow.rv l) ∧ zs[i]? = some z ∧ b = z.1 ∧ LD rows l z.2 := fun i h hi => by
    rw [List.getElem?_map] at hi
    obtain ⟨⟨b, l⟩, h1, rfl⟩ := Option.map_eq_some_iff.1 hi
    have hz : i < zs.length := by rw [← hl]; exact (List.getElem?_eq_some_iff.1 h1).1
    obtain ⟨h2, h3⟩ := hd i b l _ h1 (List.getElem?_eq_getElem hz)
    exact ⟨b, l, _, h1, rfl, List.getElem?_eq_getElem hz, h2, h3⟩
  refine hQ a2 w2 u I2.defers (by rw [results_tmp (t := 6) rfl, e6]) ⟨by simpa using hl, ⟨cs, hown, fun ok => RdEach.flat rfl hrd⟩, fun i h z hi hz => ?_, fun i j h h' b hi hj e e' => ?_, fun b e h hh e' => ?_, fun h hh b e => ?_, fun b e => (I2.mem.may_ _ b (hblk b e)).1, ?_⟩
  · obtain ⟨b, l, z', h1, rfl, h2, h3, h4⟩ := hat i h hi
    obtain rfl := Option.some.inj (hz.symm.trans h2)
    refine ⟨h3, ownsRow_same (h4.row I.mem).1 fun g hg => ?_⟩
    exact (K2.stay g (World.ownsRow.lt (h4.row I.mem).1 g hg).2 ((h4.row I.mem).2 g hg).2.1).2.2
  · obtain ⟨b1, l1, z1, h1, rfl, _, _, h4⟩ := hat i h hi
    obtain ⟨b2, l2, z2, k1, rfl, _, _, k4⟩ := hat j h' hj
    apply Classical.byContradiction
    intro hij
    exact LD.dis I.mem h4 k4 (hne i j b1 b2 l1 l2 h1 k1 hij) e e'
  · obtain ⟨i, hi, rfl⟩ := List.getElem_of_mem hh
    obtain ⟨b1, l1, z1, h1, h2, _, _, h4⟩ := hat i _ (List.getElem?_eq_getElem hi)
    rw [h2] at e'
    obtain ⟨ho, _⟩ := K2.stay b (World.ownsRow.lt (h4.row I.mem).1 b e').2 ((h4.row I.mem).2 b e').2.1
    exact ho _ (hblk b e)
  · obtain ⟨i, hi, rfl⟩ := List.getElem_of_mem hh
    obtain ⟨b1, l1, z1, h1, h2, _, _, h4⟩ := hat i _ (List.getElem?_eq_getElem hi)
    rw [h2] at e
    exact ((h4.row I.mem).2 b e).1
  · exact Kp.below ((K.trans (Kp.look fun b hb h => okOf_drop h rfl)).trans K2.kp)
end Go.Fx.Try

namespace Go.Fx.Try
open Go Go.Proofs Go.Fx Go.RowKit
set_option linter.unusedVariables false
set_option linter.unusedSimpArgs false
set_option maxRecDepth 100000
theorem ak_occ' : ∀ c ∈ occ 27 cA, c = cA11 := by rw [ak_occ]; simp
theorem ask_two {w0 w : World} {ow : Ow} {a : Act} {c : Int} {p q : Bool × List Int} (I : Stand akC 136 (fun b => w0.heap.size ≤ b) (sK c p q) a w ow) (K : Kp (fun b => w0.heap.size ≤ b) w0 ⟨[], []⟩ ⟨[], []⟩ w ow (sK c p q).m) {rows : List Row} {b1 b2 : Bool} {l1 l2 : Leaf} {xs1 xs2 : List Int} {Q : Exit → Act → World → Prop}
    (e : evA c p q [7, 8] = some (.nrm [.box 2 0, .box 3 0] ⟨rows.map some, [bxV p, bxV q, some ⟨25, [.val true .bool b1, l1]⟩, some ⟨25, [.val true .bool b2, l2]⟩]⟩)) (h1 : LD rows l1 xs1) (h2 : LD rows l2 xs2) (hne : l1 = l2 → l1 = .nil)
    (hQ : ∀ a' w' hs u, a'.defers = [] → (results Try.f64 a'.tmps).run Try.prog w' = .ok u w' → AskR w0 w' hs [(b1, xs1), (b2, xs2)] u → Q .ret a' w') : (Code.seq (.seq (rA 2) cA) (.seq (rA 38) .ret)).wp Try.prog Q a w := by
  refine wp_seq (wp_seq (goO_ok tabOk akCk mix I (ak2 c p q) (fun vs' m' a2 w2 ow2 e' I2 K2 => ?_) (fun j vs' m' a2 w2 ow2 e => by cases e) (fun vs' m' a2 w2 ow2 e => by cases e)))
  cases e'
  refine goS_to tabOk akCk mix I2 ak_occ' e (fun vs' m' a3 w3 ow3 e' I3 K3 => ?_) (fun vs' m' a3 w3 ow3 e' => by cases e')
  cases e'
  refine ask_fin (fr := [(7, .box 2 0), (8, .box 3 0)]) (bs' := [bxV p, bxV q, bxH (b1, hv ow3.rv l1), bxH (b2, hv ow3.rv l2)]) (ls := [(b1, l1), (b2, l2)]) (zs := [(b1, xs1), (b2, xs2)]) I3 ((K.trans K2.kp).trans K3.kp) rfl (fun i b l z hi hz => ?_) (fun i j b b' l l' hi hj hij hll => ?_) ?_ (fun a' w' u => hQ a' w' _ u)
  · match i with
    | 0 => cases hi; cases hz; exact ⟨rfl, h1⟩
    | 1 => cases hi; cases hz; exact ⟨rfl, h2⟩
    | i + 2 => simp at hi
  · match i, j with
    | 0, 0 => exact absurd rfl hij
    | 1, 1 => exact absurd rfl hij
    | 0, 1 => cases hi; cases hj; exact hne hll
    | 1, 0 => cases hi; cases hj; rw [hll]; exact hne hll.symm
    | i + 2, _ => simp at hi
    | _, j + 2 => simp at hj
  · show goO akC Hd.T 136 9 _ ⟨_, ⟨[], [bxV p, bxV q, some ⟨25, [.val true .bool b1, hdLeaf ow3.rv l1]⟩, some ⟨25, [.val true .bool b2, hdLeaf ow3.rv l2]⟩]⟩⟩ [6] = _
    rw [hdLeaf_hv h1, hdLeaf_hv h2]
    exact ak38 p q (b1, hv ow3.rv l1) (b2, hv ow3.rv l2) ow3.rv
theorem ask_three {w0 w : World} {ow : Ow} {a : Act} {c : Int} {p q : Bool × List Int} (I : Stand akC 136 (fun b => w0.heap.size ≤ b) (sK c p q) a w ow) (K : Kp (fun b => w0.heap.size ≤ b) w0 ⟨[], []⟩ ⟨[], []⟩ w ow (sK c p q).m) {b2 b3 : Bool} {xs1 xs2 xs3 : List Int} {Q : Exit → Act → World → Prop}
    (e : evA c p q [9, 10, 11] = some (.stp [.one (.lf (.own 0)), .box 4 0, .box 5 0] ⟨[some (rowL xs1), some (rowL xs2), some (rowL xs3)], [bxV p, bxV q, bxZ, bxZ, bxO b2 1, bxO b3 2]⟩))
    (hQ : ∀ a' w' hs u, a'.defers = [] → (results Try.f64 a'.tmps).run Try.prog w' = .ok u w' → AskR w0 w' hs [(false, xs1), (b2, xs2), (b3, xs3)] u → Q .ret a' w') : (Code.seq (.seq (rA 2) cA) (.seq (rA 38) .ret)).wp Try.prog Q a w := by
  refine wp_seq (wp_seq (goO_ok tabOk akCk mix I (ak2 c p q) (fun vs' m' a2 w2 ow2 e' I2 K2 => ?_) (fun j vs' m' a2 w2 ow2 e => by cases e) (fun vs' m' a2 w2 ow2 e => by cases e)))
  cases e'
  refine goS_to tabOk akCk mix I2 ak_occ' e (fun vs' m' a3 w3 ow3 e' => by cases e') (fun vs' m' a3 w3 ow3 e' I3 K3 => ?_)
  cases e'
  have l1 : LD [rowL xs1, rowL xs2, rowL xs3] (.own 0) xs1 := .inr ⟨0, rfl, rfl⟩
  have l2 : LD [rowL xs1, rowL xs2, rowL xs3] (.own 1) xs2 := .inr ⟨1, rfl, rfl⟩
  have l3 : LD [rowL xs1, rowL xs2, rowL xs3] (.own 2) xs3 := .inr ⟨2, rfl, rfl⟩
  refine ask_fin (fr := [(9, .one (.lf (.own 0))), (10, .box 4 0), (11, .box 5 0)]) (bs' := [bxV p, bxV q, bxH (false, nilV), bxH (false, nilV), bxH (b2, hv ow3.rv (.own 1)), bxH (b3, hv ow3.rv (.own 2))]) (rows := [rowL xs1, rowL xs2, rowL xs3]) (ls := [(false, .own 0), (b2, .own 1), (b3, .own 2)]) (zs := [(false, xs1), (b2, xs2), (b3, xs3)]) I3 ((K.trans K2.kp).trans K3.kp) rfl (fun i b l z hi hz => ?_) (fun i j b b' l l' hi hj hij hll => ?_) ?_ (fun a' w' u h1 h2 h3 => ⟨rfl, hQ a' w' _ u h1 h2 h3⟩)
  · match i with
    | 0 => cases hi; cases hz; exact ⟨rfl, l1⟩
    | 1 => cases hi; cases hz; exact ⟨rfl, l2⟩
    | 2 => cases hi; cases hz; exact ⟨rfl, l3⟩
    | i + 3 => simp at hi
  · match i, j with
    | 0, 0 => exact absurd rfl hij
    | 1, 1 => exact absurd rfl hij
    | 2, 2 => exact absurd rfl hij
    | 0, 1 => cases hi; cases hj; cases hll
    | 0, 2 => cases hi; cases hj; cases hll
    | 1, 0 => cases hi; cases hj; cases hll
    | 1, 2 => cases hi; cases hj; cases hll
    | 2, 0 => cases hi; cases hj; cases hll
    | 2, 1 => cases hi; cases hj; cases hll
    | i + 3, _ => simp at hi
    | _, j + 3 => simp at hj
  · exact ak27 p q (hv ow3.rv (.own 0)) (b2, hv ow3.rv (.own 1)) (b3, hv ow3.rv (.own 2)) (false, nilV) (false, nilV)
/-- What ask answers. -/
noncomputable def askD (k : Nat) (p q : Bool × List Int) : Option (List (Bool × List Int)) := match k with
  | 0 => (whole_Norm.F ((p.1, p.2), ())).bind fun y => some [(y.1.1, y.1.2), (false, [])]
  | 1 => (whole_Neg.F ((p.1, p.2), ())).bind fun y => some [(y.1.1, y.1.2), (false, [])]
  | 2 => (whole_Abs.F ((p.1, p.2), ())).bind fun y => some [(false, y.1), (false, [])]
  | 3 => (whole_Add.F ((p.1, p.2), (q.1, q.2), ())).bind fun y => some [(y.1.1, y.1.2), (false, [])]
  | 4 => (whole_Sub.F ((p.1, p.2), (q.1, q.2), ())).bind fun y => some [(y.1.1, y.1.2), (false, [])]
  | 5 => (whole_Mul.F ((p.1, p.2), (q.1, q.2), ())).bind fun y => some [(y.1.1, y.1.2), (false, [])]
  | 6 => (whole_Quo.F ((p.1, p.2), (q.1, q.2), ())).bind fun y => some [(y.1.1, y.1.2), (y.2.1.1, y.2.1.2)]
  | 7 => (whole_Floor.F ((p.1, p.2), (q.1, q.2), ())).bind fun y => some [(y.1.1, y.1.2), (y.2.1.1, y.2.1.2)]
  | 8 => (whole_Euclid.F ((p.1, p.2), (q.1, q.2), ())).bind fun y => some [(y.1.1, y.1.2), (y.2.1.1, y.2.1.2)]
  | 9 => (whole_Gcd.F ((p.1, p.2), (q.1, q.2), ())).bind fun y => some [(false, y.1), (false, [])]
  | 10 => (whole_Lcm.F ((p.1, p.2), (q.1, q.2), ())).bind fun y => some [(false, y.1), (false, [])]
  | 11 => (whole_Bezout.F ((p.1, p.2), (q.1, q.2), ())).bind fun y => some [(false, y.1), (y.2.1.1, y.2.1.2), (y.2.2.1.1, y.2.2.1.2)]
  | 12 => (whole_Inverse.F ((p.1, p.2), (q.1, q.2), ())).bind fun y => some [(y.1.1, y.1.2), (false, [])]
  | 13 => (whole_Shift.F ((p.1, p.2), (0 : Int), ())).bind fun y => (whole_Shift.F ((p.1, p.2), (32 : Int), ())).bind fun z => some [(y.1.1, y.1.2), (z.1.1, z.1.2)]
  | 14 => (whole_Pow.F ((p.1, p.2), (1 : Int), ())).bind fun y => (whole_Pow.F ((p.1, p.2), (0 : Int), ())).bind fun z => some [(y.1.1, y.1.2), (z.1.1, z.1.2)]
  | 15 => (whole_Root.F ((p.1, p.2), ())).bind fun y => some [(y.1.1, y.1.2), (false, [])]
  | _ => none
theorem ask_pre {w0 w : World} {ow : Ow} {a : Act} {k : Nat} {p q : Bool × List Int} {zs : List (Bool × List Int)} (h : askD k p q = some zs) (I : Stand akC 136 (fun b => w0.heap.size ≤ b) (sK k p q) a w ow) (K : Kp (fun b => w0.heap.size ≤ b) w0 ⟨[], []⟩ ⟨[], []⟩ w ow (sK k p q).m) {Q : Exit → Act → World → Prop}
    (hQ : ∀ a' w' hs u, a'.defers = [] → (results Try.f64 a'.tmps).run Try.prog w' = .ok u w' → AskR w0 w' hs zs u → Q .ret a' w') : (Code.seq (.seq (rA 2) cA) (.seq (rA 38) .ret)).wp Try.prog Q a w := by
  match k, h, I, K with
  | 0, h, I, K =>
    obtain ⟨y, hy, h⟩ := Option.bind_eq_some_iff.1 h
    obtain rfl := Option.some.inj h
    exact ask_two (rows := [rowL y.1.2]) I K ((evA0 p q).trans (by rw [hy, Option.bind_some]; rfl)) (.inr ⟨0, rfl, rfl⟩) (.inl ⟨rfl, rfl⟩) (fun e => by cases e) hQ
  | 1, h, I, K =>
    obtain ⟨y, hy, h⟩ := Option.bind_eq_some_iff.1 h
    obtain rfl := Option.some.inj h
    exact ask_two (rows := [rowL y.1.2]) I K ((evA1 p q).trans (by rw [hy, Option.bind_some]; rfl)) (.inr ⟨0, rfl, rfl⟩) (.inl ⟨rfl, rfl⟩) (fun e => by cases e) hQ
  | 2, h, I, K =>
    obtain ⟨y, hy, h⟩ := Option.bind_eq_some_iff.1 h
    obtain rfl := Option.some.inj h
    exact ask_two (rows := [rowL y.1]) I K ((evA2 p q).trans (by rw [hy, Option.bind_some]; rfl)) (.inr ⟨0, rfl, rfl⟩) (.inl ⟨rfl, rfl⟩) (fun e => by cases e) hQ
  | 3, h, I, K =>
    obtain ⟨y, hy, h⟩ := Option.bind_eq_some_iff.1 h
    obtain rfl := Option.some.inj h
    exact ask_two (rows := [rowL y.1.2]) I K ((evA3 p q).trans (by rw [hy, Option.bind_some]; rfl)) (.inr ⟨0, rfl, rfl⟩) (.inl ⟨rfl, rfl⟩) (fun e => by cases e) hQ
  | 4, h, I, K =>
    obtain ⟨y, hy, h⟩ := Option.bind_eq_some_iff.1 h
    obtain rfl := Option.some.inj h
    exact ask_two (rows := [rowL y.1.2]) I K ((evA4 p q).trans (by rw [hy, Option.bind_some]; rfl)) (.inr ⟨0, rfl, rfl⟩) (.inl ⟨rfl, rfl⟩) (fun e => by cases e) hQ
  | 5, h, I, K =>
    obtain ⟨y, hy, h⟩ := Option.bind_eq_some_iff.1 h
    obtain rfl := Option.some.inj h
    exact ask_two (rows := [rowL y.1.2]) I K ((evA5 p q).trans (by rw [hy, Option.bind_some]; rfl)) (.inr ⟨0, rfl, rfl⟩) (.inl ⟨rfl, rfl⟩) (fun e => by cases e) hQ
  | 6, h, I, K =>
    obtain ⟨y, hy, h⟩ := Option.bind_eq_some_iff.1 h
    obtain rfl := Option.some.inj h
    exact ask_two (rows := [rowL y.1.2, rowL y.2.1.2]) I K ((evA6 p q).trans (by rw [hy, Option.bind_some]; rfl)) (.inr ⟨0, rfl, rfl⟩) (.inr ⟨1, rfl, rfl⟩) (fun e => by cases e) hQ
  | 7, h, I, K =>
    obtain ⟨y, hy, h⟩ := Option.bind_eq_some_iff.1 h
    obtain rfl := Option.some.inj h
    exact ask_two (rows := [rowL y.1.2, rowL y.2.1.2]) I K ((evA7 p q).trans (by rw [hy, Option.bind_some]; rfl)) (.inr ⟨0, rfl, rfl⟩) (.inr ⟨1, rfl, rfl⟩) (fun e => by cases e) hQ
  | 8, h, I, K =>
    obtain ⟨y, hy, h⟩ := Option.bind_eq_some_iff.1 h
    obtain rfl := Option.some.inj h
    exact ask_two (rows := [rowL y.1.2, rowL y.2.1.2]) I K ((evA8 p q).trans (by rw [hy, Option.bind_some]; rfl)) (.inr ⟨0, rfl, rfl⟩) (.inr ⟨1, rfl, rfl⟩) (fun e => by cases e) hQ
  | 9, h, I, K =>
    obtain ⟨y, hy, h⟩ := Option.bind_eq_some_iff.1 h
    obtain rfl := Option.some.inj h
    exact ask_two (rows := [rowL y.1]) I K ((evA9 p q).trans (by rw [hy, Option.bind_some]; rfl)) (.inr ⟨0, rfl, rfl⟩) (.inl ⟨rfl, rfl⟩) (fun e => by cases e) hQ
  | 10, h, I, K =>
    obtain ⟨y, hy, h⟩ := Option.bind_eq_some_iff.1 h
    obtain rfl := Option.some.inj h
    exact ask_two (rows := [rowL y.1]) I K ((evA10 p q).trans (by rw [hy, Option.bind_some]; rfl)) (.inr ⟨0, rfl, rfl⟩) (.inl ⟨rfl, rfl⟩) (fun e => by cases e) hQ
  | 11, h, I, K =>
    obtain ⟨y, hy, h⟩ := Option.bind_eq_some_iff.1 h
    obtain rfl := Option.some.inj h
    exact ask_three I K ((evA11 p q).trans (by rw [hy, Option.bind_some])) hQ
  | 12, h, I, K =>
    obtain ⟨y, hy, h⟩ := Option.bind_eq_some_iff.1 h
    obtain rfl := Option.some.inj h
    exact ask_two (rows := [rowL y.1.2]) I K ((evA12 p q).trans (by rw [hy, Option.bind_some]; rfl)) (.inr ⟨0, rfl, rfl⟩) (.inl ⟨rfl, rfl⟩) (fun e => by cases e) hQ
  | 13, h, I, K =>
    obtain ⟨y, hy, h⟩ := Option.bind_eq_some_iff.1 h
    obtain ⟨z, hz, h⟩ := Option.bind_eq_some_iff.1 h
    obtain rfl := Option.some.inj h
    exact ask_two (rows := [rowL y.1.2, rowL z.1.2]) I K ((evA13 p q).trans (by rw [hy, Option.bind_some, hz, Option.bind_some]; rfl)) (.inr ⟨0, rfl, rfl⟩) (.inr ⟨1, rfl, rfl⟩) (fun e => by cases e) hQ
  | 14, h, I, K =>
    obtain ⟨y, hy, h⟩ := Option.bind_eq_some_iff.1 h
    obtain ⟨z, hz, h⟩ := Option.bind_eq_some_iff.1 h
    obtain rfl := Option.some.inj h
    exact ask_two (rows := [rowL y.1.2, rowL z.1.2]) I K ((evA14 p q).trans (by rw [hy, Option.bind_some, hz, Option.bind_some]; rfl)) (.inr ⟨0, rfl, rfl⟩) (.inr ⟨1, rfl, rfl⟩) (fun e => by cases e) hQ
  | 15, h, I, K =>
    obtain ⟨y, hy, h⟩ := Option.bind_eq_some_iff.1 h
    obtain rfl := Option.some.inj h
    exact ask_two (rows := [rowL y.1.2]) I K ((evA15 p q).trans (by rw [hy, Option.bind_some]; rfl)) (.inr ⟨0, rfl, rfl⟩) (.inl ⟨rfl, rfl⟩) (fun e => by cases e) hQ
  | k + 16, h, I, K => cases h
theorem getD_args3 {u v x : Value} {n : Nat} : ((#[u, v, x] : Array Value) ++ Array.replicate n undef).getD 0 undef = u ∧ ((#[u, v, x] : Array Value) ++ Array.replicate n undef).getD 1 undef = v ∧ ((#[u, v, x] : Array Value) ++ Array.replicate n undef).getD 2 undef = x := by
  refine ⟨?_, ?_, ?_⟩ <;> (rw [Array.getD_eq_getD_getElem?, Array.getElem?_append_left (by simp)]; rfl)
theorem size_args3 {u v x : Value} {n N : Nat} (h : n = N + 3) : ((#[u, v, x] : Array Value) ++ Array.replicate (n - (#[u, v, x] : Array Value).size) undef).size = N + 3 := by subst h; simp; omega
theorem ask_calls {k : Nat} {p q : Bool × List Int} {zs : List (Bool × List Int)} (h : askD k p q = some zs) {w : World} {okA : Nat → Prop} {va vb : Value} (hA : RdV w okA (true, Kt25) p va) (hB : RdV w okA (true, Kt25) q vb) :
    Calls Try.prog 64 #[.int .i64 (k : Int), va, vb] w fun e w' => ∃ hs u, e = .returned u ∧ AskR w w' hs zs u := by
  refine calls_of_wp Try.func64 ak_body ?_
  obtain ⟨a0, ha0⟩ : ∃ a0 : Act, a0 = { tmps := #[.int .i64 (k : Int), va, vb] ++ Array.replicate (Try.f64.ntmps - (#[.int .i64 (k : Int), va, vb] : Array Value).size) undef, defers := [] } := ⟨_, rfl⟩
  have hg : a0.tmps.getD 0 undef = .int .i64 (k : Int) ∧ a0.tmps.getD 1 undef = va ∧ a0.tmps.getD 2 undef = vb := by rw [ha0]; exact getD_args3
  have hs : a0.tmps.size = 136 := by rw [ha0]; exact size_args3 (by kernel_rfl)
  have hd : a0.defers = [] := by rw [ha0]
  rw [← ha0]
  clear ha0
  have ar : ∀ {x : Bool × List Int} {v : Value}, RdV w okA (true, Kt25) x v → SVRel w (okOf ⟨[], []⟩ ⟨[], []⟩) (fun b => w.heap.size ≤ b) ⟨[], []⟩ ⟨[], []⟩ (.one (.agg [.val false .bool x.1, .val false (.sl 70 (.int .u32)) x.2])) v := fun {x v} h => by
    unfold RdV at h
    rw [if_pos rfl] at h
    obtain ⟨cs, e, h⟩ := h
    exact ⟨cs, e, split_rel (fr := false) (k := .prod .bool (.sl 70 (.int .u32))) (x := x) (Rd.mono (fun b _ => ⟨fun y hy => by cases y <;> simp [blk, Mem.row?, Mem.box?] at hy, fun e => by cases e⟩) h)⟩
  have I0 : Stand akC 136 (fun b => w.heap.size ≤ b) ⟨[(0, ci .i64 (k : Int)), (1, .one (.agg [.val false .bool p.1, .val false (.sl 70 (.int .u32)) p.2])), (2, .one (.agg [.val false .bool q.1, .val false (.sl 70 (.int .u32)) q.2]))], ⟨[], []⟩⟩ a0 w ⟨[], []⟩ := by
    refine ⟨⟨fun b h => h, (fun g tb e => by rw [akTabs] at e; cases e), (fun g tb e => by rw [akTabs] at e; cases e)⟩, ⟨rfl, rfl, fun i row e => by simp [Mem.row?] at e, fun i bx e => by simp [Mem.box?] at e, fun x y b h => by cases x <;> simp [blk, Mem.row?, Mem.box?] at h, fun x b h => by cases x <;> simp [blk, Mem.row?, Mem.box?] at h, fun i h => absurd h (Nat.not_lt_zero _)⟩, FrRel.of ⟨?_, ?_, ?_, trivial⟩, hs, hd⟩
    · show [a0.tmps.getD 0 undef] = [Value.int .i64 (k : Int)]
      rw [hg.1]
    · show SVRel _ _ _ _ _ _ (a0.tmps.getD 1 undef)
      rw [hg.2.1]; exact ar hA
    · show SVRel _ _ _ _ _ _ (a0.tmps.getD 2 undef)
      rw [hg.2.2]; exact ar hB
  refine wp_seq (goO_ok tabOk akCk mix I0 (ak0 k p q) (fun vs' m' a1 w1 ow1 e I1 K1 => ?_) (fun j vs' m' a2 w2 ow2 e => by cases e) (fun vs' m' a2 w2 ow2 e => by cases e))
  cases e
  refine wp_seq (goO_ok tabOk akCk mix I1 (ak1 k p q) (fun vs' m' a2 w2 ow2 e I2 K2 => ?_) (fun j vs' m' a2 w2 ow2 e => by cases e) (fun vs' m' a2 w2 ow2 e => by cases e))
  cases e
  exact ask_pre h I2 (K1.kp.trans K2.kp) fun a' w' hs u h1 h2 h3 => ⟨h1, u, h2, hs, u, rfl, h3⟩
end Go.Fx.Try
