/- bounds.goesBack: one round of its loop. -/
import Derived.Test.YthmdbafinpmojaaGreatGA
namespace Go.Fx.Tryz
open Go Go.Proofs Go.RowKit Go.Fx
set_option linter.unusedVariables false
set_option linter.unusedSimpArgs false
noncomputable def gb_C : Cals := Cals.cons 63 bounds_above.sig (Cals.cons 49 bounds_below.sig (Cals.base tabs))
theorem gb_ck : CalsOk Tryz.prog gb_C := CalsOk.cons bounds_above.cal (CalsOk.cons bounds_below.cal (CalsOk.base tabsOk))
noncomputable def gb_code : Code × Code := match Tryz.f50.body with
  | some (.seq _ (.seq (.seq _ (.block _ (.rangeFunc _ _ a b))) _)) => (a, b)
  | _ => (.skip, .skip)
noncomputable def gb_row (zs : Dt29) : Row := ⟨68, Kt68, false, true, zs⟩
noncomputable def gb_mem (zs : Dt29) : Mem := ⟨[some (gb_row zs)], [some ⟨29, [.own 0]⟩, some ⟨4, [.val true .bool false]⟩]⟩
noncomputable def gb_mem3 (zs : Dt29) (x : Dt70) : Mem := ⟨[some (gb_row zs)], [some ⟨29, [.own 0]⟩, some ⟨4, [.val true .bool false]⟩, some ⟨70, splitK false Kt70 x⟩]⟩
noncomputable def gb_S2 (zs : Dt29) (x : Dt70) : S := ⟨[(2, .box 0 0), (4, .box 1 0), (12, .one (.agg (splitK false Kt70 x)))], gb_mem zs⟩
noncomputable def gb_S3 (zs : Dt29) (x : Dt70) : S := ⟨[(2, .box 0 0), (4, .box 1 0), (6, .box 2 0)], gb_mem3 zs x⟩
noncomputable def gb_k (s : S) : Option (Sum Dt29 Bool) := match s.m.row? 0, s.m.box? 0, s.m.box? 1 with
  | some ⟨e, k, fr, rw, xs⟩, some ⟨t0, [.own r]⟩, some ⟨t1, [.val f .bool b]⟩ => bif Nat.beq e 68 && not fr && rw && Nat.beq t0 29 && Nat.beq r 0 && Nat.beq t1 4 && not b then (K.cast (.sl 68 k) (.sl 68 Kt68) xs).map .inl else none
  | _, _, _ => none
noncomputable def gb_q (s : S) : Option (Sum Dt29 Bool) := match s.m.box? 1 with
  | some ⟨t1, [.val f .bool b]⟩ => bif Nat.beq t1 4 then some (.inr b) else none
  | _ => none
set_option maxRecDepth 100000 in
theorem gb_asg (zs : Dt29) (x : Dt70) : goR gb_C T 50 9 gb_code.1 (gb_S2 zs x) (fun s => some (s.opd (.tmp 2), s.opd (.tmp 4), s.opd (.tmp 6), s.m)) (fun _ => none) = some (.box 0 0, .box 1 0, .box 2 0, gb_mem3 zs x) := by kernel_rfl
noncomputable def gb_rnd (zs : Dt29) (x : Dt70) : Option (Sum Dt29 Bool) :=
  bif decide (0 ≤ x.1) && decide (x.1 < (List.length zs : Int)) then (bif x.2.1 then (bif decide (0 ≤ x.1) && decide (x.1 < (List.length zs : Int)) then
    (let now := (List.getD zs (Int.toNat x.1) Kt68.d).2
     bif not now.1 then some (.inr false)
     else bif x.2.2.2.1 then ((bounds_above.F (x.2.2.2, now.2.1, ())).bind fun y => bif not y.1 then some (.inr false) else some (.inl (List.set zs (Int.toNat x.1) ((List.getD zs (Int.toNat x.1) Kt68.d).1, x.2.2.2))))
     else some (.inl (List.set zs (Int.toNat x.1) ((List.getD zs (Int.toNat x.1) Kt68.d).1, x.2.2.2)))) else none)
  else
    (let now := (List.getD zs (Int.toNat x.1) Kt68.d).1
     bif not now.1 then some (.inr false)
     else bif x.2.2.2.1 then ((bounds_below.F (x.2.2.2, now.2.1, ())).bind fun y => bif not y.1 then some (.inr false) else some (.inl (List.set zs (Int.toNat x.1) (x.2.2.2, (List.getD zs (Int.toNat x.1) Kt68.d).2))))
     else some (.inl (List.set zs (Int.toNat x.1) (x.2.2.2, (List.getD zs (Int.toNat x.1) Kt68.d).2))))) else none
set_option maxRecDepth 100000 in
theorem gb_eval (zs : Dt29) (x : Dt70) : goR gb_C T 50 30 gb_code.2 (gb_S3 zs x) gb_k gb_q = gb_rnd zs x := by kernel_rfl
end Go.Fx.Tryz

namespace Go.Fx
open Go Go.RowKit
set_option linter.unusedVariables false
set_option linter.unusedSimpArgs false
def K.noM : K → Bool
  | .int _ | .bool | .str | .unit => true
  | .prod a b => a.noM && b.noM
  | .sl _ k => k.noM
  | _ => false
section
variable {w w' : World} {ok ok' may : Nat → Prop}
theorem Rd.keepC (hs : w.heap.size ≤ w'.heap.size) (H : ∀ (p : Addr) (v : Value), w.cell? p = some v → w'.cell? p = some v) : ∀ {k : K} {x : k.T} {cs : List Value}, k.noM = true → Rd w ok k x cs → Rd w' ok k x cs
  | .int q, x, cs, _, h => h
  | .bool, x, cs, _, h => h
  | .str, x, cs, _, h => h
  | .unit, x, cs, _, h => h
  | .prod a b, x, cs, e, h => by
    simp only [K.noM, Bool.and_eq_true] at e
    obtain ⟨c1, c2, rfl, h1, h2⟩ := h
    exact ⟨c1, c2, rfl, h1.keepC hs H e.1, h2.keepC hs H e.2⟩
  | .sl t k, xs, cs, e, h => by
    obtain ⟨A, c, rfl, hc, hx⟩ := h
    refine ⟨A, c, rfl, hc, fun i x hi => ?_⟩
    obtain ⟨ad, es, rfl, hl, ho, hr, hcell⟩ := hx i x hi
    exact ⟨ad, es, rfl, Nat.lt_of_lt_of_le hl hs, ho, hr.keepC hs H e, fun j v hv => H _ _ (hcell j v hv)⟩
theorem Rd.inj : ∀ {k : K} {x y : k.T} {cs : List Value}, k.noM = true → Rd w ok k x cs → Rd w ok' k y cs → x = y
  | .int q, x, y, cs, _, h, h' => by simp only [Rd] at h h'; subst h; cases h'; rfl
  | .bool, x, y, cs, _, h, h' => by simp only [Rd] at h h'; subst h; cases h'; rfl
  | .str, x, y, cs, _, h, h' => by simp only [Rd] at h h'; subst h; cases h'; rfl
  | .unit, x, y, cs, _, h, h' => rfl
  | .prod a b, x, y, cs, e, h, h' => by
    simp only [K.noM, Bool.and_eq_true] at e
    obtain ⟨c1, c2, rfl, h1, h2⟩ := h
    obtain ⟨d1, d2, e2, h3, h4⟩ := h'
    obtain ⟨rfl, rfl⟩ := List.append_inj e2 (by rw [h1.len, h3.len])
    exact Prod.ext (h1.inj e.1 h3) (h2.inj e.2 h4)
  | .sl t k, xs, ys, cs, e, h, h' => by
    obtain ⟨A, c, rfl, hc, hx⟩ := h
    obtain ⟨A', c', e2, hc', hy⟩ := h'
    simp only [List.cons.injEq, Value.slice.injEq, and_true] at e2
    obtain ⟨rfl, hl, rfl⟩ := e2
    apply List.ext_getElem hl
    intro i h1 h2
    obtain ⟨ad, es, rfl, _, _, hr, hcell⟩ := hx i _ (List.getElem?_eq_getElem h1)
    obtain ⟨ad', es', e3, _, _, hr', hcell'⟩ := hy i _ (List.getElem?_eq_getElem h2)
    cases e3
    have : es = es' := by
      apply List.ext_getElem (by rw [hr.len, hr'.len])
      intro j h3 h4
      exact Option.some.inj ((hcell j _ (List.getElem?_eq_getElem h3)).symm.trans (hcell' j _ (List.getElem?_eq_getElem h4)))
    subst this
    exact hr.inj e hr'
theorem RdEach.keepC (hs : w.heap.size ≤ w'.heap.size) (H : ∀ (p : Addr) (v : Value), w.cell? p = some v → w'.cell? p = some v) {k : K} (e : k.noM = true) : ∀ {xs : List k.T} {cs : List Value}, RdEach w ok k xs cs → RdEach w' ok k xs cs
  | [], cs, h => h
  | x :: r, cs, h => by
    obtain ⟨c1, c2, rfl, h1, h2⟩ := h
    exact ⟨c1, c2, rfl, h1.keepC hs H e, h2.keepC hs H e⟩
theorem RdEach.inj {k : K} (e : k.noM = true) : ∀ {xs ys : List k.T} {cs : List Value}, xs.length = ys.length → RdEach w ok k xs cs → RdEach w ok' k ys cs → xs = ys
  | [], [], cs, _, h, _ => rfl
  | x :: r, y :: s, cs, hl, h, h' => by
    obtain ⟨c1, c2, rfl, h1, h2⟩ := h
    obtain ⟨d1, d2, e2, h3, h4⟩ := h'
    obtain ⟨rfl, rfl⟩ := List.append_inj e2 (by rw [h1.len, h3.len])
    rw [h1.inj e h3, h2.inj e (by simpa using hl) h4]
theorem ownsRow_inj {B e s n : Nat} {v : Value} {cs ds : List Value} (h : w.ownsRow B e s v n cs) (h' : w.ownsRow B e s v n ds) : cs = ds := by
  obtain ⟨h1, h⟩ := h
  obtain ⟨h2, h'⟩ := h'
  rcases h with ⟨rfl, rfl⟩ | ⟨g, cap, cur, rfl, _, hg, _, _, _, rfl⟩
  · simp only [Nat.zero_mul, List.length_eq_zero_iff] at h1 h2; rw [h1, h2]
  · rcases h' with ⟨e2, _⟩ | ⟨g', cap', cur', e2, _, hg', _, _, _, rfl⟩
    · cases e2
    · simp only [Value.slice.injEq, Option.some.injEq, Addr.mk.injEq, and_true, true_and] at e2
      obtain ⟨rfl, _⟩ := e2
      rw [hg] at hg'
      simp only [Option.some.injEq, Obj.cells.injEq, and_true] at hg'
      rw [hg']
end
def Leaf.noM : Leaf → Bool
  | .val _ k _ => k.noM
  | _ => true
theorem split_noM : ∀ (fr : Bool) (k : K) (x : k.T), k.noM = true → ∀ l ∈ splitK fr k x, l.noM = true
  | fr, .int q, x, e, l, h | fr, .bool, x, e, l, h | fr, .str, x, e, l, h | fr, .sl t k, x, e, l, h => by simp only [splitK, List.mem_singleton] at h; subst h; exact e
  | fr, .unit, x, e, l, h => by simp [splitK] at h
  | fr, .prod a b, x, e, l, h => by
    simp only [K.noM, Bool.and_eq_true] at e
    simp only [splitK, List.mem_append] at h
    exact h.elim (split_noM fr a x.1 e.1 l) (split_noM fr b x.2 e.2 l)
namespace Tryz
section
variable {W W' : World} {may : Nat → Prop} {A : Option Addr} {L Q : Nat} {bb : List (Option Nat)} {bs : List (Option Box)} {zs : Dt29}
theorem gb_row0 : (⟨[some (gb_row zs)], bs⟩ : Mem).row? 0 = some (gb_row zs) := rfl
theorem gb_row1 (i : Nat) : (⟨[some (gb_row zs)], bs⟩ : Mem).row? (i + 1) = none := by simp [Mem.row?]
theorem gb_blk {x : Th} {b : Nat} (h : blk ⟨[.slice A L Q], bb⟩ ⟨[some (gb_row zs)], bs⟩ x = some b) : (x = .row 0 ∧ ∃ a, A = some a ∧ a.block = b) ∨ ∃ i bx, x = .box i ∧ bs[i]? = some (some bx) ∧ bb[i]? = some (some b) := by
  cases x with
  | row i =>
    cases i with
    | zero =>
      have h : oblk (Value.slice A L Q) = some b := h
      cases A with
      | none => cases h
      | some a => exact .inl ⟨rfl, a, rfl, Option.some.inj h⟩
    | succ i => rw [blk_row_none (gb_row1 i)] at h; cases h
  | box i =>
    refine .inr ⟨i, ?_⟩
    simp only [blk, Mem.box?] at h
    cases hb : (bs[i]?).bind id with
    | none => simp [hb] at h
    | some bx =>
      simp only [hb] at h
      obtain ⟨o, ho, rfl⟩ := Option.bind_eq_some_iff.1 hb
      obtain ⟨o2, ho2, e⟩ := Option.bind_eq_some_iff.1 h
      have e : o2 = some b := e
      subst e
      exact ⟨bx, rfl, ho, ho2⟩
theorem gb_cells (M : MemRel W may ⟨[.slice A L Q], bb⟩ ⟨[some (gb_row zs)], bs⟩) {x : Th} {b : Nat} (h : blk ⟨[.slice A L Q], bb⟩ ⟨[some (gb_row zs)], bs⟩ x = some b) : ∃ o, W.heap[b]? = some o ∧ o.isCells = true := by
  rcases gb_blk h with ⟨_, a, rfl, rfl⟩ | ⟨i, bx, rfl, h1, h2⟩
  · obtain ⟨v, hv, R⟩ := M.sl 0 _ gb_row0 (v0 := .slice (some a) L Q) rfl ⟨_, _, _, rfl⟩
    obtain rfl := Option.some.inj hv
    obtain ⟨cs, hown, _⟩ := R.2
    rcases hown.2 with ⟨e, _⟩ | ⟨g, cap, cur, e, _, hg, _⟩
    · cases e
    · cases e; exact ⟨_, hg, rfl⟩
  · obtain ⟨g, hg, vs, hvs, _⟩ := M.boxes i bx (by simp [Mem.box?, h1])
    have hg : bb[i]? = some (some g) := hg
    rw [h2] at hg
    cases hg
    exact ⟨_, hvs, rfl⟩
theorem gb_row_ (M : MemRel W may ⟨[.slice A L Q], bb⟩ ⟨[some (gb_row zs)], bs⟩) : L = zs.length ∧ ∃ cs, W.ownsRow 0 68 16 (.slice A L Q) zs.length cs ∧ RdEach W (okf (okOf ⟨[.slice A L Q], bb⟩ ⟨[some (gb_row zs)], bs⟩) may false) Kt68 zs cs := by
  obtain ⟨v, hv, R⟩ := M.sl 0 _ gb_row0 (v0 := .slice A L Q) rfl ⟨_, _, _, rfl⟩
  obtain rfl := Option.some.inj hv
  obtain ⟨cs, hown, hrd⟩ := R.2
  refine ⟨?_, cs, hown, hrd⟩
  obtain ⟨A', c', e⟩ := ownsRow.slice hown
  cases e; rfl
theorem gb_grown (M : MemRel W may ⟨[.slice A L Q], bb⟩ ⟨[some (gb_row zs)], bs⟩) (hno : ∀ (i : Nat) (bx : Box), bs[i]? = some (some bx) → ∀ l ∈ bx.ls, l.noM = true) {row : Option Nat} (hg : W.grownBy W' row) (hr : ∀ r, row = some r → ∃ o : Obj, W.heap[r]? = some o ∧ o.isCells = false) :
    MemRel W' may ⟨[.slice A L Q], bb⟩ ⟨[some (gb_row zs)], bs⟩ := by
  have hc : ∀ (p : Addr) (v : Value), W.cell? p = some v → W'.cell? p = some v := fun p v h => cell_kept h hg hr
  obtain ⟨_, cs, hown, hrd⟩ := gb_row_ M
  refine ⟨M.rlen, M.blen, fun i row' e => ?_, fun i bx e => ?_, M.dis, fun x b h => ⟨(M.may_ x b h).1, Nat.lt_of_lt_of_le (M.may_ x b h).2 hg.size⟩, M.free⟩
  · cases i with
    | succ i => rw [gb_row1] at e; cases e
    | zero =>
      rw [gb_row0] at e
      cases e
      refine ⟨_, rfl, .inl ⟨⟨_, _, _, rfl⟩, cs, hown.kept hg ?_, hrd.keepC hg.size hc (by kernel_rfl)⟩⟩
      cases row with
      | none =>
        cases A with
        | none => exact .inl rfl
        | some a => exact .inr (by simp [Value.ownBlock])
      | some r =>
        obtain ⟨o, ho, hn⟩ := hr r rfl
        refine .inr fun e => ?_
        rcases hown.2 with ⟨e2, _⟩ | ⟨g, cap, cur, e2, _, hgg, _⟩
        · rw [e2] at e; cases e
        · rw [e2] at e
          cases e
          rw [hgg] at ho
          cases ho
          cases hn
  · obtain ⟨g, hgb, vs, hvs, hF⟩ := M.boxes i bx e
    have e' : bs[i]? = some (some bx) := by
      simp only [Mem.box?] at e
      obtain ⟨o, ho, rfl⟩ := Option.bind_eq_some_iff.1 e
      exact ho
    refine ⟨g, hgb, vs, (grownBy_keeps_cells hg hr hvs rfl).trans hvs, hF.imp_mem fun l v hl h => ?_⟩
    cases l with
    | val f k x => exact Rd.keepC hg.size hc (hno i bx e' _ hl) h
    | nil => exact h
    | own q => exact h
theorem gb_any {ow : Ow} {m : Mem} (M : MemRel W may ow m) : MemRel W (fun _ => True) ow m := by
  have hf : ∀ {ok : Nat → Prop} {f : Bool} (b : Nat), okf ok may f b → okf ok (fun _ => True) f b := fun b h => ⟨h.1, fun _ => trivial⟩
  refine ⟨M.rlen, M.blen, fun i row e => ?_, fun i bx e => ?_, M.dis, fun x b h => ⟨trivial, (M.may_ x b h).2⟩, M.free⟩
  · obtain ⟨v, hv, R⟩ := M.rows i row e
    refine ⟨v, hv, ?_⟩
    rcases R with ⟨h1, R⟩ | ⟨g, xs, e1, e2, R⟩
    · refine .inl ⟨h1, ?_⟩
      by_cases hw : row.rw = true
      · rw [if_pos hw] at R ⊢
        obtain ⟨cs, h3, h4⟩ := R
        exact ⟨cs, h3, h4.keep (Stay.mono fun b _ h => hf b h)⟩
      · rw [if_neg hw] at R ⊢
        exact R.mono hf
    · refine .inr ⟨g, xs, e1, e2, ?_⟩
      by_cases hw : row.rw = true
      · rw [if_pos hw] at R ⊢; exact R
      · rw [if_neg hw] at R ⊢
        exact R.keep (Stay.mono fun b _ h => hf b h)
  · obtain ⟨g, hgb, vs, hvs, hF⟩ := M.boxes i bx e
    refine ⟨g, hgb, vs, hvs, hF.imp fun l v h => ?_⟩
    cases l with
    | val f k x => exact Rd.mono (fun b h => hf b h) h
    | nil => exact h
    | own q => exact h
end
end Tryz
end Go.Fx

namespace Go.Fx.Tryz
open Go Go.RowKit Go.Fx Go.Proofs
set_option linter.unusedVariables false
set_option linter.unusedSimpArgs false
section
variable (w0 : World) (A : Option Addr) (L Q : Nat)
structure FX (W : World) : Prop where
  same : ∀ b, b < w0.heap.size → offA A b → W.heap[b]? = w0.heap[b]?
  size : w0.heap.size + 3 ≤ W.heap.size
  os : W.os = w0.os
  tape : W.tape = w0.tape
  output : W.output = w0.output
def ow2 : Ow := ⟨[.slice A L Q], [some w0.heap.size, some (w0.heap.size + 1)]⟩
def ow3 (g : Nat) : Ow := ⟨[.slice A L Q], [some w0.heap.size, some (w0.heap.size + 1), some g]⟩
def GI (zs : Dt29) (W : World) : Prop := MemRel W (fun _ => True) (ow2 w0 A L Q) (gb_mem zs) ∧ FX w0 A W
def KpG (W W' : World) : Prop := ∀ b, b < w0.heap.size + 3 → offA A b → b ≠ w0.heap.size → b ≠ w0.heap.size + 1 → W'.heap[b]? = W.heap[b]?
def AxG (x : Dt70) (zs : Dt29) (a : Act) (W : World) : Prop := ∃ g, a.tmps.size = 50 ∧ a.tmps.getD 2 undef = .pointer (some ⟨w0.heap.size, 0, none⟩) ∧ a.tmps.getD 4 undef = .pointer (some ⟨w0.heap.size + 1, 0, none⟩) ∧ a.tmps.getD 6 undef = .pointer (some ⟨g, 0, none⟩) ∧ w0.heap.size + 3 ≤ g ∧
  MemRel W (fun _ => True) (ow3 w0 A L Q g) (gb_mem3 zs x)
end
section
variable {w0 W W' : World} {A : Option Addr} {L Q : Nat} {zs : Dt29} {may may' : Nat → Prop} {bb : List (Option Nat)} {bs : List (Option Box)}
theorem gb_keepsFrom (M : MemRel W may ⟨[.slice A L Q], bb⟩ ⟨[some (gb_row zs)], bs⟩) {ow' : Ow} {m' : Mem} (K : Keep may' W ⟨[.slice A L Q], bb⟩ ⟨[some (gb_row zs)], bs⟩ W' ow' m') (B : Nat) : KeepsFrom B W W' :=
  ⟨K.size, fun k o _ ho hn => by
    refine (K.stay k (Array.getElem?_eq_some_iff.1 ho).1 (fun x hx => ?_)).2.2.trans ho
    obtain ⟨o2, ho2, hc⟩ := gb_cells M hx
    rw [ho] at ho2
    cases ho2
    rw [hn] at hc
    cases hc⟩
theorem gb_off (M : MemRel W may ⟨[.slice A L Q], bb⟩ ⟨[some (gb_row zs)], bs⟩) {ow' : Ow} {m' : Mem} (K : Keep may' W ⟨[.slice A L Q], bb⟩ ⟨[some (gb_row zs)], bs⟩ W' ow' m') {b : Nat} (hb : b < W.heap.size) (ho : offA A b) (hn : ∀ i : Nat, bb[i]? ≠ some (some b)) : W'.heap[b]? = W.heap[b]? := by
  refine (K.stay b hb (fun x hx => ?_)).2.2
  rcases gb_blk hx with ⟨_, a, ha, e⟩ | ⟨i, _, _, _, h⟩
  · exact ho a ha e.symm
  · exact hn i h
theorem FX.step (h : FX w0 A W) (hs : W.heap.size ≤ W'.heap.size) (H : ∀ b, b < w0.heap.size → offA A b → W'.heap[b]? = W.heap[b]?) (h1 : W'.os = W.os) (h2 : W'.tape = W.tape) (h3 : W'.output = W.output) : FX w0 A W' :=
  ⟨fun b hb ho => (H b hb ho).trans (h.same b hb ho), Nat.le_trans h.size hs, h1.trans h.os, h2.trans h.tape, h3.trans h.output⟩
theorem FX.grown (h : FX w0 A W) {B : Nat} (hB : w0.heap.size ≤ B) {row : Option Nat} (hg : W.grownBy W' row) (hr : ∀ r, row = some r → B ≤ r ∧ ∃ o : Obj, W.heap[r]? = some o ∧ o.isCells = false) : FX w0 A W' :=
  h.step hg.size (fun b hb _ => hg.block b (by have := h.size; omega) (fun e => by have := (hr b e.symm).1; omega)) hg.os hg.tape hg.output
theorem gb_noM2 (i : Nat) (bx : Box) (h : (gb_mem zs).boxes[i]? = some (some bx)) : ∀ l ∈ bx.ls, l.noM = true := by
  match i with
  | 0 => cases h; simp [Leaf.noM]
  | 1 => cases h; simp [Leaf.noM, K.noM]
  | i + 2 => simp [gb_mem] at h
theorem gb_noM3 {x : Dt70} (i : Nat) (bx : Box) (h : (gb_mem3 zs x).boxes[i]? = some (some bx)) : ∀ l ∈ bx.ls, l.noM = true := by
  match i with
  | 0 => cases h; simp [Leaf.noM]
  | 1 => cases h; simp [Leaf.noM, K.noM]
  | 2 => cases h; exact split_noM false Kt70 x (by kernel_rfl)
  | i + 3 => simp [gb_mem3] at h
theorem GI.grown (h : GI w0 A L Q zs W) {B : Nat} (hB : w0.heap.size ≤ B) {row : Option Nat} (hg : W.grownBy W' row) (hr : ∀ r, row = some r → B ≤ r ∧ ∃ o : Obj, W.heap[r]? = some o ∧ o.isCells = false) : GI w0 A L Q zs W' :=
  ⟨gb_grown h.1 (gb_noM2 (zs := zs)) hg fun r e => (hr r e).2, h.2.grown hB hg hr⟩
theorem AxG.grown {x : Dt70} {a : Act} (h : AxG w0 A L Q x zs a W) {row : Option Nat} (hg : W.grownBy W' row) (hr : ∀ r, row = some r → ∃ o : Obj, W.heap[r]? = some o ∧ o.isCells = false) : AxG w0 A L Q x zs a W' :=
  let ⟨g, h1, h2, h3, h4, h5, h6⟩ := h
  ⟨g, h1, h2, h3, h4, h5, gb_grown h6 (gb_noM3 (zs := zs) (x := x)) hg hr⟩
theorem gb_cut {ow : Ow} {m : Mem} (hA : ∀ a, A = some a → a.block < w0.heap.size) (M : MemRel W (fun _ => True) ow m) (hv : ow.rv[0]? = some (.slice A L Q)) (h0 : ow.bb[0]? = some (some w0.heap.size)) (h1 : ow.bb[1]? = some (some (w0.heap.size + 1)))
    (r0 : m.row? 0 = some (gb_row zs)) (b0 : m.box? 0 = some ⟨29, [.own 0]⟩) {f : Bool} (b1 : m.box? 1 = some ⟨4, [.val f .bool false]⟩) : MemRel W (fun _ => True) (ow2 w0 A L Q) (gb_mem zs) := by
  have sub : ∀ x b, blk (ow2 w0 A L Q) (gb_mem zs) x = some b → blk ow m x = some b ∧ ((∃ a, A = some a ∧ a.block = b ∧ x = .row 0) ∨ (b = w0.heap.size ∧ x = .box 0) ∨ (b = w0.heap.size + 1 ∧ x = .box 1)) := fun x b h => by
    rcases gb_blk h with ⟨rfl, a, rfl, rfl⟩ | ⟨i, bx, rfl, e1, e2⟩
    · exact ⟨blk_row r0 hv rfl, .inl ⟨a, rfl, rfl, rfl⟩⟩
    · match i with
      | 0 => cases e2; exact ⟨blk_box b0 h0, .inr (.inl ⟨rfl, rfl⟩)⟩
      | 1 => cases e2; exact ⟨blk_box b1 h1, .inr (.inr ⟨rfl, rfl⟩)⟩
      | i + 2 => simp at e2
  have ok : ∀ b, okOf ow m b → okOf (ow2 w0 A L Q) (gb_mem zs) b := fun b h x hx => h x (sub x b hx).1
  refine ⟨rfl, rfl, fun i row e => ?_, fun i bx e => ?_, fun x y b hx hy => M.dis x y b (sub x b hx).1 (sub y b hy).1, fun x b hx => M.may_ x b (sub x b hx).1, fun i hi e => ?_⟩
  · cases i with
    | succ i => rw [show (gb_mem zs).row? (i + 1) = none from gb_row1 i] at e; cases e
    | zero =>
      cases e
      obtain ⟨v, hv', R⟩ := M.sl 0 _ r0 hv ⟨_, _, _, rfl⟩
      obtain rfl := Option.some.inj (hv.symm.trans hv')
      obtain ⟨_, cs, hown, hrd⟩ := R
      exact ⟨_, rfl, .inl ⟨⟨_, _, _, rfl⟩, cs, hown, hrd.keep (Stay.mono fun b _ h => ⟨ok b h.1, fun _ => trivial⟩)⟩⟩
  · match i with
    | 0 =>
      cases e
      obtain ⟨g, hg, vs, hvs, hF⟩ := M.boxes 0 _ b0
      rw [h0] at hg
      cases hg
      match vs, hF with
      | [v], ⟨h, _⟩ =>
        have h : ow.rv[0]? = some v ∧ _ := h
        exact ⟨_, rfl, [v], hvs, ⟨(by rw [← h.1, hv]; rfl : (ow2 w0 A L Q).rv[0]? = some v), h.2⟩, trivial⟩
    | 1 =>
      cases e
      obtain ⟨g, hg, vs, hvs, hF⟩ := M.boxes 1 _ b1
      rw [h1] at hg
      cases hg
      match vs, hF with
      | [v], ⟨h, _⟩ => exact ⟨_, rfl, [v], hvs, h, trivial⟩
    | i + 2 => simp [gb_mem, Mem.box?] at e
  · match i with
    | 0 => cases e
    | 1 => cases e
    | i + 2 => exact absurd (show i + 2 < 2 from hi) (by omega)
theorem gb_may {bs : List (Option Box)} (M : MemRel W (fun _ => True) ⟨[.slice A L Q], bb⟩ ⟨[some (gb_row zs)], bs⟩) (hfl : ∀ (i : Nat) (bx : Box), bs[i]? = some (some bx) → ∀ l ∈ bx.ls, match l with | .val f k _ => f = false ∨ k.flat = true | _ => True)
    (H : ∀ x b, blk ⟨[.slice A L Q], bb⟩ ⟨[some (gb_row zs)], bs⟩ x = some b → may b) : MemRel W may ⟨[.slice A L Q], bb⟩ ⟨[some (gb_row zs)], bs⟩ := by
  obtain ⟨_, cs, hown, hrd⟩ := gb_row_ M
  refine ⟨M.rlen, M.blen, fun i row' e => ?_, fun i bx e => ?_, M.dis, fun x b h => ⟨H x b h, (M.may_ x b h).2⟩, M.free⟩
  · cases i with
    | succ i => rw [gb_row1] at e; cases e
    | zero =>
      rw [gb_row0] at e
      cases e
      exact ⟨_, rfl, .inl ⟨⟨_, _, _, rfl⟩, cs, hown, hrd.keep (Stay.mono fun b _ h => ⟨h.1, fun e => by cases e⟩)⟩⟩
  · obtain ⟨g, hgb, vs, hvs, hF⟩ := M.boxes i bx e
    have e' : bs[i]? = some (some bx) := by
      simp only [Mem.box?] at e
      obtain ⟨o, ho, rfl⟩ := Option.bind_eq_some_iff.1 e
      exact ho
    refine ⟨g, hgb, vs, hvs, hF.imp_mem fun l v hl h => ?_⟩
    have h9 := hfl i bx e' l hl
    cases l with
    | val f k x =>
      rcases h9 with rfl | hk
      · exact Rd.mono (fun b hb => ⟨hb.1, fun e => by cases e⟩) h
      · exact Rd.flat hk h
    | nil => exact h
    | own q => exact h
theorem gb_flat2 (i : Nat) (bx : Box) (h : (gb_mem zs).boxes[i]? = some (some bx)) : ∀ l ∈ bx.ls, match l with | .val f k _ => f = false ∨ k.flat = true | _ => True := by
  match i with
  | 0 => cases h; simp
  | 1 => cases h; simp [K.flat]
  | i + 2 => simp [gb_mem] at h
theorem gb_live {ow : Ow} {m : Mem} (h : ∀ b, W.heap.size ≤ b → may b) : Live gb_C may W ow m := ⟨h, fun g tb e => (by cases e), fun g tb e => (by cases e)⟩
theorem ow_of {ow : Ow} {v : Value} {a b : Nat} (h1 : ow.rv.length = 1) (h2 : ow.bb.length = 3) (h3 : ow.rv[0]? = some v) (h4 : ow.bb[0]? = some (some a)) (h5 : ow.bb[1]? = some (some b)) {g : Nat} (h6 : ow.bb[2]? = some (some g)) : ow = ⟨[v], [some a, some b, some g]⟩ := by
  obtain ⟨rv, bb⟩ := ow
  match rv, h1, h3 with
  | [u], _, h3 =>
    cases h3
    match bb, h2, h4, h5, h6 with
    | [x, y, z], _, h4, h5, h6 => cases h4; cases h5; cases h6; rfl
set_option maxRecDepth 20000 in
theorem gb_asg_in {l n : Nat} (hA : ∀ a, A = some a → a.block < w0.heap.size) (h : GI w0 A L Q zs W) {x : Dt70} {cells : List Value} (hx : Rd w0 (offA A) Kt70 x cells) {a : Act} (hN : a.tmps.size = 50) (t2 : a.tmps.getD 2 undef = .pointer (some ⟨w0.heap.size, 0, none⟩))
    (t4 : a.tmps.getD 4 undef = .pointer (some ⟨w0.heap.size + 1, 0, none⟩)) (t12 : a.tmps.getD 12 undef = .agg cells.toArray) {K : Act → World → Prop} (hK : ∀ a' W', (∀ B, KeepsFrom B W W') → KpG w0 A W W' → GI w0 A L Q zs W' → AxG w0 A L Q x zs a' W' → K a' W') :
    gb_code.1.wpIn (Fence.wide.inRound l) n Tryz.prog (Exit.then K (fun _ _ _ => False)) a W := by
  obtain ⟨may, hmay⟩ : ∃ may : Nat → Prop, may = fun b => b = w0.heap.size ∨ b = w0.heap.size + 1 ∨ (∃ a, A = some a ∧ a.block = b) ∨ W.heap.size ≤ b := ⟨_, rfl⟩
  have hnew : ∀ b, W.heap.size ≤ b → may b := fun b hb => by rw [hmay]; exact .inr (.inr (.inr hb))
  have M : MemRel W may (ow2 w0 A L Q) (gb_mem zs) := gb_may h.1 (gb_flat2 (zs := zs)) fun y b hb => by
    rw [hmay]
    rcases gb_blk hb with ⟨_, a, ha, e⟩ | ⟨i, bx, rfl, e1, e2⟩
    · exact .inr (.inr (.inl ⟨a, ha, e⟩))
    · match i with
      | 0 => cases e2; exact .inl rfl
      | 1 => cases e2; exact .inr (.inl rfl)
      | i + 2 => simp at e2
  have hok : ∀ b, b < w0.heap.size → offA A b → okOf (ow2 w0 A L Q) (gb_mem zs) b := fun b hb ho y hy => by
    rcases gb_blk hy with ⟨_, a, ha, e⟩ | ⟨i, bx, rfl, e1, e2⟩
    · exact ho a ha e.symm
    · match i with
      | 0 => cases e2; omega
      | 1 => cases e2; omega
      | i + 2 => simp at e2
  have hx' : Rd W (okf (okOf (ow2 w0 A L Q) (gb_mem zs)) may false) Kt70 x cells := hx.keep fun b hb ho => ⟨⟨hok b hb ho, fun e => by cases e⟩, by have := h.2.size; omega, h.2.same b hb ho⟩
  have F : FrRel W (okOf (ow2 w0 A L Q) (gb_mem zs)) may (ow2 w0 A L Q) (gb_S2 zs x) a := fun t => by
    by_cases e2 : t = 2
    · subst e2; exact ⟨w0.heap.size, rfl, by rw [t2]; simp [Addr.add]⟩
    by_cases e4 : t = 4
    · subst e4; exact ⟨w0.heap.size + 1, rfl, by rw [t4]; simp [Addr.add]⟩
    by_cases e12 : t = 12
    · subst e12; exact ⟨cells, t12, split_rel hx'⟩
    have nb : ∀ k, ¬ t = k → Nat.beq k t = false := fun k h => by
      cases hb : Nat.beq k t with
      | false => rfl
      | true => exact absurd (Nat.eq_of_beq_eq_true hb).symm h
    have : (gb_S2 zs x).get t = .undef := by simp [S.get, gb_S2, lookup, nb _ e2, nb _ e4, nb _ e12]
    rw [this]; trivial
  refine goR_ok tabOk gb_ck mix 9 gb_code.1 (gb_S2 zs x) a W (ow2 w0 A L Q) _ _ _ (gb_live hnew) M F hN (gb_asg zs x) (fun s' a' w' ow' e At => ?_) (fun s' a' w' ow' e At => by cases e)
  have e := Option.some.inj e
  simp only [Prod.mk.injEq] at e
  obtain ⟨e2, e4, e6, em⟩ := e
  have M' := At.mem
  have F' := At.fr
  have K' := At.keep
  have r2 := opd_rel F' (.tmp 2)
  have r4 := opd_rel F' (.tmp 4)
  have r6 := opd_rel F' (.tmp 6)
  rw [e2] at r2
  rw [e4] at r4
  rw [e6] at r6
  obtain ⟨g2, hg2, v2⟩ := r2
  obtain ⟨g4, hg4, v4⟩ := r4
  obtain ⟨g, hg6, v6⟩ := r6
  rw [em] at M' K'
  have b0 : ow'.bb[0]? = some (some w0.heap.size) := K'.bb 0 _ rfl
  have b1 : ow'.bb[1]? = some (some (w0.heap.size + 1)) := K'.bb 1 _ rfl
  have rv0 : ow'.rv[0]? = some (.slice A L Q) := K'.rv 0 _ rfl
  rw [b0] at hg2
  cases hg2
  rw [b1] at hg4
  cases hg4
  have hgm := M'.may_ (.box 2) g (blk_box (m := gb_mem3 zs x) (b := 2) (bx := ⟨70, splitK false Kt70 x⟩) rfl hg6)
  have how : ow' = ow3 w0 A L Q g := ow_of M'.rlen M'.blen rv0 b0 b1 hg6
  have hge : w0.heap.size + 3 ≤ g := by
    have hd : ∀ y, y ≠ Th.box 2 → blk ow' (gb_mem3 zs x) y ≠ some g := fun y hy hb => hy (M'.dis y (.box 2) g hb (blk_box (m := gb_mem3 zs x) (b := 2) (bx := ⟨70, splitK false Kt70 x⟩) rfl hg6))
    have hs := h.2.size
    have hm := hgm.1
    rw [hmay] at hm
    rcases hm with e | e | ⟨ad, e1, e2⟩ | e
    · exact absurd (by rw [e]; exact blk_box (m := gb_mem3 zs x) (b := 0) rfl b0) (hd (.box 0) (by simp))
    · exact absurd (by rw [e]; exact blk_box (m := gb_mem3 zs x) (b := 1) rfl b1) (hd (.box 1) (by simp))
    · exact absurd (by rw [blk_row (m := gb_mem3 zs x) (r := 0) rfl rv0 rfl, e1, ← e2]; rfl) (hd (.row 0) (by simp))
    · omega
  have hoff : ∀ b, b < W.heap.size → offA A b → b ≠ w0.heap.size → b ≠ w0.heap.size + 1 → w'.heap[b]? = W.heap[b]? := fun b hb ho n0 n1 => gb_off M K' hb ho fun i => by
    match i with
    | 0 => intro e; cases e; exact n0 rfl
    | 1 => intro e; cases e; exact n1 rfl
    | i + 2 => simp
  refine hK a' w' (gb_keepsFrom M K') (fun b hb ho n0 n1 => hoff b (by have := h.2.size; omega) ho n0 n1) ⟨gb_cut hA (gb_any M') rv0 b0 b1 rfl rfl rfl, h.2.step K'.size (fun b hb ho => hoff b (by have := h.2.size; omega) ho (by omega) (by omega)) K'.os K'.tape K'.output⟩
    ⟨g, At.size, v2.trans (by simp [Addr.add]), v4.trans (by simp [Addr.add]), v6.trans (by simp [Addr.add]), hge, ?_⟩
  rw [← how]
  exact gb_any M'
set_option maxRecDepth 20000 in
theorem gb_body_in {l n : Nat} (hA : ∀ a, A = some a → a.block < w0.heap.size) (hX : FX w0 A W) {x : Dt70} {a : Act} (hx : AxG w0 A L Q x zs a W) {r : Sum Dt29 Bool} (hr : gb_rnd zs x = some r) {P : Exit → Act → World → Prop}
    (h1 : ∀ zs' a' W', r = .inl zs' → (∀ B, KeepsFrom B W W') → KpG w0 A W W' → GI w0 A L Q zs' W' → P .normal a' W')
    (h2 : ∀ b a' W', r = .inr b → (∀ B, KeepsFrom B W W') → FX w0 A W' → W'.heap[w0.heap.size + 1]? = some (.cells #[.bool b] 4 (0, 0)) → P .ret a' W') :
    gb_code.2.wpIn (Fence.wide.inRound l) n Tryz.prog P a W := by
  obtain ⟨g, hN, t2, t4, t6, hge, M⟩ := hx
  have hgl : g < W.heap.size := (M.may_ (.box 2) g (blk_box (m := gb_mem3 zs x) (b := 2) (bx := ⟨70, splitK false Kt70 x⟩) rfl rfl)).2
  have F : FrRel W (okOf (ow3 w0 A L Q g) (gb_mem3 zs x)) (fun _ => True) (ow3 w0 A L Q g) (gb_S3 zs x) a := fun t => by
    by_cases e2 : t = 2
    · subst e2; exact ⟨w0.heap.size, rfl, by rw [t2]; simp [Addr.add]⟩
    by_cases e4 : t = 4
    · subst e4; exact ⟨w0.heap.size + 1, rfl, by rw [t4]; simp [Addr.add]⟩
    by_cases e6 : t = 6
    · subst e6; exact ⟨g, rfl, by rw [t6]; simp [Addr.add]⟩
    have nb : ∀ k, ¬ t = k → Nat.beq k t = false := fun k h => by
      cases hb : Nat.beq k t with
      | false => rfl
      | true => exact absurd (Nat.eq_of_beq_eq_true hb).symm h
    have : (gb_S3 zs x).get t = .undef := by simp [S.get, gb_S3, lookup, nb _ e2, nb _ e4, nb _ e6]
    rw [this]; trivial
  have hoff : ∀ {ow' : Ow} {m' : Mem} {w' : World}, Keep (fun _ => True) W (ow3 w0 A L Q g) (gb_mem3 zs x) w' ow' m' → ∀ b, b < w0.heap.size + 3 → offA A b → b ≠ w0.heap.size → b ≠ w0.heap.size + 1 → w'.heap[b]? = W.heap[b]? := fun K' b hb ho n0 n1 => gb_off M K' (by have := hX.size; omega) ho fun i => by
    match i with
    | 0 => intro e; cases e; exact n0 rfl
    | 1 => intro e; cases e; exact n1 rfl
    | 2 => intro e; cases e; omega
    | i + 3 => simp
  refine goR_ok tabOk gb_ck mix 30 gb_code.2 (gb_S3 zs x) a W (ow3 w0 A L Q g) _ _ _ (gb_live fun _ _ => trivial) M F hN ((gb_eval zs x).trans hr) (fun s' a' w' ow' e At => ?_) (fun s' a' w' ow' e At => ?_)
  · have M' := At.mem
    have K' := At.keep
    have b0 : ow'.bb[0]? = some (some w0.heap.size) := K'.bb 0 _ rfl
    have b1 : ow'.bb[1]? = some (some (w0.heap.size + 1)) := K'.bb 1 _ rfl
    have rv0 : ow'.rv[0]? = some (.slice A L Q) := K'.rv 0 _ rfl
    unfold gb_k at e
    split at e
    case h_2 => cases e
    rename_i e1 k fr rw_ xs t0 rr t1 f b hr0 hb0 hb1
    obtain ⟨hc, e9⟩ := cond_none e
    simp only [Bool.and_eq_true, Bool.not_eq_true'] at hc
    obtain ⟨⟨⟨⟨⟨⟨c1, c2⟩, c3⟩, c4⟩, c5⟩, c6⟩, c7⟩ := hc
    obtain rfl := Nat.eq_of_beq_eq_true c1
    obtain rfl := Nat.eq_of_beq_eq_true c4
    obtain rfl := Nat.eq_of_beq_eq_true c5
    obtain rfl := Nat.eq_of_beq_eq_true c6
    subst c2 c3
    have c8 : (b : Bool) = false := (Bool.not_eq_true' (b : Bool)).mp c7
    subst c8
    obtain ⟨zs', hz, rfl⟩ := Option.map_eq_some_iff.1 e9
    obtain ⟨e3, e4⟩ := cast_some hz
    injection e3 with _ e3
    subst e3
    have e4 : xs = zs' := e4
    subst e4
    exact h1 xs a' w' rfl (gb_keepsFrom M K') (hoff K') ⟨gb_cut hA M' rv0 b0 b1 hr0 hb0 hb1, hX.step K'.size (fun b hb ho => hoff K' b (by omega) ho (by omega) (by omega)) K'.os K'.tape K'.output⟩
  · have M' := At.mem
    have K' := At.keep
    have b1 : ow'.bb[1]? = some (some (w0.heap.size + 1)) := K'.bb 1 _ rfl
    unfold gb_q at e
    split at e
    case h_2 => cases e
    rename_i t1 f b hb1
    obtain ⟨hc, e⟩ := cond_none e
    obtain rfl := Nat.eq_of_beq_eq_true hc
    cases e
    obtain ⟨g', hg, vs, hvs, hF⟩ := M'.boxes 1 _ hb1
    rw [b1] at hg
    cases hg
    match vs, hF with
    | [v], ⟨h, _⟩ =>
      have h : [v] = [Value.bool b] := h
      cases h
      exact h2 b a' w' rfl (gb_keepsFrom M K') (hX.step K'.size (fun b hb ho => hoff K' b (by omega) ho (by omega) (by omega)) K'.os K'.tape K'.output) hvs
end
attribute [local go_sem] Oper.semAt_some
noncomputable def gbk : Dt29 → List Dt70 → Option Bool
  | zs, [] => some true
  | zs, x :: r => match gb_rnd zs x with
    | some (.inl zs') => gbk zs' r
    | some (.inr b) => some b
    | none => none
def Tot (zs : Dt29) (l : List Dt70) : Prop := ∃ G : Dt29 → Prop, G zs ∧ ∀ zs' x, G zs' → x ∈ l → ∃ r, gb_rnd zs' x = some r ∧ ∀ zs2, r = .inl zs2 → G zs2
open Classical in
noncomputable def gb_fn (zs : List Dt68) (x : List Dt70 × Unit) : Option (Bool × Unit) := if x.1.length < 4611686018427387904 ∧ Tot zs x.1 then (gbk zs x.1.reverse).map fun b => (b, ()) else none
theorem gb_ex : ∃ f : List Dt68 → List Dt70 × Unit → Option (Bool × Unit), ∀ zs x, f zs x = gb_fn zs x := ⟨gb_fn, fun _ _ => rfl⟩
noncomputable def bounds_goesBack.fn : List Dt68 → List Dt70 × Unit → Option (Bool × Unit) := Classical.choose gb_ex
theorem bounds_goesBack.fn_eq (zs : List Dt68) (x : List Dt70 × Unit) : bounds_goesBack.fn zs x = gb_fn zs x := Classical.choose_spec gb_ex zs x
noncomputable def bounds_goesBack.oth : Oth := .gv ⟨68, Kt68, [(false, .sl 70 Kt70)], [(false, .bool)], bounds_goesBack.fn⟩
theorem gb_init {w0 W : World} {A : Option Addr} {L Q : Nat} {zs : Dt29} {cs : List Value} (hA : ∀ a, A = some a → a.block < w0.heap.size) (hown : w0.ownsRow 0 68 16 (.slice A L Q) zs.length cs) (hrd : RdEach w0 (offA A) Kt68 zs cs) (hs : w0.heap.size + 3 ≤ W.heap.size)
    (hsame : ∀ b, b < w0.heap.size → W.heap[b]? = w0.heap[b]?) (hl : W.heap[w0.heap.size]? = some (.cells #[.slice A L Q] 29 (0, 0))) (hr : W.heap[w0.heap.size + 1]? = some (.cells #[.bool false] 4 (0, 0))) (h1 : W.os = w0.os) (h2 : W.tape = w0.tape) (h3 : W.output = w0.output) : GI w0 A L Q zs W := by
  have hok : ∀ b, b < w0.heap.size → offA A b → okOf (ow2 w0 A L Q) (gb_mem zs) b := fun b hb ho y hy => by
    rcases gb_blk hy with ⟨_, a, ha, e⟩ | ⟨i, bx, rfl, e1, e2⟩
    · exact ho a ha e.symm
    · match i with
      | 0 => cases e2; omega
      | 1 => cases e2; omega
      | i + 2 => simp at e2
  have hown' : W.ownsRow 0 68 16 (.slice A L Q) zs.length cs := by
    refine ⟨hown.1, ?_⟩
    rcases hown.2 with hn | ⟨g, cap, cur, e, hb, hgg, rest⟩
    · exact .inl hn
    · refine .inr ⟨g, cap, cur, e, hb, ?_, rest⟩
      cases e
      rw [hsame g (hA _ rfl)]; exact hgg
  refine ⟨⟨rfl, rfl, fun i row e => ?_, fun i bx e => ?_, fun x y b hx hy => ?_, fun x b hx => ⟨trivial, ?_⟩, fun i hi e => ?_⟩, ⟨fun b hb _ => hsame b hb, hs, h1, h2, h3⟩⟩
  · cases i with
    | succ i => rw [show (gb_mem zs).row? (i + 1) = none from gb_row1 i] at e; cases e
    | zero =>
      cases e
      exact ⟨_, rfl, .inl ⟨⟨_, _, _, rfl⟩, cs, hown', hrd.keep fun b hb ho => ⟨⟨hok b hb ho, fun _ => trivial⟩, by omega, hsame b hb⟩⟩⟩
  · match i with
    | 0 => cases e; exact ⟨_, rfl, [.slice A L Q], hl, ⟨rfl, _, _, _, rfl⟩, trivial⟩
    | 1 => cases e; exact ⟨_, rfl, [.bool false], hr, rfl, trivial⟩
    | i + 2 => simp [gb_mem, Mem.box?] at e
  · rcases gb_blk hx with ⟨rfl, a, ha, e⟩ | ⟨i, bx, rfl, e1, e2⟩ <;> rcases gb_blk hy with ⟨rfl, a', ha', e'⟩ | ⟨j, bx', rfl, e1', e2'⟩
    · rfl
    · have := hA a ha
      match j with
      | 0 => cases e2'; omega
      | 1 => cases e2'; omega
      | j + 2 => simp at e2'
    · have := hA a' ha'
      match i with
      | 0 => cases e2; omega
      | 1 => cases e2; omega
      | i + 2 => simp at e2
    · match i, j with
      | 0, 0 => rfl
      | 1, 1 => rfl
      | 0, 1 => cases e2; simp at e2'
      | 1, 0 => cases e2; simp at e2'
      | i + 2, _ => simp at e2
      | _, j + 2 => simp at e2'
  · rcases gb_blk hx with ⟨rfl, a, ha, e⟩ | ⟨i, bx, rfl, e1, e2⟩
    · have := hA a ha; omega
    · match i with
      | 0 => cases e2; omega
      | 1 => cases e2; omega
      | i + 2 => simp at e2
  · match i with
    | 0 => cases e
    | 1 => cases e
    | i + 2 => exact absurd (show i + 2 < 2 from hi) (by omega)
theorem gb_same {w0 W : World} {A : Option Addr} {L Q : Nat} {zs zs' : Dt29} {x : Dt70} {a : Act} (h : GI w0 A L Q zs W) (k : AxG w0 A L Q x zs' a W) : zs' = zs := by
  obtain ⟨g, _, _, _, _, _, M⟩ := k
  obtain ⟨e, cs, hown, hrd⟩ := gb_row_ h.1
  have M2 : MemRel W (fun _ => True) ⟨[.slice A L Q], (ow3 w0 A L Q g).bb⟩ ⟨[some (gb_row zs')], (gb_mem3 zs' x).boxes⟩ := M
  obtain ⟨e', cs', hown', hrd'⟩ := gb_row_ M2
  subst e
  rw [← e'] at hown'
  obtain rfl := ownsRow_inj hown hown'
  exact RdEach.inj (by kernel_rfl) e'.symm hrd' hrd
theorem results_cell4 {fn : Func} (h : fn.results = #[.cell 4 4]) {tmps : Array Value} {g : Nat} {v : Value} {w : World} (ht : tmps.getD 4 undef = .pointer (some ⟨g, 0, none⟩)) (hc : w.cell? ⟨g, 0, none⟩ = some v) : (results fn tmps).run Tryz.prog w = .ok v w := by
  have ht' : tmps[4]?.getD undef = .pointer (some ⟨g, 0, none⟩) := by simpa using ht
  simp [results, h, go_sem, ht', hc]
abbrev gbA (w : World) (A : Option Addr) (l : List Dt70) : Type := {p : Nat × Dt70 × List Value // p.2.1 ∈ l ∧ Rd w (offA A) Kt70 p.2.1 p.2.2}
def gbD {w : World} {A : Option Addr} {l : List Dt70} (p : gbA w A l) : Dt70 := p.1.2.1
set_option maxRecDepth 100000 in
set_option maxHeartbeats 4000000 in
theorem goesBack_calls (w : World) (zs : List Dt68) (l : List Dt70) (b0 : Bool) (A : Option Addr) (L Q : Nat) (cs : List Value) (hlen : l.length < 4611686018427387904) (G : Dt29 → Prop) (hG0 : G zs) (hG : ∀ zs' x, G zs' → x ∈ l → ∃ r, gb_rnd zs' x = some r ∧ ∀ zs2, r = .inl zs2 → G zs2) (hres : gbk zs l.reverse = some b0)
    (hown : w.ownsRow 0 68 16 (.slice A L Q) zs.length cs) (hrd : RdEach w (offA A) Kt68 zs cs) (Al : Option Addr) (c : Nat) (hel : ∀ (i : Nat) (x : Dt70), l[i]? = some x → ∃ ad es, Al = some ad ∧ ad.block < w.heap.size ∧ offA A ad.block ∧ Rd w (offA A) Kt70 x es ∧ ∀ (j : Nat) (v : Value), es[j]? = some v → w.cell? (ad.add (i * 11 + j)) = some v) :
    CallsIn Fence.wide 6 Tryz.prog 50 #[.slice A L Q, .slice Al l.length c] w fun e w' => e = .returned (.bool b0) ∧ FX w A w' := by
  have hA : ∀ a, A = some a → a.block < w.heap.size := fun a e => by
    subst e
    rcases hown.2 with ⟨e, _⟩ | ⟨g, cap, cur, e, _, hg, _⟩
    · cases e
    · cases e; exact (Array.getElem?_eq_some_iff.1 hg).1
  have hch : ∀ i : Nat, ∃ es : List Value, ∀ x, l[i]? = some x → ∃ ad, Al = some ad ∧ ad.block < w.heap.size ∧ offA A ad.block ∧ Rd w (offA A) Kt70 x es ∧ ∀ (j : Nat) (v : Value), es[j]? = some v → w.cell? (ad.add (i * 11 + j)) = some v := fun i => by
    cases hi : l[i]? with
    | none => exact ⟨[], fun x e => by cases e⟩
    | some x0 =>
      obtain ⟨ad, es, h⟩ := hel i x0 hi
      exact ⟨es, fun x e => by cases e; exact ⟨ad, h⟩⟩
  obtain ⟨ce, hce⟩ := Classical.axiomOfChoice hch
  obtain ⟨xs, hxs⟩ : ∃ xs : List (gbA w A l), xs = List.ofFn fun i : Fin l.length => (⟨(i.1, l[i.1], ce i.1), List.getElem_mem i.2, (hce i.1 _ (List.getElem?_eq_getElem i.2)).choose_spec.2.2.2.1⟩ : gbA w A l) := ⟨_, rfl⟩
  have hxl : xs.length = l.length := by rw [hxs]; simp
  have hxd : xs.map gbD = l := by
    rw [hxs]
    apply List.ext_getElem (by simp)
    intro i h1 h2
    simp [gbD]
  have hxg : ∀ (j : Nat) (x : gbA w A l), xs[j]? = some x → x.1 = (j, gbD x, ce j) ∧ (ce j).length = 11 := fun j x h => by
    have hj : j < l.length := by rw [← hxl]; exact (List.getElem?_eq_some_iff.1 h).1
    rw [hxs] at h
    simp only [List.getElem?_ofFn, hj, dif_pos, Option.some.injEq] at h
    subst h
    exact ⟨rfl, by obtain ⟨_, _, _, _, h4, _⟩ := hce j _ (List.getElem?_eq_getElem hj); exact h4.len⟩
  refine callsIn_of_wp_marks Tryz.func50 rfl trivial ?_ rfl
  simp only [Tryz.ntmps50, List.size_toArray, List.length_cons, List.length_nil, Nat.reduceAdd, Nat.reduceSub, Array.replicate_succ, Array.replicate_zero, List.push_toArray, List.append_toArray, List.nil_append, List.cons_append]
  gi_wp2_with (refine ⟨trivial, ?_⟩; gi_at_call 74; refine (bk_in 5 _ _ _ _).mono ?_; rintro e w' ⟨rfl, rfl⟩)
  have hsz : (((w.alloc (.cells #[.slice A L Q] 29)).alloc (.cells #[.bool false] 4)).alloc (.cells #[.slice Al l.length c] 30)).heap.size = w.heap.size + 3 := by simp
  have bl := ((Boxed.new w 29 (.slice A L Q)).alloc (.cells #[.bool false] 4)).alloc (.cells #[.slice Al l.length c] 30)
  have br := (Boxed.new (w.alloc (.cells #[.slice A L Q] 29)) 4 (.bool false)).alloc (.cells #[.slice Al l.length c] 30)
  have bS := Boxed.new ((w.alloc (.cells #[.slice A L Q] 29)).alloc (.cells #[.bool false] 4)) 30 (.slice Al l.length c)
  have hB0 : Below w.heap.size w (((w.alloc (.cells #[.slice A L Q] 29)).alloc (.cells #[.bool false] 4)).alloc (.cells #[.slice Al l.length c] 30)) := (((Below.refl _ w).alloc (Nat.le_refl _) _).alloc (by simp) _).alloc (by simp; omega) _
  rw [World.size_alloc] at br bS
  rw [World.size_alloc] at bS
  try simp only [World.size_alloc]
  generalize hw3 : (((w.alloc (.cells #[.slice A L Q] 29)).alloc (.cells #[.bool false] 4)).alloc (.cells #[.slice Al l.length c] 30)) = w3 at *
  have hos : w3.os = w.os := by rw [← hw3]; rfl
  have htp : w3.tape = w.tape := by rw [← hw3]; rfl
  have hout : w3.output = w.output := by rw [← hw3]; rfl
  have hg3 : ∀ (B : Nat) {W : World} {row : Option Nat}, (∀ r, row = some r → w3.heap.size ≤ r ∧ ∃ o : Obj, W.heap[r]? = some o ∧ o.isCells = false) → (∀ r, row = some r → w.heap.size + 3 ≤ r ∧ ∃ o : Obj, W.heap[r]? = some o ∧ o.isCells = false) := fun B W row h r e => by have := h r e; rw [hsz] at this; exact this
  refine wpIn_rangeFunc_ownH rfl (by omega) (gf := 92) (lb := #[.pointer (some ⟨w.heap.size + 1 + 1, 0, none⟩)]) rfl trivial (enters_of Tryz.func92 (by kernel_rfl) rfl)
    (bw_stops 5 (by omega) (w.heap.size + 1 + 1) c Al xs (by omega) (KpG w A) (fun W b _ _ _ _ => rfl) (fun h k b h1 h2 h3 h4 => (k b h1 h2 h3 h4).trans (h b h1 h2 h3 h4)) ?keepc (fun p : gbA w A l => #[.int .i64 (p.1.1 : Int), .agg p.1.2.2.toArray]) ce
      (fun j x h => by obtain ⟨e, h2⟩ := hxg j x h; exact ⟨by rw [e], h2⟩) w3 (by omega) (by rw [hxl]; exact bS.cell) (fun j hj => by
        rw [hxl] at hj
        obtain ⟨ad, e1, e2, e3, _, e4⟩ := hce j _ (List.getElem?_eq_getElem hj)
        exact ⟨ad, e1, by omega, fun i u hu => (hB0.cell (p := ad.add (j * 11 + i)) (by rw [Addr.add_block]; exact e2)).trans (e4 i u hu)⟩))
    (fun h k b h1 h2 h3 h4 => (k b h1 h2 h3 h4).trans (h b h1 h2 h3 h4)) (fun W i o o' hi _ _ _ b h1 _ _ _ => World.putObj_heap_other (by omega)) (Below.refl _ _) (fun _ => rfl)
    (fun pre W => ∃ zs', G zs' ∧ GI w A L Q zs' W ∧ ∀ r, gbk zs (pre.map gbD ++ r) = gbk zs' r)
    (fun cd pre W => cd = .ret ∧ FX w A W ∧ ∃ b, W.heap[w.heap.size + 1]? = some (.cells #[.bool b] 4 (0, 0)) ∧ ∀ r, gbk zs (pre.map gbD ++ r) = some b)
    (fun s X Y row ⟨zs', g1, g2, g3⟩ hg hr => ⟨zs', g1, g2.grown (B := w.heap.size + 3) (by omega) hg (hg3 0 hr), g3⟩)
    (fun cd s X Y row ⟨e, h1, b, h2, h3⟩ hg hr => ⟨e, h1.grown (B := w.heap.size + 3) (by omega) hg (hg3 0 hr), b, (grownBy_keeps_cells hg (fun r e => (hr r e).2) h2 rfl).trans h2, h3⟩)
    ⟨zs, hG0, gb_init hA hown hrd (by omega) (fun b hb => hB0.block b hb) bl br hos htp hout, fun r => rfl⟩
    (fun x a' W => ∃ zs', AxG w A L Q (gbD x) zs' a' W)
    (fun x a' s X Y row ⟨zs', h⟩ hg hr => ⟨zs', h.grown hg fun r e => (hr r e).2⟩) ?assign ?body ?done ?stop
  case keepc =>
    intro W W' h p v hp hc
    refine (World.cell?_of_block ?_).trans hc
    rcases hp with e | ⟨ad, e, e2, h0⟩
    · refine h _ (by omega) (fun a ha => ?_) (by omega) (by omega)
      have := hA a ha; omega
    · rw [hxl] at h0
      obtain ⟨ad', e3, e4, e5, _⟩ := hce 0 _ (List.getElem?_eq_getElem h0)
      rw [e] at e3
      cases e3
      rw [e2]
      exact h _ (by omega) e5 (by omega) (by omega)
  case assign =>
    rintro l0 pre x W K ⟨zs', g1, g2, g3⟩ hK
    exact gb_asg_in hA g2 x.2.2 (by kernel_rfl) (by kernel_rfl) (by kernel_rfl) (by kernel_rfl) fun a' W' h1 h2 h3 h4 => hK a' W' (h1 _) h2 ⟨zs', g1, h3, g3⟩ ⟨zs', h4⟩
  case body =>
    rintro l0 pre x a' W hl hrec ⟨zs', g1, g2, g3⟩ ⟨zs2, hx⟩ hlen'
    obtain rfl := gb_same g2 hx
    obtain ⟨r, hr, hrG⟩ := hG _ (gbD x) g1 x.2.1
    refine gb_body_in hA g2.2 hx hr (fun zs3 a3 W3 e k1 k2 k3 => ⟨k1 _, k2, zs3, hrG _ e, k3, fun r' => ?_⟩) (fun b a3 W3 e k1 k2 k3 => ⟨k1 _, rfl, k2, b, k3, fun r' => ?_⟩)
    · subst e
      rw [List.map_append, List.append_assoc, g3]
      show gbk _ (gbD x :: r') = _
      simp only [gbk, hr]
    · subst e
      rw [List.map_append, List.append_assoc, g3]
      show gbk _ (gbD x :: r') = _
      simp only [gbk, hr]
  case done =>
    rintro D ys W hD rfl ⟨zs', g1, g2, g3⟩ hK
    have h9 := g3 []
    rw [List.map_reverse, hxd, List.append_nil, hres] at h9
    obtain rfl := Option.some.inj h9
    obtain ⟨g, hg, vs', hvs, hF⟩ := g2.1.boxes 1 _ rfl
    cases hg
    obtain rfl : vs' = [Value.bool false] := by
      match vs', hF with
      | [v], ⟨h, _⟩ =>
        have h : [v] = [Value.bool false] := h
        exact h
    have hcr : W.cell? ⟨w.heap.size + 1, 0, none⟩ = some (.bool false) := Boxed.cell hvs
    have hfr : W.frozen? ⟨w.heap.size + 1, 0, none⟩ = false := Boxed.frozen hvs
    gi_wp2
    have hK' := (KeepsOthers.setCell W ⟨w.heap.size + 1, 0, none⟩ (.bool true)).same D _ hK rfl
    refine ⟨by simp, .inl ⟨_, _, rfl, run_takeDeferred hK', ?_⟩⟩
    have hc5 := cell_kept (World.cell?_setCell_same' W ⟨w.heap.size + 1, 0, none⟩ (.bool true) (by rw [hcr]; rfl)) (grownBy_putObj' _ D (.deferred none)) (fun r e => by cases e; exact ⟨_, hK', rfl⟩)
    have hset := grownBy_setCell' W (w.heap.size + 1) (.bool true)
    have h7 : FX w A (W.setCell ⟨w.heap.size + 1, 0, none⟩ (.bool true)) := g2.2.step hset.size (fun b hb _ => hset.block b (by have := g2.2.size; omega) (by simp; omega)) hset.os hset.tape hset.output
    have h8 : FX w A ((W.setCell ⟨w.heap.size + 1, 0, none⟩ (.bool true)).putObj D (.deferred none)) := h7.grown (B := w.heap.size + 3) (by omega) (grownBy_putObj' _ D (.deferred none)) (fun r e => by cases e; exact ⟨by omega, _, hK', rfl⟩)
    exact ⟨.bool true, results_cell4 rfl rfl hc5, rfl, h8⟩
  case stop =>
    rintro D cd pre W hD ⟨k, hk, rfl⟩ ⟨rfl, hFX, b, hb, g3⟩ hK
    have h9 := g3 ((xs.reverse.drop k).map gbD)
    rw [← List.map_append, List.take_append_drop, List.map_reverse, hxd, hres] at h9
    obtain rfl := Option.some.inj h9
    gi_wp2
    refine ⟨by simp, .inl ⟨_, _, rfl, run_takeDeferred hK, ?_⟩⟩
    have hc5 := cell_kept (Boxed.cell hb) (grownBy_putObj' _ D (.deferred none)) (fun r e => by cases e; exact ⟨_, hK, rfl⟩)
    exact ⟨.bool b0, results_cell4 rfl rfl hc5, rfl, hFX.grown (B := w.heap.size + 3) (by omega) (grownBy_putObj' _ D (.deferred none)) (fun r e => by cases e; exact ⟨by omega, _, hK, rfl⟩)⟩
theorem bounds_goesBack.ok : OthOk Tryz.prog 50 bounds_goesBack.oth := by
  refine (⟨⟨_, Tryz.func50, by kernel_rfl, by kernel_rfl⟩, ?_⟩ : GvOk Tryz.prog 50 ⟨68, Kt68, [(false, .sl 70 Kt70)], [(false, .bool)], bounds_goesBack.fn⟩)
  intro w zs x y A L Q cs vs hfn hown hrd hargs
  obtain ⟨l, u⟩ := x
  obtain ⟨sv, vr, rfl, hsv, hvr⟩ := hargs
  have hvr : vr = [] := hvr
  subst hvr
  have hfn : gb_fn zs (l, u) = some y := (bounds_goesBack.fn_eq zs (l, u)).symm.trans hfn
  unfold gb_fn at hfn
  split at hfn
  case isFalse => cases hfn
  rename_i hc
  obtain ⟨hlen, G, hG0, hG⟩ := hc
  obtain ⟨b, hb, rfl⟩ := Option.map_eq_some_iff.1 hfn
  have hsv : RdSl w (offA A) 11 (Rd w (offA A) Kt70) l [sv] := hsv
  obtain ⟨Al, c, e, _, hel⟩ := hsv
  cases e
  refine (callsIn_wide.1 (goesBack_calls w zs l b A L Q cs hlen G hG0 hG hb hown hrd Al c hel)).mono fun e w' ⟨he, hX⟩ => ?_
  exact ⟨.bool b, _, he, rfl, fun ok may ow m => (rfl : [Value.bool b] = [Value.bool b]), by have := hX.size; omega, hX.os, hX.tape, hX.output, hX.same⟩
end Go.Fx.Tryz
