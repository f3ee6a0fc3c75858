/- A function's contract, from its evaluation. -/
import Derived.Test.YtjhbcpnliiegoaaEv20
namespace Go.Fx
open Go Go.RowKit
set_option linter.unusedVariables false
set_option linter.unusedSimpArgs false
section
variable {P : Program} {T : Tab} {C : Cals}
theorem contract_of {g : FuncId} {f : Func} {q : Spec} {code : Code} {F : argT q.ps → Option (argT q.rs)} (TK : TabOk P T) (CK : CalsOk P C) (hmix : P.follows .mixedOrders = true) (hf : P.funcs[g]? = some f) (hb : f.body = some code)
    (hd : noDup (loopTags code) = true) (hn : Nat.ble q.ps.length f.ntmps = true) (hF : ∀ x y, F x = some y → ∃ k, evalF q C T f k x = some y) : Contract P C.tabs g ⟨q.ps, q.rs, q.md, F⟩ := by
  intro w okA x y vs htab hy hrd cs
  simp only at x y hy hrd ⊢
  obtain ⟨k, hk⟩ := hF x y hy
  have hn := Nat.le_of_ble_eq_true hn
  let may : Nat → Prop := fun b => w.heap.size ≤ b ∨ (q.md.isShared = true ∧ okA b)
  let b : Frame := { (default : Frame) with fn := g, kind := .normal }
  let a0 : Act := { tmps := vs.toArray ++ Array.replicate (f.ntmps - vs.toArray.size) undef, defers := [] }
  have henter : Frame.enter P g vs.toArray .normal = b.at a0 [.code code] := by
    simp [Frame.enter, Frame.at, hf, hb, b, a0]
  have hvl := hrd.len
  let s0 : S := ⟨argFr q.md.isShared q.ps 0 x, ⟨[], []⟩⟩
  have M0 : MemRel w may ⟨[], []⟩ s0.m := ⟨rfl, rfl, fun i row e => by simp [s0, Mem.row?] at e, fun i bx e => by simp [s0, Mem.box?] at e, fun x y b h k => by cases x <;> simp [s0, blk, Mem.row?, Mem.box?] at h, fun x b h => by cases x <;> simp [s0, blk, Mem.row?, Mem.box?] at h, fun i hi e => by simp [s0] at hi⟩
  have ok0 : ∀ b, okOf ⟨[], []⟩ s0.m b := fun b x h => by cases x <;> simp [s0, blk, Mem.row?, Mem.box?] at h
  have F0 : FrRel w (okOf ⟨[], []⟩ s0.m) may ⟨[], []⟩ s0 a0 := by
    intro t
    show SVRel _ _ _ _ _ (lookup (argFr q.md.isShared q.ps 0 x) t) _
    rcases lookup_mem (fr := argFr q.md.isShared q.ps 0 x) (t := t) with h1 | h1
    · rw [h1]; trivial
    · obtain ⟨v, h2, _, h3⟩ := argFr_mem (m := s0.m) (ow := ⟨[], []⟩) (may := may) (ok := okOf ⟨[], []⟩ s0.m) (fun b hb => ⟨ok0 b, fun e => .inr ⟨e, hb⟩⟩) hrd h1
      simp only [Nat.sub_zero] at h2
      have : a0.tmps.getD t undef = v := by
        have hlt := (List.getElem?_eq_some_iff.1 h2).1
        simp only [a0]
        rw [Array.getD_eq_getD_getElem?, Array.getElem?_append_left (by simpa using hlt)]
        simp [h2]
      rw [this]; exact h3
  have I0 : Inv (fun _ => True) may f.ntmps w s0 a0 w ⟨[], []⟩ := ⟨M0, F0, by simp only [a0, Array.size_append, List.size_toArray, Array.size_replicate]; omega, rfl, Nat.le_refl _, fun b _ _ => ⟨ok0 b, rfl⟩, rfl, rfl, rfl⟩
  have hm : Live0 C may (fun _ => True) w := ⟨fun b h => .inl h, fun g tb e => ⟨htab g tb e, trivial⟩⟩
  let Post : Act → World → Prop := fun a w' => a.defers = [] ∧ ∃ v, (results f a.tmps).run P w' = .ok v w' ∧ ∃ cs rows ow', thaw q.md.isOwn false 0 q.rs y = some (cs, rows) ∧ MemRel w' (fun b => w.heap.size ≤ b) ow' ⟨rows, []⟩ ∧
      SVRel w' (fun b => okOf ow' ⟨rows, []⟩ b ∧ ((q.md.isShared = true ∧ okA b) ∨ w.heap.size ≤ b)) (fun b => w.heap.size ≤ b) ow' ⟨rows, []⟩ (ofCs cs) v ∧ Below w.heap.size w w'
  have hfin1 : ∀ s a w' ow, finish1 T q.md q.rs f.results.toList s = some y → Inv (fun _ => True) may f.ntmps w s a w' ow → Post a w' := by
    intro s a w' ow h I
    refine ⟨I.defers, ?_⟩
    have hbel : Below w.heap.size w w' := ⟨I.base.os, I.base.tape, I.base.output, I.base.size, fun b hb => (I.base.frame b hb trivial).2⟩
    unfold finish1 at h
    split at h
    case h_2 => cases h
    rename_i cs hcs
    obtain ⟨us, hus, hres⟩ := results_ok TK I.mem I.fr hcs
    simp only at h
    obtain ⟨hc, h⟩ := cond_none h
    rw [Bool.and_eq_true] at hc
    obtain ⟨hagg, hc⟩ := hc
    refine ⟨_, hres, ?_⟩
    cases hmd : q.md.isOwn with
    | true =>
      rw [hmd] at h hc
      simp only [cond_true, Bool.and_eq_true] at h hc
      have hsh : q.md.isShared = false := by cases hq : q.md <;> simp [hq, Md.isOwn, Md.isShared] at hmd ⊢
      have hmay : may = fun b => w.heap.size ≤ b := by funext b; simp [may, hsh]
      have M1 : MemRel w' (fun b => w.heap.size ≤ b) ow s.m := by rw [← hmay]; exact I.mem
      have hus1 : F2 (CmpRel w' (okOf ow s.m) (fun b => w.heap.size ≤ b) ow) cs us := by rw [← hmay]; exact hus
      obtain ⟨cs', rows, rv, ids, h1, h2, h3, h4⟩ := thaw_own M1 0 hc.1 hagg hus1 h
      obtain ⟨M2, _⟩ := h2.mem M1 (by rw [h3]; exact hc.2)
      exact ⟨cs', rows, ⟨rv, []⟩, h1, M2, ofCs_rel (h4 _ _ _ fun i v e => by simpa using e), hbel⟩
    | false =>
      rw [hmd] at h hc
      simp only [cond_false] at h hc
      obtain ⟨M1, K1⟩ := I.mem.freezeAll (allLeaves cs)
      have hr := packArgs_rel M1 (freezeAll_froz _ _) (hus.imp fun _ _ h => CmpRel.keep K1.stay K1.rv h) h hagg true (fun _ => hc)
      have e0 : ∀ b, okOf ⟨[], []⟩ ⟨[], []⟩ b := ok0
      obtain ⟨cs', h1, h2⟩ := thaw_rd (may := fun b => w.heap.size ≤ b) (ow := ⟨[], []⟩) (n := 0) (ok := fun b => okOf ⟨[], []⟩ ⟨[], []⟩ b ∧ ((q.md.isShared = true ∧ okA b) ∨ w.heap.size ≤ b)) (fun b hb => ⟨e0 b, (hb.2 rfl).symm⟩) hr
      exact ⟨cs', [], ⟨[], []⟩, h1, ⟨rfl, rfl, fun i row e => by simp [Mem.row?] at e, fun i bx e => by simp [Mem.box?] at e, fun x y b h k => by cases x <;> simp [blk, Mem.row?, Mem.box?] at h, fun x b h => (by cases x <;> simp [blk, Mem.row?, Mem.box?] at h), fun i hi e => by simp at hi⟩, ofCs_rel h2, hbel⟩
  have hfin : ∀ s a w' ow, finish T q.md q.rs f.results.toList s = some y → Inv (fun _ => True) may f.ntmps w s a w' ow → Post a w' := fun s a w' ow h I => by
    obtain ⟨s', I', h'⟩ := frz_inv I h
    exact hfin1 s' a w' ow h' I'
  have hfits : Fits (Func.pts f) code [] := fits_of hd fun j z hz => by simp [Func.pts, hb, hz]
  have hE : Ends P b cs Post [.code code] a0 w := by
    unfold evalF at hk
    have he : entry f = [.code code] := by simp [entry, hb]
    rw [he] at hk
    exact go_ok TK CK hmix hm (fun j s a w' ow hf' h I => heads_ok TK CK hmix hm hfin k j s a w' ow hf' h I) hfin _ _ _ _ _ _ ⟨hfits, trivial⟩ hk I0
  obtain ⟨todo, a', w', hst, hdef, v, hres, cs', rows, ow', h1, h2, h3, h4⟩ := hE
  rw [henter]
  refine ⟨.returned v, w', { b.at a' todo with mode := .returning }, ⟨v, cs', rows, ow', rfl, h1, h2, h3, h4⟩, hst, rfl, rfl, hdef, rfl, f, hf, hres⟩
theorem calOk_of {tabs : Nat → Option Tbl} {g : FuncId} {f : Func} {sg : Sig} (hf : P.funcs[g]? = some f) (hn : (f.name == "runtime.NumGoroutine") = false) (hb : f.body.isNone = false) (h : Contract P tabs g sg) : CalOk P tabs g sg := ⟨⟨f, hf, hn, hb⟩, h⟩
end
end Go.Fx
