/- A function that writes into its first argument, a slice of a row of its caller's own: its evaluation, its contract. -/
import Derived.Test.YtjhbcpnliiegoaaEv23
namespace Go.Fx
open Go Go.RowKit
set_option linter.unusedVariables false
set_option linter.unusedSimpArgs false
structure IoSpec where
  e : TypeId
  k : K
  ps : List (Bool × K)
  rs : List (Bool × K)
  sh : Nat → List (Nat × CS)
def finishIO (T : Tab) (e : TypeId) (k : K) (rs : List (Bool × K)) (res : List ResultVar) (s : S) : Option (argT rs × List k.T × (Nat × Nat)) :=
  match s.get 0 with
  | .sub r _ n (some g) => match s.m.row? r, seqOf (res.map (resV T s)) with
    | some row, some cs => bif (row.rw && Nat.blt 0 n) && (aggOk rs cs && rs.all fun p => p.2.flat) then (match K.cast (.sl row.e row.k) (.sl e k) row.xs, packArgs s.m rs cs with
      | some xs, some y => some (y, xs, g)
      | _, _ => none) else none
    | _, _ => none
  | _ => none
def IoSpec.env (q : IoSpec) (C : Cals) (T : Tab) (f : Func) : Env (argT q.rs × List q.k.T × (Nat × Nat)) := ⟨C, T, f.ntmps, q.sh, finishIO T q.e q.k q.rs f.results.toList⟩
def evalIO (q : IoSpec) (C : Cals) (T : Tab) (f : Func) (k : Nat) (zs : List q.k.T) (o n : Nat) (g : Nat × Nat) (x : argT q.ps) : Option (argT q.rs × List q.k.T × (Nat × Nat)) :=
  go (q.env C T f) (heads (q.env C T f) (Func.pts f) k) steps (entry f) ⟨(0, .sub 0 o n (some g)) :: argFr false q.ps 1 x, ⟨[some ⟨q.e, q.k, true, true, zs⟩], []⟩⟩
theorem evalIO_mono {q : IoSpec} {C : Cals} {T : Tab} {f : Func} {k k' : Nat} {zs : List q.k.T} {o n : Nat} {g : Nat × Nat} {x : argT q.ps} {y : argT q.rs × List q.k.T × (Nat × Nat)} (hk : k ≤ k') (h : evalIO q C T f k zs o n g x = some y) : evalIO q C T f k' zs o n g x = some y :=
  go_mono (fun j s h => heads_mono k k' j s hk h) _ _ _ h
open Classical in
noncomputable def limIO (q : IoSpec) (C : Cals) (T : Tab) (f : Func) (zs : List q.k.T) (o n : Nat) (x : argT q.ps) : Option (argT q.rs × List q.k.T) :=
  if h : ∃ y : argT q.rs × List q.k.T, ∀ g, ∃ k, evalIO q C T f k zs o n g x = some (y.1, y.2, g) then some (Classical.choose h) else none
theorem limIO_spec {q : IoSpec} {C : Cals} {T : Tab} {f : Func} {zs : List q.k.T} {o n : Nat} {x : argT q.ps} {y : argT q.rs × List q.k.T} (h : limIO q C T f zs o n x = some y) : ∀ g, ∃ k, evalIO q C T f k zs o n g x = some (y.1, y.2, g) := by
  unfold limIO at h
  split at h
  · rename_i hex
    obtain rfl := Option.some.inj h
    exact Classical.choose_spec hex
  · cases h
theorem limIO_of {q : IoSpec} {C : Cals} {T : Tab} {f : Func} {zs : List q.k.T} {o n : Nat} {x : argT q.ps} (y : argT q.rs) (ws : List q.k.T) (h : ∀ g, ∃ k, evalIO q C T f k zs o n g x = some (y, ws, g)) : limIO q C T f zs o n x = some (y, ws) := by
  have hex : ∃ y : argT q.rs × List q.k.T, ∀ g, ∃ k, evalIO q C T f k zs o n g x = some (y.1, y.2, g) := ⟨(y, ws), h⟩
  unfold limIO
  rw [dif_pos hex]
  obtain ⟨k1, h1⟩ := h (0, 0)
  obtain ⟨k2, h2⟩ := Classical.choose_spec hex (0, 0)
  have h3 := evalIO_mono (Nat.le_max_left k1 k2) h1
  have h4 := evalIO_mono (Nat.le_max_right k1 k2) h2
  rw [h3] at h4
  have h5 := Option.some.inj h4
  have e1 : y = (Classical.choose hex).1 := congrArg Prod.fst h5
  have e2 : ws = (Classical.choose hex).2 := congrArg (fun p => p.2.1) h5
  rw [e1, e2]
noncomputable def IoSpec.sig (q : IoSpec) (C : Cals) (T : Tab) (f : Func) : IoSig := ⟨q.e, q.k, q.ps, q.rs, limIO q C T f⟩
section
variable {P : Program} {T : Tab} {C : Cals}
theorem RdArgs.flat {w w' : World} {ok ok' : Nat → Prop} : ∀ {ps : List (Bool × K)} {x : argT ps} {vs : List Value}, ps.all (fun p => p.2.flat) = true → RdArgs w ok ps x vs → RdArgs w' ok' ps x vs
  | [], x, vs, _, h => h
  | p :: ps, x, vs, hf, ⟨v, vr, e, h, k⟩ => by
    simp only [List.all_cons, Bool.and_eq_true] at hf
    refine ⟨v, vr, e, ?_, RdArgs.flat hf.2 k⟩
    unfold RdV at h ⊢
    split
    · rename_i hp
      rw [if_pos hp] at h
      obtain ⟨cs, e, h⟩ := h
      exact ⟨cs, e, h.flat hf.1⟩
    · rename_i hp
      rw [if_neg hp] at h
      exact h.flat hf.1
theorem io_of {g : FuncId} {f : Func} {q : IoSpec} (code : Code) (TK : TabOk P T) (CK : CalsOk P C) (hmix : P.follows .mixedOrders = true) (hf : P.funcs[g]? = some f) (hb : f.body = some code)
    (hd : noDup (loopTags code) = true) (hn : Nat.ble (q.ps.length + 1) f.ntmps = true) (hnm : (f.name == "runtime.NumGoroutine") = false) (hT : C.tabs = noTabs) : IoOk P g (q.sig C T f) := by
  refine ⟨⟨f, hf, hnm, by rw [hb]; rfl⟩, ?_⟩
  intro w zs o n x y ws γ L Q c cs vs hy hlen hflat hn0 hle hnc hown hrd hargs fs
  simp only [IoSpec.sig] at zs x y ws hy hlen hflat hle hown hrd hargs ⊢
  obtain ⟨k, hk⟩ := limIO_spec hy (γ, Q)
  have hn := Nat.le_of_ble_eq_true hn
  let v0 : Value := .slice (some ((⟨γ, 0, none⟩ : Addr).add (o * q.k.n))) n c
  let vb : Value := .slice (some ⟨γ, 0, none⟩) L Q
  let may : Nat → Prop := fun b => w.heap.size ≤ b ∨ b = γ
  let b : Frame := { (default : Frame) with fn := g, kind := .normal }
  let a0 : Act := { tmps := (v0 :: vs).toArray ++ Array.replicate (f.ntmps - (v0 :: vs).toArray.size) undef, defers := [] }
  have henter : Frame.enter P g (v0 :: vs).toArray .normal = b.at a0 [.code code] := by
    simp [Frame.enter, Frame.at, hf, hb, b, a0]
  have hvl := hargs.len
  let row0 : Row := ⟨q.e, q.k, true, true, zs⟩
  let s0 : S := ⟨(0, .sub 0 o n (some (γ, Q))) :: argFr false q.ps 1 x, ⟨[some row0], []⟩⟩
  let ow0 : Ow := ⟨[vb], []⟩
  have hγ : γ < w.heap.size := (World.ownsRow.lt hown γ rfl).2
  have hL : L = zs.length := by
    rcases hown.2 with ⟨h1, _⟩ | ⟨_, _, _, h1, _⟩
    · cases h1
    · injection h1
  have hrow0 : ∀ i row, s0.m.row? i = some row → i = 0 ∧ row = row0 := by
    intro i row e
    cases i with
    | zero => simp [s0, Mem.row?] at e; exact ⟨rfl, e.symm⟩
    | succ i => simp [s0, Mem.row?] at e
  have hblk : ∀ x b, blk ow0 s0.m x = some b → x = .row 0 ∧ b = γ := by
    intro x b h
    cases x with
    | box i => simp [blk, s0, Mem.box?] at h
    | row i =>
      cases i with
      | zero => simp [blk, s0, Mem.row?, row0, ow0, vb, oblk] at h; exact ⟨rfl, h.symm⟩
      | succ i => simp [blk, s0, Mem.row?] at h
  have ok0 : ∀ b, b ≠ γ → okOf ow0 s0.m b := fun b hb x h => hb (hblk x b h).2
  have M0 : MemRel w may ow0 s0.m := by
    refine ⟨rfl, rfl, fun i row e => ?_, fun i bx e => by simp [s0, Mem.box?] at e, fun x y b h k => by rw [(hblk x b h).1, (hblk y b k).1], fun x b h => by rw [(hblk x b h).2]; exact ⟨.inr rfl, hγ⟩, fun i hi e => by simp [s0] at hi⟩
    obtain ⟨rfl, rfl⟩ := hrow0 i row e
    exact ⟨vb, rfl, .inl ⟨⟨_, _, _, rfl⟩, cs, hown, hrd.flat hflat⟩⟩
  have F0 : FrRel w (okOf ow0 s0.m) may ow0 s0 a0 := by
    intro t
    show SVRel _ _ _ _ _ (lookup ((0, .sub 0 o n (some (γ, Q))) :: argFr false q.ps 1 x) t) _
    rw [lookup_cons]
    split
    · rename_i h0
      subst h0
      have : a0.tmps.getD 0 undef = v0 := by
        simp only [a0]
        rw [Array.getD_eq_getD_getElem?, Array.getElem?_append_left (by simp)]
        simp
      rw [this]
      refine ⟨Nat.zero_lt_one, ⟨_, _, _, rfl⟩, fun row e => ?_⟩
      obtain ⟨_, rfl⟩ := hrow0 0 row e
      exact ⟨hle, ⟨_, _, rfl, hnc⟩, fun _ => ⟨γ, L, Q, c, rfl, rfl, fun δ hδ => by obtain rfl := Option.some.inj hδ; exact ⟨rfl, rfl⟩⟩⟩
    · rcases lookup_mem (fr := argFr false q.ps 1 x) (t := t) with h1 | h1
      · rw [h1]; trivial
      · obtain ⟨v, h2, h4, h3⟩ := argFr_mem (m := s0.m) (ow := ow0) (may := may) (ok := okOf ow0 s0.m) (fun b hb => ⟨ok0 b hb, fun e => by cases e⟩) hargs h1
        have : a0.tmps.getD t undef = v := by
          have hlt := (List.getElem?_eq_some_iff.1 h2).1
          simp only at hlt h2 h4
          obtain ⟨t', rfl⟩ : ∃ t', t = t' + 1 := ⟨t - 1, by omega⟩
          simp only [a0]
          rw [Array.getD_eq_getD_getElem?, Array.getElem?_append_left (by simp; omega)]
          simp at h2 ⊢
          simp [h2]
        rw [this]; exact h3
  have I0 : Inv (fun b => b ≠ γ) may f.ntmps w s0 a0 w ow0 := ⟨M0, F0, by simp only [a0, Array.size_append, List.size_toArray, Array.size_replicate, List.length_cons]; omega, rfl, Nat.le_refl _, fun b _ hb => ⟨ok0 b hb, rfl⟩, rfl, rfl, rfl⟩
  have hm : Live0 C may (fun b => b ≠ γ) w := ⟨fun b h => .inl h, fun g tb e => by rw [hT] at e; cases e⟩
  let Post : Act → World → Prop := fun a w' => a.defers = [] ∧ ∃ v, (results f a.tmps).run P w' = .ok v w' ∧ ∃ ds es, thaw false false 0 q.rs y = some (ds, []) ∧
      (∀ (ok may : Nat → Prop) (ow : Ow) (m : Mem), SVRel w' ok may ow m (ofCs ds) v) ∧ w.heap.size ≤ w'.heap.size ∧ w'.os = w.os ∧ w'.tape = w.tape ∧ w'.output = w.output ∧ (∀ b, b < w.heap.size → b ≠ γ → w'.heap[b]? = w.heap[b]?) ∧
      w'.ownsRow 0 q.e q.k.n vb zs.length es ∧ RdEach w' (fun _ => True) q.k ws es
  have hfin : ∀ s a w' ow, finishIO T q.e q.k q.rs f.results.toList s = some (y, ws, (γ, Q)) → Inv (fun b => b ≠ γ) may f.ntmps w s a w' ow → Post a w' := by
    intro s a w' ow h I
    refine ⟨I.defers, ?_⟩
    unfold finishIO at h
    split at h
    case h_2 => cases h
    rename_i r o' n' g' hget
    split at h
    case h_2 => cases h
    rename_i row cs' hr hcs
    obtain ⟨hc, h⟩ := cond_none h
    simp only [Bool.and_eq_true] at hc
    obtain ⟨⟨hrw, hn1⟩, hagg, hfl⟩ := hc
    have hn1 : 0 < n' := Nat.le_of_ble_eq_true hn1
    split at h
    case h_2 => cases h
    rename_i xs y' hxs hy'
    have h := Option.some.inj h
    have hy1 : y' = y := congrArg Prod.fst h
    have hx1 : xs = ws := congrArg (fun p => p.2.1) h
    have hg1 : g' = (γ, Q) := congrArg (fun p => p.2.2) h
    rw [hy1] at hy'
    rw [hx1] at hxs
    subst hg1
    obtain ⟨us, hus, hres⟩ := results_ok TK I.mem I.fr hcs
    refine ⟨_, hres, ?_⟩
    have h0 := I.fr 0
    rw [hget] at h0
    obtain ⟨_, _, h0⟩ := h0
    obtain ⟨_, _, h0⟩ := h0 row hr
    obtain ⟨γ', L', C', c', hv, _, hid⟩ := h0 hn1
    obtain ⟨h5, h6⟩ := hid _ rfl
    simp only at h5 h6
    subst h5 h6
    obtain ⟨v1, hv1, RR⟩ := I.mem.sl r row hr hv ⟨_, _, _, rfl⟩
    obtain rfl := Option.some.inj (hv1.symm.trans hv)
    obtain ⟨_, R2⟩ := RR
    rw [hrw] at R2
    simp only [if_true] at R2
    obtain ⟨es, hown1, hrd1⟩ := R2
    obtain ⟨re, rk, rfr, rrw, rxs⟩ := row
    simp only at *
    obtain ⟨e1, e2⟩ := cast_some hxs
    injection e1 with e3 e4
    subst e3 e4
    simp only at e2
    subst e2
    have hL' : L' = L := by
      rcases hown1.2 with ⟨h1, _⟩ | ⟨_, _, _, h1, _⟩
      · cases h1
      · injection h1 with _ h2
        rw [hL, ← hlen]; exact h2
    subst hL'
    have hra := packArgs_any I.mem hus hy' hagg
    obtain ⟨ds, hds, _⟩ := thaw_rd (may := fun _ => True) (ow := ⟨[], []⟩) (n := 0) (okR := fun _ => False) (ok := fun _ => True) (fun b hb => hb.elim) (RdArgs.flat (w' := w') (ok' := fun _ => False) hfl hra)
    refine ⟨ds, es, hds, fun ok may' ow' m' => ?_, I.base.size, I.base.os, I.base.tape, I.base.output, fun b hb hne => (I.base.frame b hb hne).2, by rw [← hlen]; exact hown1, hrd1.flat hflat⟩
    obtain ⟨ds', hds', hF⟩ := thaw_rd (may := may') (ow := ow') (n := 0) (okR := fun _ => False) (ok := ok) (fun b hb => hb.elim) (RdArgs.flat (w' := w') (ok' := fun _ => False) hfl hra)
    rw [hds] at hds'
    obtain ⟨rfl, _⟩ := Prod.mk.inj (Option.some.inj hds')
    exact ofCs_rel hF
  have hfits : Fits (Func.pts f) code [] := fits_of hd fun j z hz => by simp [Func.pts, hb, hz]
  have hE : Ends P b fs Post [.code code] a0 w := by
    unfold evalIO at hk
    have he : entry f = [.code code] := by simp [entry, hb]
    rw [he] at hk
    exact go_ok TK CK hmix hm (fun j s a w' ow hf' h I => heads_ok TK CK hmix hm hfin k j s a w' ow hf' h I) hfin _ _ _ _ _ _ ⟨hfits, trivial⟩ hk I0
  obtain ⟨todo, a', w', hst, hdef, v, hres, ds, es, h1, h2⟩ := hE
  rw [henter]
  exact ⟨.returned v, w', { b.at a' todo with mode := .returning }, ⟨v, ds, es, rfl, h1, h2⟩, hst, rfl, rfl, hdef, rfl, f, hf, hres⟩
theorem io_of' {g : FuncId} {f : Func} {q : IoSpec} (TK : TabOk P T) (CK : CalsOk P C) (hmix : P.follows .mixedOrders = true) (hf : P.funcs[g]? = some f) (hb : f.body.isSome = true)
    (hd : noDup (loopTags (f.body.get hb)) = true) (hn : Nat.ble (q.ps.length + 1) f.ntmps = true) (hnm : (f.name == "runtime.NumGoroutine") = false) (hT : C.tabs = noTabs) : IoOk P g (q.sig C T f) :=
  io_of (f.body.get hb) TK CK hmix hf (Option.some_get hb).symm hd hn hnm hT
end
end Go.Fx
