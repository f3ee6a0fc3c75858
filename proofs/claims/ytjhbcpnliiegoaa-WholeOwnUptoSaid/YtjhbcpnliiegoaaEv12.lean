/- Calls of functions by what they say of themselves; one operation as a whole. -/
import Derived.Test.YtjhbcpnliiegoaaEv11
namespace Go.Fx
open Go Go.RowKit
set_option linter.unusedVariables false
set_option linter.unusedSimpArgs false
def RdV (w : World) (ok : Nat → Prop) (p : Bool × K) (x : p.2.T) (v : Value) : Prop :=
  if p.1 = true then ∃ cs : List Value, v = .agg cs.toArray ∧ Rd w ok p.2 x cs else Rd w ok p.2 x [v]
def RdArgs (w : World) (ok : Nat → Prop) : (ps : List (Bool × K)) → argT ps → List Value → Prop
  | [], _, vs => vs = []
  | p :: r, x, vs => ∃ v vr, vs = v :: vr ∧ RdV w ok p x.1 v ∧ RdArgs w ok r x.2 vr
/-- The tables lie where the program looks for them. -/
def Laid (w : World) (g : Nat) (tb : Tbl) : Prop := g < w.heap.size ∧ ∀ (j : Nat) (x : Int), tb.xs[j]? = some x → w.cell? ((⟨g, 0, none⟩ : Addr).add j) = some (.int tb.k x)
def Tabled (tabs : Nat → Option Tbl) (w : World) : Prop := ∀ g tb, tabs g = some tb → Laid w g tb
def TblOk (P : Program) (tb : Tbl) : Prop := ∃ e, P.underlying tb.t = some (.array tb.xs.length e) ∧ ∀ w, (sizeOf e).run P w = .ok 1 w
/-- What a call of function g does, told by its signature. -/
def Contract (P : Program) (tabs : Nat → Option Tbl) (g : FuncId) (sg : Sig) : Prop :=
  ∀ (w : World) (okA : Nat → Prop) (x : argT sg.ps) (y : argT sg.rs) (vs : List Value), Tabled tabs w → sg.fn x = some y → RdArgs w okA sg.ps x vs →
    Calls P g vs.toArray w fun e w' => ∃ v cs rows ow', e = .returned v ∧ thaw sg.md.isOwn false 0 sg.rs y = some (cs, rows) ∧ MemRel w' (fun b => w.heap.size ≤ b) ow' ⟨rows, []⟩ ∧
      SVRel w' (fun b => okOf ow' ⟨rows, []⟩ b ∧ ((sg.md.isShared = true ∧ okA b) ∨ w.heap.size ≤ b)) (fun b => w.heap.size ≤ b) ow' ⟨rows, []⟩ (ofCs cs) v ∧ Below w.heap.size w w'
structure CalOk (P : Program) (tabs : Nat → Option Tbl) (g : FuncId) (sg : Sig) : Prop where
  fn : ∃ fn, P.funcs[g]? = some fn ∧ (fn.name == "runtime.NumGoroutine") = false ∧ fn.body.isNone = false
  contract : Contract P tabs g sg
/-- What a call of function g does that writes into a slice of a row which is its caller's own. -/
structure IoOk (P : Program) (g : FuncId) (ig : IoSig) : Prop where
  fn : ∃ fn, P.funcs[g]? = some fn ∧ (fn.name == "runtime.NumGoroutine") = false ∧ fn.body.isNone = false
  contract : ∀ (w : World) (zs : List ig.k.T) (o n : Nat) (x : argT ig.ps) (y : argT ig.rs) (ws : List ig.k.T) (γ L Q c : Nat) (cs : List Value) (vs : List Value), ig.fn zs o n x = some (y, ws) → ws.length = zs.length → ig.k.flat = true → 0 < n → o + n ≤ zs.length → n ≤ c →
    w.ownsRow 0 ig.e ig.k.n (.slice (some ⟨γ, 0, none⟩) L Q) zs.length cs → RdEach w (fun _ => True) ig.k zs cs → RdArgs w (fun b => b ≠ γ) ig.ps x vs →
    Calls P g (Value.slice (some ((⟨γ, 0, none⟩ : Addr).add (o * ig.k.n))) n c :: vs).toArray w fun e w' => ∃ v ds es, e = .returned v ∧ thaw false false 0 ig.rs y = some (ds, []) ∧
      (∀ (ok may : Nat → Prop) (ow : Ow) (m : Mem), SVRel w' ok may ow m (ofCs ds) v) ∧ w.heap.size ≤ w'.heap.size ∧ w'.os = w.os ∧ w'.tape = w.tape ∧ w'.output = w.output ∧ (∀ b, b < w.heap.size → b ≠ γ → w'.heap[b]? = w.heap[b]?) ∧
      w'.ownsRow 0 ig.e ig.k.n (.slice (some ⟨γ, 0, none⟩) L Q) zs.length es ∧ RdEach w' (fun _ => True) ig.k ws es
/-- Ahead of a call of function g: it has a body. -/
def Body (P : Program) (g : FuncId) : Prop := ∃ fn, P.funcs[g]? = some fn ∧ (fn.name == "runtime.NumGoroutine") = false ∧ fn.body.isNone = false
/-- Not the block of a slice. -/
def offA (A : Option Addr) (b : Nat) : Prop := ∀ a, A = some a → b ≠ a.block
/-- What a call of function g does that is given a row. -/
structure GvOk (P : Program) (g : FuncId) (gg : GvSig) : Prop where
  fn : Body P g
  contract : ∀ (w : World) (zs : List gg.k.T) (x : argT gg.ps) (y : argT gg.rs) (A : Option Addr) (L Q : Nat) (cs vs : List Value), gg.fn zs x = some y → w.ownsRow 0 gg.e gg.k.n (.slice A L Q) zs.length cs → RdEach w (offA A) gg.k zs cs → RdArgs w (offA A) gg.ps x vs →
    Calls P g (Value.slice A L Q :: vs).toArray w fun e w' => ∃ v ds, e = .returned v ∧ thaw false false 0 gg.rs y = some (ds, []) ∧
      (∀ (ok may : Nat → Prop) (ow : Ow) (m : Mem), SVRel w' ok may ow m (ofCs ds) v) ∧ w.heap.size ≤ w'.heap.size ∧ w'.os = w.os ∧ w'.tape = w.tape ∧ w'.output = w.output ∧ (∀ b, b < w.heap.size → offA A b → w'.heap[b]? = w.heap[b]?)
/-- What a call of slices.Clone does. -/
structure ClOk (P : Program) (g : FuncId) (e : TypeId) (n b : Nat) : Prop where
  fn : Body P g
  contract : ∀ (w : World) (A : Option Addr) (len c : Nat) (cs : List Value), cs.length = len * n → (∀ u ∈ cs, u.oneCell' = true) → (len ≠ 0 → ∃ ad, A = some ad ∧ ∀ j u, cs[j]? = some u → w.cell? (ad.add j) = some u) → len ≤ c → len < lim b →
    Calls P g #[.slice A len c] w fun e' w' => ∃ v, e' = .returned v ∧ w'.ownsRow 0 e n v len cs ∧ (∀ d, v.ownBlock = some d → w.heap.size ≤ d) ∧ Below w.heap.size w w'
/-- What a call of function g does whose last argument is a flag. -/
structure PtOk (P : Program) (g g' : FuncId) (sg : Sig) : Prop where
  same : g' = g
  own : CalOk P (fun _ => none) g sg
  pass : ∀ (w : World) (x1 x2 y1 y2 z1 z2 : Value), x1.oneCell' = true → x2.oneCell' = true → y1.oneCell' = true → y2.oneCell' = true → z1.oneCell' = true → z2.oneCell' = true →
    Calls P g #[.agg #[x1, x2], .agg #[y1, y2], .agg #[z1, z2], .bool false] w fun e w' => e = .returned (.tuple #[.agg #[x1, x2], .agg #[y1, y2], .int .i64 0]) ∧ Below w.heap.size w w'
def OthOk (P : Program) (g : FuncId) : Oth → Prop
  | .io ig => IoOk P g ig
  | .gv gg => GvOk P g gg
  | .cl e n b => ClOk P g e n b
  | .pt g' sg => PtOk P g g' sg
/-- A call's memory, as the one that is called finds it. -/
def XSig.spec (xg : XSig) : XSpec := ⟨xg.rcv, xg.nilr, xg.ps, xg.pown, xg.nw, xg.rs, xg.own, fun _ => []⟩
/-- What a call of function g does that is lent a variable, or given rows. -/
def XContract (P : Program) (tabs : Nat → Option Tbl) (g : FuncId) (xg : XSig) : Prop :=
  ∀ (w : World) (may : Nat → Prop) (ow : Ow) (G : Gh) (d : rcvT xg.rcv) (x : argT xg.ps) (y : newT xg.nw × argT xg.rs × rcvT xg.rcv) (s : S) (vs : List Value), (∀ b, w.heap.size ≤ b → may b) → Tabled tabs w → (∀ g tb, tabs g = some tb → okOf ow s.m g) →
    xg.spec.ent G d x = some s → MemRel w may ow s.m → (∀ q ∈ s.fr, ∃ v, vs[q.1]? = some v ∧ SVRel w (okOf ow s.m) may ow s.m q.2 v) → vs.length = s.fr.length → xg.fn d x = some y →
    Calls P g vs.toArray w fun e w' => ∃ v z ow', e = .returned v ∧ xg.spec.ext G y = some z ∧ MemRel w' may ow' z.2 ∧ SVRel w' (okOf ow' z.2) may ow' z.2 z.1 v ∧ (∀ b, b < s.m.boxes.length → ow'.bb[b]? = ow.bb[b]?) ∧
      w.heap.size ≤ w'.heap.size ∧ (∀ b, b < w.heap.size → okOf ow s.m b → okOf ow' z.2 b ∧ w'.heap[b]? = w.heap[b]?) ∧ w'.os = w.os ∧ w'.tape = w.tape ∧ w'.output = w.output
structure XOk (P : Program) (tabs : Nat → Option Tbl) (g : FuncId) (xg : XSig) : Prop where
  fn : ∃ fn, P.funcs[g]? = some fn ∧ (fn.name == "runtime.NumGoroutine") = false ∧ fn.body.isNone = false
  contract : XContract P tabs g xg
/-- Two structs of n whole numbers are held against each other field by field. -/
def EqOk (P : Program) (t : TypeId) (n : Nat) : Prop := ∀ (w : World) (op : BinOp) (x y : Operand) (xs ys : List Int), xs.length = n → ys.length = n → (op = .eql ∨ op = .neq) →
  (do eqGuard op t x y (.agg (xs.map (Value.int .i64)).toArray) (.agg (ys.map (Value.int .i64)).toArray); binOp op t (.agg (xs.map (Value.int .i64)).toArray) (.agg (ys.map (Value.int .i64)).toArray)).run P w = .ok (.bool (if op = .eql then xs == ys else !(xs == ys))) w
structure CalsOk (P : Program) (C : Cals) : Prop where
  fn : ∀ g sg, C g = some sg → CalOk P C.tabs g sg
  io : ∀ g ig, C.io g = some ig → OthOk P g ig
  tabs : ∀ g tb, C.tabs g = some tb → TblOk P tb
  x : ∀ g n xg, C.x g n = some xg → XOk P C.tabs g xg
  eqs : ∀ t n, C.eqs t = some n → EqOk P t n
/-- What holds of a world in which a call is under way: what is new may be written, the tables are there and nobody's own. -/
structure Live (C : Cals) (may : Nat → Prop) (w : World) (ow : Ow) (m : Mem) : Prop where
  new : ∀ b, w.heap.size ≤ b → may b
  tab : Tabled C.tabs w
  ok : ∀ g tb, C.tabs g = some tb → okOf ow m g
theorem Laid.keep {w w' : World} {g : Nat} {tb : Tbl} {ok ok' : Nat → Prop} (h : Laid w g tb) (S : Stay w ok w' ok') (hg : ok g) : Laid w' g tb :=
  ⟨(S g h.1 hg).2.1, fun j x hx => S.cell (by rw [Addr.add_block]; exact hg) (h.2 j x hx)⟩
theorem Live.keep {C : Cals} {may : Nat → Prop} {w w' : World} {ow ow' : Ow} {m m' : Mem} (h : Live C may w ow m) (K : Keep may w ow m w' ow' m') : Live C may w' ow' m' :=
  ⟨fun b hb => h.new b (Nat.le_trans K.size hb), fun g tb e => (h.tab g tb e).keep K.stay (h.ok g tb e), fun g tb e => (K.stay g (h.tab g tb e).1 (h.ok g tb e)).1⟩
def shL (fr : Bool) (d : Nat) : Leaf → Leaf
  | .own r => .own (r + d)
  | .val f k x => .val (f || fr) k x
  | .nil => .nil
def shC (fr : Bool) (d : Nat) : Cmp → Cmp
  | .lf l => .lf (shL fr d l)
  | .agg ls => .agg (ls.map (shL fr d))
theorem thawL_shift (fr : Bool) (d : Nat) : ∀ (k : K) (x : k.T) (n : Nat) , True → thawL (n + d) (splitK true k x) = ((thawL n (splitK true k x)).1.map (shL fr d), (thawL n (splitK true k x)).2) := by
  have key : ∀ (ls : List Leaf) (n : Nat), (∀ l ∈ ls, ∃ k x, l = .val true k x) → thawL (n + d) ls = ((thawL n ls).1.map (shL fr d), (thawL n ls).2) := by
    intro ls
    induction ls with
    | nil => intro n _; rfl
    | cons l r ih =>
      intro n h
      have h' : ∀ q ∈ r, ∃ k x, q = Leaf.val true k x := fun q hq => h q (by simp [hq])
      obtain ⟨k, x, rfl⟩ := h l (by simp)
      have ih := fun n => ih n h'
      cases k with
      | sl e k =>
        simp only [thawL]
        rw [show n + d + 1 = n + 1 + d by omega, ih (n + 1)]
        rfl
      | _ => simp only [thawL, ih, List.map_cons, shL, Bool.true_or]
  intro k x n _
  refine key _ n ?_
  have sp : ∀ (k : K) (x : k.T), ∀ l ∈ splitK true k x, ∃ k x, l = Leaf.val true k x := by
    intro k
    induction k with
    | prod a b iha ihb =>
      intro x l hl
      rcases List.mem_append.1 hl with h | h
      · exact iha _ _ h
      · exact ihb _ _ h
    | unit => intro x l hl; simp [splitK] at hl
    | _ => intro x l hl; simp [splitK] at hl; exact ⟨_, _, hl⟩
  exact sp k x
theorem split_up (fr : Bool) (d : Nat) : ∀ (k : K) (x : k.T), splitK fr k x = (splitK false k x).map (shL fr d) := by
  intro k
  induction k with
  | prod a b iha ihb => intro x; simp only [splitK, List.map_append]; rw [iha, ihb]
  | _ => intro x; simp [splitK, shL]
theorem mkC_map (f : Leaf → Leaf) (agg : Bool) (ls : List Leaf) : mkC agg (ls.map f) = (mkC agg ls).map fun | .lf l => .lf (f l) | .agg ls => .agg (ls.map f) := by
  cases agg with
  | true => rfl
  | false =>
    match ls with
    | [] => rfl
    | [l] => rfl
    | _ :: _ :: _ => rfl
theorem thaw_shift (own fr : Bool) (d : Nat) : ∀ (rs : List (Bool × K)) (y : argT rs) (n : Nat), thaw own fr (n + d) rs y = (thaw own false n rs y).map fun q => (q.1.map (shC fr d), q.2)
  | [], y, n => rfl
  | p :: r, y, n => by
    have key : (if own then thawL (n + d) (splitK true p.2 y.1) else (splitK fr p.2 y.1, [])) =
        (((if own then thawL n (splitK true p.2 y.1) else (splitK false p.2 y.1, [])).1).map (shL fr d), (if own then thawL n (splitK true p.2 y.1) else (splitK false p.2 y.1, [])).2) := by
      cases own with
      | true => exact thawL_shift fr d _ _ n trivial
      | false =>
        simp only [Bool.false_eq_true, if_false]
        congr 1
        exact split_up fr d _ _
    simp only [thaw]
    rw [key]
    simp only []
    rw [mkC_map, show ∀ q : Nat, n + d + q = n + q + d from fun q => by omega, thaw_shift own fr d r y.2]
    cases mkC p.1 (if own = true then thawL n (splitK true p.2 y.1) else (splitK false p.2 y.1, [])).1 with
    | none => rfl
    | some c =>
      cases thaw own false (n + (if own = true then thawL n (splitK true p.2 y.1) else (splitK false p.2 y.1, [])).2.length) r y.2 with
      | none => rfl
      | some z => cases c <;> rfl
section
variable {R : Type} {P : Program} {T : Tab} {w w' : World} {may : Nat → Prop} {ow ow' : Ow} {m : Mem} {r : R}
theorem LfRel.shift {ok ok' may' : Nat → Prop} {rv : List Value} {bb : List (Option Nat)} {fr : Bool} (Ho : ∀ b, ok b → ok' b) (Hm : ∀ b, may' b → may b) (Hf : fr = true → ∀ b, ok b → may b) : ∀ {l : Leaf} {v : Value}, LfRel w ok may' ow' l v → LfRel w ok' may ⟨rv ++ ow'.rv, bb⟩ (shL fr rv.length l) v
  | .val f k x, v, h => Rd.mono (fun b hb => ⟨Ho b hb.1, fun g => by
      cases f with
      | true => exact Hm b (hb.2 rfl)
      | false => exact Hf (by simpa using g) b hb.1⟩) (h : Rd _ _ _ _ _)
  | .nil, v, h => h
  | .own q, v, h => ⟨by
      show (rv ++ ow'.rv)[q + rv.length]? = some v
      rw [List.getElem?_append_right (by omega), Nat.add_sub_cancel]; exact h.1, h.2⟩
theorem CmpRel.shift {ok ok' may' : Nat → Prop} {rv : List Value} {bb : List (Option Nat)} {fr : Bool} (Ho : ∀ b, ok b → ok' b) (Hm : ∀ b, may' b → may b) (Hf : fr = true → ∀ b, ok b → may b) : ∀ {c : Cmp} {v : Value}, CmpRel w ok may' ow' c v → CmpRel w ok' may ⟨rv ++ ow'.rv, bb⟩ (shC fr rv.length c) v
  | .lf l, v, h => LfRel.shift Ho Hm Hf h
  | .agg ls, v, ⟨vs, e, h⟩ => ⟨vs, e, F2.map_left.2 (h.imp fun _ _ h => LfRel.shift Ho Hm Hf h)⟩
theorem SVRel.shift {ok ok' may' : Nat → Prop} {rv : List Value} {bb : List (Option Nat)} {fr : Bool} {m1 m2 : Mem} (Ho : ∀ b, ok b → ok' b) (Hm : ∀ b, may' b → may b) (Hf : fr = true → ∀ b, ok b → may b) {cs : List Cmp} {v : Value} (h : SVRel w ok may' ow' m1 (ofCs cs) v) :
    SVRel w ok' may ⟨rv ++ ow'.rv, bb⟩ m2 (ofCs (cs.map (shC fr rv.length))) v := by
  match cs with
  | [] => obtain ⟨vs, e, h⟩ := h; exact ⟨vs, e, by obtain rfl := h.nil_left; trivial⟩
  | [c] => exact CmpRel.shift Ho Hm Hf h
  | c :: d :: cs => obtain ⟨vs, e, h⟩ := h; exact ⟨vs, e, F2.map_left.2 (h.imp fun _ _ h => CmpRel.shift Ho Hm Hf h)⟩
/-- Memory that a call has made, taken over. -/
theorem MemRel.join (M : MemRel w may ow m) (hm : ∀ b, w.heap.size ≤ b → may b) (hb : Below w.heap.size w w') {rows : List (Option Row)} (M' : MemRel w' (fun b => w.heap.size ≤ b) ow' ⟨rows, []⟩)
    (hfr : ∀ i row, (⟨rows, []⟩ : Mem).row? i = some row → row.fr = true ∧ row.rw = true) :
    MemRel w' may ⟨ow.rv ++ ow'.rv, ow.bb⟩ ⟨m.rows ++ rows, m.boxes⟩ ∧ Keep may w ow m w' ⟨ow.rv ++ ow'.rv, ow.bb⟩ ⟨m.rows ++ rows, m.boxes⟩ ∧
      ∀ b, (w.heap.size ≤ b ∧ okOf ow' ⟨rows, []⟩ b → okOf ⟨ow.rv ++ ow'.rv, ow.bb⟩ ⟨m.rows ++ rows, m.boxes⟩ b) ∧ (b < w.heap.size ∧ okOf ow m b → okOf ⟨ow.rv ++ ow'.rv, ow.bb⟩ ⟨m.rows ++ rows, m.boxes⟩ b) := by
  have hrow : ∀ i, (⟨m.rows ++ rows, m.boxes⟩ : Mem).row? i = if i < m.rows.length then m.row? i else (⟨rows, []⟩ : Mem).row? (i - m.rows.length) := fun i => row?_app rows i m.boxes
  have hrvl : ∀ (i : Nat) (v : Value), ow.rv[i]? = some v → (ow.rv ++ ow'.rv)[i]? = some v := fun i v h => by
    rw [List.getElem?_append_left (List.getElem?_eq_some_iff.1 h).1]; exact h
  have hrvr : ∀ i, m.rows.length ≤ i → (ow.rv ++ ow'.rv)[i]? = ow'.rv[i - m.rows.length]? := fun i h => by
    rw [List.getElem?_append_right (by rw [M.rlen]; exact h), M.rlen]
  have hsub : ∀ x b, blk ⟨ow.rv ++ ow'.rv, ow.bb⟩ ⟨m.rows ++ rows, m.boxes⟩ x = some b → (blk ow m x = some b ∧ (∀ i, x = .row i → i < m.rows.length)) ∨ ∃ i, m.rows.length ≤ i ∧ x = .row i ∧ blk ow' ⟨rows, []⟩ (.row (i - m.rows.length)) = some b := by
    intro x b h
    cases x with
    | box i => exact .inl ⟨h, fun i h => by cases h⟩
    | row i =>
      by_cases h1 : i < m.rows.length
      · refine .inl ⟨?_, fun j hj => by cases hj; exact h1⟩
        simp only [blk, hrow, h1, if_true] at h ⊢
        cases e : m.row? i with
        | none => rw [e] at h; cases h
        | some row =>
          rw [e] at h
          simp only at h ⊢
          rwa [List.getElem?_append_left (by rw [M.rlen]; exact h1)] at h
      · refine .inr ⟨i, by omega, rfl, ?_⟩
        simp only [blk, hrow, h1, if_false] at h ⊢
        rwa [hrvr i (by omega)] at h
  have hokn : ∀ b, (w.heap.size ≤ b ∧ okOf ow' ⟨rows, []⟩ b → okOf ⟨ow.rv ++ ow'.rv, ow.bb⟩ ⟨m.rows ++ rows, m.boxes⟩ b) ∧ (b < w.heap.size ∧ okOf ow m b → okOf ⟨ow.rv ++ ow'.rv, ow.bb⟩ ⟨m.rows ++ rows, m.boxes⟩ b) := by
    intro b
    refine ⟨fun ⟨h1, h2⟩ x hx => ?_, fun ⟨h1, h2⟩ x hx => ?_⟩
    · rcases hsub x b hx with ⟨h3, _⟩ | ⟨i, _, _, h3⟩
      · have := (M.may_ _ _ h3).2; omega
      · exact h2 _ h3
    · rcases hsub x b hx with ⟨h3, _⟩ | ⟨i, _, _, h3⟩
      · exact h2 _ h3
      · have := (M'.may_ _ _ h3).1
        omega
  have S : Stay w (okOf ow m) w' (okOf ⟨ow.rv ++ ow'.rv, ow.bb⟩ ⟨m.rows ++ rows, m.boxes⟩) := fun b hlt h => ⟨(hokn b).2 ⟨hlt, h⟩, Nat.lt_of_lt_of_le hlt hb.size, hb.block b hlt⟩
  refine ⟨⟨?_, M.blen, fun i row e => ?_, fun i bx e => ?_, fun x y b h k => ?_, fun x b h => ?_, M.free⟩, ⟨S, hrvl, fun _ _ h => h, fun q row q1 e => ?_, by simp, hb.size, fun b hlt _ => hb.block b hlt, hb.os, hb.tape, hb.output⟩, hokn⟩
  · have h1 := M.rlen
    have h2 : ow'.rv.length = rows.length := M'.rlen
    simp [h1, h2]
  · rw [hrow] at e
    by_cases h1 : i < m.rows.length
    · simp only [h1, if_true] at e
      obtain ⟨v, hv, RR⟩ := M.rows i row e
      refine ⟨v, hrvl i v hv, RR.keep S fun hw b hb' => hb.block b ?_⟩
      exact (M.may_ (.row i) b (by rw [blk_row e hv hw]; exact hb')).2
    · simp only [h1, if_false] at e
      obtain ⟨v, hv, RR⟩ := M'.rows _ row e
      refine ⟨v, by rw [hrvr i (by omega)]; exact hv, ?_⟩
      -- what a call's own row leads to lies in blocks that are its own alone, or of nobody
      obtain ⟨h2, h3⟩ := hfr _ _ e
      rcases RR with ⟨hs, RR⟩ | ⟨g, xs, e1, e2, RR⟩
      case inr =>
        rw [h3] at RR
        simp only [if_true] at RR
        exact .inr ⟨g, xs, e1, e2, by rw [h3]; simp only [if_true]; exact RR⟩
      rw [h3] at RR
      simp only [if_true] at RR
      obtain ⟨cs, hown, hrd⟩ := RR
      refine .inl ⟨hs, ?_⟩
      rw [h3]
      simp only [if_true]
      refine ⟨cs, hown, hrd.keep (Stay.mono fun b _ hb' => ?_)⟩
      rw [h2] at hb' ⊢
      exact ⟨(hokn b).1 ⟨hb'.2 rfl, hb'.1⟩, fun _ => hm b (hb'.2 rfl)⟩
  · obtain ⟨g, hg, B⟩ := M.boxes i bx e
    exact ⟨g, hg, B.keep S hrvl (hb.block g (M.may_ _ _ (blk_box e hg)).2)⟩
  · rcases hsub x b h with ⟨h1, h2⟩ | ⟨i, h1, h2, h3⟩ <;> rcases hsub y b k with ⟨k1, k2⟩ | ⟨j, k1, k2, k3⟩
    · exact M.dis x y b h1 k1
    · have := (M.may_ _ _ h1).2; have := (M'.may_ _ _ k3).1; omega
    · have := (M.may_ _ _ k1).2; have := (M'.may_ _ _ h3).1; omega
    · have := M'.dis _ _ b h3 k3
      injection this with this
      rw [h2, k2]; congr 1; omega
  · rcases hsub x b h with ⟨h1, h2⟩ | ⟨i, h1, h2, h3⟩
    · have := M.may_ _ _ h1; exact ⟨this.1, Nat.lt_of_lt_of_le this.2 hb.size⟩
    · have := M'.may_ _ _ h3; exact ⟨hm b this.1, this.2⟩
  · rw [hrow] at e
    simp only [q1, if_true] at e
    exact ⟨row, e, rfl, fun _ => rfl⟩
theorem thawL_fr : ∀ (ls : List Leaf) (n i : Nat) (row : Row), (⟨(thawL n ls).2, []⟩ : Mem).row? i = some row → row.fr = true ∧ row.rw = true
  | [], n, i, row, h => by simp [thawL, Mem.row?] at h
  | l :: r, n, i, row, h => by
    match l with
    | .val fr (.sl e k) xs =>
      simp only [thawL] at h
      cases i with
      | zero => simp [Mem.row?] at h; subst h; exact ⟨rfl, rfl⟩
      | succ i => exact thawL_fr r (n + 1) i row (by simpa [Mem.row?] using h)
    | .val fr (.int q) xs => exact thawL_fr r n i row (by simpa [thawL] using h)
    | .val fr .bool xs => exact thawL_fr r n i row (by simpa [thawL] using h)
    | .val fr .raw xs => exact thawL_fr r n i row (by simpa [thawL] using h)
    | .val fr .hd xs => exact thawL_fr r n i row (by simpa [thawL] using h)
    | .val fr (.fnc g) xs => exact thawL_fr r n i row (by simpa [thawL] using h)
    | .val fr .mp xs => exact thawL_fr r n i row (by simpa [thawL] using h)
    | .val fr (.rp k) xs => exact thawL_fr r n i row (by simpa [thawL] using h)
    | .val fr (.clo g k) xs => exact thawL_fr r n i row (by simpa [thawL] using h)
    | .val fr .str xs => exact thawL_fr r n i row (by simpa [thawL] using h)
    | .val fr .unit xs => exact thawL_fr r n i row (by simpa [thawL] using h)
    | .val fr (.prod a b) xs => exact thawL_fr r n i row (by simpa [thawL] using h)
    | .nil => exact thawL_fr r n i row (by simpa [thawL] using h)
    | .own q => exact thawL_fr r n i row (by simpa [thawL] using h)
theorem thaw_fr {own fr : Bool} : ∀ {rs : List (Bool × K)} {y : argT rs} {n : Nat} {q : List Cmp × List (Option Row)}, thaw own fr n rs y = some q → ∀ (i : Nat) (row : Row), (⟨q.2, []⟩ : Mem).row? i = some row → row.fr = true ∧ row.rw = true
  | [], y, n, q, h, i, row, hr => by simp only [thaw] at h; obtain rfl := Option.some.inj h; simp [Mem.row?] at hr
  | p :: rs, y, n, q, h, i, row, hr => by
    simp only [thaw] at h
    cases h1 : mkC p.1 (if own = true then thawL n (splitK true p.2 y.1) else (splitK fr p.2 y.1, [])).1 with
    | none => simp [h1] at h
    | some c =>
      cases h2 : thaw own fr (n + (if own = true then thawL n (splitK true p.2 y.1) else (splitK fr p.2 y.1, [])).2.length) rs y.2 with
      | none => simp [h1, h2] at h
      | some z =>
        simp only [h1, h2] at h
        obtain rfl := Option.some.inj h
        simp only [Mem.row?] at hr
        by_cases hi : i < (if own = true then thawL n (splitK true p.2 y.1) else (splitK fr p.2 y.1, [])).2.length
        · rw [List.getElem?_append_left hi] at hr
          cases own with
          | true => exact thawL_fr _ n i row (by simpa [Mem.row?] using hr)
          | false => simp at hi
        · rw [List.getElem?_append_right (by omega)] at hr
          exact thaw_fr h2 _ row (by simpa [Mem.row?] using hr)
/-- Arguments that a call may read. -/
theorem packArgs_gen {ok2 may2 Q : Nat → Prop} : ∀ {ps : List (Bool × K)} {cs : List Cmp} {x : argT ps} {vs : List Value}, (∀ l ∈ allLeaves cs, ∀ (k : K) (x : k.T) (v : Value), LfRel w ok2 may2 ow l v → leafData m k l = some x → Rd w Q k x [v]) → F2 (CmpRel w ok2 may2 ow) cs vs → packArgs m ps cs = some x → aggOk ps cs = true → RdArgs w Q ps x vs
  | [], [], x, vs, _, h, e, _ => h.nil_left
  | [], _ :: _, x, vs, _, h, e, _ => by simp [packArgs] at e
  | p :: ps, [], x, vs, _, h, e, _ => by simp [packArgs] at e
  | p :: ps, c :: cs, x, v :: vs, H, h, e, g => by
    have hal : allLeaves (c :: cs) = c.leaves ++ allLeaves cs := by simp [allLeaves]
    simp only [packArgs] at e
    cases h1 : packK m p.2 c.leaves with
    | none => simp [h1] at e
    | some y =>
      cases h2 : packArgs m ps cs with
      | none => simp [h1, h2] at e
      | some z =>
        simp only [h1, h2] at e
        obtain rfl := Option.some.inj e
        have r1 := packK_gen (fun l hl => H l (by rw [hal]; exact List.mem_append_left _ hl)) h.1.cells h1
        cases c with
        | lf l =>
          simp only [aggOk, Bool.and_eq_true, Bool.not_eq_true'] at g
          refine ⟨v, vs, rfl, ?_, packArgs_gen (fun l hl => H l (by rw [hal]; exact List.mem_append_right _ hl)) h.2 h2 g.2⟩
          unfold RdV
          rw [if_neg (by simp [g.1])]
          have h3 : LfRel w ok2 may2 ow l v := h.1
          rw [oneCell_cells h3.one] at r1
          exact r1
        | agg ls =>
          simp only [aggOk, Bool.and_eq_true] at g
          refine ⟨v, vs, rfl, ?_, packArgs_gen (fun l hl => H l (by rw [hal]; exact List.mem_append_right _ hl)) h.2 h2 g.2⟩
          unfold RdV
          rw [if_pos g.1]
          obtain ⟨us, rfl, h3⟩ := h.1
          exact ⟨us, rfl, by simpa [Value.cells] using r1⟩
  | p :: ps, c :: cs, x, [], _, h, e, g => h.elim
theorem packArgs_any (M : MemRel w may ow m) {ok2 may2 : Nat → Prop} {ps : List (Bool × K)} {cs : List Cmp} {x : argT ps} {vs : List Value} (h : F2 (CmpRel w ok2 may2 ow) cs vs) (e : packArgs m ps cs = some x) (g : aggOk ps cs = true) : RdArgs w (fun _ => True) ps x vs :=
  packArgs_gen (fun l _ k x v h e => leafData_any M h e) h e g
/-- The same, of what may stay: nobody writes it any more. -/
theorem packArgs_rel (M : MemRel w may ow m) : ∀ {ps : List (Bool × K)} {cs : List Cmp} {x : argT ps} {vs : List Value}, (∀ l ∈ allLeaves cs, Froz m l) → F2 (CmpRel w (okOf ow m) may ow) cs vs → packArgs m ps cs = some x → aggOk ps cs = true → ∀ fr : Bool, (fr = true → (allLeaves cs).all (leafFr m) = true) → RdArgs w (okf (okOf ow m) may fr) ps x vs
  | [], [], x, vs, _, h, e, _, _, _ => h.nil_left
  | [], _ :: _, x, vs, _, h, e, _, _, _ => by simp [packArgs] at e
  | p :: ps, [], x, vs, _, h, e, _, _, _ => by simp [packArgs] at e
  | p :: ps, c :: cs, x, v :: vs, hf, h, e, g, fr, hfr => by
    have hal : allLeaves (c :: cs) = c.leaves ++ allLeaves cs := by simp [allLeaves]
    simp only [packArgs] at e
    cases h1 : packK m p.2 c.leaves with
    | none => simp [h1] at e
    | some y =>
      cases h2 : packArgs m ps cs with
      | none => simp [h1, h2] at e
      | some z =>
        simp only [h1, h2] at e
        obtain rfl := Option.some.inj e
        have r1 := Rd.up (g := fr) (packK_rel M (fun l hl => hf l (by rw [hal]; exact List.mem_append_left _ hl)) h.1.cells h1) (fun e => by have := hfr e; rw [hal, List.all_append, Bool.and_eq_true] at this; exact this.1)
        have r2 := fun g => packArgs_rel M (fun l hl => hf l (by rw [hal]; exact List.mem_append_right _ hl)) h.2 h2 g fr (fun e => by have := hfr e; rw [hal, List.all_append, Bool.and_eq_true] at this; exact this.2)
        cases c with
        | lf l =>
          simp only [aggOk, Bool.and_eq_true, Bool.not_eq_true'] at g
          refine ⟨v, vs, rfl, ?_, r2 g.2⟩
          unfold RdV
          rw [if_neg (by simp [g.1])]
          have h3 : LfRel w (okOf ow m) may ow l v := h.1
          rw [oneCell_cells h3.one] at r1
          exact r1
        | agg ls =>
          simp only [aggOk, Bool.and_eq_true] at g
          refine ⟨v, vs, rfl, ?_, r2 g.2⟩
          unfold RdV
          rw [if_pos g.1]
          obtain ⟨us, rfl, h3⟩ := h.1
          exact ⟨us, rfl, by simpa [Value.cells] using r1⟩
  | p :: ps, c :: cs, x, [], _, h, e, g, _, _ => h.elim
end
end Go.Fx
