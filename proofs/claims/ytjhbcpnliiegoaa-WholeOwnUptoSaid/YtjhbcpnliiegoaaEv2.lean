/- The state of the second reading against the machine's memory: rows and variables that the call owns, each in a block of its own; what else is read lies in other blocks. -/
import Derived.Test.YtjhbcpnliiegoaaEv1
namespace Go.Fx
open Go Go.RowKit
set_option linter.unusedVariables false
def F2 {α β : Type} (R : α → β → Prop) : List α → List β → Prop
  | [], [] => True
  | a :: x, b :: y => R a b ∧ F2 R x y
  | _, _ => False
section
variable {α β : Type} {R R' : α → β → Prop}
theorem F2.len : ∀ {x : List α} {y : List β}, F2 R x y → x.length = y.length
  | [], [], _ => rfl
  | _ :: _, _ :: _, h => by simp [F2.len h.2]
theorem F2.imp (H : ∀ a b, R a b → R' a b) : ∀ {x : List α} {y : List β}, F2 R x y → F2 R' x y
  | [], [], _ => trivial
  | _ :: _, _ :: _, h => ⟨H _ _ h.1, F2.imp H h.2⟩
theorem F2.imp_mem : ∀ {x : List α} {y : List β}, (∀ a b, a ∈ x → R a b → R' a b) → F2 R x y → F2 R' x y
  | [], [], _, _ => trivial
  | a :: x, b :: y, H, h => ⟨H _ _ (by simp) h.1, F2.imp_mem (fun a b m => H a b (by simp [m])) h.2⟩
theorem F2.append : ∀ {x x' : List α} {y y' : List β}, F2 R x y → F2 R x' y' → F2 R (x ++ x') (y ++ y')
  | [], _, [], _, _, h' => h'
  | _ :: _, _, _ :: _, _, h, h' => ⟨h.1, F2.append h.2 h'⟩
theorem F2.take : ∀ {x : List α} {y : List β} (n : Nat), F2 R x y → F2 R (x.take n) (y.take n)
  | [], [], n, _ => by simp [F2]
  | _ :: _, _ :: _, 0, _ => trivial
  | _ :: _, _ :: _, n + 1, h => ⟨h.1, F2.take n h.2⟩
theorem F2.drop : ∀ {x : List α} {y : List β} (n : Nat), F2 R x y → F2 R (x.drop n) (y.drop n)
  | [], [], n, _ => by simp [F2]
  | _ :: _, _ :: _, 0, h => h
  | _ :: _, _ :: _, n + 1, h => F2.drop n h.2
theorem F2.get : ∀ {x : List α} {y : List β}, F2 R x y → ∀ {i : Nat} {a : α}, x[i]? = some a → ∃ b, y[i]? = some b ∧ R a b
  | [], [], _, i, a, h => by simp at h
  | a :: x, b :: y, h, 0, a', h' => by simp at h'; subst h'; exact ⟨b, rfl, h.1⟩
  | a :: x, b :: y, h, i + 1, a', h' => by simp at h'; simpa using F2.get h.2 h'
theorem F2.split : ∀ {x x' : List α} {z : List β}, F2 R (x ++ x') z → ∃ y y', z = y ++ y' ∧ F2 R x y ∧ F2 R x' y'
  | [], _, z, h => ⟨[], z, rfl, trivial, h⟩
  | a :: x, x', b :: z, h => by
    obtain ⟨y, y', rfl, h1, h2⟩ := F2.split h.2
    exact ⟨b :: y, y', rfl, ⟨h.1, h1⟩, h2⟩
theorem F2.nil_left {z : List β} (h : F2 R [] z) : z = [] := by cases z with | nil => rfl | cons => exact h.elim
theorem F2.map_left {γ : Type} {f : γ → α} : ∀ {x : List γ} {y : List β}, F2 R (x.map f) y ↔ F2 (fun a b => R (f a) b) x y
  | [], [] => Iff.rfl
  | [], _ :: _ => Iff.rfl
  | _ :: _, [] => Iff.rfl
  | _ :: _, _ :: _ => and_congr Iff.rfl F2.map_left
end
/-- Where the rows and the variables lie. -/
structure Ow where
  rv : List Value
  bb : List (Option Nat)
def okf (ok may : Nat → Prop) (fr : Bool) : Nat → Prop := fun b => ok b ∧ (fr = true → may b)
theorem okf.mono {ok ok' may : Nat → Prop} {fr : Bool} (H : ∀ b, ok b → ok' b) : ∀ b, okf ok may fr b → okf ok' may fr b := fun b h => ⟨H b h.1, h.2⟩
/-- The block of a row's slice, or of its map. -/
def oblk : Value → Option Nat
  | .slice (some a) _ _ => some a.block
  | .map (some g) => some g
  | _ => none
theorem oblk_slice {A : Option Addr} {n c : Nat} : oblk (Value.slice A n c) = (Value.slice A n c).ownBlock := by cases A <;> rfl
theorem oblk_own {v : Value} (h : ∃ A n c, v = .slice A n c) : oblk v = v.ownBlock := by obtain ⟨A, n, c, rfl⟩ := h; exact oblk_slice
inductive Th where
  | row (i : Nat) | box (i : Nat)
/-- The block of a thing that may be written. -/
def blk (o : Ow) (m : Mem) : Th → Option Nat
  | .row i => match m.row? i with
    | some row => if row.rw = true then (o.rv[i]?).bind oblk else none
    | none => none
  | .box i => match m.box? i with
    | some _ => (o.bb[i]?).bind id
    | none => none
def okOf (o : Ow) (m : Mem) : Nat → Prop := fun b => ∀ x, blk o m x ≠ some b
section
variable (w : World) (ok may : Nat → Prop) (o : Ow)
def LfRel : Leaf → Value → Prop
  | .val fr k x, v => Rd w (okf ok may fr) k x [v]
  | .nil, v => v = .slice none 0 0
  | .own r, v => o.rv[r]? = some v ∧ ∃ A n c, v = .slice A n c
def CmpRel : Cmp → Value → Prop
  | .lf l, v => LfRel w ok may o l v
  | .agg ls, v => ∃ vs : List Value, v = .agg vs.toArray ∧ F2 (LfRel w ok may o) ls vs
def HdRel : Hd → Value → Prop
  | .nilp, v => v = .pointer none
  | .box b, v => ∃ g, o.bb[b]? = some (some g) ∧ v = .pointer (some ⟨g, 0, none⟩)
def SVRel (m : Mem) : SV → Value → Prop
  | .undef, _ => True
  | .one c, v => CmpRel w ok may o c v
  | .tup cs, v => ∃ vs : List Value, v = .tuple vs.toArray ∧ F2 (CmpRel w ok may o) cs vs
  | .ref ls, v => ∃ (ad : Addr) (vs : List Value), v = .pointer (some ad) ∧ F2 (LfRel w ok may o) ls vs ∧ ∀ (j : Nat) (u : Value), vs[j]? = some u → ok ad.block ∧ w.cell? (ad.add j) = some u
  | .adr r i q, v => r < m.rows.length ∧ ∀ row, m.row? r = some row → i < row.xs.length ∧ ∃ g n c, o.rv[r]? = some (.slice (some ⟨g, 0, none⟩) n c) ∧ v = .pointer (some ((⟨g, 0, none⟩ : Addr).add (i * row.k.n + q)))
  | .box b q, v => ∃ g, o.bb[b]? = some (some g) ∧ v = .pointer (some ((⟨g, 0, none⟩ : Addr).add q))
  | .sub r q n g, v => r < m.rows.length ∧ (∃ A L C, o.rv[r]? = some (.slice A L C)) ∧ ∀ row, m.row? r = some row → q + n ≤ row.xs.length ∧ (∃ A c, v = .slice A n c ∧ n ≤ c) ∧
      (0 < n → ∃ γ L C c, o.rv[r]? = some (.slice (some ⟨γ, 0, none⟩) L C) ∧ v = .slice (some ((⟨γ, 0, none⟩ : Addr).add (q * row.k.n))) n c ∧ ∀ δ, g = some δ → γ = δ.1 ∧ C = δ.2)
  | .pbox b q g, v => o.bb[b]? = some (some g) ∧ v = .pointer (some ((⟨g, 0, none⟩ : Addr).add q))
  | .hd h, v => HdRel o h v
  | .tupp h cs, v => ∃ (u : Value) (vs : List Value), v = .tuple (u :: vs).toArray ∧ HdRel o h u ∧ F2 (CmpRel w ok may o) cs vs
  | .mpo r, v => o.rv[r]? = some v ∧ ∃ g, v = .map (some g)
  | .fb g b, v => ∃ d, o.bb[b]? = some (some d) ∧ v = .func (.func g) #[] #[.pointer (some ⟨d, 0, none⟩)]
  | .hsl e vs i r, v => Rd w (okf ok may true) (.sl e .hd) vs [v] ∧ 0 ≤ i ∧ ∃ u, vs[i.toNat]? = some u ∧ o.rv[r]? = some u
/-- A row that is a slice. -/
def SlRel (row : Row) (v : Value) : Prop :=
  (∃ A n c, v = .slice A n c) ∧
  if row.rw = true then ∃ cs, w.ownsRow 0 row.e row.k.n v row.xs.length cs ∧ RdEach w (okf ok may row.fr) row.k row.xs cs
  else Rd w (okf ok may row.fr) (.sl row.e row.k) row.xs [v]
/-- A row that is a map. -/
def MpRel (row : Row) (v : Value) : Prop :=
  ∃ g xs, v = .map (some g) ∧ row.mp? = some xs ∧
  if row.rw = true then ∃ es clk, w.heap[g]? = some (.map es clk) ∧ MapEs es.toList xs
  else RdMp w (okf ok may row.fr) xs v
def RowRel (row : Row) (v : Value) : Prop := SlRel w ok may row v ∨ MpRel w ok may row v
def BoxRel (bx : Box) (g : Nat) : Prop := ∃ vs : List Value, w.heap[g]? = some (.cells vs.toArray bx.t (0, 0)) ∧ F2 (LfRel w ok may o) bx.ls vs
end
structure MemRel (w : World) (may : Nat → Prop) (o : Ow) (m : Mem) : Prop where
  rlen : o.rv.length = m.rows.length
  blen : o.bb.length = m.boxes.length
  rows : ∀ i row, m.row? i = some row → ∃ v, o.rv[i]? = some v ∧ RowRel w (okOf o m) may row v
  boxes : ∀ i bx, m.box? i = some bx → ∃ g, o.bb[i]? = some (some g) ∧ BoxRel w (okOf o m) may o bx g
  dis : ∀ x y b, blk o m x = some b → blk o m y = some b → x = y
  may_ : ∀ x b, blk o m x = some b → may b ∧ b < w.heap.size
  free : ∀ i, i < m.boxes.length → m.box? i = none → o.bb[i]? = some none
/-- A row whose value is a slice. -/
theorem MemRel.sl {w : World} {may : Nat → Prop} {o : Ow} {m : Mem} (M : MemRel w may o m) (i : Nat) (row : Row) (h : m.row? i = some row) {v0 : Value} (hv0 : o.rv[i]? = some v0) (hs : ∃ A n c, v0 = .slice A n c) : ∃ v, o.rv[i]? = some v ∧ SlRel w (okOf o m) may row v := by
  obtain ⟨v, hv, R⟩ := M.rows i row h
  obtain rfl := Option.some.inj (hv0.symm.trans hv)
  rcases R with R | ⟨g, xs, e, _⟩
  · exact ⟨_, hv, R⟩
  · obtain ⟨A, n, c, rfl⟩ := hs; cases e
/-- A row whose value is a map. -/
theorem MemRel.mp {w : World} {may : Nat → Prop} {o : Ow} {m : Mem} (M : MemRel w may o m) (i : Nat) (row : Row) (h : m.row? i = some row) {v0 : Value} (hv0 : o.rv[i]? = some v0) (hs : ∃ g, v0 = .map (some g)) : MpRel w (okOf o m) may row v0 := by
  obtain ⟨v, hv, R⟩ := M.rows i row h
  obtain rfl := Option.some.inj (hv0.symm.trans hv)
  rcases R with ⟨⟨A, n, c, e⟩, _⟩ | R
  · obtain ⟨g, rfl⟩ := hs; cases e
  · exact R
/-- From one state to a later one. -/
structure Keep (may : Nat → Prop) (w : World) (o : Ow) (m : Mem) (w' : World) (o' : Ow) (m' : Mem) : Prop where
  stay : Stay w (okOf o m) w' (okOf o' m')
  rv : ∀ (i : Nat) (v : Value), o.rv[i]? = some v → o'.rv[i]? = some v
  bb : ∀ (i : Nat) (v : Nat), o.bb[i]? = some (some v) → o'.bb[i]? = some (some v)
  rows : ∀ r row', r < m.rows.length → m'.row? r = some row' → ∃ row, m.row? r = some row ∧ row'.k = row.k ∧ ((∃ A n c, o.rv[r]? = some (.slice A n c)) → row'.xs.length = row.xs.length)
  nrows : m.rows.length ≤ m'.rows.length
  size : w.heap.size ≤ w'.heap.size
  frame : ∀ b, b < w.heap.size → ¬ may b → w'.heap[b]? = w.heap[b]?
  os : w'.os = w.os
  tape : w'.tape = w.tape
  output : w'.output = w.output
theorem Keep.refl (may : Nat → Prop) (w : World) (o : Ow) (m : Mem) : Keep may w o m w o m :=
  ⟨Stay.refl _ _, fun _ _ h => h, fun _ _ h => h, fun r row' _ h => ⟨row', h, rfl, fun _ => rfl⟩, Nat.le_refl _, Nat.le_refl _, fun _ _ _ => rfl, rfl, rfl, rfl⟩
theorem Keep.trans {may : Nat → Prop} {w w1 w2 : World} {o o1 o2 : Ow} {m m1 m2 : Mem} (h : Keep may w o m w1 o1 m1) (k : Keep may w1 o1 m1 w2 o2 m2) : Keep may w o m w2 o2 m2 := by
  refine ⟨h.stay.trans k.stay, fun i v e => k.rv i v (h.rv i v e), fun i v e => k.bb i v (h.bb i v e), fun r row' hr e => ?_, Nat.le_trans h.nrows k.nrows, Nat.le_trans h.size k.size,
    fun b hb hm => (k.frame b (Nat.lt_of_lt_of_le hb h.size) hm).trans (h.frame b hb hm), k.os.trans h.os, k.tape.trans h.tape, k.output.trans h.output⟩
  obtain ⟨row1, e1, a1, b1⟩ := k.rows r row' (Nat.lt_of_lt_of_le hr h.nrows) e
  obtain ⟨row, e2, a2, b2⟩ := h.rows r row1 hr e1
  exact ⟨row, e2, a1.trans a2, fun ⟨A, n, c, hs⟩ => (b1 ⟨A, n, c, h.rv _ _ hs⟩).trans (b2 ⟨A, n, c, hs⟩)⟩
theorem Stay.okf {w w' : World} {ok ok' may : Nat → Prop} {fr : Bool} (H : Stay w ok w' ok') : Stay w (Fx.okf ok may fr) w' (Fx.okf ok' may fr) := fun b hb h =>
  let ⟨a, b', c⟩ := H b hb h.1
  ⟨⟨a, h.2⟩, b', c⟩
section
variable {w w' : World} {ok ok' may : Nat → Prop} {o o' : Ow}
theorem LfRel.keep (H : Stay w ok w' ok') (R : ∀ (i : Nat) (v : Value), o.rv[i]? = some v → o'.rv[i]? = some v) : ∀ {l : Leaf} {v : Value}, LfRel w ok may o l v → LfRel w' ok' may o' l v
  | .val _ _ _, _, h => Rd.keep H.okf h
  | .nil, _, h => h
  | .own r, v, h => ⟨R r v h.1, h.2⟩
theorem CmpRel.keep (H : Stay w ok w' ok') (R : ∀ (i : Nat) (v : Value), o.rv[i]? = some v → o'.rv[i]? = some v) : ∀ {c : Cmp} {v : Value}, CmpRel w ok may o c v → CmpRel w' ok' may o' c v
  | .lf _, _, h => LfRel.keep H R h
  | .agg _, _, ⟨vs, e, h⟩ => ⟨vs, e, h.imp fun _ _ h => LfRel.keep H R h⟩
theorem LfRel.one : ∀ {l : Leaf} {v : Value}, LfRel w ok may o l v → v.oneCell' = true
  | .val _ _ _, _, h => Rd.one h _ (by simp)
  | .nil, _, h => by obtain rfl := h; rfl
  | .own _, _, ⟨_, _, _, _, rfl⟩ => rfl
theorem oneCell_cells {v : Value} (h : v.oneCell' = true) : v.cells = #[v] := by cases v <;> simp_all [Value.oneCell', Value.cells]
/-- A value's cells. -/
theorem CmpRel.cells : ∀ {c : Cmp} {v : Value}, CmpRel w ok may o c v → F2 (LfRel w ok may o) c.leaves v.cells.toList
  | .lf _, _, h => by rw [oneCell_cells (LfRel.one h)]; exact ⟨h, trivial⟩
  | .agg _, _, ⟨vs, e, h⟩ => by subst e; simpa [Value.cells, Cmp.leaves] using h
end
theorem F2.ones {w : World} {ok may : Nat → Prop} {o : Ow} : ∀ {ls : List Leaf} {vs : List Value}, F2 (LfRel w ok may o) ls vs → ∀ u ∈ vs, u.oneCell' = true
  | [], [], _, u, h => by simp at h
  | _ :: _, _ :: _, h, u, hu => by
    rcases List.mem_cons.1 hu with rfl | hu
    · exact h.1.one
    · exact F2.ones h.2 u hu
theorem HdRel.keep {o o' : Ow} (B : ∀ (i : Nat) (v : Nat), o.bb[i]? = some (some v) → o'.bb[i]? = some (some v)) : ∀ {h : Hd} {v : Value}, HdRel o h v → HdRel o' h v
  | .nilp, _, h => h
  | .box _, _, ⟨g, e, h⟩ => ⟨g, B _ _ e, h⟩
/-- A slot's content stands. -/
theorem SVRel.keep {may : Nat → Prop} {w w' : World} {o o' : Ow} {m m' : Mem} (K : Keep may w o m w' o' m') :
    ∀ {sv : SV} {v : Value}, SVRel w (okOf o m) may o m sv v → SVRel w' (okOf o' m') may o' m' sv v
  | .undef, _, _ => trivial
  | .one _, _, h => CmpRel.keep K.stay K.rv h
  | .tup _, _, ⟨vs, e, h⟩ => ⟨vs, e, h.imp fun _ _ h => CmpRel.keep K.stay K.rv h⟩
  | .ref _, _, ⟨ad, vs, e, h, hc⟩ => by
    refine ⟨ad, vs, e, h.imp fun _ _ h => LfRel.keep K.stay K.rv h, fun j u hu => ?_⟩
    obtain ⟨ho, hcell⟩ := hc j u hu
    have hl := lt_of_cell hcell
    rw [Addr.add_block] at hl
    exact ⟨(K.stay _ hl ho).1, K.stay.cell (by rw [Addr.add_block]; exact ho) hcell⟩
  | .adr r i q, v, ⟨hr, h⟩ => ⟨Nat.lt_of_lt_of_le hr K.nrows, fun row' e => by
    obtain ⟨row, e1, e2, e3⟩ := K.rows r row' hr e
    obtain ⟨hi, g, n, c, e4, e5⟩ := h row e1
    have e3 := e3 ⟨_, _, _, e4⟩
    exact ⟨by omega, g, n, c, K.rv _ _ e4, by rw [e5, e2]⟩⟩
  | .box b q, v, ⟨g, e, h⟩ => ⟨g, K.bb _ _ e, h⟩
  | .sub r q n g, v, ⟨hr, hsl, h⟩ => ⟨Nat.lt_of_lt_of_le hr K.nrows, hsl.imp fun _ h => h.imp fun _ h => h.imp fun _ h => K.rv _ _ h, fun row' e => by
    obtain ⟨row, e1, e2, e3⟩ := K.rows r row' hr e
    have e3 := e3 hsl
    obtain ⟨hi, hv, hp⟩ := h row e1
    refine ⟨by omega, hv, fun hn => ?_⟩
    obtain ⟨γ, L, C, c, e4, e5, e6⟩ := hp hn
    exact ⟨γ, L, C, c, K.rv _ _ e4, by rw [e5, e2], e6⟩⟩
  | .pbox b q g, v, ⟨e, h⟩ => ⟨K.bb _ _ e, h⟩
  | .hd _, v, h => HdRel.keep K.bb h
  | .mpo _, v, h => ⟨K.rv _ _ h.1, h.2⟩
  | .fb _ b, v, ⟨d, e, h⟩ => ⟨d, K.bb _ _ e, h⟩
  | .hsl _ _ _ _, v, ⟨h, h0, u, h1, h2⟩ => ⟨Rd.keep K.stay.okf h, h0, u, h1, K.rv _ _ h2⟩
  | .tupp _ _, v, ⟨u, vs, e, h1, h2⟩ => ⟨u, vs, e, HdRel.keep K.bb h1, h2.imp fun _ _ h => CmpRel.keep K.stay K.rv h⟩
end Go.Fx
