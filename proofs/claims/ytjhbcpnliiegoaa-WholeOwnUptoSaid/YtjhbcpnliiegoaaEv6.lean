/- Loads, stores, fields, what is made new. -/
import Derived.Test.YtjhbcpnliiegoaaEv5
namespace Go.Fx
open Go Go.RowKit
set_option linter.unusedVariables false
set_option linter.unusedSimpArgs false
theorem cut5 {α : Type} (cur : List α) (I o q n L : Nat) (h1 : I + n ≤ L) (h2 : L ≤ cur.length) (h3 : o + q ≤ n) :
    ∃ a x y z b t, cur = a ++ (x ++ (y ++ (z ++ (b ++ t)))) ∧ a.length = I ∧ x.length = o ∧ y.length = q ∧ o + q + z.length = n ∧ I + n + b.length = L := by
  refine ⟨cur.take I, (cur.drop I).take o, (cur.drop (I + o)).take q, (cur.drop (I + o + q)).take (n - o - q), (cur.drop (I + n)).take (L - I - n), cur.drop L, ?_, ?_, ?_, ?_, ?_, ?_⟩
  · have e1 : cur.drop L = (cur.drop (I + n)).drop (L - I - n) := by rw [List.drop_drop]; congr 1; omega
    have e2 : cur.drop (I + n) = (cur.drop (I + o + q)).drop (n - o - q) := by rw [List.drop_drop]; congr 1; omega
    rw [e1, List.take_append_drop]
    rw [e2, List.take_append_drop]
    rw [← List.drop_drop (l := cur) (i := q) (j := I + o), List.take_append_drop, ← List.drop_drop (l := cur) (i := o) (j := I), List.take_append_drop, List.take_append_drop]
  all_goals simp only [List.length_take, List.length_drop]; omega
theorem splice_take {α : Type} (cur nv : List α) (I n o L : Nat) (h1 : I + n ≤ L) (h2 : L ≤ cur.length) (h3 : o + nv.length ≤ n) :
    (cur.take (I + o) ++ nv ++ cur.drop (I + o + nv.length)).take L =
      (cur.take L).take I ++ (((cur.drop I).take n).take o ++ nv ++ ((cur.drop I).take n).drop (o + nv.length)) ++ (cur.take L).drop (I + n) := by
  obtain ⟨a, x, y, z, b, t, rfl, rfl, rfl, hy, hz, hb⟩ := cut5 cur I o nv.length n L h1 h2 h3
  have hL : L = a.length + (x.length + (y.length + (z.length + b.length))) := by omega
  have hn : n = x.length + (y.length + z.length) := by omega
  subst hL hn
  rw [← hy]
  have e1 : (a ++ (x ++ (y ++ (z ++ (b ++ t))))).take (a.length + x.length) = a ++ x := by
    rw [← List.append_assoc, ← List.length_append]; exact List.take_left
  have e2 : (a ++ (x ++ (y ++ (z ++ (b ++ t))))).drop (a.length + x.length + y.length) = z ++ (b ++ t) := by
    rw [← List.append_assoc, ← List.append_assoc, ← List.length_append, ← List.length_append]; exact List.drop_left
  have e3 : (a ++ (x ++ (y ++ (z ++ (b ++ t))))).take (a.length + (x.length + (y.length + (z.length + b.length)))) = a ++ (x ++ (y ++ (z ++ b))) := by
    have : a ++ (x ++ (y ++ (z ++ (b ++ t)))) = (a ++ (x ++ (y ++ (z ++ b)))) ++ t := by simp
    rw [this]
    have hl : (a ++ (x ++ (y ++ (z ++ b)))).length = a.length + (x.length + (y.length + (z.length + b.length))) := by simp
    rw [← hl]; exact List.take_left
  have e4 : ((a ++ (x ++ (y ++ (z ++ (b ++ t))))).drop a.length).take (x.length + (y.length + z.length)) = x ++ (y ++ z) := by
    rw [List.drop_left]
    have : x ++ (y ++ (z ++ (b ++ t))) = (x ++ (y ++ z)) ++ (b ++ t) := by simp
    rw [this]
    have hl : (x ++ (y ++ z)).length = x.length + (y.length + z.length) := by simp
    rw [← hl]; exact List.take_left
  have e5 : (x ++ (y ++ z)).drop (x.length + y.length) = z := by
    rw [← List.append_assoc, ← List.length_append]; exact List.drop_left
  have e6 : (a ++ (x ++ (y ++ (z ++ b)))).drop (a.length + (x.length + (y.length + z.length))) = b := by
    have : a ++ (x ++ (y ++ (z ++ b))) = (a ++ (x ++ (y ++ z))) ++ b := by simp
    rw [this]
    have hl : (a ++ (x ++ (y ++ z))).length = a.length + (x.length + (y.length + z.length)) := by simp
    rw [← hl]; exact List.drop_left
  have e7 : (a ++ x ++ nv ++ (z ++ (b ++ t))).take (a.length + (x.length + (y.length + (z.length + b.length)))) = a ++ x ++ nv ++ (z ++ b) := by
    have : a ++ x ++ nv ++ (z ++ (b ++ t)) = (a ++ x ++ nv ++ (z ++ b)) ++ t := by simp
    rw [this]
    have hl : (a ++ x ++ nv ++ (z ++ b)).length = a.length + (x.length + (y.length + (z.length + b.length))) := by simp; omega
    rw [← hl]; exact List.take_left
  rw [e1, e2, e3, e4, List.take_left, List.take_left, e5, e6, e7]
  simp
section
variable {R : Type} {P : Program} {T : Tab} {w : World} {may : Nat → Prop} {ow : Ow} {m : Mem} {r : R}
theorem tyN_some {t : TypeId} {p : Bool × Nat} (h : tyN T t = some p) : ∃ ti, T t = some ti ∧ p = (ti.agg, ti.k.n) := by
  unfold tyN at h
  obtain ⟨ti, h1, h2⟩ := Option.map_eq_some_iff.1 h
  exact ⟨ti, h1, h2.symm⟩
theorem mkC_rel {ok : Nat → Prop} {agg : Bool} {ls : List Leaf} {vs : List Value} {v : Cmp} (h : F2 (LfRel w ok may ow) ls vs) (e : mkC agg ls = some v) :
    (agg = true ∧ CmpRel w ok may ow v (.agg vs.toArray)) ∨ (agg = false ∧ ∃ u, vs = [u] ∧ CmpRel w ok may ow v u) := by
  unfold mkC at e
  split at e
  · obtain rfl := Option.some.inj e
    exact .inl ⟨rfl, vs, rfl, h⟩
  · obtain rfl := Option.some.inj e
    match vs, h with
    | [u], h => exact .inr ⟨rfl, u, rfl, h.1⟩
    | _ :: _ :: _, h => exact h.2.elim
  · cases e
/-- A variable of a type, loaded. -/
theorem loadVar_ok {ok : Nat → Prop} (TK : TabOk P T) {t : TypeId} {ti : TI} (hT : T t = some ti) {ad : Addr} {ls : List Leaf} {vs : List Value} {v : Cmp} (h : F2 (LfRel w ok may ow) ls vs) (hl : ls.length = ti.k.n)
    (hc : ∀ j u, vs[j]? = some u → w.cell? (ad.add j) = some u) (e : mkC ti.agg ls = some v) : ∃ u, (loadVar t ad).run P w = .ok u w ∧ CmpRel w ok may ow v u := by
  have hlen := h.len
  rcases mkC_rel h e with ⟨ha, hr⟩ | ⟨ha, u, rfl, hr⟩
  · refine ⟨_, ?_, hr⟩
    have hl2 := run_loadCells_list (P := P) w ad vs hc
    rw [← hlen, hl] at hl2
    simp [loadVar, (TK _ _ hT).isAgg, (TK _ _ hT).size, ha, hl2]
  · refine ⟨u, ?_, hr⟩
    have hcell : w.cell? ad = some u := by simpa [Addr.add] using hc 0 u rfl
    simp [loadVar, (TK _ _ hT).isAgg, ha, hcell]
/-- An own row's element: its cells. -/
theorem row_elem (M : MemRel w may ow m) {q : Nat} {row : Row} (hr : m.row? q = some row) {i : Nat} (hi : i < row.xs.length) {g n c : Nat} (hv : ow.rv[q]? = some (.slice (some ⟨g, 0, none⟩) n c)) :
    ∃ es, F2 (LfRel w (okOf ow m) may ow) (splitK row.fr row.k (row.xs.getD i row.k.d)) es ∧ ∀ j u, es[j]? = some u → w.cell? ⟨g, i * row.k.n + j, none⟩ = some u := by
  obtain ⟨v, hv', RR⟩ := M.sl q row hr hv ⟨_, _, _, rfl⟩
  obtain rfl := Option.some.inj (hv'.symm.trans hv)
  have hget := getD_some row.xs row.k.d hi
  obtain ⟨_, R2⟩ := RR
  cases hw : row.rw with
  | true =>
    rw [hw] at R2
    simp only [if_true] at R2
    obtain ⟨cs, hown, hrd⟩ := R2
    obtain ⟨es, he, hc, _⟩ := hrd.at_ hget
    refine ⟨es, split_rel he, fun j u hu => ?_⟩
    have := World.ownsRow.cells hown (g := g) rfl _ _ (hc j u hu)
    rwa [Addr.add_zero_off] at this
  | false =>
    rw [hw] at R2
    simp only [Bool.false_eq_true, if_false] at R2
    obtain ⟨A, cp, hu', hc, hel⟩ := R2
    obtain ⟨ad, es, rfl, hl, ho, hrr, hcell⟩ := hel i _ hget
    have e : (⟨g, 0, none⟩ : Addr) = ad := by
      injection hu' with hu'
      injection hu' with hu'
      injection hu'
    subst e
    refine ⟨es, split_rel hrr, fun j u hu => ?_⟩
    have := hcell j u hu
    rwa [Addr.add_zero_off] at this
theorem loadE_ok (TK : TabOk P T) (M : MemRel w may ow m) {t : TypeId} {x : SV} {u : Value} {c : SV → Mem → Option R} (hx : SVRel w (okOf ow m) may ow m x u) (h : loadE T m t x (fun v => c v m) = some r) :
    OpOk P may w ow m (do pure (.value (← Instr.loadAt t u))) c r := by
  unfold loadE at h
  cases ht : tyN T t with
  | none => simp [ht] at h
  | some p =>
    obtain ⟨ti, hT, rfl⟩ := tyN_some ht
    simp only [ht] at h
    have fin : ∀ (ad : Addr) (ls : List Leaf) (vs : List Value), u = .pointer (some ad) → F2 (LfRel w (okOf ow m) may ow) ls vs → (∀ j u, vs[j]? = some u → w.cell? (ad.add j) = some u) →
        (bif Nat.beq ls.length ti.k.n then (match mkC ti.agg ls with | some v => c (.one v) m | none => none) else none) = some r →
        OpOk P may w ow m (do pure (.value (← Instr.loadAt t u))) c r := by
      intro ad ls vs hu hF hc h
      obtain ⟨hl, h⟩ := cond_none h
      have hl := Nat.eq_of_beq_eq_true hl
      cases e : mkC ti.agg ls with
      | none => simp [e] at h
      | some v =>
        simp only [e] at h
        obtain ⟨z, hz, hr⟩ := loadVar_ok TK hT hF hl hc e
        subst hu
        exact OpOk.quiet M h (by simp [Instr.loadAt, Instr.sureAddr, hz]) hr
    cases x with
    | undef => simp at h
    | one => simp at h
    | tup => simp at h
    | sub => simp at h
    | pbox => simp at h
    | hd => simp at h
    | tupp => simp at h
    | mpo => simp at h
    | hsl => simp at h
    | fb => simp at h
    | ref ls =>
      obtain ⟨ad, vs, rfl, hF, hc⟩ := hx
      exact fin ad _ _ rfl (hF.take _) (fun j u hu => (hc j u (by rw [List.getElem?_take] at hu; split at hu; exact hu; cases hu)).2) h
    | adr q i o =>
      simp only at h
      cases hr : m.row? q with
      | none => simp [hr] at h
      | some row =>
        simp only [hr] at h
        obtain ⟨_, hx⟩ := hx
        obtain ⟨hi, g, n, cp, hv, rfl⟩ := hx row hr
        obtain ⟨es, hF, hc⟩ := row_elem M hr hi hv
        refine fin _ _ _ rfl ((hF.drop o).take _) (fun j u hu => ?_) h
        rw [List.getElem?_take] at hu
        split at hu
        · rw [List.getElem?_drop] at hu
          rw [Addr.add_add', Addr.add_zero_off]
          have := hc _ _ hu
          rwa [← Nat.add_assoc] at this
        · cases hu
    | box b o =>
      simp only at h
      cases hb : m.box? b with
      | none => simp [hb] at h
      | some bx =>
        simp only [hb] at h
        obtain ⟨g, hg, rfl⟩ := hx
        obtain ⟨g', hg', vs, hh, hF⟩ := M.boxes b bx hb
        obtain rfl := Option.some.inj (Option.some.inj (hg.symm.trans hg'))
        refine fin _ _ _ rfl ((hF.drop o).take _) (fun j u hu => ?_) h
        rw [List.getElem?_take] at hu
        split at hu
        · rw [List.getElem?_drop] at hu
          rw [Addr.add_add', Addr.add_zero_off, cell_of_row w g _ vs.toArray bx.t (0, 0) hh]
          simpa using hu
        · cases hu
/-- A world whose row g is cs, read back. -/
theorem setRow_frame (w : World) (g : Nat) (cs : Array Value) (b : Nat) (h : b ≠ g) : (w.setRow g cs).heap[b]? = w.heap[b]? := by
  simp only [World.setRow, Array.getElem?_modify]
  rw [if_neg (by omega)]
theorem setRow_size (w : World) (g : Nat) (cs : Array Value) : (w.setRow g cs).heap.size = w.heap.size := by simp [World.setRow]
theorem storeVar_ok (TK : TabOk P T) {t : TypeId} {ti : TI} (hT : T t = some ti) {g o : Nat} {e : TypeId} {cur : Array Value} {v : Value} (hg : w.heap[g]? = some (.cells cur e (0, 0))) (hl : v.cells.toList.length = ti.k.n)
    (hfit : o + ti.k.n ≤ cur.size) (h1 : ∀ u ∈ v.cells.toList, u.oneCell' = true) :
    (storeVar t ⟨g, o, none⟩ v).run P w = .ok () (w.setRow g (cur.toList.take o ++ v.cells.toList ++ cur.toList.drop (o + v.cells.toList.length)).toArray) := by
  have hst := run_storeCells_at P g o e v.cells.toList 0 cur w hg (by simpa [hl] using hfit) h1
  have hl' : v.cells.size = ti.k.n := by simpa using hl
  simp only [Nat.add_zero] at hst
  simp only [storeVar, Sem.run_bind, (TK _ _ hT).size, Result.andThen_ok, hl', ne_eq, not_true_eq_false, if_false, hst, Sem.run_ite]
theorem storeE_ok (TK : TabOk P T) (M : MemRel w may ow m) {t : TypeId} {x : SV} {u z : Value} {v : Cmp} {c : SV → Mem → Option R} (hx : SVRel w (okOf ow m) may ow m x u) (hv : CmpRel w (okOf ow m) may ow v z)
    (h : storeE T m t x v (fun m' => c .undef m') = some r) : OpOk P may w ow m (do Instr.storeAt t u z; pure .skip) c r := by
  unfold storeE at h
  cases ht : tyN T t with
  | none => simp [ht] at h
  | some p =>
    obtain ⟨ti, hT, rfl⟩ := tyN_some ht
    simp only [ht] at h
    obtain ⟨hl, h⟩ := cond_none h
    have hl := Nat.eq_of_beq_eq_true hl
    have hF := hv.cells
    have hlen : z.cells.toList.length = ti.k.n := hF.len ▸ hl
    have hone := F2.ones hF
    cases x with
    | undef => simp at h
    | one => simp at h
    | tup => simp at h
    | sub => simp at h
    | pbox => simp at h
    | hd => simp at h
    | tupp => simp at h
    | mpo => simp at h
    | hsl => simp at h
    | fb => simp at h
    | ref ls => simp at h
    | adr q i o =>
      simp only at h
      obtain ⟨M1, K1⟩ := M.freezeAll v.leaves
      cases hr : (m.freezeAll v.leaves).row? q with
      | none => simp [hr] at h
      | some row =>
        simp only [hr] at h
        obtain ⟨hw, h⟩ := cond_none h
        simp only [Bool.and_eq_true] at hw
        obtain ⟨hw, hfit⟩ := hw
        have hfit := Nat.le_of_ble_eq_true hfit
        cases hp : packK (m.freezeAll v.leaves) row.k (putList (splitK row.fr row.k (row.xs.getD i row.k.d)) o v.leaves) with
        | none => simp only [hp] at h; cases h
        | some y =>
          simp only [hp] at h
          have hx1 : SVRel w (okOf ow (m.freezeAll v.leaves)) may ow (m.freezeAll v.leaves) (.adr q i o) u := SVRel.keep K1 hx
          obtain ⟨_, hx1⟩ := hx1
          obtain ⟨hi, g, n, cp, hrv, rfl⟩ := hx1 row hr
          obtain ⟨v', hv', RR⟩ := M1.sl q row hr hrv ⟨_, _, _, rfl⟩
          obtain rfl := Option.some.inj (hv'.symm.trans hrv)
          obtain ⟨_, R2⟩ := RR
          rw [hw] at R2
          simp only [if_true] at R2
          obtain ⟨cs, hown, hrd⟩ := R2
          have hF1 : F2 (LfRel w (okOf ow (m.freezeAll v.leaves)) may ow) v.leaves z.cells.toList := hF.imp fun _ _ h => LfRel.keep K1.stay K1.rv h
          have hget := getD_some row.xs row.k.d hi
          obtain ⟨es, he, hec, hsp⟩ := hrd.at_ hget
          have hes := he.len
          have hput := F2.putList (o := o) (split_rel (ow := ow) he) hF1
          have hfz : ∀ l ∈ putList (splitK row.fr row.k (row.xs.getD i row.k.d)) o v.leaves, Froz (m.freezeAll v.leaves) l := by
            intro l hl
            unfold putList at hl
            rcases List.mem_append.1 hl with hl | hl
            · rcases List.mem_append.1 hl with hl | hl
              · exact fun r e => absurd (List.mem_of_mem_take hl) (by subst e; exact split_no_own _ _ _ _)
              · exact freezeAll_froz v.leaves m l hl
            · exact fun r e => absurd (List.mem_of_mem_drop hl) (by subst e; exact split_no_own _ _ _ _)
          have hy := packK_rel M1 hfz hput hp
          have hy' : Rd w (okf (okOf ow (m.freezeAll v.leaves)) may (row.fr && v.leaves.all (leafFr (m.freezeAll v.leaves)))) row.k y (es.take o ++ z.cells.toList ++ es.drop (o + z.cells.toList.length)) := by
            refine hy.up fun g => ?_
            simp only [Bool.and_eq_true] at g
            unfold putList
            simp only [List.all_append, Bool.and_eq_true]
            have hs : ∀ l ∈ splitK row.fr row.k (row.xs.getD i row.k.d), leafFr (m.freezeAll v.leaves) l = true := by rw [g.1]; exact fun l hl => split_fr _ _ l hl
            exact ⟨⟨List.all_eq_true.2 fun l hl => hs l (List.mem_of_mem_take hl), g.2⟩, List.all_eq_true.2 fun l hl => hs l (List.mem_of_mem_drop hl)⟩
          have hset := (hrd.keep (ok' := okf (okOf ow (m.freezeAll v.leaves)) may (row.fr && v.leaves.all (leafFr (m.freezeAll v.leaves)))) (Stay.mono fun b _ hb => ⟨hb.1, fun g => hb.2 (by simp at g; exact g.1)⟩)).set hi hy'
          rcases hown.2 with ⟨e1, _⟩ | ⟨g', cap, cur, e1, _, hh, hnc, hcm, hcs, htake⟩
          · cases e1
          injection e1 with e1 e2 e3
          injection e1 with e1
          injection e1 with e1
          subst e1 e3
          have hcsl : cs.length = row.xs.length * row.k.n := hown.1
          have hile : i * row.k.n + row.k.n ≤ row.xs.length * row.k.n := by
            have := Nat.mul_le_mul_right row.k.n (show i + 1 ≤ row.xs.length by omega)
            rwa [Nat.add_mul, Nat.one_mul] at this
          have hcur : cs.length ≤ cur.size := by rw [hcsl, hcs]; exact Nat.mul_le_mul_right _ hnc
          have hrun := storeVar_ok TK hT (v := z) hh hlen (o := i * row.k.n + o) (by omega) hone
          -- the new cells of the row
          have hesc : es = (cur.toList.drop (i * row.k.n)).take row.k.n := by
            apply List.ext_getElem?
            intro j
            by_cases hj : j < row.k.n
            · rw [List.getElem?_take_of_lt hj, List.getElem?_drop]
              have h1 := List.getElem?_eq_getElem (show j < es.length by omega)
              have h2 := hec j _ h1
              rw [h1, ← h2, ← htake, List.getElem?_take_of_lt (by omega)]
            · rw [List.getElem?_eq_none (by omega), List.getElem?_eq_none (by simp only [List.length_take]; omega)]
          have hcs' : (cur.toList.take (i * row.k.n + o) ++ z.cells.toList ++ cur.toList.drop (i * row.k.n + o + z.cells.toList.length)).take (row.xs.length * row.k.n) =
              cs.take (i * row.k.n) ++ (es.take o ++ z.cells.toList ++ es.drop (o + z.cells.toList.length)) ++ cs.drop (i * row.k.n + row.k.n) := by
            rw [splice_take cur.toList z.cells.toList (i * row.k.n) row.k.n o (row.xs.length * row.k.n) hile (by simp; omega) (by omega), htake, ← hesc]
          refine OpOk.mono K1 ?_
          have hz1 : z.cells.size = ti.k.n := by simpa using hlen
          have hown' : (w.setRow g (cur.toList.take (i * row.k.n + o) ++ z.cells.toList ++ cur.toList.drop (i * row.k.n + o + z.cells.toList.length)).toArray).ownsRow 0 row.e row.k.n
              (.slice (some ⟨g, 0, none⟩) n cp) (row.xs.set i y).length (cs.take (i * row.k.n) ++ (es.take o ++ z.cells.toList ++ es.drop (o + z.cells.toList.length)) ++ cs.drop (i * row.k.n + row.k.n)) := by
            refine ⟨?_, .inr ⟨g, cp, _, by simp [← e2], Nat.zero_le _, setRow_heap w g cur _ row.e _ hh, ?_, hcm, ?_, ?_⟩⟩
            · rw [← hcs']
              simp only [List.length_set, List.length_take, List.length_append, List.length_drop]
              simp only [Array.length_toList]
              omega
            · simpa using hnc
            · rw [← hcs]
              simp only [List.size_toArray, List.length_append, List.length_take, List.length_drop, Array.length_toList]
              omega
            · rw [← hcs']; simp
          obtain ⟨M2, K2⟩ := M1.write (w' := w.setRow g (cur.toList.take (i * row.k.n + o) ++ z.cells.toList ++ cur.toList.drop (i * row.k.n + o + z.cells.toList.length)).toArray) q row
            { row with fr := row.fr && v.leaves.all (leafFr (m.freezeAll v.leaves)), xs := row.xs.set i y } _ hr hrv hw rfl (by simp) hw (setRow_size _ _ _) rfl rfl rfl
            (fun b hb hne => setRow_frame w g _ b (fun e => hne (by rw [e]; rfl))) _ hown' hset
          exact ⟨_, _, undef, _, ow, h, .inr ⟨by simp [Instr.storeAt, Instr.sureAddr, Addr.add_zero_off, hrun], rfl⟩, M2, K2, trivial⟩
    | box b o =>
      simp only at h
      cases hb : m.box? b with
      | none => simp [hb] at h
      | some bx =>
        simp only [hb] at h
        obtain ⟨hfit, h⟩ := cond_none h
        have hfit := Nat.le_of_ble_eq_true hfit
        obtain ⟨g, hg, rfl⟩ := hx
        obtain ⟨g', hg', vs, hh, hFb⟩ := M.boxes b bx hb
        obtain rfl := Option.some.inj (Option.some.inj (hg.symm.trans hg'))
        have hrun := storeVar_ok TK hT (v := z) hh hlen (o := o) (by have := hFb.len; simp; omega) hone
        simp only [List.toList_toArray] at hrun
        obtain ⟨M2, K2⟩ := M.writeBox (w' := w.setRow g (vs.take o ++ z.cells.toList ++ vs.drop (o + z.cells.toList.length)).toArray) b bx { bx with ls := putList bx.ls o v.leaves } g hb hg rfl
          (setRow_size _ _ _) rfl rfl rfl (fun c hc hne => setRow_frame w g _ c hne) _ (setRow_heap w g vs.toArray _ bx.t _ hh) (F2.putList hFb hF)
        exact ⟨_, _, undef, _, ow, h, .inr ⟨by simp [Instr.storeAt, Instr.sureAddr, Addr.add_zero_off, hrun], rfl⟩, M2, K2, trivial⟩
end
end Go.Fx
