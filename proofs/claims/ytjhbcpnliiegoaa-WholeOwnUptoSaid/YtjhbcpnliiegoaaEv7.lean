/- What is made new: rows, variables, structs; fields; cuts; lengths. -/
import Derived.Test.YtjhbcpnliiegoaaEv6
namespace Go.Fx
open Go Go.RowKit
set_option linter.unusedVariables false
set_option linter.unusedSimpArgs false
theorem zero_rd {w : World} {ok : Nat → Prop} : ∀ (k : K), k.noP = true → Rd w ok k k.d (zeroCells k)
  | .int _, _ => rfl
  | .bool, _ => rfl
  | .str, _ => rfl
  | .unit, _ => rfl
  | .raw, _ => ⟨rfl, rfl⟩
  | .hd, _ => ⟨rfl, _, _, _, rfl⟩
  | .fnc _, _ => rfl
  | .mp, _ => ⟨_, rfl, .inl ⟨rfl, rfl⟩⟩
  | .sl _ k, _ => ⟨none, 0, rfl, Nat.le_refl _, fun i x hi => by simp [K.d] at hi⟩
  | .prod a b, h => ⟨_, _, rfl, zero_rd a ((Bool.and_eq_true _ _).mp h).1, zero_rd b ((Bool.and_eq_true _ _).mp h).2⟩
theorem zero_len : ∀ k : K, (zeroCells k).length = k.n
  | .int _ | .bool | .str | .unit | .raw | .hd | .fnc _ | .mp | .rp _ | .clo _ _ | .sl _ _ => rfl
  | .prod a b => by simp [zeroCells, K.n, zero_len a, zero_len b]
theorem zero_leaves {w : World} {ok may : Nat → Prop} {ow : Ow} : ∀ (k : K), F2 (LfRel w ok may ow) (zeroLeaves k) (zeroCells k)
  | .int _ => ⟨rfl, trivial⟩
  | .bool => ⟨rfl, trivial⟩
  | .str => ⟨rfl, trivial⟩
  | .unit => trivial
  | .raw => ⟨⟨rfl, rfl⟩, trivial⟩
  | .hd => ⟨rfl, trivial⟩
  | .fnc _ => ⟨rfl, trivial⟩
  | .mp => ⟨⟨_, rfl, .inl ⟨rfl, rfl⟩⟩, trivial⟩
  | .rp _ => ⟨⟨rfl, rfl⟩, trivial⟩
  | .clo _ _ => ⟨⟨rfl, rfl⟩, trivial⟩
  | .sl _ k => ⟨rfl, trivial⟩
  | .prod a b => (zero_leaves a).append (zero_leaves b)
theorem madeCells_list (z : Array Value) (n : Nat) (h : 0 < z.size) : (madeCells z (n * z.size)).toList = (List.replicate n z.toList).flatten := by
  induction n with
  | zero => simp [madeCells]
  | succ n ih =>
    rw [List.replicate_succ', List.flatten_append, ← ih]
    apply List.ext_getElem
    · simp [madeCells, Nat.succ_mul]
    · intro i h1 h2
      simp only [madeCells, Array.toList_map, List.getElem_map, Array.getElem_toList, Array.getElem_range] at h1 h2 ⊢
      simp only [List.length_map, Array.length_toList, Array.size_range, Nat.succ_mul] at h1
      by_cases hi : i < n * z.size
      · rw [List.getElem_append_left (by simp; exact hi)]
        simp
      · rw [List.getElem_append_right (by simp; omega)]
        have e : i % z.size = i - n * z.size := by
          have : i = n * z.size + (i - n * z.size) := by omega
          rw [this, Nat.mul_comm, Nat.mul_add_mod, Nat.mod_eq_of_lt (by rw [Nat.mul_comm]; omega)]
          rw [Nat.mul_comm]; omega
        simp [e, getElem!_pos, show i - n * z.size < z.size by omega]
section
variable {R : Type} {P : Program} {T : Tab} {w : World} {may : Nat → Prop} {ow : Ow} {m : Mem} {r : R}
theorem below_alloc' (w : World) (o : Obj) : Below w.heap.size w (w.alloc o) := (Below.refl _ _).alloc (Nat.le_refl _) o
theorem makeE_ok (TK : TabOk P T) (M : MemRel w may ow m) (hm : ∀ b, w.heap.size ≤ b → may b) {t e : TypeId} {k : K} {ag : Bool} {by' : Nat} {ei : TI} (hT : T t = some ⟨.sl e, .sl e k, ag, by'⟩) (hei : T e = some ei) (hz : ei.k.noP = true)
    {n q : Int} {kn kq : IntKind} {c : SV → Mem → Option R} (h0 : 0 ≤ n) (h1 : n ≤ q) (h2 : q.toNat * ei.bytes ≤ 281474976710656) (hb0 : 0 < ei.bytes)
    (h : newRow m ⟨e, k, true, true, List.replicate n.toNat k.d⟩ c = some r) : OpOk P may w ow m (do pure (.value (← Instr.makeSlice t (.int kn n) (.int kq q)))) c r := by
  obtain ⟨hu, ei', hei', hk', hpos⟩ := (TK _ _ hT).desc
  rw [hei] at hei'
  obtain rfl := Option.some.inj hei'
  injection hk' with _ hk'
  subst hk'
  obtain ⟨inf, hi1, hi2, hi3, z, hz1, hz2⟩ := (TK _ _ hei).info
  have hq : q ≤ 281474976710656 := by
    have : q.toNat ≤ q.toNat * ei.bytes := Nat.le_mul_of_pos_right _ hb0
    omega
  have hbytes : (inf.bytes : Int) * q ≤ 281474976710656 := by
    rw [hi3]
    have e1 : ((q.toNat * ei.bytes : Nat) : Int) = (ei.bytes : Int) * q := by
      rw [Int.natCast_mul, Int.toNat_of_nonneg (by omega), Int.mul_comm]
    omega
  have hrun := run_make (P := P) w t e inf z hu hi1 hz1 kn kq n q h0 h1 hbytes (by omega)
  have hzs : z.cells.size = ei.k.n := by rw [← Array.length_toList, hz2, zero_len]
  rw [hi2] at hrun
  have hml : (madeCells z.cells (q.toNat * ei.k.n)).toList = (List.replicate q.toNat (zeroCells ei.k)).flatten := by
    have := madeCells_list z.cells q.toNat (by omega)
    rwa [hzs, hz2] at this
  refine OpOk.newRow M hm h hrun (below_alloc' _ _) rfl (cs := (List.replicate n.toNat (zeroCells ei.k)).flatten) ?_ (RdEach.replicate (zero_rd _ hz) _) (fun b hb => ?_)
  · simp only [List.length_replicate]
    refine ⟨?_, .inr ⟨w.heap.size, q.toNat, _, rfl, Nat.zero_le _, heap_alloc_new w _, by omega, ?_, ?_, ?_⟩⟩
    · exact (RdEach.replicate (w := w) (ok := fun _ => True) (zero_rd ei.k hz) n.toNat).len.trans (by simp)
    · unfold maxLen; omega
    · exact size_madeCells _ _
    · rw [hml]
      have : List.replicate q.toNat (zeroCells ei.k) = List.replicate n.toNat (zeroCells ei.k) ++ List.replicate (q.toNat - n.toNat) (zeroCells ei.k) := by
        rw [List.replicate_append_replicate]; congr 1; omega
      rw [this, List.flatten_append]
      have hl : (List.replicate n.toNat (zeroCells ei.k)).flatten.length = n.toNat * ei.k.n :=
        (RdEach.replicate (w := w) (ok := fun _ => True) (zero_rd ei.k hz) n.toNat).len.trans (by simp)
      rw [← hl, List.take_left]
  · simp [Value.ownBlock] at hb; omega
/-- A variable that is made. -/
theorem box_ok (M : MemRel w may ow m) (hm : ∀ b, w.heap.size ≤ b → may b) {t : TypeId} {ls : List Leaf} {v : Value} {c : SV → Mem → Option R} (hF : F2 (LfRel w (okOf ow m) may ow) ls v.cells.toList)
    (h : c (.box m.boxes.length 0) ⟨m.rows, m.boxes ++ [some ⟨t, ls⟩]⟩ = some r) {x : Sem Value} (hx : x.run P w = .ok (.pointer (some ⟨w.heap.size, 0, none⟩)) (w.alloc (.cells v.cells t))) :
    OpOk P may w ow m (do pure (.value (← x))) c r := by
  obtain ⟨M', K'⟩ := M.addBox ⟨t, ls⟩ v.cells.toList (hm _ (Nat.le_refl _)) hF
  simp only [Array.toArray_toList] at M' K'
  refine ⟨_, _, .pointer (some ⟨w.heap.size, 0, none⟩), _, _, h, .inl (by simp [hx]), M', K', w.heap.size, ?_, by simp [Addr.add]⟩
  rw [← M.blen]; simp
theorem alloc_ok (TK : TabOk P T) (M : MemRel w may ow m) (hm : ∀ b, w.heap.size ≤ b → may b) {t : TypeId} {ti : TI} (hT : T t = some ti) {c : SV → Mem → Option R}
    (h : c (.box m.boxes.length 0) ⟨m.rows, m.boxes ++ [some ⟨t, zeroLeaves ti.k⟩]⟩ = some r) : OpOk P may w ow m (do pure (.value (← Instr.alloc t true (.tuple #[])))) c r := by
  obtain ⟨inf, hi1, hi2, hi3, z, hz1, hz2⟩ := (TK _ _ hT).info
  refine box_ok M hm (v := z) (by rw [hz2]; exact zero_leaves _) h ?_
  simp [Instr.alloc, zeroValue, typeInfo, hi1, hz1, newVar, Go.newRow]
/-- A variable made in a place that stood ready. -/
theorem place_ok (TK : TabOk P T) (M : MemRel w may ow m) (hm : ∀ b, w.heap.size ≤ b → may b) {t : TypeId} {ti : TI} (hT : T t = some ti) {b0 : Nat} (hb : m.box? b0 = none) (hl : b0 < m.boxes.length) (hn : ow.bb[b0]? = some none) :
    ∃ w' ow', (do pure (Next.value (← Instr.alloc t true (.tuple #[]))) : Sem Next).run P w = .ok (.value (.pointer (some ⟨w.heap.size, 0, none⟩))) w' ∧ ow' = ⟨ow.rv, ow.bb.set b0 (some w.heap.size)⟩ ∧ MemRel w' may ow' ⟨m.rows, m.boxes.set b0 (some ⟨t, zeroLeaves ti.k⟩)⟩ ∧ Keep may w ow m w' ow' ⟨m.rows, m.boxes.set b0 (some ⟨t, zeroLeaves ti.k⟩)⟩ := by
  obtain ⟨inf, hi1, hi2, hi3, z, hz1, hz2⟩ := (TK _ _ hT).info
  obtain ⟨M', K'⟩ := M.fillBox b0 ⟨t, zeroLeaves ti.k⟩ z.cells.toList (hm _ (Nat.le_refl _)) (by rw [hz2]; exact zero_leaves _) hb hl hn
  simp only [Array.toArray_toList] at M' K'
  have hx : (Instr.alloc t true (.tuple #[])).run P w = .ok (.pointer (some ⟨w.heap.size, 0, none⟩)) (w.alloc (.cells z.cells t)) := by
    simp [Instr.alloc, zeroValue, typeInfo, hi1, hz1, newVar, Go.newRow]
  exact ⟨_, _, by simp [hx], rfl, M', K'⟩
theorem boxE_ok (M : MemRel w may ow m) (hm : ∀ b, w.heap.size ≤ b → may b) {t : TypeId} {v : Cmp} {u : Value} {c : SV → Mem → Option R} (hv : CmpRel w (okOf ow m) may ow v u)
    (h : c (.box m.boxes.length 0) ⟨m.rows, m.boxes ++ [some ⟨t, v.leaves⟩]⟩ = some r) : OpOk P may w ow m (do pure (.value (← Instr.box t u))) c r :=
  box_ok M hm (v := u) hv.cells h (by simp [Instr.box, newVar, Go.newRow])
theorem pickI_some {R : Type} {i : Int} {f : Nat → Option R} {r : R} : ∀ {n : Nat}, pickI i f n = some r → ∃ j, j < n ∧ i = (j : Int) ∧ f j = some r
  | 0, h => by cases h
  | n + 1, h => by
    unfold pickI at h
    cases hb : i == (n : Int) with
    | true =>
      rw [hb, cond_true] at h
      exact ⟨n, Nat.lt_succ_self _, beq_iff_eq.1 hb, h⟩
    | false =>
      rw [hb, cond_false] at h
      obtain ⟨j, h1, h2, h3⟩ := pickI_some h
      exact ⟨j, by omega, h2, h3⟩
theorem pickI_of {R : Type} {f : Nat → Option R} {j : Nat} : ∀ {n : Nat}, j < n → pickI (j : Int) f n = f j
  | 0, h => by omega
  | n + 1, h => by
    unfold pickI
    by_cases hb : j = n
    · subst hb; rw [beq_self_eq_true, cond_true]
    · rw [show ((j : Int) == (n : Int)) = false from beq_eq_false_iff_ne.2 (by omega), cond_false]
      exact pickI_of (by omega)
theorem idxBox_ok (TK : TabOk P T) (M : MemRel w may ow m) {t : TypeId} {b o : Nat} {u : Value} {c : SV → Mem → Option R} (hx : SVRel w (okOf ow m) may ow m (.box b o) u) {n sz : Nat} (ha : arrN T t = some (n, sz)) {ki : IntKind} {i : Int}
    (h : pickI i (fun j => c (.box b (o + j * sz)) m) n = some r) : OpOk P may w ow m (do pure (.value (← Instr.indexAt t u (.int ki i)))) c r := by
  unfold arrN at ha
  split at ha
  case h_2 => cases ha
  rename_i n' e k ag by' hT
  split at ha
  case h_2 => cases ha
  rename_i ei he
  obtain ⟨rfl, rfl⟩ := Prod.mk.inj (Option.some.inj ha)
  obtain ⟨hu, ei', he', hpos⟩ := (TK _ _ hT).desc
  rw [he] at he'
  obtain rfl := Option.some.inj he'
  have hsz := (TK _ _ he).size (w := w)
  obtain ⟨j, hj, rfl, hc⟩ := pickI_some h
  obtain ⟨g, hg, rfl⟩ := hx
  refine OpOk.quiet M hc (v := .pointer (some (((⟨g, 0, none⟩ : Addr).add o).add (j * ei.k.n)))) ?_ ⟨g, hg, by rw [Addr.add_add']⟩
  simp [Instr.indexAt, asIntOf, run_underlying hu, Instr.sureAddr, hsz, hj]
theorem fieldAddr_ok (TK : TabOk P T) (M : MemRel w may ow m) {t : TypeId} {f : Nat} {x : SV} {u : Value} {c : SV → Mem → Option R} (hx : SVRel w (okOf ow m) may ow m x u) {o : Nat} {ft : TypeId} (hf : fieldAt T t f = some (o, ft))
    (h : (match x with
      | .ref ls => match tyN T ft with
        | some (_, n) => c (.ref ((ls.drop o).take n)) m
        | none => none
      | .adr r i o' => match m.row? r with
        | some _ => c (.adr r i (o' + o)) m
        | none => none
      | .box b o' => c (.box b (o' + o)) m
      | _ => none) = some r) : OpOk P may w ow m (do pure (.value (← Instr.fieldAt t u f))) c r := by
  unfold fieldAt at hf
  split at hf
  case h_2 => cases hf
  rename_i fs k ag by' hT
  obtain ⟨F, hu, _, hF⟩ := (TK _ _ hT).desc
  obtain ⟨fd, h1, h2, h3, fi, h4, h5⟩ := hF _ _ _ hf
  have hsz := fun w => (TK _ _ h4).size (w := w)
  have run : ∀ ad : Addr, (Instr.fieldAt t (.pointer (some ad)) f).run P w = .ok (.pointer (some (ad.add o))) w := by
    intro ad
    simp [Instr.fieldAt, run_underlying hu, h1, Instr.sureAddr, fieldPlace, h3, hsz, h2, Nat.ne_of_gt h5]
  cases x with
  | undef => cases h
  | one => cases h
  | tup => cases h
  | sub => cases h
  | pbox => cases h
  | hd => cases h
  | tupp => cases h
  | mpo => cases h
  | hsl => cases h
  | fb => cases h
  | ref ls =>
    simp only at h
    obtain ⟨ad, vs, rfl, hFF, hc⟩ := hx
    cases ht : tyN T ft with
    | none => simp [ht] at h
    | some p =>
      obtain ⟨n1, n⟩ := p
      simp only [ht] at h
      refine OpOk.quiet M h (run ad) ⟨_, _, rfl, (hFF.drop o).take n, fun j u hu => ?_⟩
      rw [List.getElem?_take] at hu
      split at hu
      · rw [List.getElem?_drop] at hu
        rw [Addr.add_block, Addr.add_add']
        exact hc _ _ hu
      · cases hu
  | adr q i o' =>
    simp only at h
    obtain ⟨hq, hx⟩ := hx
    cases hr : m.row? q with
    | none => simp [hr] at h
    | some row =>
      simp only [hr] at h
      obtain ⟨hi, g, n, cp, hv, rfl⟩ := hx row hr
      refine OpOk.quiet M h (run _) ⟨hq, fun row' hr' => ?_⟩
      rw [hr] at hr'
      obtain rfl := Option.some.inj hr'
      exact ⟨hi, g, n, cp, hv, by rw [Addr.add_add', Nat.add_assoc]⟩
  | box b o' =>
    simp only at h
    obtain ⟨g, hg, rfl⟩ := hx
    exact OpOk.quiet M h (run _) ⟨g, hg, by rw [Addr.add_add']⟩
theorem part_ok {ok : Nat → Prop} (TK : TabOk P T) {t : TypeId} {ti : TI} (hT : T t = some ti) {ls : List Leaf} {vs : List Value} {v : Cmp} {o : Nat} (h : F2 (LfRel w ok may ow) ls vs)
    (hl : ((ls.drop o).take ti.k.n).length = ti.k.n) (e : mkC ti.agg ((ls.drop o).take ti.k.n) = some v) : ∃ u, (part t vs.toArray o).run P w = .ok u w ∧ CmpRel w ok may ow v u := by
  have hF := (h.drop o).take ti.k.n
  rcases mkC_rel hF e with ⟨ha, hr⟩ | ⟨ha, u, hu, hr⟩
  · refine ⟨_, ?_, hr⟩
    simp [part, (TK _ _ hT).isAgg, (TK _ _ hT).size, ha]
  · refine ⟨u, ?_, hr⟩
    have h1 : vs[o]? = some u := by
      have : ((vs.drop o).take ti.k.n)[0]? = some u := by rw [hu]; rfl
      rw [List.getElem?_take] at this
      split at this
      · rw [List.getElem?_drop] at this; simpa using this
      · cases this
    simp [part, (TK _ _ hT).isAgg, ha, h1]
theorem field_ok (TK : TabOk P T) (M : MemRel w may ow m) {t : TypeId} {f : Nat} {x : SV} {u : Value} {c : SV → Mem → Option R} (hx : SVRel w (okOf ow m) may ow m x u) {o : Nat} {ft : TypeId} (hf : fieldAt T t f = some (o, ft))
    {ls : List Leaf} (hls : x = .one (.agg ls)) {agg : Bool} {n : Nat} (ht : tyN T ft = some (agg, n)) {v : Cmp} (hv : mkC agg ((ls.drop o).take n) = some v) (hlen : ((ls.drop o).take n).length = n) (h : c (.one v) m = some r) :
    OpOk P may w ow m (do pure (.value (← Instr.field t u f))) c r := by
  unfold fieldAt at hf
  split at hf
  case h_2 => cases hf
  rename_i fs k ag by' hT
  obtain ⟨F, hu, _, hF⟩ := (TK _ _ hT).desc
  obtain ⟨fd, h1, h2, h3, fi, h4, h5⟩ := hF _ _ _ hf
  obtain ⟨ti, hti, hp⟩ := tyN_some ht
  injection hp with hp1 hp2
  subst hp1 hp2
  subst hls
  obtain ⟨vs, rfl, hFF⟩ := hx
  obtain ⟨z, hz, hr⟩ := part_ok (P := P) TK hti hFF hlen hv
  exact OpOk.quiet M h (by simp [Instr.field, run_underlying hu, h1, asAgg, h3, h2, hz]) hr
theorem foldl_set (o : Nat) : ∀ (cs : List Value) (k : Nat) (A : Array Value), o + k + cs.length ≤ A.size →
    (cs.zipIdx k).foldl (fun (a : Array Value) (p : Value × Nat) => a.setIfInBounds (o + p.2) p.1) A = (A.toList.take (o + k) ++ cs ++ A.toList.drop (o + k + cs.length)).toArray
  | [], k, A, _ => by simp
  | c :: cs, k, A, h => by
    have h : o + k + (cs.length + 1) ≤ A.size := by simpa using h
    rw [List.zipIdx_cons, List.foldl_cons, foldl_set o cs (k + 1) _ (by simp; omega)]
    congr 1
    have e := list_seg_step A.toList (o + k) c cs (by simpa using h)
    simpa [Array.toList_setIfInBounds, Nat.add_assoc] using e
/-- What 'fill' makes of parts that are there. -/
theorem fill_ok {ok : Nat → Prop} {place : Nat → Option (Nat × Nat)} {fs : List (Nat × TypeId)} (hp : ∀ (i o : Nat) (ft : TypeId), fs[i]? = some (o, ft) → ∃ n, place i = some (o, n) ∧ ∀ ti, T ft = some ti → ti.k.n = n) :
    ∀ {cs : List (Nat × Cmp)} {vs : List (Nat × Value)} {ls ls' : List Leaf} {cells : List Value}, F2 (LfRel w ok may ow) ls cells → F2 (fun (p : Nat × Cmp) (q : Nat × Value) => p.1 = q.1 ∧ CmpRel w ok may ow p.2 q.2) cs vs →
      fillB T ls fs cs = some ls' → ∃ out : List Value, Instr.fill place cells.toArray vs = some out.toArray ∧ F2 (LfRel w ok may ow) ls' out
  | [], [], ls, ls', cells, h, _, e => by
    simp only [fillB] at e
    obtain rfl := Option.some.inj e
    exact ⟨cells, rfl, h⟩
  | (i, c) :: cs, (j, v) :: vs, ls, ls', cells, h, hc, e => by
    obtain ⟨⟨rfl, hc1⟩, hc2⟩ := hc
    simp only [fillB] at e
    cases hf : fs[i]? with
    | none => simp [hf] at e
    | some p =>
      obtain ⟨o, ft⟩ := p
      simp only [hf] at e
      cases hT : tyN T ft with
      | none => simp [hT] at e
      | some q =>
        obtain ⟨ti, hti, rfl⟩ := tyN_some hT
        simp only [hT] at e
        obtain ⟨hb, e⟩ := cond_none e
        simp only [Bool.and_eq_true] at hb
        have hb1 := Nat.eq_of_beq_eq_true hb.1
        have hb2 := Nat.le_of_ble_eq_true hb.2
        obtain ⟨n, hpl, hn⟩ := hp i o ft hf
        obtain rfl := hn ti hti
        have hcc := hc1.cells
        have hlen := hcc.len
        have hl := h.len
        obtain ⟨out, ho1, ho2⟩ := fill_ok hp (h.putList (o := o) hcc) hc2 e
        refine ⟨out, ?_, ho2⟩
        simp only [Instr.fill, hpl]
        have hsz : v.cells.size = ti.k.n := by rw [← Array.length_toList, ← hlen, hb1]
        rw [if_neg (by simp [hsz]; omega)]
        rw [← ho1]
        congr 1
        rw [← Array.foldl_toList, Array.toList_zipIdx]
        have := foldl_set o v.cells.toList 0 cells.toArray (by rw [Array.length_toList, hsz]; simp; omega)
        simpa using this
  | [], _ :: _, _, _, _, _, h, _ => h.elim
  | _ :: _, [], _, _, _, _, h, _ => h.elim
end
end Go.Fx
