/- Maps from texts to whole numbers: made, looked into, written, given away. -/
import Derived.Test.YtjhbcpnliiegoaaEv13
import Derived.MapKept
namespace Go.Fx
open Go Go.RowKit
set_option linter.unusedVariables false
set_option linter.unusedSimpArgs false
section
variable {R : Type} {P : Program} {T : Tab} {w : World} {may : Nat → Prop} {ow : Ow} {m : Mem} {r : R}
theorem freezeAll_some (ls : List Leaf) : ∀ (m : Mem) (r : Nat) (row : Row), m.row? r = some row → ∃ b, (m.freezeAll ls).row? r = some { row with rw := b } := by
  induction ls with
  | nil => exact fun m r row h => ⟨_, h⟩
  | cons l ls ih =>
    intro m r row h
    have h1 : ∃ b, (m.freeze l).row? r = some { row with rw := b } := by
      cases l with
      | val => exact ⟨_, h⟩
      | nil => exact ⟨_, h⟩
      | own q =>
        rw [row?_freeze]
        by_cases e : r = q
        · subst e; rw [if_pos rfl, h]; exact ⟨_, rfl⟩
        · rw [if_neg e]; exact ⟨_, h⟩
    obtain ⟨b, h1⟩ := h1
    obtain ⟨b', h2⟩ := ih (m.freeze l) r _ h1
    exact ⟨b', h2⟩
theorem mpLs_mem {vs : List SV} {r : Nat} (h : SV.mpo r ∈ vs) : Leaf.own r ∈ mpLs vs := List.mem_filterMap.2 ⟨_, h, rfl⟩
theorem frzV_rel (M : MemRel w may ow m) {ls : List Leaf} (M1 : MemRel w may ow (m.freezeAll ls)) (K1 : Keep may w ow m w ow (m.freezeAll ls)) {sv : SV} {v : Value} (hl : ∀ r, sv = .mpo r → Leaf.own r ∈ ls) (h : SVRel w (okOf ow m) may ow m sv v) :
    SVRel w (okOf ow (m.freezeAll ls)) may ow (m.freezeAll ls) (frzV m sv) v := by
  cases sv with
  | mpo r =>
    simp only [frzV]
    split
    · rename_i e fr b xs hr
      obtain ⟨b', hr'⟩ := freezeAll_some ls m r _ hr
      have hb := freezeAll_froz ls m _ (hl r rfl) r rfl _ hr'
      simp only at hb
      subst hb
      obtain ⟨g, ys, rfl, hy, hm⟩ := M1.mp r _ hr' h.1 h.2
      simp only [Row.mp?] at hy
      obtain rfl := Option.some.inj hy
      simp only [Bool.false_eq_true, if_false] at hm
      exact ⟨_, rfl, hm⟩
    · trivial
  | _ => exact SVRel.keep K1 h
theorem frz_rel (M : MemRel w may ow m) {vs : List SV} {us : List Value} (h : F2 (fun sv v => SVRel w (okOf ow m) may ow m sv v) vs us) :
    MemRel w may ow (frzAll m vs) ∧ Keep may w ow m w ow (frzAll m vs) ∧ F2 (fun sv v => SVRel w (okOf ow (frzAll m vs)) may ow (frzAll m vs) sv v) (vs.map (frzV m)) us := by
  obtain ⟨M1, K1⟩ := M.freezeAll (mpLs vs)
  refine ⟨M1, K1, F2.map_left.2 ?_⟩
  exact F2.imp_mem (fun sv v hm h => frzV_rel M M1 K1 (fun r e => mpLs_mem (by rw [← e]; exact hm)) h) h
theorem isMpo_none {vs : List SV} (h : vs.any isMpo = false) : frzAll m vs = m ∧ vs.map (frzV m) = vs := by
  have h1 : mpLs vs = [] := by
    refine List.filterMap_eq_nil_iff.2 fun v hv => ?_
    have := List.any_eq_false.1 h v hv
    cases v <;> first | rfl | simp [isMpo] at this
  refine ⟨by unfold frzAll; rw [h1]; rfl, ?_⟩
  have : ∀ v ∈ vs, frzV m v = v := fun v hv => by
    have := List.any_eq_false.1 h v hv
    cases v <;> first | rfl | simp [isMpo] at this
  calc vs.map (frzV m) = vs.map id := List.map_congr_left this
    _ = vs := List.map_id _
theorem noOwn_freeze : ∀ {ls : List Leaf}, noOwn ls = true → m.freezeAll ls = m
  | [], _ => rfl
  | l :: ls, h => by
    simp only [noOwn, List.all_cons, Bool.and_eq_true] at h
    have h1 : m.freeze l = m := by cases l <;> first | rfl | (simp at h)
    show (m.freeze l).freezeAll ls = m
    rw [h1]; exact noOwn_freeze h.2
theorem buildVal_ok {s : S} {a : Act} (TK : TabOk P T) (M : MemRel w may ow s.m) (hm : ∀ b, w.heap.size ≤ b → may b) (F : FrRel w (okOf ow s.m) may ow s a) {t e : TypeId} {ps : Array (Nat × Operand)} {k : K} {ag : Bool} {by' : Nat} {n : Nat}
    (hT : T t = some ⟨.sl e, .sl e k, ag, by'⟩) {cs : List Cmp} (hcs : seqOf (ps.toList.map fun p => (s.opd p.2).cmp?) = some cs) (hn : n * k.n ≤ 16777216) (hi : ps.toList.map (·.1) = List.range n) (hno : noOwn (allLeaves cs) = true)
    {xs : List k.T} (hp : packEach s.m k cs = some xs)
    {c : SV → Mem → Option R} (h : c (.one (.lf (.val ((allLeaves cs).all (leafFr s.m)) (.sl e k) xs))) s.m = some r) :
    OpOk P may w ow s.m (do pure (.value (← Instr.buildSlice t n (ps.map fun p => (p.1, a.eval p.2))))) c r := by
  have hfz := noOwn_freeze (m := s.m) hno
  obtain ⟨cs', h1, h2, h3, h4⟩ := buildSlice_run TK M F hT hcs hn hi (by rw [hfz]; exact hp)
  rw [hfz] at h3
  have hb := below_alloc' w (.cells cs'.toArray e)
  obtain ⟨M1, K1, _⟩ := M.join hm hb (rows := []) (ow' := ⟨[], []⟩) ⟨rfl, rfl, fun i row e => by simp [Mem.row?] at e, fun i bx e => by simp [Mem.box?] at e, fun x y b h k => by cases x <;> simp [blk, Mem.row?, Mem.box?] at h, fun x b h => (by cases x <;> simp [blk, Mem.row?, Mem.box?] at h), fun i hi e => by simp at hi⟩ (fun i row h => by simp [Mem.row?] at h)
  simp only [List.append_nil] at M1 K1
  refine ⟨_, _, .slice (some ⟨w.heap.size, 0, none⟩) n n, _, _, h, .inl (by simp [h1]), M1, K1, ?_⟩
  show Rd _ _ _ _ _
  have e4 : Value.slice (some ⟨w.heap.size, 0, none⟩) n n = .slice (some ⟨w.heap.size, 0, none⟩) xs.length n := by rw [h4]
  rw [e4]
  refine RdEach.toSl (e := e) (h3.keep K1.stay.okf) (by rw [h4]; exact Nat.le_refl _) fun hne => ⟨_, rfl, ?_, ⟨?_, fun _ => hm _ (Nat.le_refl _)⟩, fun j u hj => World.ownsRow.cells h2 (g := w.heap.size) rfl j u hj⟩
  · show w.heap.size < (w.alloc _).heap.size
    simp
  · intro t ht
    have : blk ow s.m t = some w.heap.size := ht
    have := (M.may_ _ _ this).2
    omega
theorem makeMap_ok (M : MemRel w may ow m) (hm : ∀ b, w.heap.size ≤ b → may b) {t : TypeId} {c : SV → Mem → Option R} (h : c (.mpo m.rows.length) ⟨m.rows ++ [some ⟨0, eK, true, true, []⟩], m.boxes⟩ = some r) :
    OpOk P may w ow m (do pure (.value (← Instr.makeMap t none))) c r := by
  have hb := below_alloc' w (.map #[] 0)
  have hcell : (w.alloc (.map #[] 0)).heap[w.heap.size]? = some (.map #[] 0) := (MapKept.heap_alloc w _).1
  have key := M.renewG (w' := w.alloc (.map #[] 0)) m.rows.length ⟨0, eK, true, true, []⟩ (.map (some w.heap.size)) hb.size hb.os hb.tape hb.output (fun b hlt _ => hb.block b hlt) rfl
    (fun ok' S => .inr ⟨w.heap.size, [], rfl, rfl, by simp only [if_true]; exact ⟨#[], 0, hcell, rfl⟩⟩)
    (fun b e => by
      simp only [oblk, Option.some.injEq] at e
      subst e
      exact ⟨hm _ (Nat.le_refl _), (Array.getElem?_eq_some_iff.1 hcell).1, .inl (Nat.le_refl _)⟩)
  rw [List.set_eq_of_length_le (Nat.le_refl _)] at key
  refine ⟨_, _, .map (some w.heap.size), _, _, h, .inl (by simp [Instr.makeMap, newObj, Sem.run, Sem.bind]), key.1, key.2, ?_, _, rfl⟩
  show (ow.rv ++ [_])[m.rows.length]? = _
  rw [← M.rlen]; simp
theorem mpOf_rel (M : MemRel w may ow m) {x : SV} {u : Value} {xs : List (ByteArray × Int)} (hx : SVRel w (okOf ow m) may ow m x u) (e : mpOf m x = some xs) :
    (u = .map none ∧ xs = []) ∨ ∃ g es clk, u = .map (some g) ∧ w.heap[g]? = some (.map es clk) ∧ MapEs es.toList xs := by
  unfold mpOf at e
  split at e
  · rename_i q
    obtain ⟨row, hr, hm⟩ := Option.bind_eq_some_iff.1 e
    obtain ⟨g, ys, rfl, hy, h⟩ := M.mp q row hr hx.1 hx.2
    obtain rfl := Option.some.inj (hy.symm.trans hm)
    split at h
    · obtain ⟨es, clk, h1, h2⟩ := h
      exact .inr ⟨g, es, clk, rfl, h1, h2⟩
    · rcases h with ⟨h, _⟩ | ⟨g', es, clk, h1, _, _, h2, h3⟩
      · cases h
      · injection h1 with h1; injection h1 with h1; subst h1
        exact .inr ⟨_, es, clk, rfl, h2, h3⟩
  · obtain rfl := Option.some.inj e
    obtain ⟨v, h1, h2⟩ := (hx : Rd _ _ _ _ _)
    simp only [List.cons.injEq, and_true] at h1
    subst h1
    rcases h2 with h | ⟨g, es, clk, h1, _, _, h2, h3⟩
    · exact .inl h
    · exact .inr ⟨g, es, clk, h1, h2, h3⟩
  · cases e
theorem strOf_rel {x : SV} {u : Value} {k : ByteArray} (hx : SVRel w (okOf ow m) may ow m x u) (e : strOf x = some k) : u = .string k := by
  unfold strOf at e
  split at e
  · obtain rfl := Option.some.inj e
    have h : [u] = [.string _] := hx
    injection h
  · cases e
theorem sameStr (a b : ByteArray) : Instr.sameNow .string (.string a) (.string b) = some (decide (a = b)) := by
  simp only [Instr.sameNow]
  congr 1
  by_cases h : a = b
  · rw [decide_eq_true h]; exact (MapKept.bytes_beq a b).2 h
  · rw [decide_eq_false h]
    cases hb : a == b with
    | false => rfl
    | true => exact absurd ((MapKept.bytes_beq a b).1 hb) h
theorem findNow_mp {k : ByteArray} : ∀ {es : List MapEntry} {xs : List (ByteArray × Int)} (i : Nat), MapEs es xs →
    (mpFind k xs = none ∧ Instr.findNow .string (.string k) es i = some none) ∨
    ∃ j v, mpFind k xs = some v ∧ Instr.findNow .string (.string k) es i = some (some (i + j, .int .i64 v)) ∧ (es[j]?).map (·.key) = some (.string k) ∧ ∀ v', mpPut k v' xs = xs.set j (k, v')
  | [], [], i, _ => .inl ⟨rfl, rfl⟩
  | [], _ :: _, i, h => by simp [MapEs] at h
  | _ :: _, [], i, h => by simp [MapEs] at h
  | e :: es, x :: xs, i, h => by
    simp only [MapEs, List.map_cons, List.cons.injEq, Prod.mk.injEq] at h
    obtain ⟨⟨h1, h2⟩, h3⟩ := h
    by_cases hk : k = x.1
    · refine .inr ⟨0, x.2, by simp [mpFind, hk], ?_, by simp [h1, hk], fun v' => by simp [mpPut, hk]⟩
      unfold Instr.findNow
      rw [h1, sameStr, decide_eq_true hk]
      simp [h2]
    · have hs : Instr.findNow .string (.string k) (e :: es) i = Instr.findNow .string (.string k) es (i + 1) := by
        conv => lhs; unfold Instr.findNow
        rw [h1, sameStr, decide_eq_false hk]
      rcases findNow_mp (k := k) (i + 1) (show MapEs es xs from h3) with ⟨h4, h5⟩ | ⟨j, v, h4, h5, h6, h7⟩
      · exact .inl ⟨by simp [mpFind, hk, h4], hs.trans h5⟩
      · exact .inr ⟨j + 1, v, by simp [mpFind, hk, h4], by rw [hs, h5]; simp; omega, by simpa using h6, fun v' => by simp [mpPut, hk, h7]⟩
theorem mpPut_none {k : ByteArray} {v : Int} : ∀ {xs : List (ByteArray × Int)}, mpFind k xs = none → mpPut k v xs = xs ++ [(k, v)]
  | [], _ => rfl
  | x :: xs, h => by
    by_cases hk : k = x.1
    · simp [mpFind, hk] at h
    · simp only [mpFind, hk, if_false] at h
      simp [mpPut, hk, mpPut_none h]
theorem isMapT_some (TK : TabOk P T) {t : TypeId} (h : isMapT T t = true) : ∃ k e, P.underlying t = some (.map k e) ∧ P.underlying k = some .string ∧ ∃ i, P.info? e = some i ∧ i.zero = some (.int .i64 0) := by
  unfold isMapT at h
  split at h
  · rename_i hT; exact (TK _ _ hT).desc.2
  · cases h
theorem checkStr {kt : TypeId} (hk : P.underlying kt = some .string) (b : Bool) (k : ByteArray) : (Instr.checkKey b 10000 kt (.string k)).run P w = .ok () w := by
  unfold Instr.checkKey
  simp only [Sem.run_bind, run_underlying hk, Result.andThen_ok]
  rfl
theorem lookE_ok (TK : TabOk P T) (M : MemRel w may ow m) {t : TypeId} {x k : SV} {ok : Bool} {u kv : Value} {c : SV → Mem → Option R} (hx : SVRel w (okOf ow m) may ow m x u) (hk : SVRel w (okOf ow m) may ow m k kv)
    (h : lookE T m t x k ok (fun v => c v m) = some r) : OpOk P may w ow m (do pure (.value (← Instr.lookup t u kv ok))) c r := by
  unfold lookE at h
  split at h
  case h_2 => cases h
  rename_i xs ks h1 h2
  obtain ⟨ht, h⟩ := cond_none h
  obtain ⟨kt, et, hu, hks, i, hi, hz⟩ := isMapT_some TK ht
  have hkv := strOf_rel hk h2
  subst hkv
  have hzero : (zeroValue et).run P w = .ok (.int .i64 0) w := by simp [zeroValue, typeInfo, hi, hz]
  have key : ∃ es : Array MapEntry, MapEs es.toList xs ∧ (Instr.lookup t u (.string ks) ok).run P w = ((do
      let (v, ok') ← match ← Instr.findKey kt (.string ks) es.toList with
        | some (_, v) => pure (v, true)
        | none => pure (← zeroValue et, false)
      pure (if ok then .tuple #[v, .bool ok'] else v) : Sem Value).run P w) := by
    rcases mpOf_rel M hx h1 with ⟨rfl, rfl⟩ | ⟨g, es, clk, rfl, hh, hes⟩
    · exact ⟨#[], rfl, by simp only [Instr.lookup, Sem.run_bind, run_underlying hu, Result.andThen_ok, Sem.run_pure, checkStr hks]; rfl⟩
    · refine ⟨es, hes, ?_⟩
      simp only [Instr.lookup, Sem.run_bind, run_underlying hu, Result.andThen_ok, Sem.run_pure, MapKept.run_getObj_map hh, checkStr hks]
      rfl
  obtain ⟨es, hes, hrun⟩ := key
  have fin : ∀ (v : Int) (b : Bool), (Instr.lookup t u (.string ks) ok).run P w = .ok (if ok then .tuple #[.int .i64 v, .bool b] else .int .i64 v) w → (mpFind ks xs).getD 0 = v → (mpFind ks xs).isSome = b → OpOk P may w ow m (do pure (.value (← Instr.lookup t u (.string ks) ok))) c r := by
    rintro v b hr rfl rfl
    refine OpOk.quiet M h hr ?_
    cases ok with
    | true => exact ⟨[.int .i64 _, .bool _], rfl, rfl, rfl, trivial⟩
    | false => exact rfl
  rcases findNow_mp (k := ks) 0 hes with ⟨h4, h5⟩ | ⟨j, v, h4, h5, _, _⟩
  · refine fin 0 false ?_ (by rw [h4]; rfl) (by rw [h4]; rfl)
    rw [hrun]
    simp [MapKept.run_findKey hks h5, hzero]
  · refine fin v true ?_ (by rw [h4]; rfl) (by rw [h4]; rfl)
    rw [hrun]
    simp [MapKept.run_findKey hks h5]
theorem putE_ok (TK : TabOk P T) (M : MemRel w may ow m) {t : TypeId} {x k v : SV} {u kv vv : Value} {c : SV → Mem → Option R} (hx : SVRel w (okOf ow m) may ow m x u) (hk : SVRel w (okOf ow m) may ow m k kv) (hv : SVRel w (okOf ow m) may ow m v vv)
    (h : putE T m t x k v (fun m' => c .undef m') = some r) : OpOk P may w ow m (do Instr.mapUpdate t u kv vv; pure .skip) c r := by
  unfold putE at h
  split at h
  case h_2 => cases h
  rename_i q ks fr n0 hks
  obtain ⟨n, hn⟩ : ∃ n : Int, n = n0 := ⟨n0, rfl⟩
  subst hn
  split at h
  case h_2 => cases h
  rename_i e fr xs0 hr
  obtain ⟨xs, hxs⟩ : ∃ xs : List (ByteArray × Int), xs = xs0 := ⟨xs0, rfl⟩
  subst hxs
  obtain ⟨ht, h⟩ := cond_none h
  obtain ⟨kt, et, hu, hkt, _⟩ := isMapT_some TK ht
  have hkv := strOf_rel hk hks
  subst hkv
  have hvv : vv = .int .i64 n := by
    have hv : [vv] = [.int .i64 n] := hv
    injection hv
  subst hvv
  obtain ⟨hq, _⟩ := hx
  obtain ⟨g, ys, rfl, hy, hm⟩ := M.mp q _ hr hq (by assumption)
  simp only [Row.mp?] at hy
  obtain rfl := Option.some.inj hy
  simp only [if_true] at hm
  obtain ⟨es, clk, hh, hes⟩ := hm
  have hlt : g < w.heap.size := (Array.getElem?_eq_some_iff.1 hh).1
  have fin : ∀ (es' : Array MapEntry) (clk' : Nat), MapEs es'.toList (mpPut ks n xs) → (Instr.mapUpdate t (.map (some g)) (.string ks) (.int .i64 n)).run P w = .ok () { w with heap := w.heap.setIfInBounds g (.map es' clk') } →
      OpOk P may w ow m (do Instr.mapUpdate t (.map (some g)) (.string ks) (.int .i64 n); pure .skip) c r := by
    intro es' clk' hes' hrun
    obtain ⟨s1, s2⟩ := MapKept.heap_set (o' := .map es' clk') hh
    obtain ⟨M', K'⟩ := M.writeR (w' := { w with heap := w.heap.setIfInBounds g (.map es' clk') }) q _ ⟨0, eK, fr, true, mpPut ks n xs⟩ (.map (some g)) hr hq rfl rfl (fun ⟨_, _, _, e⟩ => by cases e) rfl (by simp) rfl rfl rfl
      (fun b hb hne => s2 b fun e => hne (by rw [e]; rfl)) (fun ok' S => .inr ⟨g, _, rfl, rfl, by simp only [if_true]; exact ⟨es', clk', s1, hes'⟩⟩)
    exact ⟨_, _, undef, _, _, h, .inr ⟨by simp [hrun], rfl⟩, M', K', trivial⟩
  rcases findNow_mp (k := ks) 0 hes with ⟨h4, h5⟩ | ⟨j, v', h4, h5, h6, h7⟩
  · refine fin (es.push { key := .string ks, val := .int .i64 n, born := clk }) (clk + 1) ?_ ?_
    · rw [mpPut_none h4]
      simp only [MapEs, Array.toList_push, List.map_append, List.map_cons, List.map_nil] at hes ⊢
      rw [hes]
    · simp [Instr.mapUpdate, run_underlying hu, MapKept.run_getObj_map hh, checkStr hkt, MapKept.run_findKey hkt h5, MapKept.run_setObj_map _ hh]
  · rw [Nat.zero_add] at h5
    refine fin (es.modify j fun e => { e with key := .string ks, val := .int .i64 n }) clk ?_ ?_
    · rw [h7 n]
      simp only [MapEs] at hes ⊢
      rw [List.map_set, ← hes, Array.toList_modify]
      apply List.ext_getElem?
      intro i
      simp only [List.getElem?_map, List.getElem?_modify, List.getElem?_set]
      by_cases hij : j = i
      · subst hij
        have hj : j < es.toList.length := by
          obtain ⟨e, he, _⟩ := Option.map_eq_some_iff.1 (show (es.toList[j]?).map (·.key) = some (.string ks) from h6)
          exact (List.getElem?_eq_some_iff.1 he).1
        have hj' : j < es.size := by simpa using hj
        simp [List.getElem?_eq_getElem hj, hj, hj']
      · simp only [if_neg hij]
        cases es.toList[i]? <;> rfl
    · have hkeep : (((es[j]?).map (·.key)).getD (.string ks)) = .string ks := by
        have : (es.toList[j]?).map (·.key) = some (.string ks) := h6
        rw [Array.getElem?_toList] at this
        rw [this]; rfl
      simp [Instr.mapUpdate, run_underlying hu, MapKept.run_getObj_map hh, checkStr hkt, MapKept.run_findKey hkt h5, hkeep, Instr.keyThatStays, Instr.sameBits, (MapKept.bytes_beq ks ks).2 rfl, MapKept.run_setObj_map _ hh]
end
end Go.Fx
