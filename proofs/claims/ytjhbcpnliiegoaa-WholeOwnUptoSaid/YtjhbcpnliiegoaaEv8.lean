/- Literals, cuts, appends, copies; one operation as a whole. -/
import Derived.Test.YtjhbcpnliiegoaaEv7
namespace Go.Fx
open Go Go.RowKit
set_option linter.unusedVariables false
set_option linter.unusedSimpArgs false
theorem seqOf_some {α : Type} : ∀ {l : List (Option α)} {x : List α}, seqOf l = some x → l = x.map some
  | [], x, h => by simp only [seqOf] at h; obtain rfl := Option.some.inj h; rfl
  | some a :: r, x, h => by
    simp only [seqOf] at h
    obtain ⟨y, h1, rfl⟩ := Option.map_eq_some_iff.1 h
    rw [seqOf_some h1]; rfl
  | none :: r, x, h => by simp [seqOf] at h
section
variable {R : Type} {P : Program} {T : Tab} {w : World} {may : Nat → Prop} {ow : Ow} {m : Mem} {r : R}
theorem run_mapM {α β : Type} (f : α → Sem β) (g : α → β) : ∀ (l : List α) (w : World), (∀ a ∈ l, ∀ w, (f a).run P w = .ok (g a) w) → (l.mapM f).run P w = .ok (l.map g) w
  | [], w, _ => by simp
  | a :: l, w, h => by
    rw [List.mapM_cons]
    simp [h a (by simp), run_mapM f g l w (fun b hb => h b (by simp [hb]))]
theorem run_mapM_array {α β : Type} (f : α → Sem β) (g : α → β) (l : Array α) (w : World) (h : ∀ a ∈ l, ∀ w, (f a).run P w = .ok (g a) w) : (l.mapM f).run P w = .ok (l.map g) w := by
  rw [Array.mapM_eq_mapM_toList]
  simp only [Sem.run_map, run_mapM f g l.toList w (fun a ha => h a (by simpa using ha)), Result.andThen_ok]
  congr 1
  exact Array.ext' (by simp)
theorem parts_rel {s : S} {a : Act} (F : FrRel w (okOf ow s.m) may ow s a) : ∀ {ps : List (Nat × Operand)} {cs : List (Nat × Cmp)}, ps.map (fun p => (s.opd p.2).cmp?.map fun v => (p.1, v)) = cs.map some →
    F2 (fun (p : Nat × Cmp) (q : Nat × Value) => p.1 = q.1 ∧ CmpRel w (okOf ow s.m) may ow p.2 q.2) cs (ps.map fun p => (p.1, a.eval p.2))
  | [], [], _ => trivial
  | [], _ :: _, h => by cases h
  | _ :: _, [], h => by cases h
  | p :: ps, c :: cs, h => by
    simp only [List.map_cons, List.cons.injEq] at h
    obtain ⟨v, h1, rfl⟩ := Option.map_eq_some_iff.1 h.1
    exact ⟨⟨rfl, cmp?_rel (opd_rel F p.2) h1⟩, parts_rel F h.2⟩
theorem build_ok {s : S} {a : Act} (TK : TabOk P T) (M : MemRel w may ow s.m) (F : FrRel w (okOf ow s.m) may ow s a) {t : TypeId} {ps : Array (Nat × Operand)} {fs : List (Nat × TypeId)} {k : K}
    (hB : bldOf T t = some (fs, k)) {cs : List (Nat × Cmp)} (hcs : seqOf (ps.toList.map fun p => (s.opd p.2).cmp?.map fun v => (p.1, v)) = some cs) {ls : List Leaf} (hls : fillB T (zeroLeaves k) fs cs = some ls)
    {c : SV → Mem → Option R} (h : c (.one (.agg ls)) s.m = some r) : OpOk P may w ow s.m (do pure (.value (← Instr.build t (ps.map fun p => (p.1, a.eval p.2))))) c r := by
  unfold bldOf at hB
  split at hB
  · rename_i fs' k' ag by' hT
    obtain ⟨e1, e2⟩ := Prod.mk.inj (Option.some.inj hB)
    rw [e1, e2] at hT
    obtain ⟨FF, hu, hsz, hF⟩ := (TK _ _ hT).desc
    obtain ⟨inf, hi1, hi2, hi3, z, hz1, hz2⟩ := (TK _ _ hT).info
    have hpl : (FF.mapM fun (f : Field) => (do pure (f.offset, ← sizeOf f.type) : Sem (Nat × Nat))).run P w = .ok (FF.map fun (f : Field) => (f.offset, ((T f.type).map (·.k.n)).getD 0)) w := by
      refine run_mapM_array _ _ _ _ fun f hf w => ?_
      obtain ⟨i, hi, rfl⟩ := Array.mem_iff_getElem.1 hf
      obtain ⟨f', h1, h2, h3, fi, h4, h5⟩ := hF i _ _ (List.getElem?_eq_getElem (show i < fs.length by omega))
      rw [Array.getElem?_eq_getElem hi] at h1
      obtain rfl := Option.some.inj h1
      rw [← h3] at h4
      simp [(TK _ _ h4).size, h4]
    obtain ⟨out, ho1, ho2⟩ := fill_ok (T := T) (place := fun i => (FF.map fun (f : Field) => (f.offset, ((T f.type).map (·.k.n)).getD 0))[i]?) (fs := fs) (fun i o ft hi => by
        obtain ⟨f', h1, h2, h3, fi, h4, h5⟩ := hF i _ _ hi
        refine ⟨fi.k.n, by simp [h1, h2, h3, h4], fun ti hti => ?_⟩
        rw [h4] at hti; obtain rfl := Option.some.inj hti; rfl) (zero_leaves (w := w) (ok := okOf ow s.m) (may := may) (ow := ow) k) (parts_rel F (seqOf_some hcs)) hls
    refine OpOk.quiet M h (v := .agg out.toArray) ?_ ⟨out, rfl, ho2⟩
    have hzc : z.cells = (zeroCells k).toArray := by rw [← hz2]
    simp only [Instr.build, Sem.run_bind, zeroValue, typeInfo, run_program, Result.andThen_ok, hi1, hz1, Sem.run_pure, run_underlying hu, hpl, hzc, Array.toList_map, ho1]
  · rename_i n e k' ag by' hT
    split at hB
    case h_2 => cases hB
    rename_i ei he
    obtain ⟨rfl, rfl⟩ := Prod.mk.inj (Option.some.inj hB)
    obtain ⟨hu, ei', he', hpos⟩ := (TK _ _ hT).desc
    rw [he] at he'
    obtain rfl := Option.some.inj he'
    obtain ⟨inf, hi1, hi2, hi3, z, hz1, hz2⟩ := (TK _ _ hT).info
    have hsz := (TK _ _ he).size (w := w)
    obtain ⟨out, ho1, ho2⟩ := fill_ok (T := T) (place := fun i => some (i * ei.k.n, ei.k.n)) (fs := (List.range n).map fun i => (i * ei.k.n, e)) (fun i o ft hi => by
        rw [List.getElem?_map] at hi
        obtain ⟨q, h1, h2⟩ := Option.map_eq_some_iff.1 hi
        have : q = i := by
          have := (List.getElem?_eq_some_iff.1 h1).2
          simpa using this.symm
        subst this
        simp only [Prod.mk.injEq] at h2
        refine ⟨ei.k.n, by rw [h2.1], fun ti hti => ?_⟩
        rw [← h2.2, he] at hti; obtain rfl := Option.some.inj hti; rfl) (zero_leaves (w := w) (ok := okOf ow s.m) (may := may) (ow := ow) k') (parts_rel F (seqOf_some hcs)) hls
    refine OpOk.quiet M h (v := .agg out.toArray) ?_ ⟨out, rfl, ho2⟩
    have hzc : z.cells = (zeroCells k').toArray := by rw [← hz2]
    simp only [Instr.build, Sem.run_bind, zeroValue, typeInfo, run_program, Result.andThen_ok, hi1, hz1, Sem.run_pure, run_underlying hu, hsz, hzc, Array.toList_map, ho1]
  · cases hB
theorem cmps_rel {s : S} {a : Act} (F : FrRel w (okOf ow s.m) may ow s a) : ∀ {ps : List (Nat × Operand)} {cs : List Cmp}, ps.map (fun p => (s.opd p.2).cmp?) = cs.map some →
    F2 (CmpRel w (okOf ow s.m) may ow) cs (ps.map fun p => a.eval p.2)
  | [], [], _ => trivial
  | [], _ :: _, h => by cases h
  | _ :: _, [], h => by cases h
  | p :: ps, c :: cs, h => by
    simp only [List.map_cons, List.cons.injEq] at h
    exact ⟨cmp?_rel (opd_rel F p.2) h.1, cmps_rel F h.2⟩
theorem packEach_rel (M : MemRel w may ow m) {k : K} : ∀ {cs : List Cmp} {vs : List Value} {xs : List k.T}, (∀ l ∈ allLeaves cs, Froz m l) → F2 (CmpRel w (okOf ow m) may ow) cs vs → packEach m k cs = some xs →
    RdEach w (okf (okOf ow m) may ((allLeaves cs).all (leafFr m))) k xs (vs.flatMap fun v => v.cells.toList)
  | [], [], xs, _, _, e => by simp only [packEach] at e; obtain rfl := Option.some.inj e; rfl
  | c :: cs, v :: vs, xs, hf, h, e => by
    simp only [packEach] at e
    cases h1 : packK m k c.leaves with
    | none => simp [h1] at e
    | some x =>
      cases h2 : packEach m k cs with
      | none => simp [h1, h2] at e
      | some y =>
        simp only [h1, h2] at e
        obtain rfl := Option.some.inj e
        have hal : allLeaves (c :: cs) = c.leaves ++ allLeaves cs := by simp [allLeaves]
        have r1 := packK_rel M (fun l hl => hf l (by rw [hal]; exact List.mem_append_left _ hl)) h.1.cells h1
        have r2 := packEach_rel M (fun l hl => hf l (by rw [hal]; exact List.mem_append_right _ hl)) h.2 h2
        refine ⟨_, _, by simp, r1.up fun g => ?_, r2.keep (Stay.mono fun b _ hb => ⟨hb.1, fun g => hb.2 ?_⟩)⟩
        · rw [hal, List.all_append, Bool.and_eq_true] at g; exact g.1
        · rw [hal, List.all_append, Bool.and_eq_true] at g; exact g.2
  | [], _ :: _, _, _, h, _ => h.elim
  | _ :: _, [], _, _, h, _ => h.elim
theorem packEach_sz (M : MemRel w may ow m) {k : K} : ∀ {cs : List Cmp} {vs : List Value} {xs : List k.T}, F2 (CmpRel w (okOf ow m) may ow) cs vs → packEach m k cs = some xs → xs.length = cs.length ∧ ∀ v ∈ vs, v.cells.size = k.n
  | [], [], xs, _, e => by simp only [packEach] at e; obtain rfl := Option.some.inj e; simp
  | c :: cs, v :: vs, xs, h, e => by
    simp only [packEach] at e
    cases h1 : packK m k c.leaves with
    | none => simp [h1] at e
    | some x =>
      cases h2 : packEach m k cs with
      | none => simp [h1, h2] at e
      | some y =>
        simp only [h1, h2] at e
        obtain rfl := Option.some.inj e
        obtain ⟨i1, i2⟩ := packEach_sz M h.2 h2
        have l1 := (packK_any M h.1.cells h1).len
        refine ⟨by simp [i1], fun u hu => ?_⟩
        rcases List.mem_cons.1 hu with rfl | hu
        · simpa using l1
        · exact i2 u hu
  | [], _ :: _, _, h, _ => h.elim
  | _ :: _, [], _, h, _ => h.elim
/-- 'fill' of all elements, in their order. -/
theorem fill_all (n : Nat) : ∀ (vs : List Value) (i : Nat) (done rest : List Value), (∀ v ∈ vs, v.cells.size = n) → done.length = i * n → rest.length = vs.length * n →
    Instr.fill (fun j => some (j * n, n)) (done ++ rest).toArray ((vs.zipIdx i).map fun p => (p.2, p.1)) = some (done ++ vs.flatMap fun v => v.cells.toList).toArray
  | [], i, done, rest, _, _, h => by
    have : rest = [] := List.eq_nil_of_length_eq_zero (by simpa using h)
    simp [Instr.fill, this]
  | v :: vs, i, done, rest, hv, hd, hr => by
    have hs := hv v (by simp)
    have hr' : rest.length = vs.length * n + n := by rw [hr, List.length_cons, Nat.add_mul, Nat.one_mul]
    simp only [List.zipIdx_cons, List.map_cons, Instr.fill]
    rw [if_neg (by simp [hs]; omega)]
    have h1 := foldl_set (i * n) v.cells.toList 0 (done ++ rest).toArray (by simp [hs]; omega)
    have h2 : (v.cells.zipIdx.foldl (fun cs (x : Value × Nat) => cs.setIfInBounds (i * n + x.2) x.1) (done ++ rest).toArray) = (done ++ v.cells.toList ++ rest.drop n).toArray := by
      rw [← Array.foldl_toList, Array.toList_zipIdx]
      rw [h1]
      simp only [Nat.add_zero, ← hd, Array.length_toList, hs, List.take_left, List.drop_length_add_append]
    have h3 := fill_all n vs (i + 1) (done ++ v.cells.toList) (rest.drop n) (fun u hu => hv u (by simp [hu])) (by simp [hs, hd, Nat.add_mul]) (by simp; omega)
    simp only [List.append_assoc] at h2 h3
    refine Eq.trans ?_ (h3.trans ?_)
    · congr 1
    · simp
theorem buildSlice_run {s : S} {a : Act} (TK : TabOk P T) (M : MemRel w may ow s.m) (F : FrRel w (okOf ow s.m) may ow s a) {t e : TypeId} {ps : Array (Nat × Operand)} {k : K} {ag : Bool} {by' : Nat} {n : Nat}
    (hT : T t = some ⟨.sl e, .sl e k, ag, by'⟩) {cs : List Cmp} (hcs : seqOf (ps.toList.map fun p => (s.opd p.2).cmp?) = some cs) (hn : n * k.n ≤ 16777216) (hi : ps.toList.map (·.1) = List.range n)
    {xs : List k.T} (hp : packEach (s.m.freezeAll (allLeaves cs)) k cs = some xs) :
    ∃ cs' : List Value, (Instr.buildSlice t n (ps.map fun p => (p.1, a.eval p.2))).run P w = .ok (.slice (some ⟨w.heap.size, 0, none⟩) n n) (w.alloc (.cells cs'.toArray e)) ∧
      (w.alloc (.cells cs'.toArray e)).ownsRow 0 e k.n (.slice (some ⟨w.heap.size, 0, none⟩) n n) xs.length cs' ∧ RdEach w (okf (okOf ow (s.m.freezeAll (allLeaves cs))) may ((allLeaves cs).all (leafFr (s.m.freezeAll (allLeaves cs))))) k xs cs' ∧ xs.length = n := by
  obtain ⟨hu, ei, hei, hk', hpos⟩ := (TK _ _ hT).desc
  injection hk' with _ hk'
  subst hk'
  obtain ⟨inf, hi1, hi2, hi3, z, hz1, hz2⟩ := (TK _ _ hei).info
  obtain ⟨M1, K1⟩ := M.freezeAll (allLeaves cs)
  have hc0 := cmps_rel F (seqOf_some hcs)
  have hc1 : F2 (CmpRel w (okOf ow (s.m.freezeAll (allLeaves cs))) may ow) cs (ps.toList.map fun p => a.eval p.2) := hc0.imp fun _ _ h => CmpRel.keep K1.stay K1.rv h
  have hrd := packEach_rel M1 (fun l hl => freezeAll_froz _ _ l hl) hc1 hp
  have hnl : ps.toList.length = n := by have := congrArg List.length hi; simpa using this
  obtain ⟨hx1, hsz⟩ := packEach_sz M1 hc1 hp
  have hxl : xs.length = n := by rw [hx1, hc1.len, List.length_map, hnl]
  have hparts : (ps.map fun p => (p.1, a.eval p.2)).toList = ((ps.toList.map fun p => a.eval p.2).zipIdx 0).map fun p => (p.2, p.1) := by
    rw [Array.toList_map]
    apply List.ext_getElem
    · simp
    · intro i h1 h2
      simp only [List.getElem_map, List.getElem_zipIdx, Nat.zero_add]
      congr 1
      have : (ps.toList.map (·.1))[i]'(by simpa using h1) = i := by simp [hi]
      simpa using this
  have hz : z.cells.size = ei.k.n := by rw [← Array.length_toList, hz2, zero_len]
  have hfill : ∀ zs : Array Value, zs.size = n * ei.k.n → Instr.fill (fun j => some (j * ei.k.n, ei.k.n)) zs (ps.map fun p => (p.1, a.eval p.2)).toList = some ((ps.toList.map fun p => a.eval p.2).flatMap fun v => v.cells.toList).toArray := by
    intro zs hzs
    rw [hparts]
    have := fill_all ei.k.n (ps.toList.map fun p => a.eval p.2) 0 [] zs.toList hsz (by simp) (by simp [hzs, hnl])
    simpa using this
  refine ⟨(ps.toList.map fun p => a.eval p.2).flatMap fun v => v.cells.toList, ?_, ?_, hrd, hxl⟩
  · have hf : ∀ Z : Array Value, Instr.fill (fun j => some (j * ei.k.n, ei.k.n)) ((Array.range (n * ei.k.n)).map (Z[· % Z.size]!)) (ps.map fun p => (p.1, a.eval p.2)).toList = some ((ps.toList.map fun p => a.eval p.2).flatMap fun v => v.cells.toList).toArray :=
      fun Z => hfill _ (by simp)
    have hn' : ¬ (n * ei.k.n > 2 ^ 24) := by simp; omega
    have hsize := (TK _ _ hei).size (w := w)
    unfold Instr.buildSlice
    simp only [Sem.run_bind, run_underlying hu, Result.andThen_ok, hsize]
    rw [if_neg hn']
    by_cases h0 : n * ei.k.n = 0
    · have h1 := hf #[]
      simp only [h0, if_true, Sem.run_bind, Sem.run_pure, Result.andThen_ok] at h1 ⊢
      rw [h1]
      rfl
    · have h1 := hf z.cells
      simp only [h0, if_false, Sem.run_bind, zeroValue, typeInfo, run_program, hi1, hz1, Sem.run_pure, Result.andThen_ok] at h1 ⊢
      rw [h1]
      rfl
  · rw [hxl]
    refine ⟨by rw [hrd.len, hxl], .inr ⟨w.heap.size, n, _, rfl, Nat.zero_le _, heap_alloc_new w _, Nat.le_refl _, ?_, ?_, ?_⟩⟩
    · have : n ≤ n * ei.k.n := Nat.le_mul_of_pos_right _ hpos
      clear hfill hparts hrd
      have hn2 : n * ei.k.n ≤ 16777216 := hn
      unfold maxLen; omega
    · rw [List.size_toArray, hrd.len, hxl]
    · rw [List.toList_toArray, List.take_of_length_le (by rw [hrd.len, hxl]; exact Nat.le_refl _)]
theorem buildSlice_ok {s : S} {a : Act} (TK : TabOk P T) (M : MemRel w may ow s.m) (hm : ∀ b, w.heap.size ≤ b → may b) (F : FrRel w (okOf ow s.m) may ow s a) {t e : TypeId} {ps : Array (Nat × Operand)} {k : K} {ag : Bool} {by' : Nat} {n : Nat}
    (hT : T t = some ⟨.sl e, .sl e k, ag, by'⟩) {cs : List Cmp} (hcs : seqOf (ps.toList.map fun p => (s.opd p.2).cmp?) = some cs) (hn : n * k.n ≤ 16777216) (hi : ps.toList.map (·.1) = List.range n)
    {xs : List k.T} (hp : packEach (s.m.freezeAll (allLeaves cs)) k cs = some xs)
    {c : SV → Mem → Option R} (h : newRow (s.m.freezeAll (allLeaves cs)) ⟨e, k, (allLeaves cs).all (leafFr (s.m.freezeAll (allLeaves cs))), true, xs⟩ c = some r) :
    OpOk P may w ow s.m (do pure (.value (← Instr.buildSlice t n (ps.map fun p => (p.1, a.eval p.2))))) c r := by
  obtain ⟨M1, K1⟩ := M.freezeAll (allLeaves cs)
  obtain ⟨cs', h1, h2, h3, h4⟩ := buildSlice_run TK M F hT hcs hn hi hp
  refine OpOk.mono K1 (OpOk.newRow M1 hm h h1 (below_alloc' _ _) rfl h2 h3 (fun b hb => ?_))
  simp [Value.ownBlock] at hb; omega
end
end Go.Fx
