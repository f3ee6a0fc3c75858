/- Regions that draw their order: what is looked at beforehand. -/
import Derived.Test.YtjhbcpnliiegoaaEvC
namespace Go.Fx
open Go Go.RowKit
set_option linter.unusedVariables false
set_option linter.unusedSimpArgs false
theorem hasN_mem {x : Nat} {l : List Nat} (h : hasN x l = true) : x ∈ l := by
  simp only [hasN, List.any_eq_true] at h
  obtain ⟨y, hy, he⟩ := h
  rw [Nat.eq_of_beq_eq_true he]; exact hy
theorem mem_hasN {x : Nat} {l : List Nat} (h : x ∈ l) : hasN x l = true := List.any_eq_true.2 ⟨x, h, Nat.beq_refl x⟩
theorem rowOk_spec {all : List Oper} {bj : List Nat} {y : Oper} {b : LogE} : ∀ {l : List (Oper × LogE)} {k : Nat}, rowOk all bj y b k l = true → ∀ i x a, l[i]? = some (x, a) → (k + i ∈ bj ∨ pairOk all x y a b = true) ∧ (isNew y = true → disj a.rd b.tc = true ∧ disj a.tc b.tc = true)
  | [], k, h, i, x, a, e => by simp at e
  | (x0, a0) :: r, k, h, i, x, a, e => by
    simp only [rowOk, Bool.and_eq_true, Bool.or_eq_true] at h
    cases i with
    | zero =>
      simp at e
      obtain ⟨rfl, rfl⟩ := e
      refine ⟨h.1.1.imp hasN_mem id, fun hn => ?_⟩
      have := h.1.2
      rw [hn] at this
      simpa using this
    | succ i =>
      have := rowOk_spec h.2 i x a (by simpa using e)
      rwa [show k + (i + 1) = k + 1 + i by omega]
structure PairsOk (all : List Oper) (zs : List (Oper × LogE)) (bs : List (List Nat)) : Prop where
  one : ∀ (j : Nat) y b, zs[j]? = some (y, b) → selOk y = true ∧ edgesOk j y = true ∧ ∃ bj, bs[j]? = some bj
  two : ∀ (i j : Nat) x a y b bj, i < j → zs[i]? = some (x, a) → zs[j]? = some (y, b) → bs[j]? = some bj → (i ∈ bj ∨ pairOk all x y a b = true) ∧ (isNew y = true → disj a.rd b.tc = true ∧ disj a.tc b.tc = true)
theorem compatL_spec {all : List Oper} : ∀ {rest done : List (Oper × LogE)} {bs : List (List Nat)}, compatL all done rest bs = true →
    ∀ q y b, rest[q]? = some (y, b) → selOk y = true ∧ edgesOk (done.length + q) y = true ∧ ∃ bj, bs[q]? = some bj ∧ ∀ i x a, i < done.length + q → (done ++ rest)[i]? = some (x, a) → (i ∈ bj ∨ pairOk all x y a b = true) ∧ (isNew y = true → disj a.rd b.tc = true ∧ disj a.tc b.tc = true)
  | [], done, bs, h, q, y, b, e => by simp at e
  | (y0, b0) :: r, done, [], h, q, y, b, e => by simp [compatL] at h
  | (y0, b0) :: r, done, bj :: bs, h, q, y, b, e => by
    simp only [compatL, Bool.and_eq_true] at h
    obtain ⟨⟨h1, h2⟩, h3, h4⟩ := h
    cases q with
    | zero =>
      simp at e
      obtain ⟨rfl, rfl⟩ := e
      refine ⟨h1, h2, bj, rfl, fun i x a hi hx => ?_⟩
      rw [List.getElem?_append_left (by simpa using hi)] at hx
      simpa using rowOk_spec h3 i x a hx
    | succ q =>
      obtain ⟨h5, h6, bj', h7, h8⟩ := compatL_spec h4 q y b (by simpa using e)
      refine ⟨h5, by rw [show done.length + (q + 1) = (done ++ [(y0, b0)]).length + q by simp; omega]; exact h6, bj', by simpa using h7, fun i x a hi hx => h8 i x a (by simp; omega) (by simpa using hx)⟩
theorem compat_spec {all : List Oper} {lg : List LogE} (h : compat all lg = true) : PairsOk all (all.zip lg) (befs all []) := by
  have := compatL_spec h
  refine ⟨fun j y b e => ?_, fun i j x a y b bj hij hi hj hb => ?_⟩
  · obtain ⟨h1, h2, bj, h3, _⟩ := this j y b e
    exact ⟨h1, by simpa using h2, bj, h3⟩
  · obtain ⟨_, _, bj', h3, h4⟩ := this j y b hj
    obtain rfl : bj = bj' := Option.some.inj (hb.symm.trans h3)
    exact h4 i x a (by simpa using hij) (by simpa using hi)
theorem mem_mrg {i : Nat} : ∀ {n : Nat} {a b : List Nat}, i ∈ mrg n a b → i ∈ a ∨ i ∈ b
  | 0, a, b, h => by simpa [mrg] using h
  | n + 1, [], b, h => .inr (by simpa [mrg] using h)
  | n + 1, x :: a, [], h => .inl (by simpa [mrg] using h)
  | n + 1, x :: a, y :: b, h => by
    simp only [mrg] at h
    cases h1 : Nat.blt x y with
    | true =>
      rw [h1] at h
      rcases List.mem_cons.1 h with rfl | h
      · exact .inl (by simp)
      · exact (mem_mrg h).imp (List.mem_cons_of_mem _) id
    | false =>
      rw [h1] at h
      cases h2 : Nat.blt y x with
      | true =>
        rw [h2] at h
        rcases List.mem_cons.1 h with rfl | h
        · exact .inr (by simp)
        · exact (mem_mrg h).imp id (List.mem_cons_of_mem _)
      | false =>
        rw [h2] at h
        rcases List.mem_cons.1 h with rfl | h
        · exact .inl (by simp)
        · exact (mem_mrg h).imp (List.mem_cons_of_mem _) (List.mem_cons_of_mem _)
theorem mem_befOf {bs : List (List Nat)} {o : Oper} {i : Nat} (h : i ∈ befOf bs o) : ∃ e ∈ o.after.toList, Region.binds .any e = true ∧ (i = e.on ∨ i ∈ bs.getD e.on []) := by
  unfold befOf at h
  generalize o.after.toList = l at h ⊢
  induction l with
  | nil => exact absurd h (by simp)
  | cons e l ih =>
    rw [List.foldr_cons] at h
    cases hb : Region.binds .any e with
    | false =>
      rw [hb] at h
      obtain ⟨e', h1, h2⟩ := ih h
      exact ⟨e', List.mem_cons_of_mem _ h1, h2⟩
    | true =>
      rw [hb] at h
      rcases mem_mrg h with h | h
      · refine ⟨e, by simp, hb, ?_⟩
        rcases List.mem_append.1 h with h | h
        · exact .inr h
        · exact .inl (by simpa using h)
      · obtain ⟨e', h1, h2⟩ := ih h
        exact ⟨e', List.mem_cons_of_mem _ h1, h2⟩
theorem befs_spec : ∀ {l : List Oper} {bs : List (List Nat)}, ∃ tl, befs l bs = bs ++ tl ∧ ∀ j o, l[j]? = some o → tl[j]? = some (befOf (bs ++ tl.take j) o)
  | [], bs => ⟨[], by simp [befs], fun j o h => by simp at h⟩
  | o :: l, bs => by
    obtain ⟨tl, h1, h2⟩ := befs_spec (l := l) (bs := bs ++ [befOf bs o])
    refine ⟨befOf bs o :: tl, by simp [befs, h1], fun j o' h => ?_⟩
    cases j with
    | zero => simp at h; subst h; simp
    | succ j => simpa using h2 j o' (by simpa using h)
/-- A set of operations that holds whatever must come before. -/
def Closed (ops : List Oper) (L : Nat → Prop) : Prop := ∀ (i : Nat) (o : Oper), ops[i]? = some o → L i → ∀ e ∈ o.after.toList, Region.binds .any e = true → L e.on
theorem bef_in {ops : List Oper} {L : Nat → Prop} (hc : Closed ops L) (he : ∀ (j : Nat) (o : Oper), ops[j]? = some o → edgesOk j o = true) : ∀ (j : Nat) (o : Oper) (bj : List Nat), ops[j]? = some o → (befs ops [])[j]? = some bj →
    (∀ e ∈ o.after.toList, Region.binds .any e = true → L e.on) → ∀ i ∈ bj, L i := by
  obtain ⟨tl, h1, h2⟩ := befs_spec (l := ops) (bs := [])
  simp only [List.nil_append] at h1
  rw [h1]
  intro j
  induction j using Nat.strongRecOn with
  | _ j ih =>
    intro o bj ho hb ha i hi
    have h3 := h2 j o ho
    simp only [List.nil_append] at h3
    obtain rfl : bj = befOf (tl.take j) o := Option.some.inj (hb.symm.trans h3)
    obtain ⟨e, hem, hbd, hie⟩ := mem_befOf hi
    · have hlt : e.on < j := by
        have := List.all_eq_true.1 (he j o ho) e hem
        rw [hbd] at this
        simpa using this
      rcases hie with rfl | hie
      · exact ha e hem hbd
      · have hjl : j < tl.length := (List.getElem?_eq_some_iff.1 hb).1
        have h4 : (tl.take j).getD e.on [] = tl.getD e.on [] := by
          simp [List.getD, List.getElem?_take, hlt]
        rw [h4] at hie
        have hol : e.on < ops.length := Nat.lt_trans hlt (List.getElem?_eq_some_iff.1 ho).1
        have h5 : tl[e.on]? = some tl[e.on] := List.getElem?_eq_getElem (by omega)
        have hie' : i ∈ tl[e.on] := by simpa [List.getD, h5] using hie
        exact ih e.on hlt _ _ (List.getElem?_eq_getElem hol) h5 (hc _ _ (List.getElem?_eq_getElem hol) (ha e hem hbd)) i hie'
def Ref (x y : SV) : Prop := y = x ∨ ∃ b, x.bool? = some b ∧ y = cb b
theorem Ref.refl (x : SV) : Ref x x := .inl rfl
theorem Ref.trans {x y z : SV} (h : Ref x y) (k : Ref y z) : Ref x z := by
  rcases h with rfl | ⟨b, hb, rfl⟩
  · exact k
  · rcases k with rfl | ⟨b', hb', rfl⟩
    · exact .inr ⟨b, hb, rfl⟩
    · have : b = b' := by simpa [cb, SV.bool?] using hb'
      subst this
      exact .inr ⟨b, hb, rfl⟩
theorem Ref.rel {w : World} {ok may : Nat → Prop} {ow : Ow} {m : Mem} {x y : SV} {v : Value} (h : Ref x y) (hx : SVRel w ok may ow m x v) : SVRel w ok may ow m y v := by
  rcases h with rfl | ⟨b, hb, rfl⟩
  · exact hx
  · rw [bool?_rel hx hb]; exact rfl
structure Ent where
  s : S
  v : SV
  m : Mem
  wt : Bool
structure StepE (C : Cals) (T : Tab) (N B : Nat) (all : List Oper) (j : Nat) (s : S) (o : Oper) (e : Ent) : Prop where
  m : e.s.m = s.m
  ref : ∀ t, Ref (s.get t) (e.s.get t)
  dst : dstOk N o.dst = true
  new : isNew o = true → e.wt = true ∧ e.v = .box (B + j) 0 ∧ e.m = e.s.m ∧ (newBox T o).isSome = true
  yes : isNew o = false → e.wt = true → evalOp C T e.s o mk = some (e.v, e.m) ∧ (o.guard = none ∨ ∃ g want d, o.guard = some (g, want) ∧ (all[g]?).bind (·.dst) = some d ∧ e.s.get d = cb want)
  no : e.wt = false → e.v = .tup [] ∧ e.m = e.s.m ∧ ∃ g want d, o.guard = some (g, want) ∧ (all[g]?).bind (·.dst) = some d ∧ (e.s.get d = cb (!want) ∨ isVoid (e.s.get d) = true)
def Chain (C : Cals) (T : Tab) (N B : Nat) (all : List Oper) : Nat → S → List Oper → List Ent → S → Prop
  | _, s, [], [], s' => s' = s
  | j, s, o :: r, e :: es, s' => StepE C T N B all j s o e ∧ Chain C T N B all (j + 1) (e.s.put o.dst e.v e.m) r es s'
  | _, _, _, _, _ => False
def logsOf (C : Cals) (B : Nat) : Nat → List Oper → List Ent → List LogE
  | j, o :: r, e :: es => logD C B j e.s o e.wt e.m :: logsOf C B (j + 1) r es
  | _, _, _ => []
theorem evalG_chain {C : Cals} {T : Tab} {N B : Nat} {all : List Oper} {j : Nat} {R : Type} {r : R} {s : S} {o : Oper} {c : S → Bool → SV → Mem → Option R} (hd : dstOk N o.dst = true) (hnew : isNew o = false) (h : evalG C T all o s c = some r) :
    ∃ e : Ent, StepE C T N B all j s o e ∧ c e.s e.wt e.v e.m = some r := by
  unfold evalG at h
  have nn : ∀ {p : Prop}, isNew o = true → p := fun h => by rw [hnew] at h; cases h
  have yes : ∀ s' : S, s'.m = s.m → (∀ t, Ref (s.get t) (s'.get t)) → (o.guard = none ∨ ∃ g want d, o.guard = some (g, want) ∧ (all[g]?).bind (·.dst) = some d ∧ s'.get d = cb want) → evalOp C T s' o (fun v m => c s' true v m) = some r → ∃ e : Ent, StepE C T N B all j s o e ∧ c e.s e.wt e.v e.m = some r := by
    intro s' e hr hg h
    rw [evalOp_cps] at h
    obtain ⟨p, h1, h2⟩ := Option.bind_eq_some_iff.1 h
    exact ⟨⟨s', p.1, p.2, true⟩, ⟨e, hr, hd, nn, fun _ _ => ⟨h1, hg⟩, fun e => by cases e⟩, h2⟩
  split at h
  · rename_i hg
    exact yes s rfl (fun t => Ref.refl _) (.inl hg) h
  · rename_i g want hg
    split at h
    case h_1 => cases h
    rename_i d hdd
    cases hvd : isVoid (s.get d) with
    | true =>
      rw [hvd] at h
      exact ⟨⟨s, .tup [], s.m, false⟩, ⟨rfl, fun t => Ref.refl _, hd, nn, fun _ => (by intro e; cases e), fun _ => ⟨rfl, rfl, g, want, d, hg, hdd, .inr hvd⟩⟩, h⟩
    | false =>
    rw [hvd] at h
    simp only [cond_false] at h
    split at h
    case h_1 => cases h
    rename_i b hb
    have hr : ∀ b', b = b' → ∀ t, Ref (s.get t) ((s.refine (.tmp d) b').get t) := by
      rintro _ rfl t
      rw [get_refine]
      split
      · rename_i e; subst e; exact .inr ⟨b, hb, rfl⟩
      · exact Ref.refl _
    have no : ∀ b', b = b' → want = !b' → c (s.refine (.tmp d) b') false (.tup []) (s.refine (.tmp d) b').m = some r → ∃ e : Ent, StepE C T N B all j s o e ∧ c e.s e.wt e.v e.m = some r := by
      intro b' e hw h
      exact ⟨⟨s.refine (.tmp d) b', .tup [], (s.refine (.tmp d) b').m, false⟩, ⟨refine_m _ _ _, hr b' e, hd, nn, (fun _ e => by cases e), fun _ => ⟨rfl, rfl, g, want, d, hg, hdd, .inl (by rw [get_refine, if_pos rfl, hw, Bool.not_not])⟩⟩, h⟩
    have self : ∀ b', (s.refine (.tmp d) b').get d = cb b' := fun b' => by rw [get_refine, if_pos rfl]
    cases b with
    | true =>
      cases want with
      | true => exact yes _ (refine_m _ _ _) (hr true rfl) (.inr ⟨g, true, d, hg, hdd, self true⟩) h
      | false => exact no true rfl rfl h
    | false =>
      cases want with
      | true => exact no false rfl rfl h
      | false => exact yes _ (refine_m _ _ _) (hr false rfl) (.inr ⟨g, false, d, hg, hdd, self false⟩) h
theorem evalOpsD_chain {C : Cals} {T : Tab} {N B : Nat} {all : List Oper} {R : Type} {r : R} {c : List LogE → S → Option R} : ∀ {l : List Oper} {lg : List LogE} {s : S}, evalOpsD C T N B all l lg s c = some r →
    ∃ es s', Chain C T N B all lg.length s l es s' ∧ c (lg ++ logsOf C B lg.length l es) s' = some r
  | [], lg, s, h => ⟨[], s, rfl, by simpa [logsOf, evalOpsD] using h⟩
  | o :: l, lg, s, h => by
    obtain ⟨hd, h⟩ := cond_none h
    cases hn : isNew o with
    | true =>
      rw [hn] at h
      simp only [cond_true] at h
      split at h
      · rename_i bx hbx
        obtain ⟨es, s', h3, h4⟩ := evalOpsD_chain h
        refine ⟨⟨s, .box (B + lg.length) 0, s.m, true⟩ :: es, s', ⟨⟨rfl, fun t => Ref.refl _, hd, fun _ => ⟨rfl, rfl, rfl, by rw [hbx]; rfl⟩, (fun e => by rw [hn] at e; cases e), fun e => by cases e⟩, ?_⟩, ?_⟩
        · simpa using h3
        · simpa [logsOf, logD, hn] using h4
      · cases h
    | false =>
      rw [hn] at h
      simp only [cond_false] at h
      obtain ⟨e, h1, h2⟩ := evalG_chain (B := B) (j := lg.length) hd hn h
      obtain ⟨es, s', h3, h4⟩ := evalOpsD_chain h2
      exact ⟨e :: es, s', ⟨h1, by simpa using h3⟩, by simpa [logsOf, logD, hn] using h4⟩
/-- The state in which operation number j was looked at; behind the last, the last. -/
def stAt (es : List Ent) (s' : S) (j : Nat) : S := match es[j]? with
  | some e => e.s
  | none => s'
theorem Chain.len {C : Cals} {T : Tab} {N B : Nat} {all : List Oper} : ∀ {n : Nat} {s : S} {l : List Oper} {es : List Ent} {s' : S}, Chain C T N B all n s l es s' → es.length = l.length
  | n, s, [], [], s', h => rfl
  | n, s, o :: r, e :: es, s', h => by simp [Chain.len h.2]
  | n, s, [], _ :: _, s', h => h.elim
  | n, s, _ :: _, [], s', h => h.elim
theorem Chain.first {C : Cals} {T : Tab} {N B : Nat} {all : List Oper} : ∀ {n : Nat} {s : S} {l : List Oper} {es : List Ent} {s' : S}, Chain C T N B all n s l es s' → (stAt es s' 0).m = s.m ∧ ∀ t, Ref (s.get t) ((stAt es s' 0).get t)
  | n, s, [], [], s', h => by obtain rfl := h; exact ⟨rfl, fun t => Ref.refl _⟩
  | n, s, o :: r, e :: es, s', h => ⟨h.1.m, h.1.ref⟩
  | n, s, [], _ :: _, s', h => h.elim
  | n, s, _ :: _, [], s', h => h.elim
theorem Chain.at {C : Cals} {T : Tab} {N B : Nat} {all : List Oper} : ∀ {n : Nat} {s : S} {l : List Oper} {es : List Ent} {s' : S}, Chain C T N B all n s l es s' → ∀ (j : Nat) (o : Oper) (e : Ent), l[j]? = some o → es[j]? = some e →
    (∃ s0, StepE C T N B all (n + j) s0 o e) ∧ (stAt es s' (j + 1)).m = e.m ∧ ∀ t, Ref ((e.s.put o.dst e.v e.m).get t) ((stAt es s' (j + 1)).get t)
  | n, s, [], [], s', h, j, o, e, ho, he => by simp at ho
  | n, s, o0 :: r, e0 :: es, s', h, j, o, e, ho, he => by
    cases j with
    | zero =>
      simp at ho he
      subst ho he
      have := h.2.first
      refine ⟨⟨s, h.1⟩, ?_, ?_⟩
      · show (stAt es s' 0).m = _
        rw [this.1, put_m]
      · exact this.2
    | succ j =>
      have := h.2.at j o e (by simpa using ho) (by simpa using he)
      rw [show n + (j + 1) = n + 1 + j by omega]
      exact this
  | n, s, [], _ :: _, s', h, j, o, e, ho, he => h.elim
  | n, s, _ :: _, [], s', h, j, o, e, ho, he => h.elim
theorem logsOf_get {C : Cals} {B : Nat} : ∀ {n : Nat} {l : List Oper} {es : List Ent} {j : Nat} {o : Oper} {e : Ent}, l[j]? = some o → es[j]? = some e → (l.zip (logsOf C B n l es))[j]? = some (o, logD C B (n + j) e.s o e.wt e.m)
  | n, [], es, j, o, e, h, k => by simp at h
  | n, _ :: _, [], j, o, e, h, k => by simp at k
  | n, o0 :: l, e0 :: es, j, o, e, h, k => by
    cases j with
    | zero => simp at h k; subst h k; simp [logsOf]
    | succ j =>
      have := logsOf_get (C := C) (B := B) (n := n + 1) (l := l) (es := es) (j := j) (o := o) (e := e) (by simpa using h) (by simpa using k)
      rw [show n + (j + 1) = n + 1 + j by omega]
      simpa [logsOf] using this
end Go.Fx
