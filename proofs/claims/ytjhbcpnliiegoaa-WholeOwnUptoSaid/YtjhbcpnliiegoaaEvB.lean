/- What an operation reads, and what it leaves alone. -/
import Derived.Test.YtjhbcpnliiegoaaEvA
namespace Go.Fx
open Go Go.RowKit
set_option linter.unusedVariables false
set_option linter.unusedSimpArgs false
def mk (v : SV) (m : Mem) : Option (SV × Mem) := some (v, m)
/-- Two memories that are alike where it is looked. -/
def Agree (ids : List Nat) (m m' : Mem) : Prop := (∀ i, 2 * i ∈ ids → m'.row? i = m.row? i) ∧ (∀ i, 2 * i + 1 ∈ ids → m'.box? i = m.box? i)
theorem Agree.sub {x y : List Nat} {m m' : Mem} (h : Agree y m m') (hs : ∀ i ∈ x, i ∈ y) : Agree x m m' := ⟨fun i hi => h.1 i (hs _ hi), fun i hi => h.2 i (hs _ hi)⟩
section
variable {T : Tab} {C : Cals} {m m2 : Mem}
theorem leafData_local {k : K} {l : Leaf} (h : Agree (ownR [l]) m m2) : leafData m2 k l = leafData m k l := by
  cases l with
  | own r => simp only [leafData]; rw [h.1 r (by simp [ownR])]
  | _ => rfl
theorem ownR_mem {l : Leaf} {ls : List Leaf} (hl : l ∈ ls) : ∀ i ∈ ownR [l], i ∈ ownR ls := by
  intro i hi
  cases l with
  | own r =>
    simp [ownR] at hi; subst hi
    exact List.mem_filterMap.2 ⟨.own r, hl, rfl⟩
  | _ => simp [ownR] at hi
theorem packK_local : ∀ {k : K} {ls : List Leaf}, Agree (ownR ls) m m2 → packK m2 k ls = packK m k ls
  | .prod a b, ls, h => by
    simp only [packK]
    have h1 : ∀ l' : List Leaf, (∀ l ∈ l', l ∈ ls) → Agree (ownR l') m m2 := fun l' hs => h.sub fun i hi => by
      obtain ⟨l, hl, he⟩ := List.mem_filterMap.1 hi
      exact List.mem_filterMap.2 ⟨l, hs l hl, he⟩
    rw [packK_local (h1 _ fun l hl => List.mem_of_mem_take hl), packK_local (h1 _ fun l hl => List.mem_of_mem_drop hl)]
  | .unit, ls, h => rfl
  | .int q, ls, h => by
    match ls with
    | [] => rfl
    | [l] => exact leafData_local h
    | _ :: _ :: _ => rfl
  | .bool, ls, h => by
    match ls with
    | [] => rfl
    | [l] => exact leafData_local h
    | _ :: _ :: _ => rfl
  | .str, ls, h => by
    match ls with
    | [] => rfl
    | [l] => exact leafData_local h
    | _ :: _ :: _ => rfl
  | .raw, ls, h => by
    match ls with
    | [] => rfl
    | [l] => exact leafData_local h
    | _ :: _ :: _ => rfl
  | .hd, ls, h => by
    match ls with
    | [] => rfl
    | [l] => exact leafData_local h
    | _ :: _ :: _ => rfl
  | .fnc _, ls, h => by
    match ls with
    | [] => rfl
    | [l] => exact leafData_local h
    | _ :: _ :: _ => rfl
  | .mp, ls, h => by
    match ls with
    | [] => rfl
    | [l] => exact leafData_local h
    | _ :: _ :: _ => rfl
  | .rp _, ls, h => by
    match ls with
    | [] => rfl
    | [l] => exact leafData_local h
    | _ :: _ :: _ => rfl
  | .clo _ _, ls, h => by
    match ls with
    | [] => rfl
    | [l] => exact leafData_local h
    | _ :: _ :: _ => rfl
  | .sl _ _, ls, h => by
    match ls with
    | [] => rfl
    | [l] => exact leafData_local h
    | _ :: _ :: _ => rfl
theorem packArgs_local : ∀ {ps : List (Bool × K)} {cs : List Cmp}, Agree (cs.flatMap fun c => ownR c.leaves) m m2 → packArgs m2 ps cs = packArgs m ps cs
  | [], [], _ => rfl
  | [], _ :: _, _ => rfl
  | _ :: _, [], _ => rfl
  | p :: ps, c :: cs, h => by
    simp only [packArgs]
    rw [packK_local (h.sub fun i hi => by simp [hi]), packArgs_local (h.sub fun i hi => by simp only [List.flatMap_cons, List.mem_append]; exact .inr hi)]
theorem thaw_flat {own fr : Bool} : ∀ {rs : List (Bool × K)} (y : argT rs) (n n' : Nat), rs.all (fun p => p.2.flat) = true → thaw own fr n rs y = thaw own fr n' rs y ∧ ∀ q, thaw own fr n rs y = some q → q.2 = []
  | [], y, n, n', h => ⟨rfl, fun q hq => by simp [thaw] at hq; subst hq; rfl⟩
  | p :: rs, y, n, n', h => by
    simp only [List.all_cons, Bool.and_eq_true] at h
    have flat : ∀ (k : K) (x : k.T) (n : Nat), k.flat = true → thawL n (splitK true k x) = (splitK true k x, []) := by
      intro k
      induction k with
      | prod a b iha ihb =>
        intro x n hf
        simp only [K.flat, Bool.and_eq_true] at hf
        have app : ∀ (x y : List Leaf) (n : Nat), (∀ n, thawL n x = (x, [])) → (∀ n, thawL n y = (y, [])) → thawL n (x ++ y) = (x ++ y, []) := by
          intro x y n hx hy
          induction x generalizing n with
          | nil => exact hy n
          | cons l x ih =>
            have h1 := hx n
            match l with
            | .val fr (.sl e k) xs => simp [thawL] at h1
            | .val fr (.int q) xs =>
              have h2 : ∀ n, thawL n x = (x, []) := fun n => by have := hx n; simp only [thawL] at this; injection this with e1 e2; exact Prod.ext (by injection e1) e2
              simp only [List.cons_append, thawL, ih n h2]
            | .val fr .raw xs =>
              have h2 : ∀ n, thawL n x = (x, []) := fun n => by have := hx n; simp only [thawL] at this; injection this with e1 e2; exact Prod.ext (by injection e1) e2
              simp only [List.cons_append, thawL, ih n h2]
            | .val fr .hd xs =>
              have h2 : ∀ n, thawL n x = (x, []) := fun n => by have := hx n; simp only [thawL] at this; injection this with e1 e2; exact Prod.ext (by injection e1) e2
              simp only [List.cons_append, thawL, ih n h2]
            | .val fr (.fnc g) xs =>
              have h2 : ∀ n, thawL n x = (x, []) := fun n => by have := hx n; simp only [thawL] at this; injection this with e1 e2; exact Prod.ext (by injection e1) e2
              simp only [List.cons_append, thawL, ih n h2]
            | .val fr .mp xs =>
              have h2 : ∀ n, thawL n x = (x, []) := fun n => by have := hx n; simp only [thawL] at this; injection this with e1 e2; exact Prod.ext (by injection e1) e2
              simp only [List.cons_append, thawL, ih n h2]
            | .val fr (.rp k) xs =>
              have h2 : ∀ n, thawL n x = (x, []) := fun n => by have := hx n; simp only [thawL] at this; injection this with e1 e2; exact Prod.ext (by injection e1) e2
              simp only [List.cons_append, thawL, ih n h2]
            | .val fr (.clo g k) xs =>
              have h2 : ∀ n, thawL n x = (x, []) := fun n => by have := hx n; simp only [thawL] at this; injection this with e1 e2; exact Prod.ext (by injection e1) e2
              simp only [List.cons_append, thawL, ih n h2]
            | .val fr .bool xs =>
              have h2 : ∀ n, thawL n x = (x, []) := fun n => by have := hx n; simp only [thawL] at this; injection this with e1 e2; exact Prod.ext (by injection e1) e2
              simp only [List.cons_append, thawL, ih n h2]
            | .val fr .str xs =>
              have h2 : ∀ n, thawL n x = (x, []) := fun n => by have := hx n; simp only [thawL] at this; injection this with e1 e2; exact Prod.ext (by injection e1) e2
              simp only [List.cons_append, thawL, ih n h2]
            | .val fr .unit xs =>
              have h2 : ∀ n, thawL n x = (x, []) := fun n => by have := hx n; simp only [thawL] at this; injection this with e1 e2; exact Prod.ext (by injection e1) e2
              simp only [List.cons_append, thawL, ih n h2]
            | .val fr (.prod a b) xs =>
              have h2 : ∀ n, thawL n x = (x, []) := fun n => by have := hx n; simp only [thawL] at this; injection this with e1 e2; exact Prod.ext (by injection e1) e2
              simp only [List.cons_append, thawL, ih n h2]
            | .nil =>
              have h2 : ∀ n, thawL n x = (x, []) := fun n => by have := hx n; simp only [thawL] at this; injection this with e1 e2; exact Prod.ext (by injection e1) e2
              simp only [List.cons_append, thawL, ih n h2]
            | .own q =>
              have h2 : ∀ n, thawL n x = (x, []) := fun n => by have := hx n; simp only [thawL] at this; injection this with e1 e2; exact Prod.ext (by injection e1) e2
              simp only [List.cons_append, thawL, ih n h2]
        exact app _ _ n (fun n => iha _ n hf.1) (fun n => ihb _ n hf.2)
      | sl e k ih => intro x n hf; simp [K.flat] at hf
      | _ => intro x n _; rfl
    have key : ∀ n, (if own then thawL n (splitK true p.2 y.1) else (splitK fr p.2 y.1, [])) = ((if own then splitK true p.2 y.1 else splitK fr p.2 y.1), []) := by
      intro n
      cases own with
      | true => exact flat _ _ _ h.1
      | false => rfl
    simp only [thaw, key]
    obtain ⟨h1, h2⟩ := thaw_flat (own := own) (fr := fr) y.2 n n' h.2
    simp only [List.length_nil, Nat.add_zero]
    rw [← h1]
    refine ⟨rfl, fun q hq => ?_⟩
    cases hm : mkC p.1 (if own = true then splitK true p.2 y.1 else splitK fr p.2 y.1) with
    | none => simp [hm] at hq
    | some c =>
      cases ht : thaw own fr n rs y.2 with
      | none => simp [hm, ht] at hq
      | some z =>
        simp only [hm, ht] at hq
        obtain rfl := Option.some.inj hq
        simpa using h2 z ht
theorem idxAddr_local {n : Nat} {x : Leaf} {i : Int} {R : Type} {c : SV → Option R} (h : Agree (ownR [x]) m m2) : idxAddr m2 n x i c = idxAddr m n x i c := by
  cases x with
  | own r => simp only [idxAddr]; rw [h.1 r (by simp [ownR])]
  | val fr k xs => cases k <;> rfl
  | nil => rfl
theorem part?_sub {x : SV} {q o len : Nat} (h : x.part? = some (q, o, len)) : x.owns = [2 * q] := by
  cases x <;> simp [SV.part?] at h
  obtain ⟨rfl, rfl, rfl⟩ := h
  rfl
theorem idxSub_local {n : Nat} {x : SV} {i : Int} {R : Type} {c : SV → Option R} (h : Agree x.owns m m2) : idxSub m2 n x i c = idxSub m n x i c := by
  unfold idxSub
  split
  · rename_i q o len hp
    rw [h.1 q (by rw [part?_sub hp]; simp)]
  · rfl
theorem convE_local {src dst : TypeId} {x : Leaf} {R : Type} {c : Leaf → Option R} (h : Agree (ownR [x]) m m2) : convE T m2 src dst x c = convE T m src dst x c := by
  cases x with
  | own r =>
    have e := h.1 r (by simp [ownR])
    unfold convE
    split <;> first | rfl | (rename_i h1 h2 h3; cases h3; done) | (rename_i h1 h2 h3; cases h3; rw [e]) | (simp_all; done)
  | val fr k xs => unfold convE; split <;> first | rfl | (rename_i h1 h2; cases h2) | (split <;> first | rfl | simp_all)
  | nil => unfold convE; split <;> first | rfl | simp_all
theorem listLen_local {x : Leaf} (h : Agree (ownR [x]) m m2) : listLen m2 x = listLen m x := by
  cases x with
  | own r => simp only [listLen]; rw [h.1 r (by simp [ownR])]
  | val fr k xs => cases k <;> rfl
  | nil => rfl
theorem loadE_local {t : TypeId} {x : SV} {R : Type} {c : SV → Option R} (h : Agree x.owns m m2) : loadE T m2 t x c = loadE T m t x c := by
  cases x with
  | adr r i o => simp only [loadE]; rw [h.1 r (by simp [SV.owns])]
  | box b o => simp only [loadE]; rw [h.2 b (by simp [SV.owns])]
  | _ => rfl
theorem leaf?_owns {v : SV} {l : Leaf} (h : v.leaf? = some l) : v.owns = ownR [l] := by
  unfold SV.leaf? at h
  split at h
  · obtain rfl := Option.some.inj h; rfl
  · cases h
theorem cmp?_owns {v : SV} {c : Cmp} (h : v.cmp? = some c) : v.owns = ownR c.leaves := by
  unfold SV.cmp? at h
  split at h
  · obtain rfl := Option.some.inj h; rfl
  · cases h
theorem opd_mem (s : S) (m2 : Mem) (x : Operand) : (⟨s.fr, m2⟩ : S).opd x = s.opd x := by cases x <;> rfl
theorem cut_quiet {α : Type} {n : Nat} {take drop : Nat → α → α} {x : α} {lo hi : Option Int} {g : α → SV} {m0 m' : Mem} {sv : SV} (h : cutE n take drop x lo hi (fun y => mk (g y) m0) = some (sv, m')) :
    m' = m0 ∧ ∀ m2, cutE n take drop x lo hi (fun y => mk (g y) m2) = some (sv, m2) := by
  have one : ∀ {v : SV}, mk v m0 = some (sv, m') → m' = m0 ∧ ∀ m2, mk v m2 = some (sv, m2) := by
    intro v h
    simp only [mk, Option.some.injEq, Prod.mk.injEq] at h
    exact ⟨h.2.symm, fun m2 => by simp only [mk, h.1]⟩
  cases lo <;> cases hi <;> simp only [cutE] at h ⊢
  · exact one h
  all_goals
    obtain ⟨hb, h⟩ := cond_none h
    rw [hb]
    exact one h
theorem owns_cmps {s : S} : ∀ {l : List Operand} {cs : List Cmp}, seqOf ((l.map s.opd).map SV.cmp?) = some cs → (l.flatMap fun x => (s.opd x).owns) = cs.flatMap fun c => ownR c.leaves := by
  intro l cs h
  have h1 := seqOf_some h
  clear h
  induction l generalizing cs with
  | nil => cases cs with
    | nil => rfl
    | cons => simp at h1
  | cons a l ih => cases cs with
    | nil => simp at h1
    | cons c cs =>
      simp only [List.map_cons, List.cons.injEq] at h1
      simp only [List.flatMap_cons]
      rw [cmp?_owns h1.1, ih h1.2]
theorem subE_quiet {n : Nat} {x : SV} {lo hi : Option Int} {sv : SV} {m' : Mem} (h : subE m n x lo hi mk = some (sv, m')) : m' = m ∧ ∀ m2, Agree x.owns m m2 → subE m2 n x lo hi mk = some (sv, m2) := by
  unfold subE at h
  split at h
  case h_2 => cases h
  rename_i r hl
  cases hr : m.row? r with
  | none => simp [hr] at h
  | some row =>
    simp only [hr] at h
    obtain ⟨hb, h⟩ := cond_none h
    simp only [mk, Option.some.injEq, Prod.mk.injEq] at h
    refine ⟨h.2.symm, fun m2 ha => ?_⟩
    unfold subE
    rw [hl]
    simp only [ha.1 r (by rw [leaf?_owns hl]; simp [ownR]), hr, hb, cond_true, mk, h.1]
theorem mpOf_local {x : SV} (h : Agree x.owns m m2) : mpOf m2 x = mpOf m x := by
  cases x with
  | mpo r => simp only [mpOf]; rw [h.1 r (by simp [SV.owns])]
  | one c =>
    cases c with
    | lf l =>
      cases l with
      | val fr k x => cases k <;> rfl
      | _ => rfl
    | _ => rfl
  | _ => rfl
theorem lookE_local {t : TypeId} {x k : SV} {ok : Bool} {R : Type} {c : SV → Option R} (h : Agree x.owns m m2) : lookE T m2 t x k ok c = lookE T m t x k ok c := by
  unfold lookE
  rw [mpOf_local h]
theorem noOwn_ids {ls : List Leaf} (h : noOwn ls = true) : ownR ls = [] := by
  refine List.filterMap_eq_nil_iff.2 fun l hl => ?_
  have := List.all_eq_true.1 h l hl
  cases l <;> first | rfl | simp at this
theorem packEach_local {k : K} : ∀ {cs : List Cmp}, Agree (ownR (allLeaves cs)) m m2 → packEach m2 k cs = packEach m k cs
  | [], _ => rfl
  | c :: cs, h => by
    have e : ownR (allLeaves (c :: cs)) = ownR c.leaves ++ ownR (allLeaves cs) := by simp [allLeaves, ownR, List.filterMap_append]
    rw [e] at h
    simp only [packEach]
    rw [packK_local (h.sub fun i hi => List.mem_append_left _ hi), packEach_local (h.sub fun i hi => List.mem_append_right _ hi)]
theorem leafFr_local {l : Leaf} (h : Agree (ownR [l]) m m2) : leafFr m2 l = leafFr m l := by
  cases l with
  | own r => simp only [leafFr]; rw [h.1 r (by simp [ownR])]
  | _ => rfl
theorem deref_owns (v : SV) : v.deref.owns = v.owns := by
  unfold SV.deref
  split
  · rfl
  · rfl
theorem quiet_local {s : S} {o : Oper} (hw : isW C s o = false) {sv : SV} {m' : Mem} (h : evalOp C T s o mk = some (sv, m')) :
    m' = s.m ∧ ∀ m2, Agree (readsOf s o) s.m m2 → evalOp C T ⟨s.fr, m2⟩ o mk = some (sv, m2) := by
  obtain ⟨dst, op, ty, pos, after, guard⟩ := o
  have bnd : ∀ {α : Type} {F : Option α} {g : α → SV}, (F.bind fun l => mk (g l) s.m) = some (sv, m') → m' = s.m ∧ ∀ m2, (F.bind fun l => mk (g l) m2) = some (sv, m2) := by
    intro α F g h
    cases F with
    | none => simp at h
    | some l =>
      simp only [Option.bind_some, mk, Option.some.injEq, Prod.mk.injEq] at h
      exact ⟨h.2.symm, fun m2 => by simp only [Option.bind_some, mk, h.1]⟩
  have one : ∀ {v : SV}, mk v s.m = some (sv, m') → m' = s.m ∧ ∀ m2, mk v m2 = some (sv, m2) := by
    intro v h
    simp only [mk, Option.some.injEq, Prod.mk.injEq] at h
    exact ⟨h.2.symm, fun m2 => by simp only [mk, h.1]⟩
  cases op <;> simp only [isW] at hw <;> try (cases hw; done)
  all_goals simp only [evalOp, readsOf, opd_mem] at h ⊢
  all_goals try (cases h; done)
  case move x => exact ⟨(one h).1, fun m2 _ => (one h).2 m2⟩
  case assign x => exact ⟨(one h).1, fun m2 _ => (one h).2 m2⟩
  case pick q a b =>
    cases hq : (s.opd q).bool? with
    | none => simp [hq] at h
    | some b' =>
      simp only [hq] at h ⊢
      cases b' <;> exact ⟨(one h).1, fun m2 _ => (one h).2 m2⟩
  case binOp op xt x y yt =>
    split at h
    · rename_i lx ly h1 h2
      try simp only [h1, h2]
      rw [binE_cps] at h
      exact ⟨(bnd h).1, fun m2 _ => by rw [binE_cps]; exact (bnd h).2 m2⟩
    · rename_i h1 h2
      try simp only [h1, h2]
      split at h
      · rename_i v hv
        try simp only [hv]
        exact ⟨(one h).1, fun m2 _ => (one h).2 m2⟩
      · cases h
    · cases h
  case nilCheck x =>
    obtain ⟨hp, h⟩ := cond_none h
    refine ⟨(one h).1, fun m2 ha => ?_⟩
    have hp2 : isPtr m2 (s.opd x) = true := by
      revert ha hp
      generalize s.opd x = sv
      intro hp ha
      cases sv <;> simp only [isPtr] at hp ⊢ <;> try (cases hp; done)
      rename_i r i q
      rw [ha.1 r (by simp [SV.owns])]; exact hp
    simp only [hp2, cond_true]
    exact (one h).2 m2
  case unOp op xt x =>
    split at h
    · rename_i lx h1
      try simp only [h1]
      rw [unE_cps] at h
      exact ⟨(bnd h).1, fun m2 _ => by rw [unE_cps]; exact (bnd h).2 m2⟩
    · cases h
  case convert src dst x =>
    split at h
    · rename_i lx h1
      try simp only [h1]
      rw [convE_cps] at h
      exact ⟨(bnd h).1, fun m2 ha => by rw [convE_local (m := s.m) (by rw [← leaf?_owns h1]; exact ha), convE_cps]; exact (bnd h).2 m2⟩
    · cases h
  case extract x i =>
    split at h
    · rename_i cs h1
      split at h
      · rename_i v h2
        try simp only [h1, h2]
        exact ⟨(one h).1, fun m2 _ => (one h).2 m2⟩
      · cases h
    · rename_i hd cs h1
      try simp only [h1]
      split at h
      · exact ⟨(one h).1, fun m2 _ => (one h).2 m2⟩
      · split at h
        · rename_i v h2
          try simp only [h2]
          exact ⟨(one h).1, fun m2 _ => (one h).2 m2⟩
        · cases h
    · cases h
  case indexAddr t x i =>
    cases htb : tblAt C t x with
    | some tb =>
      simp only [htb] at h
      have e : tblE tb (s.opd i).int? (fun v => mk v s.m) = some (sv, m') := h
      cases hi : (s.opd i).int? with
      | none => rw [hi] at e; simp [tblE] at e
      | some ix =>
        rw [hi] at e
        unfold tblE at e
        simp only at e
        obtain ⟨hb, e⟩ := cond_none e
        refine ⟨(one e).1, fun m2 _ => ?_⟩
        simp only [tblE, hb, cond_true]
        exact (one e).2 m2
    | none =>
    simp only [htb] at h
    simp only []
    cases har : arrN T t with
    | some q =>
      obtain ⟨n, sz⟩ := q
      simp only [har] at h
      split at h
      case h_2 => cases h
      rename_i b o ix h1 h2
      obtain ⟨j, hjn, hj, hc⟩ := pickI_some h
      subst hj
      refine ⟨(one hc).1, fun m2 _ => ?_⟩
      show pickI (j : Int) (fun j => mk (SV.box b (o + j * sz)) m2) n = _
      rw [pickI_of hjn]
      exact (one hc).2 m2
    | none =>
    simp only [har] at h
    split at h
    · rename_i n lx ix h1 h2 h3
      try simp only [h1, h2, h3]
      rw [idxAddr_cps] at h
      exact ⟨(bnd (g := id) h).1, fun m2 ha => by rw [idxAddr_local (m := s.m) (by rw [← leaf?_owns h2]; exact ha), idxAddr_cps]; exact (bnd (g := id) h).2 m2⟩
    · rename_i n ix h1 h2 h3
      try simp only [h1, h2, h3]
      cases hb : isHsl (s.opd x) with
      | true =>
        simp only [hb, cond_true] at h ⊢
        rw [idxHsl_cps] at h
        exact ⟨(bnd (g := id) h).1, fun m2 ha => by rw [idxHsl_cps]; exact (bnd (g := id) h).2 m2⟩
      | false =>
      simp only [hb, cond_false] at h ⊢
      rw [idxSub_cps] at h
      exact ⟨(bnd (g := id) h).1, fun m2 ha => by rw [idxSub_local (m := s.m) ha, idxSub_cps]; exact (bnd (g := id) h).2 m2⟩
    · cases h
  case index t x i =>
    split at h
    · rename_i k ag by' fr xs ix h1 h2 h3
      try simp only [h1, h2, h3]
      obtain ⟨hb, h⟩ := cond_none h
      rw [hb]
      exact ⟨(one h).1, fun m2 _ => (one h).2 m2⟩
    · cases h
  case buildSlice t n ps =>
    have hw : isSub C dst = true := by simpa using hw
    split at h
    case h_2 => cases h
    rename_i e e' k ag by' hT
    split at h
    case h_2 => cases h
    rename_i cs hcs
    rw [hw] at h
    simp only [cond_true] at h
    obtain ⟨hb, h⟩ := cond_none h
    split at h
    case h_2 => cases h
    rename_i xs hp
    refine ⟨(one h).1, fun m2 _ => ?_⟩
    have hno : noOwn (allLeaves cs) = true := (Bool.and_eq_true _ _ ▸ hb).2
    have ha : Agree (ownR (allLeaves cs)) s.m m2 := by rw [noOwn_ids hno]; exact ⟨fun i hi => by simp at hi, fun i hi => by simp at hi⟩
    have hf : (allLeaves cs).all (leafFr m2) = (allLeaves cs).all (leafFr s.m) := by
      refine Bool.eq_iff_iff.2 ?_
      simp only [List.all_eq_true]
      exact ⟨fun h l hl => by rw [← leafFr_local (m := s.m) (m2 := m2) (ha.sub (ownR_mem hl))]; exact h l hl, fun h l hl => by rw [leafFr_local (m := s.m) (m2 := m2) (ha.sub (ownR_mem hl))]; exact h l hl⟩
    simp only [hT, hcs, hw, cond_true, hb, packEach_local ha, hp, hf]
    exact (one h).2 m2
  case lookup t x k ok =>
    rw [lookE_cps] at h
    exact ⟨(bnd (g := id) h).1, fun m2 ha => by rw [lookE_local (m := s.m) ha, lookE_cps]; exact (bnd (g := id) h).2 m2⟩
  case load t x =>
    rw [loadE_cps] at h
    exact ⟨(bnd (g := id) h).1, fun m2 ha => by rw [loadE_local (m := s.m) (by rw [deref_owns]; exact ha), loadE_cps]; exact (bnd (g := id) h).2 m2⟩
  case slice t x lo hi mx =>
    have ho : ∀ (m2 : Mem) (y : Option Operand), optInt ⟨s.fr, m2⟩ y = optInt s y := fun m2 y => by cases y with | none => rfl | some z => simp [optInt, opd_mem]
    simp only [ho]
    rcases cond_some h with ⟨hs, h⟩ | ⟨hs, h⟩
    · rw [hs]
      simp only [cond_true]
      split at h
      case h_2 => cases h
      rename_i n l q hn h2 h3 h4
      try simp only [hn, h2, h3, h4]
      exact ⟨(subE_quiet h).1, fun m2 ha => (subE_quiet h).2 m2 ha⟩
    rw [hs] at hw ⊢
    simp only [cond_false] at hw ⊢
    split at h
    · rename_i fr xs l q h1 h2 h3 h4
      try simp only [h1, h2, h3, h4]
      split at h
      case h_2 => cases h
      rename_i k ag by' hT
      try simp only [hT]
      unfold sliceStr at h ⊢
      simp only at h ⊢
      obtain ⟨hb, h⟩ := cond_none h
      rw [hb]
      exact ⟨(one h).1, fun m2 _ => (one h).2 m2⟩
    · rename_i lx l q hns h1 h2 h3 h4
      rw [h1] at hw
      split at h
      case h_2 => cases h
      rename_i n hn
      try simp only [h2, h3, h4]
      cases lx with
      | own r => simp at hw
      | nil => simp [sliceE] at h
      | val fr k xs =>
        cases k <;> simp only [sliceE] at h <;> try (cases h; done)
        obtain ⟨hb, h⟩ := cond_none h
        try simp only [h1, hn, sliceE, hb, cond_true]
        exact ⟨(cut_quiet h).1, fun m2 _ => (cut_quiet h).2 m2⟩
    · rename_i lx l q h1 h2 h3 h4
      split at h
      case h_2 => cases h
      rename_i n hn
      try simp only [h2, h3, h4]
      cases lx with
      | own r => simp [slice3E] at h
      | nil => simp [slice3E] at h
      | val fr k xs =>
        cases k <;> simp only [slice3E] at h <;> try (cases h; done)
        obtain ⟨hb, h⟩ := cond_none h
        obtain ⟨hb2, h⟩ := cond_none h
        try simp only [h1, hn, slice3E, hb, hb2, cond_true]
        exact ⟨(one h).1, fun m2 _ => (one h).2 m2⟩
    · cases h
  case build t ps =>
    split at h
    · rename_i fs k hT
      split at h
      · rename_i cs h1
        split at h
        · rename_i ls h2
          try simp only [hT, h1, h2]
          exact ⟨(one h).1, fun m2 _ => (one h).2 m2⟩
        · cases h
      · cases h
    · cases h
  case makeFunc fn first cap =>
    split at h
    case h_2 => cases h
    rename_i g x h1 h2
    unfold makeF at h
    split at h
    case h_2 => cases h
    rename_i b hb
    simp only [h1, h2, makeF, hb]
    exact ⟨(one h).1, fun m2 _ => (one h).2 m2⟩
  case fieldAddr t x f =>
    split at h
    · rename_i o ft ls h1 h2
      split at h
      · rename_i ag n h3
        try simp only [h1, h2, h3]
        exact ⟨(one h).1, fun m2 _ => (one h).2 m2⟩
      · cases h
    · rename_i o ft r i o' h1 h2
      split at h
      · rename_i row h3
        try simp only [h1, h2]
        refine ⟨(one h).1, fun m2 ha => ?_⟩
        rw [ha.1 r (by rw [← deref_owns, h2]; simp [SV.owns]), h3]
        exact (one h).2 m2
      · cases h
    · rename_i o ft b o' h1 h2
      try simp only [h1, h2]
      exact ⟨(one h).1, fun m2 _ => (one h).2 m2⟩
    · cases h
  case field t x f =>
    split at h
    · rename_i o ft ls h1 h2
      split at h
      · rename_i ag n h3
        obtain ⟨hb, h⟩ := cond_none h
        split at h
        · rename_i v h4
          try simp only [h1, h2, h3, hb, cond_true, h4]
          exact ⟨(one h).1, fun m2 _ => (one h).2 m2⟩
        · cases h
      · cases h
    · cases h
  case call q =>
    have hq : ∀ m2 : Mem, q.args.toList.map (⟨s.fr, m2⟩ : S).opd = q.args.toList.map s.opd := fun m2 => List.map_congr_left fun x _ => opd_mem s m2 x
    simp only [hq]
    split at h
    · rename_i g hg
      rw [hg] at hw
      simp only [Bool.or_eq_false_iff] at hw
      obtain ⟨hX, hio, hmp, hfb, hw⟩ := hw
      have hmp1 := fun m2 : Mem => isMpo_none (m := m2) hmp
      have hX : C.x g (isNilp (q.args.toList.map s.opd)) = none := by simpa using hX
      have hio : C.io g = none := by simpa using hio
      simp only [hX, hio, hfb, cond_false, (hmp1 _).1, (hmp1 _).2] at h
      simp only [hg, hX, hio, hfb, cond_false, (hmp1 _).1, (hmp1 _).2]
      cases hC : C g with
      | none => rw [hC] at hw; simp at hw
      | some sg =>
        rw [hC] at hw
        simp only [Bool.not_eq_eq_eq_not, Bool.not_false, flatSig, Bool.and_eq_true, Bool.not_eq_true'] at hw
        unfold callE at h ⊢
        rw [hC] at h ⊢
        cases hcs : seqOf ((q.args.toList.map s.opd).map SV.cmp?) with
        | none => rw [hcs] at h; cases h
        | some cs =>
          rw [hcs] at h
          have hw1 : sg.md.isShared = false := by simpa using hw.1
          simp only [hw1, Bool.false_eq_true, if_false, Bool.not_false, Bool.true_or] at h ⊢
          obtain ⟨hb, h⟩ := cond_none h
          try simp only [hg, hb, cond_true]
          cases hx : packArgs s.m sg.ps cs with
          | none => simp [hx] at h
          | some x =>
            try simp only [hx] at h
            obtain ⟨y, hy, h⟩ := Option.bind_eq_some_iff.1 h
            cases ht : thaw sg.md.isOwn true s.m.rows.length sg.rs y with
            | none => simp [ht] at h
            | some z =>
              try simp only [ht] at h
              have hz := (thaw_flat (own := sg.md.isOwn) (fr := true) y s.m.rows.length s.m.rows.length hw.2).2 z ht
              rw [hz] at h
              simp only [List.append_nil] at h
              have h' : mk (ofCs z.1) s.m = some (sv, m') := h
              refine ⟨(one h').1, fun m2 ha => ?_⟩
              have hown : (q.args.toList.flatMap fun x => (s.opd x).owns) = cs.flatMap fun c => ownR c.leaves := owns_cmps hcs
              rw [packArgs_local (m := s.m) (by rw [← hown]; exact ha), hx]
              simp only [hy, Option.bind_some]
              rw [← (thaw_flat (own := sg.md.isOwn) (fr := true) y s.m.rows.length m2.rows.length hw.2).1, ht]
              simp only [hz, List.append_nil]
              exact (one h').2 m2
    · rename_i t hg
      rw [hg] at hw
      cases hw
    · rename_i b hg
      rw [hg] at hw
      cases b <;> simp at hw
      obtain ⟨hb, h⟩ := cond_none h
      try simp only [hg, hb, cond_true]
      unfold builtinE at h ⊢
      split at h
      · rename_i fr xs _ heq
        try simp only [heq]
        split at h
        · rename_i k ag by' hT
          try simp only [hT]
          exact ⟨(one h).1, fun m2 _ => (one h).2 m2⟩
        · cases h
      · rename_i l hns _ heq
        split at h
        · rename_i e k ag by' n hT hn
          refine ⟨(one h).1, fun m2 ha => ?_⟩
          have hl : listLen m2 l = listLen s.m l := listLen_local (ha.sub fun i hi => by
            have hex : ∃ x ∈ q.args.toList, s.opd x = .one (.lf l) := by
              have : SV.one (.lf l) ∈ q.args.toList.map s.opd := by rw [heq]; simp
              simpa using this
            obtain ⟨x, hx1, hx2⟩ := hex
            exact List.mem_flatMap.2 ⟨x, hx1, by rw [hx2]; exact hi⟩)
          simp only [hl, hT, hn]
          exact (one h).2 m2
        · cases h
      · rename_i n j z _ heq
        try simp only [heq]
        split at h
        · rename_i e k ag by' hT
          try simp only [hT]
          exact ⟨(one h).1, fun m2 _ => (one h).2 m2⟩
        · cases h
      · simp_all
      · simp_all
      · simp_all
      · cases h
    · cases h
end
end Go.Fx
