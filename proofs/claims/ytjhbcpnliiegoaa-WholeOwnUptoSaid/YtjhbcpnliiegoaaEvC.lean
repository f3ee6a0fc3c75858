/- What an operation leaves alone. -/
import Derived.Test.YtjhbcpnliiegoaaEvB
namespace Go.Fx
open Go Go.RowKit
set_option linter.unusedVariables false
set_option linter.unusedSimpArgs false
section
variable {T : Tab} {C : Cals} {m m2 : Mem}
/-- All but 'ids' is as it was, and what is new comes behind. -/
structure Leaves (ids : List Nat) (m m' : Mem) : Prop where
  rows : ∀ i, i < m.rows.length → 2 * i ∉ ids → m'.row? i = m.row? i
  boxes : ∀ i, i < m.boxes.length → 2 * i + 1 ∉ ids → m'.box? i = m.box? i
  lr : m.rows.length ≤ m'.rows.length
  lb : m.boxes.length ≤ m'.boxes.length
theorem Leaves.refl (ids : List Nat) (m : Mem) : Leaves ids m m := ⟨fun _ _ _ => rfl, fun _ _ _ => rfl, Nat.le_refl _, Nat.le_refl _⟩
theorem Leaves.trans {x : List Nat} {m m1 m2 : Mem} (h : Leaves x m m1) (k : Leaves x m1 m2) : Leaves x m m2 :=
  ⟨fun i hi hn => (k.rows i (Nat.lt_of_lt_of_le hi h.lr) hn).trans (h.rows i hi hn), fun i hi hn => (k.boxes i (Nat.lt_of_lt_of_le hi h.lb) hn).trans (h.boxes i hi hn), Nat.le_trans h.lr k.lr, Nat.le_trans h.lb k.lb⟩
theorem Leaves.mono {x y : List Nat} {m m' : Mem} (h : Leaves x m m') (hs : ∀ i ∈ x, i ∈ y) : Leaves y m m' :=
  ⟨fun i hi hn => h.rows i hi fun hx => hn (hs _ hx), fun i hi hn => h.boxes i hi fun hx => hn (hs _ hx), h.lr, h.lb⟩
theorem Leaves.freeze (l : Leaf) : Leaves (ownR [l]) m (m.freeze l) := by
  cases l with
  | own r =>
    refine ⟨fun i hi hn => ?_, fun _ _ _ => rfl, by simp [Mem.freeze], Nat.le_refl _⟩
    rw [row?_freeze, if_neg]
    intro e; subst e; simp [ownR] at hn
  | _ => exact Leaves.refl _ _
theorem Leaves.freezeAll : ∀ (ls : List Leaf) (m : Mem), Leaves (ownR ls) m (m.freezeAll ls)
  | [], m => Leaves.refl _ _
  | l :: ls, m => by
    have h1 : Leaves (ownR (l :: ls)) m (m.freeze l) := (Leaves.freeze l).mono fun i hi => ownR_mem (by simp) i hi
    have h2 : Leaves (ownR (l :: ls)) (m.freeze l) ((m.freeze l).freezeAll ls) := (Leaves.freezeAll ls (m.freeze l)).mono fun i hi => by
      obtain ⟨l', hl, he⟩ := List.mem_filterMap.1 hi
      exact List.mem_filterMap.2 ⟨l', by simp [hl], he⟩
    exact h1.trans h2
theorem Leaves.set (r : Nat) (x : Option Row) : Leaves [2 * r] m ⟨m.rows.set r x, m.boxes⟩ :=
  ⟨fun i hi hn => by rw [row?_set, if_neg]; rintro ⟨rfl, _⟩; simp at hn, fun _ _ _ => rfl, by simp, Nat.le_refl _⟩
theorem Leaves.setBox (b : Nat) (x : Option Box) : Leaves [2 * b + 1] m ⟨m.rows, m.boxes.set b x⟩ :=
  ⟨fun _ _ _ => rfl, fun i hi hn => by rw [box?_set, if_neg]; rintro ⟨rfl, _⟩; simp at hn, Nat.le_refl _, by simp⟩
theorem Leaves.add (l : List (Option Row)) : Leaves [] m ⟨m.rows ++ l, m.boxes⟩ :=
  ⟨fun i hi _ => by rw [row?_app, if_pos hi], fun _ _ _ => rfl, by simp, Nat.le_refl _⟩
theorem Leaves.addBox (l : List (Option Box)) : Leaves [] m ⟨m.rows, m.boxes ++ l⟩ :=
  ⟨fun _ _ _ => rfl, fun i hi _ => by rw [box?_app, if_pos hi], Nat.le_refl _, by simp⟩
theorem Leaves.newRow {row : Row} {sv : SV} {m' : Mem} (h : newRow m row Go.Fx.mk = some (sv, m')) : Leaves [] m m' := by
  simp only [Go.Fx.newRow, Go.Fx.mk, Option.some.injEq, Prod.mk.injEq] at h
  rw [← h.2]; exact Leaves.add _
theorem allLeaves_ids (cs : List Cmp) : ownR (allLeaves cs) = cs.flatMap fun c => ownR c.leaves := by
  induction cs with
  | nil => rfl
  | cons c cs ih => simp only [allLeaves, List.flatMap_cons, ownR, List.filterMap_append] at ih ⊢; rw [ih]
theorem Leaves.nilMono {x : List Nat} {m m' : Mem} (h : Leaves [] m m') : Leaves x m m' := h.mono fun i hi => by simp at hi
theorem deep_owns (m : Mem) (v : SV) : ∀ i ∈ v.owns, i ∈ v.deep m := by
  intro i hi
  cases v with
  | box b o => simp [SV.owns] at hi; subst hi; exact List.mem_cons_self
  | fb g b => simp [SV.owns] at hi; subst hi; exact List.mem_cons_self
  | _ => exact hi
theorem ownIds_mem {r : Nat} {ls : List Leaf} (h : r ∈ ownIds ls) : 2 * r ∈ ownR ls := by
  obtain ⟨l, hl, he⟩ := List.mem_filterMap.1 h
  cases l <;> simp at he
  subst he
  exact List.mem_filterMap.2 ⟨_, hl, rfl⟩
theorem owns_flat : ∀ {svs : List SV} {cs : List Cmp}, seqOf (svs.map SV.cmp?) = some cs → ∀ i ∈ ownR (allLeaves cs), i ∈ svs.flatMap SV.owns := by
  intro svs cs h i hi
  rw [allLeaves_ids] at hi
  have h1 := seqOf_some h
  clear h
  induction svs generalizing cs with
  | nil => cases cs with
    | nil => exact hi
    | cons => simp at h1
  | cons v svs ih => cases cs with
    | nil => simp at h1
    | cons c cs =>
      simp only [List.map_cons, List.cons.injEq] at h1
      simp only [List.flatMap_cons, List.mem_append] at hi ⊢
      rcases hi with hi | hi
      · exact .inl (by rw [cmp?_owns h1.1]; exact hi)
      · exact .inr (ih hi h1.2)
theorem xrest_sub (rcv : Option Rcv) (nilr : Bool) (svs : List SV) : ∀ v ∈ xrest rcv nilr svs, v ∈ svs := by
  intro v hv
  cases rcv <;> cases nilr <;> first | exact hv | exact List.mem_of_mem_drop hv
/-- What the lent variable is. -/
theorem xrcv_some {rcv : Option Rcv} {nilr : Bool} {svs : List SV} {p : Option Nat × List Leaf × rcvT rcv} (h : xrcv m rcv nilr svs = some p) :
    (p.1 = none ∧ p.2.1 = []) ∨ ∃ b o bx, p.1 = some b ∧ SV.box b o ∈ svs ∧ m.box? b = some bx ∧ ∀ l ∈ p.2.1, l ∈ bx.ls := by
  cases rcv with
  | none =>
    left
    cases nilr with
    | false => simp only [xrcv] at h; obtain rfl := Option.some.inj h; exact ⟨rfl, rfl⟩
    | true =>
      cases svs with
      | nil => cases h
      | cons sv tl =>
        cases sv <;> try (cases h; done)
        rename_i hh
        cases hh <;> try (cases h; done)
        obtain rfl := Option.some.inj h; exact ⟨rfl, rfl⟩
  | some rc =>
    right
    cases svs with
    | nil => cases nilr <;> cases h
    | cons sv tl =>
    cases sv <;> try (cases nilr <;> cases h; done)
    rename_i b o
    have h : (match m.box? b with
    | some bx => bif (Nat.beq o rc.pre && Nat.beq bx.t rc.t) && Nat.beq bx.ls.length (rc.pre + rc.k.n + rc.post) then (match packK m rc.k ((bx.ls.drop rc.pre).take rc.k.n) with
      | some x => some (some b, (bx.ls.drop rc.pre).take rc.k.n, x)
      | none => none) else none
    | none => none) = some p := h
    cases hb : m.box? b with
    | none => simp [hb] at h
    | some bx =>
      simp only [hb] at h
      obtain ⟨_, h2⟩ := cond_none h
      split at h2
      · obtain rfl := Option.some.inj h2
        exact ⟨b, o, bx, rfl, List.mem_cons_self, hb, fun l hl => List.mem_of_mem_drop (List.mem_of_mem_take hl)⟩
      · cases h2
theorem Leaves.drop {m : Mem} (rs : List Nat) {ids : List Nat} (h : ∀ r ∈ rs, 2 * r ∈ ids) : Leaves ids m (dropRows m rs) := by
  refine ⟨fun i hi hn => ?_, fun _ _ _ => rfl, by rw [dropRows_len]; exact Nat.le_refl _, Nat.le_refl _⟩
  rw [dropRows_row, if_neg]
  intro hr
  exact hn (h i hr)
theorem callX_leaves {xg : XSig} {svs : List SV} {sv : SV} {m' : Mem} (h : callX m xg svs mk = some (sv, m')) : Leaves (svs.flatMap fun v => v.deep m) m m' := by
  have hD : ∀ i ∈ svs.flatMap SV.owns, i ∈ svs.flatMap fun v => v.deep m := by
    intro i hi
    obtain ⟨v, hv, he⟩ := List.mem_flatMap.1 hi
    exact List.mem_flatMap.2 ⟨v, hv, deep_owns m v i he⟩
  unfold callX at h
  split at h
  case h_1 => cases h
  rename_i cs hcs
  simp only at h
  have hL : ∀ i ∈ ownR (allLeaves cs), i ∈ svs.flatMap fun v => v.deep m := fun i hi => hD i (by
    obtain ⟨v, hv, he⟩ := List.mem_flatMap.1 (owns_flat hcs i hi)
    exact List.mem_flatMap.2 ⟨v, xrest_sub _ _ _ v hv, he⟩)
  have h1 : Leaves (svs.flatMap fun v => v.deep m) m (bif xg.pown then m else m.freezeAll (allLeaves cs)) := by
    cases xg.pown with
    | true => exact Leaves.refl _ _
    | false => exact (Leaves.freezeAll _ _).mono hL
  have hbx1 : (bif xg.pown then m else m.freezeAll (allLeaves cs)).boxes = m.boxes := by
    cases xg.pown with
    | true => rfl
    | false =>
      have : ∀ (ls : List Leaf) (m : Mem), (m.freezeAll ls).boxes = m.boxes := by
        intro ls
        induction ls with
        | nil => intro m; rfl
        | cons l ls ih => intro m; show ((m.freeze l).freezeAll ls).boxes = _; rw [ih]; cases l <;> rfl
      exact this _ _
  generalize (bif xg.pown then m else m.freezeAll (allLeaves cs)) = m1 at h h1 hbx1
  split at h
  case h_1 => cases h
  rename_i p hp
  obtain ⟨_, h⟩ := cond_none h
  split at h
  · cases h
  · obtain ⟨y, _, h⟩ := Option.bind_eq_some_iff.1 h
    rw [caseN_eq] at h
    split at h
    case h_2 => cases h
    rename_i bs q3 hbs _
    simp only [mk, Option.some.injEq, Prod.mk.injEq] at h
    obtain ⟨_, rfl⟩ := h
    have hg : ∀ r ∈ ownIds (p.2.1 ++ bif xg.pown then allLeaves cs else []), 2 * r ∈ svs.flatMap fun v => v.deep m := by
      intro r hr
      have hr := ownIds_mem hr
      simp only [ownR, List.filterMap_append, List.mem_append] at hr
      rcases hr with hr | hr
      · rcases xrcv_some hp with ⟨_, h2⟩ | ⟨b, o, bx, _, h3, h4, h5⟩
        · rw [h2] at hr; simp at hr
        · refine List.mem_flatMap.2 ⟨.box b o, h3, ?_⟩
          have h6 : m.box? b = some bx := by rw [← h4]; unfold Mem.box?; rw [hbx1]
          simp only [SV.deep, h6]
          refine List.mem_cons_of_mem _ ?_
          obtain ⟨l, hl, he⟩ := List.mem_filterMap.1 hr
          exact List.mem_filterMap.2 ⟨l, h5 l hl, he⟩
      · cases hpo : xg.pown with
        | true => rw [hpo] at hr; exact hL _ hr
        | false => rw [hpo] at hr; simp at hr
    have h2 : Leaves (svs.flatMap fun v => v.deep m) m1 (dropRows m1 (ownIds (p.2.1 ++ bif xg.pown then allLeaves cs else []))) := Leaves.drop _ hg
    refine h1.trans ⟨fun i hi hn => ?_, fun i hi hn => ?_, ?_, ?_⟩
    · exact ((row?_app (m := dropRows m1 _) _ i m1.boxes).trans (if_pos (by rw [dropRows_len]; exact hi))).trans (h2.rows i hi hn)
    · have hxb : ∀ (rcv : Option Rcv) (po : Option Nat) (q : List Leaf), xback m1 rcv po q = some bs → bs.length = m1.boxes.length ∧ ∀ j, po ≠ some j → bs[j]? = m1.boxes[j]? := by
        intro rcv po q h
        cases rcv with
        | none => cases po with
          | none => obtain rfl := Option.some.inj h; exact ⟨rfl, fun _ _ => rfl⟩
          | some => cases h
        | some rc => cases po with
          | none => cases h
          | some b =>
            simp only [xback] at h
            split at h
            · obtain rfl := Option.some.inj h
              exact ⟨by simp, fun j hj => List.getElem?_set_ne (fun e => hj (by rw [e]))⟩
            · cases h
      obtain ⟨hl, hj⟩ := hxb _ _ _ hbs
      show ((bs ++ _)[i]?).bind id = _
      rw [List.getElem?_append_left (by rw [hl]; exact hi), hj i ?_]
      · rfl
      · intro e
        rcases xrcv_some hp with ⟨h3, _⟩ | ⟨b, o, bx, h3, h4, _⟩
        · rw [h3] at e; cases e
        · rw [h3] at e
          obtain rfl := Option.some.inj e
          exact hn (List.mem_flatMap.2 ⟨_, h4, List.mem_cons_self⟩)
    · simp [dropRows_len]
    · have hxb : ∀ (rcv : Option Rcv) (po : Option Nat) (q : List Leaf), xback m1 rcv po q = some bs → bs.length = m1.boxes.length := by
        intro rcv po q h
        cases rcv with
        | none => cases po with
          | none => obtain rfl := Option.some.inj h; rfl
          | some => cases h
        | some rc => cases po with
          | none => cases h
          | some b =>
            simp only [xback] at h
            split at h
            · obtain rfl := Option.some.inj h; simp
            · cases h
      show _ ≤ (bs ++ _).length
      rw [List.length_append, hxb _ _ _ hbs]; omega
theorem frzV_owns (m : Mem) (v : SV) : ∀ i ∈ (frzV m v).owns, i ∈ v.owns := by
  intro i hi
  cases v with
  | mpo r =>
    simp only [frzV] at hi
    split at hi
    · simp [SV.owns, ownR, Cmp.leaves] at hi
    · simp [SV.owns] at hi
  | _ => exact hi
theorem mpLs_owns (vs : List SV) : ∀ i ∈ ownR (mpLs vs), i ∈ vs.flatMap SV.owns := by
  intro i hi
  obtain ⟨l, hl, he⟩ := List.mem_filterMap.1 hi
  obtain ⟨v, hv, hl⟩ := List.mem_filterMap.1 hl
  cases v <;> simp at hl
  subst hl
  simp at he
  subst he
  exact List.mem_flatMap.2 ⟨_, hv, by simp [SV.owns]⟩
theorem owns_flat' : ∀ {svs : List SV} {cs : List Cmp}, seqOf (svs.map SV.cmp?) = some cs → svs.flatMap SV.owns = ownR (allLeaves cs) := by
  intro svs cs h
  rw [allLeaves_ids]
  have h1 := seqOf_some h
  clear h
  induction svs generalizing cs with
  | nil => cases cs with
    | nil => rfl
    | cons => simp at h1
  | cons v svs ih => cases cs with
    | nil => simp at h1
    | cons c cs =>
      simp only [List.map_cons, List.cons.injEq] at h1
      simp only [List.flatMap_cons]
      rw [cmp?_owns h1.1, ih h1.2]
theorem callE_leaves {m0 : Mem} {svs : List SV} {g : FuncId} {sv : SV} {m' : Mem} (h : callE C m0 g svs mk = some (sv, m')) : Leaves (svs.flatMap SV.owns) m0 m' := by
  unfold callE at h
  split at h
  case h_2 => cases h
  rename_i sg cs hC hcs
  simp only at h
  obtain ⟨_, h⟩ := cond_none h
  split at h
  · cases h
  · obtain ⟨y, hy, h⟩ := Option.bind_eq_some_iff.1 h
    split at h
    · cases h
    · simp only [mk, Option.some.injEq, Prod.mk.injEq] at h
      rw [← h.2, owns_flat' hcs]
      refine Leaves.trans (m1 := if sg.md.isShared = true then m0.freezeAll (allLeaves cs) else m0) ?_ (Leaves.add _).nilMono
      split
      · exact Leaves.freezeAll _ _
      · exact Leaves.refl _ _
theorem putE_leaves {T : Tab} {t : TypeId} {x k v : SV} {sv : SV} {m' : Mem} (h : putE T m t x k v (fun m' => mk .undef m') = some (sv, m')) : Leaves x.owns m m' := by
  unfold putE at h
  split at h
  case h_2 => cases h
  split at h
  case h_2 => cases h
  obtain ⟨_, h⟩ := cond_none h
  simp only [mk, Option.some.injEq, Prod.mk.injEq] at h
  rw [← h.2]
  exact Leaves.set _ _
theorem callF_leaves {T : Tab} {svs : List SV} {g : FuncId} {sv : SV} {m' : Mem} (h : callF C T m g svs mk = some (sv, m')) : Leaves [] m m' := by
  unfold callF at h
  split at h
  case h_2 => cases h
  obtain ⟨_, h⟩ := cond_none h
  split at h
  · cases h
  · obtain ⟨y, hy, h⟩ := Option.bind_eq_some_iff.1 h
    split at h
    · cases h
    · simp only [mk, Option.some.injEq, Prod.mk.injEq] at h
      rw [← h.2]
      exact (Leaves.add _).nilMono
theorem cloOf_owns {sv : SV} {p : FuncId × SV} (h : cloOf sv = some p) : p.2.owns = [] := by
  unfold cloOf at h
  split at h
  · obtain rfl := Option.some.inj h; rfl
  · cases h
theorem callIO_leaves {ig : IoSig} {svs : List SV} {sv : SV} {m' : Mem} (h : callIO m ig svs mk = some (sv, m')) : Leaves (svs.flatMap SV.owns) m m' := by
  have one : ∀ {v : SV} {m1 : Mem}, mk v m1 = some (sv, m') → m' = m1 := by
    intro v m1 h
    simp only [mk, Option.some.injEq, Prod.mk.injEq] at h
    exact h.2.symm
  cases svs with
  | nil => simp [callIO] at h
  | cons z l =>
    simp only [callIO] at h
    split at h
    case h_2 => cases h
    rename_i r0 off len cs hp hcs
    try simp only at h
    split at h
    · cases h
    · split at h
      · cases h
      · obtain ⟨_, h⟩ := cond_none h
        split at h
        · cases h
        · obtain ⟨y, hy, h⟩ := Option.bind_eq_some_iff.1 h
          split at h
          · obtain ⟨_, h⟩ := cond_none h
            rw [one h]
            simp only [List.flatMap_cons]
            rw [owns_flat' hcs, part?_sub hp]
            exact ((Leaves.freezeAll _ _).mono fun i hi => List.mem_append_right _ hi).trans ((Leaves.set (m := m.freezeAll (allLeaves cs)) r0 _).mono fun i hi => List.mem_append_left _ hi)
          · cases h
theorem callGv_leaves {gg : GvSig} {svs : List SV} {sv : SV} {m' : Mem} (h : callGv m gg svs mk = some (sv, m')) : Leaves (svs.flatMap SV.owns) m m' := by
  cases svs with
  | nil => simp [callGv] at h
  | cons z l =>
    simp only [callGv] at h
    split at h
    case h_2 => cases h
    rename_i r cs hp hcs
    split at h
    · cases h
    · split at h
      · cases h
      · obtain ⟨_, h⟩ := cond_none h
        split at h
        · cases h
        · obtain ⟨y, hy, h⟩ := Option.bind_eq_some_iff.1 h
          split at h
          · simp only [mk, Option.some.injEq, Prod.mk.injEq] at h
            rw [← h.2]
            simp only [List.flatMap_cons, leaf?_owns hp]
            exact ((Leaves.set (m := m) r none).mono fun i hi => List.mem_append_left _ hi).trans (Leaves.add _).nilMono
          · cases h
theorem callCl_leaves {T : Tab} {e : TypeId} {n b : Nat} {svs : List SV} {sv : SV} {m' : Mem} (h : callCl T m e n b svs mk = some (sv, m')) : Leaves (svs.flatMap SV.owns) m m' := by
  unfold callCl at h
  split at h
  case h_2 => cases h
  split at h
  case h_2 => cases h
  split at h
  case h_2 => cases h
  obtain ⟨_, h⟩ := cond_none h
  exact (Leaves.newRow h).nilMono
theorem callPt_leaves {g : FuncId} {sg : Sig} {svs : List SV} {sv : SV} {m' : Mem} (h : callPt m g sg svs mk = some (sv, m')) : Leaves (svs.flatMap SV.owns) m m' := by
  unfold callPt at h
  split at h
  case h_2 => cases h
  rename_i t _
  cases t with
  | true => exact callE_leaves h
  | false =>
    simp only [cond_false, mk, Option.some.injEq, Prod.mk.injEq] at h
    rw [← h.2]; exact Leaves.refl _ _
theorem callO_leaves {T : Tab} {q : Oth} {svs : List SV} {sv : SV} {m' : Mem} (h : callO T m q svs mk = some (sv, m')) : Leaves (svs.flatMap SV.owns) m m' := by
  cases q with
  | io ig => exact callIO_leaves h
  | gv gg => exact callGv_leaves h
  | cl e n b => exact callCl_leaves h
  | pt g sg => exact callPt_leaves h
theorem write_leaves {s : S} {o : Oper} {sv : SV} {m' : Mem} (h : evalOp C T s o mk = some (sv, m')) : Leaves (writesOf s o) s.m m' := by
  cases hw : isW C s o with
  | false => rw [(quiet_local hw h).1]; exact Leaves.refl _ _
  | true =>
    obtain ⟨dst, op, ty, pos, after, guard⟩ := o
    have one : ∀ {v : SV} {m1 : Mem}, mk v m1 = some (sv, m') → m' = m1 := by
      intro v m1 h
      simp only [mk, Option.some.injEq, Prod.mk.injEq] at h
      exact h.2.symm
    cases op <;> simp only [isW] at hw <;> try (cases hw; done)
    all_goals simp only [evalOp, writesOf] at h ⊢
    case store t x v =>
      cases hv : (s.opd v).cmp? with
      | none => simp [hv] at h
      | some cv =>
        simp only [hv] at h
        unfold storeE at h
        split at h
        case h_1 => cases h
        rename_i ag n ht
        obtain ⟨_, h⟩ := cond_none h
        split at h
        · rename_i r i o' hx
          simp only at h
          split at h
          · obtain ⟨_, h⟩ := cond_none h
            split at h
            · have e := one (v := .undef) h
              subst e
              have h1 : Leaves ((s.opd x).owns ++ (s.opd v).owns) s.m (s.m.freezeAll cv.leaves) := (Leaves.freezeAll _ _).mono fun i hi => by rw [cmp?_owns hv]; exact List.mem_append_right _ hi
              refine h1.trans ((Leaves.set (m := s.m.freezeAll cv.leaves) r _).mono fun i hi => ?_)
              simp at hi; subst hi
              exact List.mem_append_left _ (by try (rw [hx]); simp [SV.owns])
            · cases h
          · cases h
        · rename_i b o' hx
          split at h
          · obtain ⟨_, h⟩ := cond_none h
            have e := one (v := .undef) h
            subst e
            refine (Leaves.setBox b _).mono fun i hi => ?_
            simp at hi; subst hi
            exact List.mem_append_left _ (by try (rw [hx]); simp [SV.owns])
          · cases h
        · cases h
    case makeSlice t n q =>
      split at h
      case h_2 => cases h
      split at h
      case h_2 => cases h
      obtain ⟨_, h⟩ := cond_none h
      exact (Leaves.newRow h).nilMono
    case buildSlice t n ps =>
      split at h
      case h_2 => cases h
      split at h
      case h_2 => cases h
      rename_i cs hcs
      try simp only at h
      rcases cond_some h with ⟨hs, h⟩ | ⟨hs, h⟩
      · rw [hs] at hw; cases hw
      obtain ⟨_, h⟩ := cond_none h
      split at h
      case h_2 => cases h
      have hids : (ps.toList.flatMap fun p => (s.opd p.2).owns) = ownR (allLeaves cs) := by
        have h2 : seqOf (((ps.toList.map (·.2)).map s.opd).map SV.cmp?) = some cs := by rw [List.map_map, List.map_map]; exact hcs
        rw [allLeaves_ids, ← owns_cmps h2]
        simp [List.flatMap_map]
      rw [hids]
      exact (Leaves.freezeAll _ _).trans (Leaves.newRow h).nilMono
    case slice t x lo hi mx =>
      cases hsb : isSub C dst with
      | true => rw [hsb] at hw; cases hw
      | false =>
      rw [hsb] at hw h
      simp only [cond_false] at hw h
      split at h
      · rename_i fr xs l q h1 h2 h3 h4
        rw [h1] at hw; cases hw
      · rename_i lx l q hns h1 h2 h3 h4
        split at h
        case h_2 => cases h
        rw [leaf?_owns h1]
        cases lx with
        | val fr k xs => rw [h1] at hw; cases hw
        | nil => simp [sliceE] at h
        | own r =>
          unfold sliceE at h
          simp only at h
          split at h
          · cases h
          · rename_i row hr
            obtain ⟨_, h⟩ := cond_none h
            have cut : ∀ {n : Nat} {lo hi : Option Int} {g : List row.k.T → SV × Mem → Prop} {c : List row.k.T → Option (SV × Mem)} {p : SV × Mem}, cutE n List.take List.drop row.xs lo hi c = some p → ∃ y, c y = some p := by
              intro n lo hi g c p h
              obtain ⟨_, _, _, _, _, _, h⟩ := cutE_some h
              exact ⟨_, h⟩
            split at h
            · obtain ⟨y, h⟩ := cut (g := fun _ _ => True) h
              exact (Leaves.set (m := s.m) r none).trans (Leaves.newRow h).nilMono
            · obtain ⟨y, h⟩ := cut (g := fun _ _ => True) h
              rw [one h]
              exact Leaves.freeze (.own r)
      · rename_i lx l q h1 h2 h3 h4
        split at h
        case h_2 => cases h
        cases lx with
        | val fr k xs => rw [h1] at hw; cases hw
        | nil => simp [slice3E] at h
        | own r => simp [slice3E] at h
      · cases h
    case makeMap t rsv =>
      cases rsv with
      | some x => cases h
      | none => rw [one h]; exact Leaves.add _ |>.nilMono
    case mapUpdate t x k v => exact putE_leaves h
    case insert t x k v => exact putE_leaves h
    case alloc t =>
      split at h
      case h_2 => cases h
      rw [one h]; exact Leaves.addBox _ |>.nilMono
    case box t x =>
      split at h
      case h_2 => cases h
      obtain ⟨_, h⟩ := cond_none h
      rw [one h]; exact Leaves.addBox _ |>.nilMono
    case call q =>
      have hD : ∀ i ∈ q.args.toList.flatMap fun x => (s.opd x).owns, i ∈ q.args.toList.flatMap fun x => (s.opd x).deep s.m := by
        intro i hi
        obtain ⟨v, hv, he⟩ := List.mem_flatMap.1 hi
        exact List.mem_flatMap.2 ⟨v, hv, deep_owns s.m _ i he⟩
      have hM : (q.args.toList.map s.opd).flatMap SV.owns = q.args.toList.flatMap fun x => (s.opd x).owns := by rw [List.flatMap_map]
      have plainCall : ∀ {g : FuncId}, callE C s.m g (q.args.toList.map s.opd) mk = some (sv, m') → Leaves (q.args.toList.flatMap fun x => (s.opd x).owns) s.m m' := fun h => hM ▸ callE_leaves h
      have frzCall : ∀ {g : FuncId}, callE C (frzAll s.m (q.args.toList.map s.opd)) g ((q.args.toList.map s.opd).map (frzV s.m)) mk = some (sv, m') → Leaves (q.args.toList.flatMap fun x => (s.opd x).owns) s.m m' := fun h => by
        rw [← hM]
        refine Leaves.trans ((Leaves.freezeAll _ _).mono (mpLs_owns _)) ((callE_leaves h).mono fun i hi => ?_)
        obtain ⟨v, hv, he⟩ := List.mem_flatMap.1 hi
        obtain ⟨u, hu, rfl⟩ := List.mem_map.1 hv
        exact List.mem_flatMap.2 ⟨u, hu, frzV_owns _ _ i he⟩
      split at h
      · rename_i g hg
        cases hX : C.x g (isNilp (q.args.toList.map s.opd)) with
        | some xg =>
          simp only [hX] at h
          have := callX_leaves h
          simpa [List.flatMap_map] using this
        | none =>
        simp only [hX] at h
        refine Leaves.mono ?_ hD
        cases hio : C.io g with
        | some ig =>
          simp only [hio] at h
          rw [← hM]
          exact callO_leaves h
        | none =>
          simp only [hio] at h
          rcases cond_some h with ⟨_, h⟩ | ⟨_, h⟩
          · exact (callF_leaves h).nilMono
          · exact frzCall h
      · split at h
        · exact (plainCall h).mono hD
        · split at h
          · rename_i p hp
            refine (callE_leaves h).mono fun i hi => ?_
            rw [List.flatMap_append] at hi
            rcases List.mem_append.1 hi with hi | hi
            · exact hD i (hM ▸ hi)
            · simp [cloOf_owns hp] at hi
          · cases h
      · rename_i b hg
        refine Leaves.mono ?_ hD
        obtain ⟨_, h⟩ := cond_none h
        generalize hxs : q.args.toList.map s.opd = xs at h
        have hids : ∀ l, SV.one (.lf l) ∈ xs → ∀ i ∈ ownR [l], i ∈ q.args.toList.flatMap fun x => (s.opd x).owns := by
          intro l hl i hi
          rw [← hxs] at hl
          obtain ⟨x, hx1, hx2⟩ := List.mem_map.1 hl
          exact List.mem_flatMap.2 ⟨x, hx1, by rw [hx2]; exact hi⟩
        unfold builtinE at h
        split at h
        · split at h
          · rw [one h]; exact Leaves.refl _ _
          · cases h
        · split at h
          · rw [one h]; exact Leaves.refl _ _
          · cases h
        · split at h
          · rw [one h]; exact Leaves.refl _ _
          · cases h
        · rename_i l y _
          try simp only at h
          obtain ⟨_, h⟩ := cond_none h
          have hy : Leaves (q.args.toList.flatMap fun x => (s.opd x).owns) s.m (s.m.freeze y) := (Leaves.freeze y).mono (hids y (by simp))
          split at h
          · split at h
            · split at h
              · obtain ⟨_, h⟩ := cond_none h
                exact hy.trans (Leaves.newRow h).nilMono
              · rename_i r _
                split at h
                · split at h
                  · obtain ⟨_, h⟩ := cond_none h
                    refine (hy.trans ((Leaves.set (m := s.m.freeze y) r none).mono (hids (.own r) (by simp)))).trans (Leaves.newRow h).nilMono
                  · cases h
                · cases h
              · cases h
            · cases h
          · cases h
        · rename_i r y _
          try simp only at h
          have hy : Leaves (q.args.toList.flatMap fun x => (s.opd x).owns) s.m (s.m.freeze y) := (Leaves.freeze y).mono (hids y (by simp))
          split at h
          · split at h
            · obtain ⟨_, h⟩ := cond_none h
              rw [one h]
              exact hy.trans ((Leaves.set (m := s.m.freeze y) r _).mono (hids (.own r) (by simp)))
            · cases h
          · cases h
        · rename_i r oo nn gg y _
          try simp only at h
          have hy : Leaves (q.args.toList.flatMap fun x => (s.opd x).owns) s.m (s.m.freeze y) := (Leaves.freeze y).mono (hids y (by simp))
          split at h
          · split at h
            · obtain ⟨_, h⟩ := cond_none h
              rw [one h]
              refine hy.trans ((Leaves.set (m := s.m.freeze y) r _).mono fun i hi => ?_)
              have hl : SV.sub r oo nn gg ∈ q.args.toList.map s.opd := by rw [hxs]; simp
              obtain ⟨x, hx1, hx2⟩ := List.mem_map.1 hl
              exact List.mem_flatMap.2 ⟨x, hx1, by rw [hx2]; exact hi⟩
            · cases h
          · cases h
        · cases h
      · cases h
def wb (m : Mem) (bs : List (Option Box)) : Mem := ⟨m.rows, bs⟩
def mapB (bs : List (Option Box)) : Option (SV × Mem) → Option (SV × Mem) := Option.map fun p => (p.1, wb p.2 bs)
section
variable {bs : List (Option Box)}
theorem mapB_cond (b : Bool) (x y : Option (SV × Mem)) : mapB bs (bif b then x else y) = bif b then mapB bs x else mapB bs y := by cases b <;> rfl
theorem freeze_wb (l : Leaf) : (wb m bs).freeze l = wb (m.freeze l) bs := by cases l <;> rfl
theorem freezeAll_wb : ∀ (ls : List Leaf) (m : Mem), (wb m bs).freezeAll ls = wb (m.freezeAll ls) bs
  | [], m => rfl
  | l :: ls, m => by
    show ((wb m bs).freeze l).freezeAll ls = _
    rw [freeze_wb, freezeAll_wb ls (m.freeze l)]; rfl
theorem agree_wb (ls : List Leaf) : Agree (ownR ls) m (wb m bs) := ⟨fun _ _ => rfl, fun i hi => by
  obtain ⟨l, _, he⟩ := List.mem_filterMap.1 hi
  cases l <;> simp at he
  omega⟩
theorem packArgs_wb {ps : List (Bool × K)} {cs : List Cmp} : packArgs (wb m bs) ps cs = packArgs m ps cs := packArgs_local (by rw [← allLeaves_ids]; exact agree_wb _)
theorem packK_wb {k : K} {ls : List Leaf} : packK (wb m bs) k ls = packK m k ls := packK_local (agree_wb _)
theorem packEach_wb {k : K} : ∀ {cs : List Cmp}, packEach (wb m bs) k cs = packEach m k cs
  | [] => rfl
  | c :: cs => by simp only [packEach, packK_wb, packEach_wb (cs := cs)]
theorem leafData_wb {k : K} {l : Leaf} : leafData (wb m bs) k l = leafData m k l := leafData_local (agree_wb _)
theorem listLen_wb {l : Leaf} : listLen (wb m bs) l = listLen m l := listLen_local (agree_wb _)
theorem leafFr_wb : leafFr (wb m bs) = leafFr m := by funext l; cases l <;> rfl
theorem rowFr_wb {l : Leaf} : rowFr (wb m bs) l = rowFr m l := by cases l <;> rfl
theorem row?_wb {i : Nat} : (wb m bs).row? i = m.row? i := rfl
theorem callE_wb {g : FuncId} {xs : List SV} : callE C (wb m bs) g xs mk = mapB bs (callE C m g xs mk) := by
  unfold callE
  split
  · rename_i sg cs h1 h2
    have e : (if sg.md.isShared = true then (wb m bs).freezeAll (allLeaves cs) else wb m bs) = wb (if sg.md.isShared = true then m.freezeAll (allLeaves cs) else m) bs := by
      split
      · exact freezeAll_wb _ _
      · rfl
    simp only [e, packArgs_wb, leafFr_wb]
    generalize (if sg.md.isShared = true then m.freezeAll (allLeaves cs) else m) = m1
    cases aggOk sg.ps cs with
    | false => rfl
    | true =>
      simp only [cond_true]
      split
      · rfl
      · rename_i x _
        cases sg.fn x with
        | none => rfl
        | some y =>
          simp only [Option.bind_some]
          generalize (!sg.md.isShared || _) = fr
          show (match thaw sg.md.isOwn fr m1.rows.length sg.rs y with | none => none | some q => mk (ofCs q.1) ⟨m1.rows ++ q.2, bs⟩) = mapB bs (match thaw sg.md.isOwn fr m1.rows.length sg.rs y with | none => none | some q => mk (ofCs q.1) ⟨m1.rows ++ q.2, m1.boxes⟩)
          cases thaw sg.md.isOwn fr m1.rows.length sg.rs y <;> rfl
  · rfl
theorem callIO_wb {ig : IoSig} {xs : List SV} : callIO (wb m bs) ig xs mk = mapB bs (callIO m ig xs mk) := by
  unfold callIO
  split
  · rfl
  · split
    · simp only [freezeAll_wb, row?_wb, packArgs_wb]
      split
      · rfl
      · split
        · rfl
        · rename_i zs _
          generalize ((_ && (ig.k.flat && _)) && (aggOk ig.ps _ && _)) = bb
          cases bb with
          | false => rfl
          | true =>
            simp only [cond_true]
            split
            · rfl
            · rename_i x _
              cases ig.fn zs _ _ x with
              | none => rfl
              | some y =>
                simp only [Option.bind_some]
                split
                · rename_i q ws _ _
                  cases Nat.beq (List.length (α := _) ws) _ <;> rfl
                · rfl
    · rfl
theorem callGv_wb {gg : GvSig} {xs : List SV} : callGv (wb m bs) gg xs mk = mapB bs (callGv m gg xs mk) := by
  unfold callGv
  split
  · rfl
  · split
    · simp only [row?_wb, packArgs_wb]
      split
      · rfl
      · split
        · rfl
        · rename_i zs _
          generalize ((_ && _) && (aggOk gg.ps _ && _)) = bb
          cases bb with
          | false => rfl
          | true =>
            simp only [cond_true]
            split
            · rfl
            · rename_i x _
              cases gg.fn zs x with
              | none => rfl
              | some y =>
                simp only [Option.bind_some]
                split <;> rfl
    · rfl
theorem callCl_wb {T : Tab} {e : TypeId} {n b : Nat} {xs : List SV} : callCl T (wb m bs) e n b xs mk = mapB bs (callCl T m e n b xs mk) := by
  unfold callCl
  split
  · split
    · simp only [leafData_wb, rowFr_wb]
      split
      · rw [mapB_cond]; rfl
      · rfl
    · rfl
  · rfl
theorem callPt_wb {g : FuncId} {sg : Sig} {xs : List SV} : callPt (wb m bs) g sg xs mk = mapB bs (callPt m g sg xs mk) := by
  unfold callPt
  split
  · rename_i t _
    cases t with
    | true => exact callE_wb
    | false => rfl
  · rfl
theorem callO_wb {T : Tab} {q : Oth} {xs : List SV} : callO T (wb m bs) q xs mk = mapB bs (callO T m q xs mk) := by
  cases q with
  | io ig => exact callIO_wb
  | gv gg => exact callGv_wb
  | cl e n b => exact callCl_wb
  | pt g sg => exact callPt_wb
theorem builtinE_wb {T : Tab} {b : Builtin} {ts : List TypeId} {xs : List SV} : builtinE T (wb m bs) b ts xs mk = mapB bs (builtinE T m b ts xs mk) := by
  unfold builtinE
  split
  · split <;> rfl
  · simp only [listLen_wb]
    split <;> rfl
  · split <;> rfl
  · simp only [freeze_wb, leafData_wb, rowFr_wb, row?_wb]
    cases slD T (ts[1]?) with
    | false => rfl
    | true =>
      simp only [cond_true]
      split
      · split
        · split
          · rename_i ys _
            generalize decide (_ < lim _) = bb
            cases bb <;> rfl
          · split
            · split
              · generalize (_ && decide (_ < lim _)) = bb
                cases bb <;> rfl
              · rfl
            · rfl
          · rfl
        · rfl
      · rfl
  · simp only [freeze_wb, leafData_wb, rowFr_wb, row?_wb]
    split
    · split
      · generalize (_ && Nat.beq _ _) = bb
        cases bb <;> rfl
      · rfl
    · rfl
  · simp only [freeze_wb, leafData_wb, rowFr_wb, row?_wb]
    split
    · split
      · generalize ((_ && Nat.blt 0 _) && (Nat.beq _ _ && Nat.ble _ _)) = bb
        cases bb <;> rfl
      · rfl
    · rfl
  · rfl
theorem storeAdr_wb {T : Tab} {t : TypeId} {r i o : Nat} {v : Cmp} : storeE T (wb m bs) t (.adr r i o) v (mk .undef) = mapB bs (storeE T m t (.adr r i o) v (mk .undef)) := by
  unfold storeE
  split
  · rfl
  · generalize Nat.beq _ _ = bb
    cases bb with
    | false => rfl
    | true =>
      simp only [cond_true, freezeAll_wb, row?_wb, packK_wb, leafFr_wb]
      split
      · generalize (_ && Nat.ble _ _) = bb
        cases bb with
        | false => rfl
        | true =>
          simp only [cond_true]
          split <;> rfl
      · rfl
theorem sliceE_wb {n : Nat} {x : Leaf} {lo hi : Option Int} : sliceE (wb m bs) n x lo hi mk = mapB bs (sliceE m n x lo hi mk) := by
  have cut : ∀ {α : Type} {n : Nat} {take drop : Nat → α → α} {x : α} {lo hi : Option Int} {f g : α → Option (SV × Mem)}, (∀ y, f y = mapB bs (g y)) → cutE n take drop x lo hi f = mapB bs (cutE n take drop x lo hi g) := by
    intro α n take drop x lo hi f g h
    cases lo <;> cases hi <;> simp only [cutE, h, mapB_cond] <;> rfl
  unfold sliceE
  split
  · generalize Nat.beq n _ = bb
    cases bb with
    | false => rfl
    | true =>
      simp only [cond_true]
      exact cut fun y => rfl
  · simp only [row?_wb]
    split
    · rfl
    · rename_i row _
      generalize Nat.beq n row.k.n = bb
      cases bb with
      | false => rfl
      | true =>
        simp only [cond_true]
        split
        · exact cut fun y => rfl
        · exact cut fun y => by simp only [freeze_wb]; rfl
  · rfl
end
section
variable {bs : List (Option Box)}
theorem sliceStr_wb {x : ByteArray} {lo hi : Option Int} : sliceStr (wb m bs) x lo hi mk = mapB bs (sliceStr m x lo hi mk) := by
  unfold sliceStr
  simp only [mapB_cond]
  rfl
theorem slice3E_wb {n : Nat} {x : Leaf} {h q : Int} : slice3E (wb m bs) n x h q mk = mapB bs (slice3E m n x h q mk) := by
  unfold slice3E
  split
  · simp only [mapB_cond]; rfl
  · rfl
end
/-- Some places left out. -/
def Mem.hide (H : Nat → Bool) (m : Mem) : Mem := wb m (m.boxes.mapIdx fun i b => bif H i then none else b)
theorem hide_len (H : Nat → Bool) (m : Mem) : (m.hide H).boxes.length = m.boxes.length := by simp [Mem.hide, wb]
theorem hide_box (H : Nat → Bool) (m : Mem) (i : Nat) : (m.hide H).box? i = bif H i then none else m.box? i := by
  simp only [Mem.hide, wb, Mem.box?, List.getElem?_mapIdx]
  cases m.boxes[i]? with
  | none => cases H i <;> rfl
  | some b => cases H i <;> rfl
theorem hide_wb {H : Nat → Bool} {m m' : Mem} (h : m'.boxes = m.boxes) : wb m' (m.hide H).boxes = m'.hide H := by
  simp only [Mem.hide, wb, h]
theorem hide_add {H : Nat → Bool} {rows : List (Option Row)} {l : List (Option Box)} {x : Option Box} (h : H l.length = false) : (⟨rows, l ++ [x]⟩ : Mem).hide H = ⟨rows, ((⟨rows, l⟩ : Mem).hide H).boxes ++ [x]⟩ := by
  simp [Mem.hide, wb, List.mapIdx_append, h]
theorem hide_set {H : Nat → Bool} {rows : List (Option Row)} {l : List (Option Box)} {b : Nat} {x : Option Box} (h : H b = false) : (⟨rows, l.set b x⟩ : Mem).hide H = ⟨rows, ((⟨rows, l⟩ : Mem).hide H).boxes.set b x⟩ := by
  simp only [Mem.hide, wb]
  congr 1
  refine List.ext_getElem? fun i => ?_
  simp only [List.getElem?_mapIdx, List.getElem?_set, List.length_mapIdx]
  by_cases hb : b = i
  · subst hb; simp only [if_true]; split <;> simp [h]
  · simp only [hb, if_false]
theorem hide_append {H : Nat → Bool} {rows : List (Option Row)} {l xs : List (Option Box)} (h : ∀ i, l.length ≤ i → H i = false) : (⟨rows, l ++ xs⟩ : Mem).hide H = ⟨rows, ((⟨rows, l⟩ : Mem).hide H).boxes ++ xs⟩ := by
  simp only [Mem.hide, wb, List.mapIdx_append]
  congr 2
  refine List.ext_getElem? fun i => ?_
  rw [List.getElem?_mapIdx]
  cases hx : xs[i]? with
  | none => rfl
  | some b => simp [h (i + l.length) (by omega)]
theorem ownLf_wb {bs : List (Option Box)} : ownLf (wb m bs) = ownLf m := by funext l; cases l <;> rfl
theorem xrcv_hide {H : Nat → Bool} {rcv : Option Rcv} {nilr : Bool} {svs : List SV} {p : Option Nat × List Leaf × rcvT rcv} (h : xrcv m rcv nilr svs = some p) (hH : ∀ b o, SV.box b o ∈ svs → H b = false) : xrcv (m.hide H) rcv nilr svs = some p := by
  cases rcv with
  | none =>
    cases nilr with
    | false => exact h
    | true =>
      cases svs with
      | nil => cases h
      | cons sv tl =>
        cases sv <;> try (cases h; done)
        rename_i hh
        cases hh <;> try (cases h; done)
        exact h
  | some rc =>
    cases svs with
    | nil => cases nilr <;> cases h
    | cons sv tl =>
    cases sv <;> try (cases nilr <;> cases h; done)
    rename_i b o
    have hb0 := hH b o List.mem_cons_self
    have h : (match m.box? b with
    | some bx => bif (Nat.beq o rc.pre && Nat.beq bx.t rc.t) && Nat.beq bx.ls.length (rc.pre + rc.k.n + rc.post) then (match packK m rc.k ((bx.ls.drop rc.pre).take rc.k.n) with
      | some x => some (some b, (bx.ls.drop rc.pre).take rc.k.n, x)
      | none => none) else none
    | none => none) = some p := h
    show (match (m.hide H).box? b with
    | some bx => bif (Nat.beq o rc.pre && Nat.beq bx.t rc.t) && Nat.beq bx.ls.length (rc.pre + rc.k.n + rc.post) then (match packK (m.hide H) rc.k ((bx.ls.drop rc.pre).take rc.k.n) with
      | some x => some (some b, (bx.ls.drop rc.pre).take rc.k.n, x)
      | none => none) else none
    | none => none) = some p
    rw [hide_box, hb0]
    simp only [cond_false]
    have : ∀ ls, packK (m.hide H) rc.k ls = packK m rc.k ls := fun ls => packK_wb
    simp only [this]
    exact h
theorem xback_hide {H : Nat → Bool} {rcv : Option Rcv} {po : Option Nat} {q : List Leaf} {bs : List (Option Box)} (h : xback m rcv po q = some bs) (hH : ∀ b, po = some b → H b = false) : xback (m.hide H) rcv po q = some ((⟨m.rows, bs⟩ : Mem).hide H).boxes ∧ bs.length = m.boxes.length := by
  cases rcv with
  | none => cases po with
    | none => obtain rfl := Option.some.inj h; exact ⟨rfl, rfl⟩
    | some => cases h
  | some rc => cases po with
    | none => cases h
    | some b =>
      simp only [xback] at h ⊢
      rw [hide_box, hH b rfl]
      simp only [cond_false]
      split at h
      · obtain rfl := Option.some.inj h
        refine ⟨?_, by simp⟩
        rw [hide_set (hH b rfl)]
      · cases h
theorem callX_hide {H : Nat → Bool} {xg : XSig} {svs : List SV} {sv : SV} {m' : Mem} (h : callX m xg svs mk = some (sv, m')) (hH : ∀ i, H i = true → i < m.boxes.length ∧ 2 * i + 1 ∉ svs.flatMap fun v => v.deep m) : callX (m.hide H) xg svs mk = some (sv, m'.hide H) := by
  have hbx : ∀ b o, SV.box b o ∈ svs → H b = false := by
    intro b o hb
    cases e : H b with
    | false => rfl
    | true => exact absurd (List.mem_flatMap.2 ⟨_, hb, List.mem_cons_self⟩) (hH b e).2
  have hge : ∀ i, m.boxes.length ≤ i → H i = false := by
    intro i hi
    cases e : H i with
    | false => rfl
    | true => have := (hH i e).1; omega
  unfold callX at h ⊢
  split at h
  case h_1 => cases h
  rename_i cs hcs
  try simp only [hcs]
  simp only at h
  have hm1 : (bif xg.pown then m.hide H else (m.hide H).freezeAll (allLeaves cs)) = (bif xg.pown then m else m.freezeAll (allLeaves cs)).hide H ∧ (bif xg.pown then m else m.freezeAll (allLeaves cs)).boxes = m.boxes := by
    cases xg.pown with
    | true => exact ⟨rfl, rfl⟩
    | false =>
      have hb : ∀ (ls : List Leaf) (m : Mem), (m.freezeAll ls).boxes = m.boxes := by
        intro ls
        induction ls with
        | nil => intro m; rfl
        | cons l ls ih => intro m; show ((m.freeze l).freezeAll ls).boxes = _; rw [ih]; cases l <;> rfl
      refine ⟨?_, hb _ _⟩
      show (m.hide H).freezeAll _ = (m.freezeAll _).hide H
      rw [show m.hide H = wb m (m.hide H).boxes from rfl, freezeAll_wb, hide_wb (hb _ _)]
  rw [hm1.1]
  have hb1 := hm1.2
  clear hm1
  generalize (bif xg.pown then m else m.freezeAll (allLeaves cs)) = m1 at h hb1 ⊢
  split at h
  case h_1 => cases h
  rename_i p hp
  rw [xrcv_hide hp hbx]
  simp only
  obtain ⟨hc, h⟩ := cond_none h
  have hlf : leafFr (m1.hide H) = leafFr m1 := leafFr_wb
  have hol : ownLf (m1.hide H) = ownLf m1 := ownLf_wb
  have hpa : packArgs (m1.hide H) xg.ps cs = packArgs m1 xg.ps cs := packArgs_wb
  rw [hlf, hol, hc, hpa]
  simp only [cond_true]
  split at h
  · cases h
  · rename_i x hx
    obtain ⟨y, hy, h⟩ := Option.bind_eq_some_iff.1 h
    try simp only [hx]
    rw [hy]
    simp only [Option.bind_some]
    rw [caseN_eq] at h ⊢
    split at h
    case h_2 => cases h
    rename_i bs q3 hbs hq3
    have hpo : ∀ b, p.1 = some b → H b = false := by
      intro b e
      rcases xrcv_some hp with ⟨h3, _⟩ | ⟨b', o, bx, h3, h4, _⟩
      · rw [h3] at e; cases e
      · rw [h3] at e
        obtain rfl := Option.some.inj e
        exact hbx _ _ h4
    obtain ⟨hxb, hbl⟩ := xback_hide hbs hpo
    have hrows : (m1.hide H).rows = m1.rows := rfl
    rw [hrows, hxb, hq3, hide_len]
    simp only [mk, Option.some.injEq, Prod.mk.injEq] at h ⊢
    refine ⟨h.1, ?_⟩
    rw [← h.2, hide_append (fun i hi => hge i (by rw [← hb1, ← hbl]; exact hi))]
    rfl
theorem callF_hide {T : Tab} {H : Nat → Bool} {g : FuncId} {svs : List SV} {sv : SV} {m' : Mem} (h : callF C T m g svs mk = some (sv, m')) (hH : ∀ i, H i = true → i < m.boxes.length ∧ 2 * i + 1 ∉ svs.flatMap fun v => v.deep m) : callF C T (m.hide H) g svs mk = some (sv, m'.hide H) := by
  have e1 : svs.map (fbC T (m.hide H)) = svs.map (fbC T m) := List.map_congr_left fun v hv => by
    cases v with
    | fb g b =>
      have hb : H b = false := by
        cases e : H b with
        | false => rfl
        | true => exact absurd (List.mem_flatMap.2 ⟨_, hv, List.mem_cons_self⟩) (hH b e).2
      have hp : ∀ k ls, packK (m.hide H) k ls = packK m k ls := fun k ls => packK_wb
      simp only [fbC, hide_box, hb, cond_false, hp]
    | _ => rfl
  have e2 : ∀ ps cs, packArgs (m.hide H) ps cs = packArgs m ps cs := fun ps cs => packArgs_wb
  unfold callF at h ⊢
  rw [e1]
  split at h
  case h_2 => cases h
  rename_i sg cs hC hcs
  try simp only [hC, hcs]
  obtain ⟨hb, h⟩ := cond_none h
  rw [hb, e2]
  simp only [cond_true]
  split at h
  · cases h
  · rename_i x hx
    try simp only [hx]
    obtain ⟨y, hy, h⟩ := Option.bind_eq_some_iff.1 h
    rw [hy]
    simp only [Option.bind_some]
    have hr : (m.hide H).rows = m.rows := rfl
    rw [hr]
    split at h
    · cases h
    · rename_i q hq
      try simp only [hq]
      simp only [mk, Option.some.injEq, Prod.mk.injEq] at h ⊢
      refine ⟨h.1, ?_⟩
      rw [← h.2]
      exact hide_wb (m' := ⟨m.rows ++ q.2, m.boxes⟩) rfl
theorem frzAll_wb {bs : List (Option Box)} (vs : List SV) : frzAll (wb m bs) vs = wb (frzAll m vs) bs := freezeAll_wb _ _
theorem frzV_wb {bs : List (Option Box)} : frzV (wb m bs) = frzV m := by funext v; cases v <;> rfl
theorem putE_wb {bs : List (Option Box)} {T : Tab} {t : TypeId} {x k v : SV} : putE T (wb m bs) t x k v (mk .undef) = mapB bs (putE T m t x k v (mk .undef)) := by
  unfold putE
  split
  · rw [row?_wb]
    split
    · rw [mapB_cond]; rfl
    · rfl
  · rfl
theorem write_hide {s : S} {o : Oper} {sv : SV} {m' : Mem} {H : Nat → Bool} (h : evalOp C T s o mk = some (sv, m')) (hw : isW C s o = true) (hH : ∀ i, H i = true → i < s.m.boxes.length ∧ 2 * i + 1 ∉ writesOf s o) :
    evalOp C T ⟨s.fr, s.m.hide H⟩ o mk = some (sv, m'.hide H) := by
  have hlen : H s.m.boxes.length = false := by
    cases e : H s.m.boxes.length with
    | false => rfl
    | true => have := (hH _ e).1; omega
  have opd : ∀ x, (⟨s.fr, s.m.hide H⟩ : S).opd x = s.opd x := fun x => opd_mem s _ x
  have hwb : s.m.hide H = wb s.m (s.m.hide H).boxes := rfl
  have lift : ∀ {x : Option (SV × Mem)}, x = some (sv, m') → m'.boxes = s.m.boxes → mapB (s.m.hide H).boxes x = some (sv, m'.hide H) := by
    intro x hx hb
    rw [hx]
    show some (sv, wb m' (s.m.hide H).boxes) = _
    rw [hide_wb hb]
  have one : ∀ {v : SV} {m1 : Mem}, mk v m1 = some (sv, m') → v = sv ∧ m1 = m' := by
    intro v m1 h
    simp only [mk, Option.some.injEq, Prod.mk.injEq] at h
    exact h
  have rowsOnly : ∀ {o : Oper}, evalOp C T s o mk = some (sv, m') → (∀ bs, evalOp C T ⟨s.fr, wb s.m bs⟩ o mk = mapB bs (evalOp C T s o mk)) → evalOp C T ⟨s.fr, s.m.hide H⟩ o mk = some (sv, m'.hide H) := by
    intro o h hr
    have hb : m'.boxes = s.m.boxes := by
      have := hr s.m.boxes
      rw [h] at this
      have e : (⟨s.fr, wb s.m s.m.boxes⟩ : S) = s := rfl
      rw [e, h] at this
      simp only [mapB, Option.map_some, Option.some.injEq, Prod.mk.injEq, true_and] at this
      rw [this]; rfl
    rw [hwb, hr]
    exact lift h hb
  have opw : ∀ (bs : List (Option Box)) x, (⟨s.fr, wb s.m bs⟩ : S).opd x = s.opd x := fun bs x => opd_mem s _ x
  obtain ⟨dst, op, ty, pos, after, guard⟩ := o
  cases op <;> simp only [isW] at hw <;> try (cases hw; done)
  case store t x v =>
    cases hv : (s.opd v).cmp? with
    | none => simp [evalOp, hv] at h
    | some cv =>
      cases hx : s.opd x with
      | adr r i o' =>
        refine rowsOnly h fun bs => ?_
        simp only [evalOp, opw, hv, hx]
        exact storeAdr_wb
      | box b o' =>
        simp only [evalOp, opd, hv, hx, writesOf] at h hH ⊢
        have hnb : H b = false := by
          cases e : H b with
          | false => rfl
          | true => exact absurd (List.mem_append_left _ (by simp [SV.owns])) (hH b e).2
        cases ht : tyN T t with
        | none => simp [storeE, ht] at h
        | some p =>
          obtain ⟨ag, n⟩ := p
          simp only [storeE, ht] at h ⊢
          obtain ⟨hb1, h⟩ := cond_none h
          simp only [hb1, cond_true, hide_box, hnb, cond_false]
          cases hbx : s.m.box? b with
          | none => simp [hbx] at h
          | some bx =>
            simp only [hbx] at h ⊢
            obtain ⟨hb2, h⟩ := cond_none h
            simp only [hb2, cond_true]
            obtain ⟨rfl, rfl⟩ := one (v := .undef) h
            show some (_, _) = _
            rw [hide_set hnb]
            rfl
      | undef => cases ht : tyN T t <;> simp [evalOp, hv, hx, storeE, ht] at h
      | one c => cases ht : tyN T t <;> simp [evalOp, hv, hx, storeE, ht] at h
      | tup c => cases ht : tyN T t <;> simp [evalOp, hv, hx, storeE, ht] at h
      | ref c => cases ht : tyN T t <;> simp [evalOp, hv, hx, storeE, ht] at h
      | sub a b c d => cases ht : tyN T t <;> simp [evalOp, hv, hx, storeE, ht] at h
      | pbox a b c => cases ht : tyN T t <;> simp [evalOp, hv, hx, storeE, ht] at h
      | hd a => cases ht : tyN T t <;> simp [evalOp, hv, hx, storeE, ht] at h
      | tupp a b => cases ht : tyN T t <;> simp [evalOp, hv, hx, storeE, ht] at h
      | mpo a => cases ht : tyN T t <;> simp [evalOp, hv, hx, storeE, ht] at h
      | fb a b => cases ht : tyN T t <;> simp [evalOp, hv, hx, storeE, ht] at h
      | hsl a b c d => cases ht : tyN T t <;> simp [evalOp, hv, hx, storeE, ht] at h
  case makeSlice t n q =>
    refine rowsOnly h fun bs => ?_
    simp only [evalOp, opw]
    split
    · split
      · rw [mapB_cond]; rfl
      · rfl
    · rfl
  case buildSlice t n ps =>
    refine rowsOnly h fun bs => ?_
    simp only [evalOp, opw, freezeAll_wb, leafFr_wb, packK_wb, packArgs_wb]
    split
    · split
      · rw [mapB_cond, mapB_cond, mapB_cond, packEach_wb, packEach_wb]
        congr 1
        · congr 1
          split <;> rfl
        · congr 1
          split <;> rfl
      · rfl
    · rfl
  case makeMap t rsv =>
    cases rsv with
    | some x => cases h
    | none => exact rowsOnly h fun bs => rfl
  case mapUpdate t x k v =>
    refine rowsOnly h fun bs => ?_
    simp only [evalOp, opw]
    exact putE_wb
  case insert t x k v =>
    refine rowsOnly h fun bs => ?_
    simp only [evalOp, opw]
    exact putE_wb
  case alloc t =>
    simp only [evalOp] at h ⊢
    split at h
    · rename_i ti hT
      obtain ⟨rfl, rfl⟩ := one h
      simp only [hT, hide_len]
      show some (_, _) = _
      rw [hide_add hlen]
      rfl
    · cases h
  case box t x =>
    simp only [evalOp, opd] at h ⊢
    split at h
    · rename_i ti v hT hv
      obtain ⟨hb, h⟩ := cond_none h
      obtain ⟨rfl, rfl⟩ := one h
      simp only [hT, hv, hb, cond_true, hide_len]
      show some (_, _) = _
      rw [hide_add hlen]
      rfl
    · cases h
  case slice t x lo hi mx =>
    refine rowsOnly h fun bs => ?_
    cases hsb : isSub C dst with
    | true => rw [hsb] at hw; cases hw
    | false =>
    have oi : ∀ y, optInt (⟨s.fr, wb s.m bs⟩ : S) y = optInt s y := fun y => by cases y <;> simp [optInt, opw]
    simp only [evalOp, opw, oi, hsb, cond_false]
    split
    · split
      · exact sliceStr_wb
      · rfl
    · split
      · exact sliceE_wb
      · rfl
    · split
      · exact slice3E_wb
      · rfl
    · rfl
  case call q =>
    cases hc : q.callee with
    | invoke r m => rw [evalOp] at h; simp only [hc] at h; cases h
    | value f =>
      by_cases hX : ∃ g xg, f = .func g ∧ C.x g (isNilp (q.args.toList.map s.opd)) = some xg
      · obtain ⟨g, xg, rfl, hX⟩ := hX
        have oq : q.args.toList.map (⟨s.fr, s.m.hide H⟩ : S).opd = q.args.toList.map s.opd := List.map_congr_left fun x _ => opd x
        simp only [evalOp, hc, hX] at h
        simp only [evalOp, hc, oq, hX]
        refine callX_hide h fun i hi => ?_
        have := hH i hi
        refine ⟨this.1, ?_⟩
        have h2 := this.2
        simp only [writesOf] at h2
        simpa [List.flatMap_map] using h2
      · by_cases hF : ∃ g, f = .func g ∧ C.io g = none ∧ (q.args.toList.map s.opd).any isFb = true
        · obtain ⟨g, rfl, hio, hfb⟩ := hF
          have hX2 : C.x g (isNilp (q.args.toList.map s.opd)) = none := by
            cases e : C.x g (isNilp (q.args.toList.map s.opd)) with
            | none => rfl
            | some xg => exact absurd ⟨g, xg, rfl, e⟩ hX
          have oq : q.args.toList.map (⟨s.fr, s.m.hide H⟩ : S).opd = q.args.toList.map s.opd := List.map_congr_left fun x _ => opd x
          simp only [evalOp, hc, hX2, hio, hfb, cond_true] at h
          simp only [evalOp, hc, oq, hX2, hio, hfb, cond_true]
          refine callF_hide h fun i hi => ?_
          have := hH i hi
          refine ⟨this.1, ?_⟩
          have h2 := this.2
          simp only [writesOf] at h2
          simpa [List.flatMap_map] using h2
        refine rowsOnly h fun bs => ?_
        have oq : q.args.toList.map (⟨s.fr, wb s.m bs⟩ : S).opd = q.args.toList.map s.opd := List.map_congr_left fun x _ => opw bs x
        simp only [evalOp, oq, hc, opw]
        cases f with
        | func g =>
          cases hX2 : C.x g (isNilp (q.args.toList.map s.opd)) with
          | some xg => exact absurd ⟨g, xg, rfl, hX2⟩ hX
          | none =>
            simp only [hX2, frzAll_wb, frzV_wb]
            split
            · rename_i hio
              cases hfb : (q.args.toList.map s.opd).any isFb with
              | true => exact absurd ⟨g, rfl, hio, hfb⟩ hF
              | false => exact callE_wb
            · exact callO_wb
        | tmp t =>
          simp only
          split
          · exact callE_wb
          · split
            · exact callE_wb
            · rfl
        | _ => rfl
    | builtin b =>
    refine rowsOnly h fun bs => ?_
    have oq : q.args.toList.map (⟨s.fr, wb s.m bs⟩ : S).opd = q.args.toList.map s.opd := List.map_congr_left fun x _ => opw bs x
    simp only [evalOp, oq, hc]
    rw [mapB_cond, builtinE_wb]; rfl
end
end Go.Fx
