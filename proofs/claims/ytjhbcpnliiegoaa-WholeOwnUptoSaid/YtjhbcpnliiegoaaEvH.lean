/- A call that is lent a variable, or given rows: as one operation. -/
import Derived.Test.YtjhbcpnliiegoaaEvG
namespace Go.Fx
open Go Go.RowKit
set_option linter.unusedVariables false
set_option linter.unusedSimpArgs false
section
variable {R : Type} {P : Program} {T : Tab} {w w' : World} {may : Nat → Prop} {ow : Ow} {m : Mem} {r : R}
theorem svs_rel {s : S} {a : Act} (F : FrRel w (okOf ow s.m) may ow s a) : ∀ (l : List Operand), F2 (SVRel w (okOf ow s.m) may ow s.m) (l.map s.opd) (l.map a.eval)
  | [] => trivial
  | x :: l => ⟨opd_rel F x, svs_rel F l⟩
theorem cmps_of {ok : Nat → Prop} {mm : Mem} : ∀ {svs : List SV} {vs : List Value} {cs : List Cmp}, seqOf (svs.map SV.cmp?) = some cs → F2 (SVRel w ok may ow mm) svs vs → F2 (CmpRel w ok may ow) cs vs := by
  intro svs vs cs h
  have h1 := seqOf_some h
  clear h
  intro hF
  induction svs generalizing cs vs with
  | nil => cases cs with
    | nil => obtain rfl := hF.nil_left; trivial
    | cons => simp at h1
  | cons sv svs ih => cases cs with
    | nil => simp at h1
    | cons c cs =>
      simp only [List.map_cons, List.cons.injEq] at h1
      cases vs with
      | nil => exact hF.elim
      | cons v vs => exact ⟨cmp?_rel hF.1 h1.1, ih (cs := cs) h1.2 hF.2⟩
theorem rows_fr_thawL (ls : List Leaf) (n : Nat) : ∀ (i : Nat) (row : Row), (⟨(thawL n ls).2, []⟩ : Mem).row? i = some row → row.fr = true := fun i row h => (thawL_fr ls n i row h).1
theorem drop_len {α : Type} (l : List α) (n : Nat) (h : n ≤ l.length) : (l.drop n).length + n = l.length := by simp; omega
theorem entR_len (G : Gh) (q q' : List Leaf) (rcv : Option Rcv) (nilr : Bool) : (entR G q rcv nilr).2.length = (entR G q' rcv nilr).2.length := by cases rcv <;> cases nilr <;> rfl
/-- The new variable, in the caller's numbers. -/
theorem new_piece {may' : Nat → Prop} {ow1 : Ow} {ext : Mem} (MX : MemRel w' may' ow1 ext) (hmay : ∀ b, may' b → may b) : ∀ {nw : Option New} {y1 : newT nw} {sh n : Nat} {L : List Leaf}, (∀ l ∈ L, UpL l) → n = ow.bb.length →
    (∀ i bx, (xnew sh L nw y1).2[i]? = some bx → ext.box? (sh + i) = some bx) →
    ∃ nbb : List Nat, nbb.length = (xnew n (L.map (shL true ow.rv.length)) nw y1).2.length ∧
      (∀ i bx, (xnew n (L.map (shL true ow.rv.length)) nw y1).2[i]? = some bx → ∃ g vs, nbb[i]? = some g ∧ blk ow1 ext (.box (sh + i)) = some g ∧ w'.heap[g]? = some (.cells vs.toArray bx.t (0, 0)) ∧
        ∀ (bbx : List (Option Nat)) (ok' : Nat → Prop), (∀ b, okOf ow1 ext b → may' b → ok' b) → F2 (LfRel w' ok' may ⟨ow.rv ++ ow1.rv, bbx⟩) bx.ls vs) ∧
      (match (xnew sh L nw y1).1, (xnew n (L.map (shL true ow.rv.length)) nw y1).1 with | none, none => True | some z, some z' => ∀ u, HdRel ow1 z u → HdRel ⟨ow.rv ++ ow1.rv, ow.bb ++ nbb.map some⟩ z' u | _, _ => False) := by
  intro nw
  cases nw with
  | none => intro y1 sh n L hu hn hx; exact ⟨[], rfl, fun i bx e => by simp [xnew] at e, trivial⟩
  | some r1 =>
    intro y1
    cases y1 with
    | none => intro sh n L hu hn hx; exact ⟨[], rfl, fun i bx e => by simp [xnew] at e, fun u h => h⟩
    | some d =>
      intro sh n L hu hn hx
      have hb := hx 0 ⟨r1.t, L⟩ rfl
      rw [Nat.add_zero] at hb
      obtain ⟨g, hg, vs, hcell, hF⟩ := MX.boxes sh _ hb
      refine ⟨[g], rfl, fun i bx e => ?_, fun u hu => ?_⟩
      · cases i with
        | succ i => simp [xnew] at e
        | zero =>
          simp only [xnew, List.getElem?_cons_zero, Option.some.injEq] at e
          subst e
          exact ⟨g, vs, rfl, blk_box hb hg, hcell, fun bbx ok' hok => LfsRel.shiftT (fun b h1 h2 => ⟨hok b h1 h2, hmay b h2⟩) hu hF⟩
      · obtain ⟨g', h1, h2⟩ := hu
        obtain rfl : g = g' := Option.some.inj (Option.some.inj (hg.symm.trans h1))
        refine ⟨g, ?_, h2⟩
        show (ow.bb ++ [some g])[n]? = some (some g)
        rw [hn, List.getElem?_append_right (Nat.le_refl _), Nat.sub_self]; rfl
theorem callX_ok {C : Cals} (CK : CalsOk P C) (M : MemRel w may ow m) (hL : Live C may w ow m) {s : S} {a : Act} (hs : s.m = m) (F : FrRel w (okOf ow m) may ow s a) {o : Oper} {q : Call} (ho : o.op = .call q) {g : FuncId} (hg : q.callee = .value (.func g)) {nn : Bool}
    {xg : XSig} (hC : C.x g nn = some xg) {c : SV → Mem → Option R} (h : callX m xg (q.args.toList.map s.opd) c = some r) : OpGo P may w ow m o a c r := by
  obtain ⟨⟨fn, hf, hn, hbd⟩, hcon⟩ := CK.x g nn xg hC
  have hn' : fn.name ≠ "runtime.NumGoroutine" := by simpa using hn
  have hb' : fn.body ≠ none := by intro e; simp [e] at hbd
  have hexec : (execOp a.eval o).run P w = .ok (.enter g (q.args.toList.map a.eval).toArray) w := by
    have : q.args.map a.eval = (q.args.toList.map a.eval).toArray := by rw [← Array.toList_map]
    rw [← this]
    simp [execOp, ho, resolve, hg, Act.eval, Deferred.ofValue, invoke, callFunc, hf, hn', hb']
  have hF0 : F2 (SVRel w (okOf ow m) may ow m) (q.args.toList.map s.opd) (q.args.toList.map a.eval) := by subst hs; exact svs_rel F _
  generalize q.args.toList.map s.opd = svs at h hF0
  generalize q.args.toList.map a.eval = vals at hexec hF0
  unfold callX at h
  split at h
  case h_1 => cases h
  rename_i cs hcs
  rw [xrest_drop] at hcs
  have hcv : F2 (CmpRel w (okOf ow m) may ow) cs (vals.drop (xn xg.rcv xg.nilr)) := cmps_of hcs (hF0.drop _)
  -- what is looked at alone is written no more
  obtain ⟨m1, hm1, M1, K1, hfz⟩ : ∃ m1, m1 = (bif xg.pown then m else m.freezeAll (allLeaves cs)) ∧ MemRel w may ow m1 ∧ Keep may w ow m w ow m1 ∧ (xg.pown = false → ∀ l ∈ allLeaves cs, Froz m1 l) := by
    cases xg.pown with
    | true => exact ⟨m, rfl, M, Keep.refl _ _ _ _, fun e => by cases e⟩
    | false =>
      obtain ⟨M1, K1⟩ := M.freezeAll (allLeaves cs)
      exact ⟨_, rfl, M1, K1, fun _ => freezeAll_froz _ _⟩
  simp only [← hm1] at h
  have hF1 : F2 (SVRel w (okOf ow m1) may ow m1) svs vals := hF0.imp fun _ _ h => SVRel.keep K1 h
  have hcv1 : F2 (CmpRel w (okOf ow m1) may ow) cs (vals.drop (xn xg.rcv xg.nilr)) := hcv.imp fun _ _ h => CmpRel.keep K1.stay K1.rv h
  split at h
  case h_1 => cases h
  rename_i p hp
  obtain ⟨hb, h⟩ := cond_none h
  simp only [Bool.and_eq_true, Bool.or_eq_true] at hb
  obtain ⟨hagg, hvf, hgv, hnd⟩ := hb
  split at h
  case h_1 => cases h
  rename_i x hx
  obtain ⟨y, hy, h⟩ := Option.bind_eq_some_iff.1 h
  rw [caseN_eq] at h
  split at h
  case h_2 => cases h
  rename_i bs q3 hbs hq3
  rw [List.all_append, Bool.and_eq_true] at hgv
  obtain ⟨G, rv0, ids0, bb, bids, RP, hrc⟩ := rcv_piece M1 hp hF1 hgv.1
  obtain ⟨cs', rows1, rv1, ids1, ht1, md1, hi1, hr1⟩ := args_piece M1 (thawL 0 (rcvL xg.rcv p.2.2)).2.length hagg hcv1 hx (fun e => by have := hgv.2; rw [e] at this; exact this) (fun e => ⟨hfz e, by rcases hvf with h | h; rw [e] at h; cases h; exact h⟩)
  -- the memory that is handed over
  let ids := ownIds (p.2.1 ++ bif xg.pown then allLeaves cs else [])
  have hids : (ids0 ++ ids1).filterMap id = ids := by
    rw [List.filterMap_append, RP.ids, hi1]
    show _ = ownIds _
    rw [ownIds_append]
    cases xg.pown <;> rfl
  have hids0 : (ids0 ++ ids1).filterMap id = ownIds (p.2.1 ++ bif xg.pown then allLeaves cs else []) := hids
  let L0 := (thawL 0 (rcvL xg.rcv p.2.2)).1
  let e0 := entR G L0 xg.rcv xg.nilr
  let ow0 : Ow := ⟨rv0 ++ rv1, bb.map some⟩
  let m0 : Mem := ⟨(thawL 0 (rcvL xg.rcv p.2.2)).2 ++ rows1, e0.2.map some⟩
  have hent : xg.spec.ent G p.2.2 x = some ⟨e0.1 ++ numFrom e0.1.length cs', m0⟩ := by
    show (match thaw xg.pown true (thawL 0 (rcvL xg.rcv p.2.2)).2.length xg.ps x with
      | none => none
      | some z => some _) = _
    rw [ht1]; rfl
  let gone : Nat → Prop := fun b => (∃ i, i ∈ ids ∧ blk ow m1 (.row i) = some b) ∨ ∃ i, i ∈ bids ∧ blk ow m1 (.box i) = some b
  let may' : Nat → Prop := fun b => may b ∧ (b < w.heap.size → ∀ x, blk ow m1 x = some b → gone b)
  have hsub : ∀ b, okOf ow m1 b → may b → may' b := fun b h1 h2 => ⟨h2, fun _ x hx => absurd hx (h1 x)⟩
  have hgm : ∀ b, gone b → may' b := fun b hg => by
    refine ⟨?_, fun _ _ _ => hg⟩
    rcases hg with ⟨i, _, h⟩ | ⟨i, _, h⟩ <;> exact (M1.may_ _ _ h).1
  have hm := hL.new
  have hm' : ∀ b, w.heap.size ≤ b → may' b := fun b hb => ⟨hm b hb, fun h => by omega⟩
  have RvL : RvAt 0 rv0 (rv0 ++ rv1) := fun i v e => by rw [Nat.zero_add, List.getElem?_append_left (List.getElem?_eq_some_iff.1 e).1]; exact e
  have RvR : RvAt (thawL 0 (rcvL xg.rcv p.2.2)).2.length rv1 (rv0 ++ rv1) := fun i v e => by
    rw [← RP.made.len, List.getElem?_append_right (by omega), Nat.add_sub_cancel_left]; exact e
  obtain ⟨M0, hok0, hbl0⟩ := assemble (may' := may') M1 hsub (RP.made.append md1) (made_fr (rows_fr_thawL _ _) (fun i row e => (thaw_fr ht1 i row e).1)) (by rw [hids]; exact hnd) (boxes := e0.2) (bb := bb) (bids := bids) RP.nd RP.lb
    (fun i bx e => by
      obtain ⟨g', b, vs, h1, h2, h3, _, h4, h5⟩ := RP.boxes i bx e
      exact ⟨g', b, vs, h1, h2, h3, h4, fun ok' _ => h5 ok' may' ⟨rv0 ++ rv1, bb.map some⟩ RvL⟩)
    (fun b hb => hgm b (by
      rcases hb with ⟨i, h1, h2⟩ | ⟨i, h1, h2⟩
      · exact .inl ⟨i, by rw [← hids]; exact h1, h2⟩
      · exact .inr ⟨i, h1, h2⟩))
  have hslots : ∀ q ∈ e0.1 ++ numFrom e0.1.length cs', ∃ v, vals[q.1]? = some v ∧ SVRel w (okOf ow0 m0) may' ow0 m0 q.2 v := by
    intro q hq
    rcases List.mem_append.1 hq with hq | hq
    · obtain ⟨v, h1, _, h2⟩ := RP.slots q hq
      exact ⟨v, h1, h2 _ may' ow0 m0 rfl⟩
    · obtain ⟨c', v, h1, h2, h3, h4⟩ := numFrom_mem (hr1 (okOf ow0 m0) may' ow0 (fun b k1 k2 => ⟨hok0 b k1, hsub b k1 k2⟩) RvR) hq
      rw [List.getElem?_drop, RP.ls] at h1
      rw [RP.ls] at h2
      refine ⟨v, by rw [show q.1 = xn xg.rcv xg.nilr + (q.1 - xn xg.rcv xg.nilr) by omega]; exact h1, ?_⟩
      rw [h3]
      exact h4
  have hlen : vals.length = (e0.1 ++ numFrom e0.1.length cs').length := by
    have h1 := (hr1 (okOf ow0 m0) may' ow0 (fun b k1 k2 => ⟨hok0 b k1, hsub b k1 k2⟩) RvR).len
    rw [List.length_append, numFrom_len, RP.ls, h1]
    have := drop_len vals _ RP.lv
    omega
  refine ⟨_, _, h, fun Kp Qp hK => ?_⟩
  unfold Oper.wp
  rw [hexec, Oper.upon_enter]
  refine (hcon w may' ow0 G p.2.2 x y _ vals hm' hL.tab (fun g' tb e => hok0 _ ((K1.stay g' (hL.tab g' tb e).1 (hL.ok g' tb e)).1)) hent M0 hslots hlen hy).mono fun e w' ⟨v, z, ow1, he, hz, MX, hsv, hbbx, hsz, hfr, hos, htp, hout⟩ => ?_
  subst he
  -- what comes back
  have hst : ∀ b, b < w.heap.size → (∀ x, blk ow m1 x = some b → ¬ Gone ids p.1 x) → okOf ow1 z.2 b ∧ w'.heap[b]? = w.heap[b]? := by
    intro b hb hn
    refine hfr b hb fun x0 hx0 => ?_
    rcases hbl0 x0 b hx0 with ⟨i, h1, h2⟩ | ⟨i, h1, h2⟩
    · exact hn _ h2 (show i ∈ ids by rw [← hids]; exact h1)
    · exact hn _ h2 (show p.1 = some i by rw [RP.hp] at h1; simpa using h1)
  have hmay2 : ∀ b x, may' b → b < w.heap.size → blk ow m1 x = some b → Gone ids p.1 x := by
    intro b x0 h1 h2 h3
    rcases h1.2 h2 x0 h3 with ⟨i, h4, h5⟩ | ⟨i, h4, h5⟩
    · obtain rfl := M1.dis _ _ b h5 h3; exact h4
    · obtain rfl := M1.dis _ _ b h5 h3
      show p.1 = some i
      rw [RP.hp] at h4; simpa using h4
  let q1 := thawL 0 (rcvL xg.rcv y.2.2)
  let q2 := thawL q1.2.length (newL xg.nw y.1)
  let e1 := (entR G q1.1 xg.rcv xg.nilr).2
  obtain ⟨q3', hq3', rfl⟩ : ∃ q3', thaw xg.own true (q1.2.length + q2.2.length) xg.rs y.2.1 = some q3' ∧ z = (xres (xnew e1.length q2.1 xg.nw y.1).1 q3'.1, ⟨q1.2 ++ q2.2 ++ q3'.2, (e1 ++ (xnew e1.length q2.1 xg.nw y.1).2).map some⟩) := by
    have hz' : (match thaw xg.own true (q1.2.length + q2.2.length) xg.rs y.2.1 with
      | none => none
      | some q3 => some (xres (xnew e1.length q2.1 xg.nw y.1).1 q3.1, (⟨q1.2 ++ q2.2 ++ q3.2, (e1 ++ (xnew e1.length q2.1 xg.nw y.1).2).map some⟩ : Mem))) = some z := hz
    cases hq : thaw xg.own true (q1.2.length + q2.2.length) xg.rs y.2.1 with
    | none => rw [hq] at hz'; cases hz'
    | some q3' => rw [hq] at hz'; exact ⟨q3', rfl, (Option.some.inj hz').symm⟩
  -- the same, in the caller's numbers
  have hn : m1.rows.length = ow.rv.length := M1.rlen.symm
  have hs1 : thawL m1.rows.length (rcvL xg.rcv y.2.2) = (q1.1.map (shL true ow.rv.length), q1.2) := by
    have := rcvL_shift m1.rows.length xg.rcv y.2.2 0
    rw [Nat.zero_add] at this
    rw [this, hn]
  have hs2 : thawL (m1.rows.length + q1.2.length) (newL xg.nw y.1) = (q2.1.map (shL true ow.rv.length), q2.2) := by
    have := newL_shift m1.rows.length xg.nw y.1 q1.2.length
    rw [show m1.rows.length + q1.2.length = q1.2.length + m1.rows.length by omega, this, hn]
  have hs3 : q3 = (q3'.1.map (shC true ow.rv.length), q3'.2) := by
    have := thaw_more (d := m1.rows.length) xg.own hq3'
    rw [show q1.2.length + q2.2.length + m1.rows.length = m1.rows.length + q1.2.length + q2.2.length by omega] at this
    rw [hs1] at hq3
    simp only at hq3
    rw [hs2] at hq3
    simp only at hq3
    rw [hq3] at this
    rw [Option.some.inj this, hn]
  subst hs3
  have hq1u : ∀ l ∈ q1.1, UpL l := thawL_up _ _ (rcvL_up _ _)
  have hq2u : ∀ l ∈ q2.1, UpL l := thawL_up _ _ (newL_up _ _)
  have hq3u := thaw_up xg.own hq3'
  have he1 : e1.length = bb.length := by
    rw [RP.lb]
    exact entR_len _ _ _ _ _
  have hme : m0.boxes.length = bb.length := by show (e0.2.map some).length = _; rw [List.length_map]; exact RP.lb.symm
  let ext : Mem := ⟨q1.2 ++ q2.2 ++ q3'.2, (e1 ++ (xnew e1.length q2.1 xg.nw y.1).2).map some⟩
  have hrowfr : ∀ i row, ext.row? i = some row → row.fr = true := fun i row e =>
    made_fr (made_fr (rows_fr_thawL _ _) (rows_fr_thawL _ _)) (fun i row e => (thaw_fr hq3' i row e).1) i row e
  have hext : ∀ i bx, (xnew e1.length q2.1 xg.nw y.1).2[i]? = some bx → ext.box? (e1.length + i) = some bx := by
    intro i bx e
    show (((e1 ++ (xnew e1.length q2.1 xg.nw y.1).2).map some)[e1.length + i]?).bind id = some bx
    rw [List.getElem?_map, List.getElem?_append_right (by omega), Nat.add_sub_cancel_left, e]
    rfl
  have hmb : ∀ b, may' b → may b := fun b h => h.1
  obtain ⟨nbb, hnl, hnb, hhd⟩ := new_piece (ow := ow) (may := may) MX hmb (nw := xg.nw) (y1 := y.1) (sh := e1.length) (n := m1.boxes.length) (L := q2.1) hq2u M1.blen.symm hext
  -- the lent variable
  obtain ⟨bxN, hbs1, hbo⟩ : ∃ bxN, bs = setBo m1.boxes bxN p.1 ∧ ∀ b, p.1 = some b → 0 < e1.length ∧ ∃ g vs, ow.bb[b]? = some (some g) ∧ blk ow m1 (.box b) = some g ∧ blk ow1 ext (.box 0) = some g ∧ w'.heap[g]? = some (.cells vs.toArray bxN.t (0, 0)) ∧
      ∀ ok' : Nat → Prop, (∀ b, okOf ow1 ext b ∧ (may' b ∨ (b < w.heap.size ∧ okOf ow m1 b)) → ok' b) → F2 (LfRel w' ok' may ⟨ow.rv ++ ow1.rv, ow.bb ++ nbb.map some⟩) bxN.ls vs := by
    rw [hs1] at hbs
    have hor : xg.rcv = none ∨ ∃ rc, xg.rcv = some rc := by
      generalize xg.rcv = o
      cases o with
      | none => exact .inl rfl
      | some rc => exact .inr ⟨rc, rfl⟩
    rcases hor with hrcv | ⟨rc, hrcv⟩
    · refine ⟨⟨0, []⟩, ?_, ?_⟩
      · have : ∀ (rc : Option Rcv) (po : Option Nat), rc = none → xback m1 rc po (q1.1.map (shL true ow.rv.length)) = some bs → bs = setBo m1.boxes ⟨0, []⟩ po := by
          rintro _ po rfl h
          cases po with
          | none => exact (Option.some.inj h).symm
          | some => cases h
        exact this _ _ hrcv hbs
      · intro b e
        have : ∀ (rc : Option Rcv) (po : Option Nat), rc = none → xback m1 rc po (q1.1.map (shL true ow.rv.length)) = some bs → po = none := by
          rintro _ po rfl h
          cases po with
          | none => rfl
          | some => cases h
        rw [this _ _ hrcv hbs] at e
        cases e
    · obtain ⟨b, bx, γ, vs, hpb, hbx, hbt, hbl, hbb, hγ, hcell, hls, hp1, hp2⟩ := hrc rc hrcv
      have hq1l : q1.1.length = rc.k.n := by
        have : ∀ (o : Option Rcv) (d : rcvT o), o = some rc → (thawL 0 (rcvL o d)).1.length = rc.k.n := by
          rintro _ d rfl
          exact (thawL_len _ _).trans (split_len true rc.k d)
        exact this _ _ hrcv
      have he1' : e1 = [⟨rc.t, raws G 0 rc.pre ++ q1.1 ++ raws G rc.pre rc.post⟩] := by
        have : ∀ (o : Option Rcv) (nilr : Bool), o = some rc → (entR G q1.1 o nilr).2 = [⟨rc.t, raws G 0 rc.pre ++ q1.1 ++ raws G rc.pre rc.post⟩] := by
          rintro _ nilr rfl; cases nilr <;> rfl
        exact this _ _ hrcv
      have hb0 : ext.box? 0 = some ⟨rc.t, raws G 0 rc.pre ++ q1.1 ++ raws G rc.pre rc.post⟩ := by
        show (((e1 ++ (xnew e1.length q2.1 xg.nw y.1).2).map some)[0]?).bind id = _
        rw [he1']; rfl
      have hg1 : ow1.bb[0]? = some (some γ) := by
        rw [hbbx 0 (by show 0 < m0.boxes.length; rw [hme, hbb]; simp)]
        show (bb.map some)[0]? = _
        rw [hbb]; rfl
      obtain ⟨us, k1, k2, k3⟩ := rcv_back (bbx := ow.bb ++ nbb.map some) M1 hbl hls hp1 hp2 MX hmb hb0 hq1l hq1u hg1 (fun b hb hk => hst b hb fun x hx => absurd hx (hk x)) hsz
      have hbs' : xback m1 (some rc) (some b) (q1.1.map (shL true ow.rv.length)) = some bs := by
        have : ∀ (o : Option Rcv) (po : Option Nat), o = some rc → po = some b → xback m1 o po (q1.1.map (shL true ow.rv.length)) = some bs → xback m1 (some rc) (some b) (q1.1.map (shL true ow.rv.length)) = some bs := by
          rintro _ _ rfl rfl h; exact h
        exact this _ _ hrcv hpb hbs
      unfold xback at hbs'
      simp only [hbx] at hbs'
      refine ⟨⟨rc.t, putList bx.ls rc.pre (q1.1.map (shL true ow.rv.length))⟩, ?_, fun b' e => ?_⟩
      · rw [hpb]; exact (Option.some.inj hbs').symm
      · rw [hpb] at e
        obtain rfl := Option.some.inj e
        exact ⟨by rw [he1']; simp, γ, us, hγ, blk_box hbx hγ, k1, k2, k3⟩
  obtain ⟨M2, K2, hok2⟩ := rejoin (bxN := bxN) (nb := (xnew m1.boxes.length (q2.1.map (shL true ow.rv.length)) xg.nw y.1).2) (nbb := nbb) (sh := e1.length) (rs := ids) (bo := p.1) M1 MX hmb hmay2 hst hsz hos htp hout hrowfr hnl hbo
    (fun i bx e => by
      obtain ⟨g', vs, h1, h2, h3, h4⟩ := hnb i bx e
      exact ⟨g', vs, h1, h2, h3, fun ok' hok => h4 _ ok' fun b k1 k2 => hok b ⟨k1, .inl k2⟩⟩)
  have hgoal := xres_rel (w' := w') (ok := okOf ow1 ext) (may' := may') (may := may) (ow' := ow1) (rv := ow.rv) (bb := ow.bb ++ nbb.map some) (ok' := okOf ⟨ow.rv ++ ow1.rv, ow.bb ++ nbb.map some⟩ ⟨(dropRows m1 ids).rows ++ ext.rows, setBo m1.boxes bxN p.1 ++ (xnew m1.boxes.length (q2.1.map (shL true ow.rv.length)) xg.nw y.1).2.map some⟩) (m' := ⟨(dropRows m1 ids).rows ++ ext.rows, setBo m1.boxes bxN p.1 ++ (xnew m1.boxes.length (q2.1.map (shL true ow.rv.length)) xg.nw y.1).2.map some⟩)
    (fun b k1 k2 => ⟨hok2 b k1 (.inl k2), hmb b k2⟩) hq3u hhd hsv
  subst hbs1
  have key := hK v w' ⟨ow.rv ++ ow1.rv, ow.bb ++ nbb.map some⟩
  rw [hs1] at key
  simp only at key
  rw [hs2] at key
  exact key M2 (K1.trans K2) hgoal
end
end Go.Fx
