/- One operation as a whole. -/
import Derived.Test.YtjhbcpnliiegoaaEv12
namespace Go.Fx
open Go Go.RowKit
set_option linter.unusedVariables false
set_option linter.unusedSimpArgs false
section
variable {R : Type} {P : Program} {T : Tab} {w : World} {may : Nat → Prop} {ow : Ow} {m : Mem} {r : R}
/-- What an operation does to a call that is under way. -/
def OpGo (P : Program) (may : Nat → Prop) (w : World) (ow : Ow) (m : Mem) (o : Oper) (a : Act) (c : SV → Mem → Option R) (r : R) : Prop :=
  ∃ sv m', c sv m' = some r ∧ ∀ (K : Act → World → Prop) (Q : Exit → Act → World → Prop),
    (∀ v w' ow', MemRel w' may ow' m' → Keep may w ow m w' ow' m' → SVRel w' (okOf ow' m') may ow' m' sv v → K (a.put o.dst v) w') → o.wp P a w K Q
theorem OpGo.of_ok {o : Oper} {a : Act} {c : SV → Mem → Option R} {x : Sem Next} (h : OpOk P may w ow m x c r) (he : execOp a.eval o = x) : OpGo P may w ow m o a c r := by
  obtain ⟨sv, m', v, w', ow', h1, h2, h3, h4, h5⟩ := h
  refine ⟨sv, m', h1, fun K Q hK => ?_⟩
  unfold Oper.wp
  rw [he]
  rcases h2 with h2 | ⟨h2, rfl⟩
  · rw [h2]; exact hK _ _ _ h3 h4 h5
  · rw [h2]; exact hK _ _ _ h3 h4 h5
theorem opds_rel {s : S} {a : Act} (F : FrRel w (okOf ow s.m) may ow s a) : ∀ (l : List Operand), F2 (fun sv v => SVRel w (okOf ow s.m) may ow s.m sv v) (l.map s.opd) (l.map a.eval)
  | [] => trivial
  | x :: l => ⟨opd_rel F x, opds_rel F l⟩
theorem svs_cmps : ∀ {vs : List SV} {cs : List Cmp} {us : List Value}, F2 (fun sv v => SVRel w (okOf ow m) may ow m sv v) vs us → vs.map SV.cmp? = cs.map some → F2 (CmpRel w (okOf ow m) may ow) cs us
  | [], [], us, h, _ => by obtain rfl := h.nil_left; trivial
  | [], _ :: _, us, h, e => by simp at e
  | _ :: _, [], us, h, e => by simp at e
  | v :: vs, c :: cs, [], h, e => h.elim
  | v :: vs, c :: cs, u :: us, h, e => by
    simp only [List.map_cons, List.cons.injEq] at e
    exact ⟨cmp?_rel h.1 e.1, svs_cmps h.2 e.2⟩
/-- A call, once its arguments are read. -/
theorem call_core {sg : Sig} {g : FuncId} {tabs : Nat → Option Tbl} (hcon : Contract P tabs g sg) (htab : Tabled tabs w) (hm : ∀ b, w.heap.size ≤ b → may b) {a : Act} {o : Oper} {args : List Value} (hexec : (execOp a.eval o).run P w = .ok (.enter g args.toArray) w)
    {c : SV → Mem → Option R} {cs : List Cmp} (m1 : Mem) (okA : Nat → Prop) (fr : Bool) (M1 : MemRel w may ow m1) (K1 : Keep may w ow m w ow m1) (hokA : sg.md.isShared = true → ∀ b, okA b → okOf ow m1 b ∧ (fr = true → may b))
    (hrd : ∀ x, packArgs m1 sg.ps cs = some x → RdArgs w okA sg.ps x args) (h : (match packArgs m1 sg.ps cs with
      | none => none
      | some x => (sg.fn x).bind fun y => match thaw sg.md.isOwn fr m1.rows.length sg.rs y with
        | none => none
        | some q => c (ofCs q.1) ⟨m1.rows ++ q.2, m1.boxes⟩) = some r) : OpGo P may w ow m o a c r := by
  cases hx : packArgs m1 sg.ps cs with
  | none => simp [hx] at h
  | some x =>
    simp only [hx] at h
    obtain ⟨y, hy, h⟩ := Option.bind_eq_some_iff.1 h
    cases ht : thaw sg.md.isOwn fr m1.rows.length sg.rs y with
    | none => simp [ht] at h
    | some z =>
      simp only [ht] at h
      have ht0 : (thaw sg.md.isOwn false 0 sg.rs y).map (fun q => (q.1.map (shC fr m1.rows.length), q.2)) = some z := by
        rw [← thaw_shift, Nat.zero_add]; exact ht
      obtain ⟨z0, hz0, rfl⟩ := Option.map_eq_some_iff.1 ht0
      refine ⟨_, _, h, fun K Q hK => ?_⟩
      unfold Oper.wp
      rw [hexec, Oper.upon_enter]
      refine (hcon w okA x y _ htab hy (hrd x hx)).mono fun e w' ⟨v, cs', rows, ow', he, hth, M', hsv, hbel⟩ => ?_
      subst he
      rw [hz0] at hth
      obtain rfl := Option.some.inj hth
      obtain ⟨M2, K2, hok⟩ := M1.join hm hbel M' (thaw_fr hz0)
      refine hK v w' _ M2 (K1.trans K2) ?_
      have := SVRel.shift (m2 := ⟨m1.rows ++ rows, m1.boxes⟩) (bb := ow.bb) (rv := ow.rv) (fr := fr) (ok' := okOf ⟨ow.rv ++ ow'.rv, ow.bb⟩ ⟨m1.rows ++ rows, m1.boxes⟩) (may := may) (fun b hb => ?_) hm (fun hf b hb => ?_) hsv
      · rw [M1.rlen] at this; exact this
      · rcases Nat.lt_or_ge b w.heap.size with hlt | hge
        · rcases hb.2 with ⟨h1, h2⟩ | h2
          · exact (hok b).2 ⟨hlt, (hokA h1 b h2).1⟩
          · omega
        · exact (hok b).1 ⟨hge, hb.1⟩
      · rcases hb.2 with ⟨h1, h2⟩ | h2
        · exact (hokA h1 b h2).2 hf
        · exact hm b h2
/-- What a call of function g comes to. -/
theorem enter_ok {C : Cals} (CK : CalsOk P C) {a : Act} {o : Oper} {q : Call} (ho : o.op = .call q) {g : FuncId} {sg : Sig} (hC : C g = some sg) {f : Operand} (hg : q.callee = .value f) {us : List Value} (hfv : a.eval f = .func (.func g) #[] us.toArray) :
    (execOp a.eval o).run P w = .ok (.enter g (q.args.toList.map a.eval ++ us).toArray) w := by
  obtain ⟨⟨fn, hf, hn, hbd⟩, hcon⟩ := CK.fn g sg hC
  have hn' : fn.name ≠ "runtime.NumGoroutine" := by simpa using hn
  have hb' : fn.body ≠ none := by intro e; simp [e] at hbd
  have : q.args.map a.eval = (q.args.toList.map a.eval).toArray := by rw [← Array.toList_map]
  have h2 : (q.args.toList.map a.eval ++ us).toArray = q.args.map a.eval ++ us.toArray := by rw [this]; simp
  rw [h2]
  simp [execOp, ho, resolve, hg, hfv, Deferred.ofValue, invoke, callFunc, hf, hn', hb']
theorem call_gen {C : Cals} (CK : CalsOk P C) (M : MemRel w may ow m) (hL : Live C may w ow m) {a : Act} {vs : List SV} {o : Oper} {q : Call} (ho : o.op = .call q) {g : FuncId} {f : Operand} (hg : q.callee = .value f) {us : List Value} (hfv : a.eval f = .func (.func g) #[] us.toArray)
    (F : F2 (fun sv v => SVRel w (okOf ow m) may ow m sv v) vs (q.args.toList.map a.eval ++ us)) {c : SV → Mem → Option R} (h : callE C m g vs c = some r) : OpGo P may w ow m o a c r := by
  unfold callE at h
  split at h
  case h_2 => cases h
  rename_i sg cs hC hcs
  have hm := hL.new
  have hexec := enter_ok (w := w) CK ho hC hg hfv
  obtain ⟨_, hcon⟩ := CK.fn g sg hC
  -- the arguments, as they are
  have hargs : F2 (CmpRel w (okOf ow m) may ow) cs (q.args.toList.map a.eval ++ us) := svs_cmps F (seqOf_some hcs)
  simp only at h
  obtain ⟨hagg, h⟩ := cond_none h
  cases hsh : sg.md.isShared with
  | false =>
    rw [hsh] at h
    simp only [Bool.false_eq_true, if_false, Bool.not_false, Bool.true_or] at h
    exact call_core hcon hL.tab hm hexec m (fun _ => True) true M (Keep.refl _ _ _ _) (by simp [hsh]) (fun x hx => packArgs_any M hargs hx hagg) h
  | true =>
    rw [hsh] at h
    simp only [if_true, Bool.not_true, Bool.false_or] at h
    obtain ⟨M1, K1⟩ := M.freezeAll (allLeaves cs)
    exact call_core hcon hL.tab hm hexec _ (okf (okOf ow (m.freezeAll (allLeaves cs))) may ((allLeaves cs).all (leafFr (m.freezeAll (allLeaves cs))))) _ M1 K1 (fun _ b hb => hb)
      (fun x hx => packArgs_rel M1 (freezeAll_froz _ _) (hargs.imp fun _ _ h => CmpRel.keep K1.stay K1.rv h) hx hagg _ (fun e => e)) h
theorem call_ok {C : Cals} (CK : CalsOk P C) (M : MemRel w may ow m) (hL : Live C may w ow m) {a : Act} {vs : List SV} {o : Oper} {q : Call} (F : F2 (fun sv v => SVRel w (okOf ow m) may ow m sv v) vs (q.args.toList.map a.eval)) (ho : o.op = .call q) {g : FuncId} {f : Operand} (hg : q.callee = .value f) (hfv : a.eval f = .func (.func g) #[] #[])
    {c : SV → Mem → Option R} (h : callE C m g vs c = some r) : OpGo P may w ow m o a c r :=
  call_gen CK M hL ho hg (us := []) hfv (by rw [List.append_nil]; exact F) h
theorem LfRel.any {ok may' : Nat → Prop} : ∀ {l : Leaf} {v : Value}, LfRel w ok may' ow l v → LfRel w (fun _ => True) (fun _ => True) ow l v
  | .val f k x, v, h => Rd.mono (fun _ _ => ⟨trivial, fun _ => trivial⟩) (h : Rd _ _ _ _ _)
  | .nil, _, h => h
  | .own _, _, h => h
/-- A function with an own variable, as data. -/
theorem fbC_rel (TK : TabOk P T) (M : MemRel w may ow m) {sv : SV} {v : Value} {d : Cmp} (h : SVRel w (okOf ow m) may ow m sv v) (e : fbC T m sv = some d) : CmpRel w (fun _ => True) (fun _ => True) ow d v := by
  unfold fbC at e
  split at e
  · rename_i g b
    split at e
    case h_2 => cases e
    rename_i bx hb
    split at e
    case h_2 => cases e
    rename_i i hT
    split at e
    case h_2 => cases e
    rename_i y hy
    obtain rfl := Option.some.inj e
    obtain ⟨d, hd, rfl⟩ := h
    obtain ⟨d', hd', vs, hh, hF⟩ := M.boxes b bx hb
    obtain rfl := Option.some.inj (Option.some.inj (hd.symm.trans hd'))
    have hrd := packK_any M hF hy
    have hlt : d < w.heap.size := (M.may_ (.box b) d (blk_box hb hd)).2
    show Rd w _ (.clo g i.k) y _
    refine ⟨_, rfl, ⟨d, 0, none⟩, vs, rfl, hlt, ⟨trivial, fun _ => trivial⟩, hrd.mono fun _ _ => ⟨trivial, fun _ => trivial⟩, fun j u hu => ?_⟩
    rw [Addr.add_zero_off, cell_of_row w d _ vs.toArray bx.t (0, 0) hh]
    simpa using hu
  · have h2 := cmp?_rel h e
    cases d with
    | lf l => exact LfRel.any h2
    | agg ls => obtain ⟨vs, hv, h3⟩ := h2; exact ⟨vs, hv, h3.imp fun _ _ h => LfRel.any h⟩
theorem fbCs_rel (TK : TabOk P T) (M : MemRel w may ow m) : ∀ {vs : List SV} {cs : List Cmp} {us : List Value}, F2 (fun sv v => SVRel w (okOf ow m) may ow m sv v) vs us → vs.map (fbC T m) = cs.map some → F2 (CmpRel w (fun _ => True) (fun _ => True) ow) cs us
  | [], [], us, h, _ => by obtain rfl := h.nil_left; trivial
  | [], _ :: _, us, h, e => by simp at e
  | _ :: _, [], us, h, e => by simp at e
  | v :: vs, c :: cs, [], h, e => h.elim
  | v :: vs, c :: cs, u :: us, h, e => by
    simp only [List.map_cons, List.cons.injEq] at e
    exact ⟨fbC_rel TK M h.1 e.1, fbCs_rel TK M h.2 e.2⟩
theorem callF_ok {C : Cals} (TK : TabOk P T) (CK : CalsOk P C) (M : MemRel w may ow m) (hL : Live C may w ow m) {a : Act} {vs : List SV} {o : Oper} {q : Call} (F : F2 (fun sv v => SVRel w (okOf ow m) may ow m sv v) vs (q.args.toList.map a.eval)) (ho : o.op = .call q) {g : FuncId} {f : Operand} (hg : q.callee = .value f) (hfv : a.eval f = .func (.func g) #[] #[])
    {c : SV → Mem → Option R} (h : callF C T m g vs c = some r) : OpGo P may w ow m o a c r := by
  unfold callF at h
  split at h
  case h_2 => cases h
  rename_i sg cs hC hcs
  have hexec := enter_ok (w := w) CK ho hC hg (us := []) hfv
  rw [List.append_nil] at hexec
  obtain ⟨_, hcon⟩ := CK.fn g sg hC
  have hargs : F2 (CmpRel w (fun _ => True) (fun _ => True) ow) cs (q.args.toList.map a.eval) := fbCs_rel TK M F (seqOf_some hcs)
  obtain ⟨hb, h⟩ := cond_none h
  simp only [Bool.and_eq_true, Bool.not_eq_true'] at hb
  exact call_core hcon hL.tab hL.new hexec m (fun _ => True) true M (Keep.refl _ _ _ _) (by simp [hb.1]) (fun x hx => packArgs_any M hargs hx hb.2) h
theorem RdArgs.mono {ok ok' : Nat → Prop} (H : ∀ b, ok b → ok' b) : ∀ {ps : List (Bool × K)} {x : argT ps} {vs : List Value}, RdArgs w ok ps x vs → RdArgs w ok' ps x vs
  | [], x, vs, h => h
  | p :: ps, x, vs, ⟨v, vr, e, h, k⟩ => by
    refine ⟨v, vr, e, ?_, RdArgs.mono H k⟩
    unfold RdV at h ⊢
    split
    · rename_i hp
      rw [if_pos hp] at h
      obtain ⟨cs, e, h⟩ := h
      exact ⟨cs, e, h.mono H⟩
    · rename_i hp
      rw [if_neg hp] at h
      exact h.mono H
/-- A call that writes into a slice of a row of the caller's own. -/
theorem callIO_ok {C : Cals} (CK : CalsOk P C) (M : MemRel w may ow m) (hm : ∀ b, w.heap.size ≤ b → may b) {s : S} {a : Act} (hs : s.m = m) (F : FrRel w (okOf ow m) may ow s a) {o : Oper} {q : Call} (ho : o.op = .call q) {g : FuncId} (hg : q.callee = .value (.func g))
    {ig : IoSig} (hC : C.io g = some (.io ig)) {c : SV → Mem → Option R} (h : callIO m ig (q.args.toList.map s.opd) c = some r) : OpGo P may w ow m o a c r := by
  obtain ⟨⟨fn, hf, hn, hbd⟩, hcon⟩ : IoOk P g ig := CK.io g _ hC
  have hn' : fn.name ≠ "runtime.NumGoroutine" := by simpa using hn
  have hb' : fn.body ≠ none := by intro e; simp [e] at hbd
  have hexec : (execOp a.eval o).run P w = .ok (.enter g (q.args.toList.map a.eval).toArray) w := by
    have : q.args.map a.eval = (q.args.toList.map a.eval).toArray := by rw [← Array.toList_map]
    rw [← this]
    simp [execOp, ho, resolve, hg, Act.eval, Deferred.ofValue, invoke, callFunc, hf, hn', hb']
  revert hexec
  generalize q.args.toList = zl at h
  intro hexec
  cases zl with
  | nil => simp [callIO] at h
  | cons z l =>
    simp only [List.map_cons, callIO] at h hexec
    split at h
    case h_2 => cases h
    rename_i row0 off len cs hp hcs
    obtain ⟨gg, hsv⟩ := part?_rel hp
    have hz := opd_rel F z
    rw [hsv] at hz
    have hargs : F2 (CmpRel w (okOf ow m) may ow) cs (l.map a.eval) := by
      have h1 := seqOf_some hcs
      rw [List.map_map] at h1
      clear hcs h hexec hz
      revert h1
      intro h1
      induction l generalizing cs with
      | nil => cases cs with
        | nil => trivial
        | cons => simp at h1
      | cons x l ih => cases cs with
        | nil => simp at h1
        | cons d cs =>
          simp only [List.map_cons, List.cons.injEq, Function.comp] at h1
          exact ⟨cmp?_rel (opd_rel F x) h1.1, ih (cs := cs) h1.2⟩
    rw [hs] at hz
    obtain ⟨M1, K1⟩ := M.freezeAll (allLeaves cs)
    have hz1 := SVRel.keep K1 hz
    cases hr : (m.freezeAll (allLeaves cs)).row? row0 with
    | none => simp [hr] at h
    | some row =>
      simp only [hr] at h
      cases hc : K.cast (.sl row.e row.k) (.sl ig.e ig.k) row.xs with
      | none => simp [hc] at h
      | some zs =>
        simp only [hc] at h
        obtain ⟨hb, h⟩ := cond_none h
        simp only [Bool.and_eq_true] at hb
        obtain ⟨⟨hw, hflat, hn0⟩, hagg, hfl⟩ := hb
        have hn0 : 0 < len := Nat.le_of_ble_eq_true hn0
        cases hx : packArgs (m.freezeAll (allLeaves cs)) ig.ps cs with
        | none => simp [hx] at h
        | some x =>
          simp only [hx] at h
          obtain ⟨y, hy, h⟩ := Option.bind_eq_some_iff.1 h
          split at h
          case h_2 => cases h
          rename_i z0 ws hth hws
          obtain ⟨hl, h⟩ := cond_none h
          have hl := Nat.eq_of_beq_eq_true hl
          obtain ⟨_, _, hz2⟩ := hz1
          obtain ⟨hle, ⟨A0, c0, hval0, hc0⟩, hz2⟩ := hz2 row hr
          obtain ⟨γ, L, Q, c', hu2, hval, _⟩ := hz2 hn0
          obtain ⟨v1, hv1, RR⟩ := M1.sl row0 row hr hu2 ⟨_, _, _, rfl⟩
          obtain rfl := Option.some.inj (hv1.symm.trans hu2)
          have hcc : len ≤ c' := by
            rw [hval] at hval0
            injection hval0 with _ _ h6
            omega
          obtain ⟨_, R2⟩ := RR
          rw [hw] at R2
          simp only [if_true] at R2
          obtain ⟨cs0, hown, hrd0⟩ := R2
          obtain ⟨ie, ik, ips, irs, ifn⟩ := ig
          obtain ⟨re, rk, rfr, rrw, rxs⟩ := row
          simp only at *
          obtain ⟨e1, e2⟩ := cast_some hc
          injection e1 with e3 e4
          subst e3 e4
          simp only at e2
          subst e2
          obtain ⟨e5, e6⟩ := cast_some hws
          simp only at e6
          subst e6
          subst hw
          have hblk : blk ow (m.freezeAll (allLeaves cs)) (.row row0) = some γ := by rw [blk_row hr hv1 rfl]; rfl
          have hrd := RdArgs.mono (ok' := fun b => b ≠ γ) (fun b hb => fun e => by subst e; exact hb.1 _ hblk) (packArgs_rel M1 (freezeAll_froz _ _) (hargs.imp fun _ _ h => CmpRel.keep K1.stay K1.rv h) hx hagg false (fun e => by cases e))
          have hcall := hcon w _ off len x y.1 y.2 γ L Q c' cs0 _ hy hl hflat hn0 hle hcc hown (hrd0.keep (Stay.mono fun _ _ _ => trivial)) hrd
          refine ⟨_, _, h, fun Kp Qp hK => ?_⟩
          unfold Oper.wp
          rw [hexec, Oper.upon_enter, hval]
          refine hcall.mono fun e w' ⟨v, ds, es, he, hth2, hsv2, hsz, hos, htp, hout, hfr, hown2, hrd2⟩ => ?_
          subst he
          rw [hth] at hth2
          obtain rfl := Option.some.inj hth2
          obtain ⟨M2, K2⟩ := M1.writeG (w' := w') row0 _ ⟨re, rk, rfr, true, y.2⟩ _ hr hv1 rfl rfl hl rfl hsz hos htp hout (fun b hb hne => hfr b hb fun e => hne (by rw [e]; rfl)) es (by rw [hl]; exact hown2) (hrd2.flat hflat)
          exact hK v w' _ M2 (K1.trans K2) (hsv2 _ _ _ _)
theorem sliceStr_ok (M : MemRel w may ow m) {t : TypeId} (hu : P.underlying t = some .string) {x : ByteArray} {lo hi : Option Int} {vlo vhi : Option Value} (hlo : OptRel lo vlo) (hhi : OptRel hi vhi)
    {c : SV → Mem → Option R} (h : sliceStr m x lo hi c = some r) : OpOk P may w ow m (do pure (.value (← Instr.sliceAt t (.string x) vlo vhi none))) c r := by
  unfold sliceStr at h
  obtain ⟨hb, h⟩ := cond_none h
  simp only [Bool.and_eq_true, decide_eq_true_eq] at hb
  obtain ⟨h1, h2, h3⟩ := hb
  refine OpOk.quiet M h ?_ rfl
  cases lo with
  | none =>
    cases vlo with
    | some => exact hlo.elim
    | none =>
      cases hi with
      | none =>
        cases vhi with
        | some => exact hhi.elim
        | none => simp [Instr.sliceAt, run_underlying hu, Instr.slice, Instr.sliceBounds, run_sliceBound]
      | some j =>
        cases vhi with
        | none => exact hhi.elim
        | some vh =>
          obtain ⟨k, rfl⟩ := hhi
          simp only [Option.getD_none, Option.getD_some] at h1 h2 h3
          simp [Instr.sliceAt, run_underlying hu, Instr.slice, Instr.sliceBounds, run_sliceBound, h2, h3]
  | some i =>
    cases vlo with
    | none => exact hlo.elim
    | some vl =>
      obtain ⟨k, rfl⟩ := hlo
      cases hi with
      | none =>
        cases vhi with
        | some => exact hhi.elim
        | none =>
          simp only [Option.getD_none, Option.getD_some] at h1 h2 h3
          simp [Instr.sliceAt, run_underlying hu, Instr.slice, Instr.sliceBounds, run_sliceBound, h1, h2]
      | some j =>
        cases vhi with
        | none => exact hhi.elim
        | some vh =>
          obtain ⟨k', rfl⟩ := hhi
          simp only [Option.getD_none, Option.getD_some] at h1 h2 h3
          simp [Instr.sliceAt, run_underlying hu, Instr.slice, Instr.sliceBounds, run_sliceBound, h1, h2, h3, show (0 : Int) ≤ j by omega, show i ≤ (j.toNat : Int) by omega, show i ≤ max j 0 by omega]
theorem index_ok (M : MemRel w may ow m) {t : TypeId} (hu : P.underlying t = some .string) {x : ByteArray} {i : Int} {ki : IntKind} {c : SV → Mem → Option R}
    (h1 : 0 ≤ i) (h2 : i < (x.size : Int)) (h : c (ci .u8 (btI x i)) m = some r) : OpOk P may w ow m (do pure (.value (← Instr.index t (.string x) (.int ki i)))) c r := by
  refine OpOk.quiet M h (v := .int .u8 (btI x i)) ?_ rfl
  have hlt : i.toNat < x.size := by omega
  have he : x[i.toNat]? = some x[i.toNat] := getElem?_pos x i.toNat hlt
  have hb : btI x i = ((x[i.toNat]).toNat : Int) := by
    unfold btI
    rw [Array.getD_eq_getD_getElem?, Array.getElem?_eq_getElem (by exact hlt)]
    rfl
  simp [Instr.index, asIntOf, run_underlying hu, h1, he, hb]
theorem lenStr_ok (M : MemRel w may ow m) {t : TypeId} {ty : TypeId} (hu : P.underlying t = some .string) {ts : Array TypeId} (ht : ts[0]? = some t) {x : ByteArray} {c : SV → Mem → Option R}
    (h : c (ci .i64 (x.size : Int)) m = some r) : OpOk P may w ow m (do pure (.value (← Builtin.len_ ts ty #[.string x]))) c r := by
  refine OpOk.quiet M h (v := .int .i64 (x.size : Int)) ?_ rfl
  simp [Builtin.len_, ht, run_underlying hu, goInt]
theorem listLen_rel (M : MemRel w may ow m) {l : Leaf} {v : Value} {n : Nat} (h : LfRel w (okOf ow m) may ow l v) (e : listLen m l = some n) : ∃ A cp, v = .slice A n cp := by
  unfold listLen at e
  split at e
  · obtain rfl := Option.some.inj e
    obtain ⟨A, cp, h1, _⟩ := (h : Rd _ _ _ _ _)
    exact ⟨A, cp, by simpa using h1⟩
  · obtain rfl := Option.some.inj e
    obtain rfl := h
    exact ⟨none, 0, rfl⟩
  · rename_i q
    cases hr : m.row? q with
    | none => simp [hr] at e
    | some row =>
      simp [hr] at e; subst e
      obtain ⟨v', hv, RR⟩ := M.sl q row hr h.1 h.2
      obtain rfl : v = v' := Option.some.inj (h.1.symm.trans hv)
      obtain ⟨_, R2⟩ := RR
      cases hw : row.rw with
      | true =>
        rw [hw] at R2
        simp only [if_true] at R2
        obtain ⟨cs, hown, _⟩ := R2
        obtain ⟨A, cp, rfl⟩ := ownsRow.slice hown
        exact ⟨A, cp, rfl⟩
      | false =>
        rw [hw] at R2
        simp only [Bool.false_eq_true, if_false] at R2
        obtain ⟨A, cp, h1, _⟩ := R2
        exact ⟨A, cp, by simpa using h1⟩
  · cases e
theorem lenSl_ok (TK : TabOk P T) (M : MemRel w may ow m) {t : TypeId} {ty : TypeId} {e : TypeId} {k : K} {ag : Bool} {by' : Nat} (hT : T t = some ⟨.sl e, k, ag, by'⟩) {ts : Array TypeId} (ht : ts[0]? = some t) {l : Leaf} {v : Value} {n : Nat}
    (hl : LfRel w (okOf ow m) may ow l v) (hn : listLen m l = some n) {c : SV → Mem → Option R}
    (h : c (ci .i64 (n : Int)) m = some r) : OpOk P may w ow m (do pure (.value (← Builtin.len_ ts ty #[v]))) c r := by
  refine OpOk.quiet M h (v := .int .i64 (n : Int)) ?_ rfl
  obtain ⟨A, cp, rfl⟩ := listLen_rel M hl hn
  simp [Builtin.len_, ht, run_underlying (TK _ _ hT).desc.1, goInt]
theorem lenHsl_ok (TK : TabOk P T) (M : MemRel w may ow m) {t : TypeId} {ty : TypeId} {e : TypeId} {k : K} {ag : Bool} {by' : Nat} (hT : T t = some ⟨.sl e, k, ag, by'⟩) {ts : Array TypeId} (ht : ts[0]? = some t) {v : Value} {et : TypeId} {vs : List Value} {q : Nat} {i : Int}
    (hl : SVRel w (okOf ow m) may ow m (.hsl et vs i q) v) {c : SV → Mem → Option R}
    (h : c (ci .i64 (vs.length : Int)) m = some r) : OpOk P may w ow m (do pure (.value (← Builtin.len_ ts ty #[v]))) c r := by
  refine OpOk.quiet M h (v := .int .i64 (vs.length : Int)) ?_ rfl
  obtain ⟨⟨A, cp, e1, _⟩, _⟩ := hl
  have e2 := (List.cons.inj e1).1
  subst e2
  have e3 : (Builtin.len_ ts ty #[.slice A (List.length (α := Value) vs) cp]).run P w = .ok (.int .i64 ((List.length (α := Value) vs : Nat) : Int)) w := by
    simp [Builtin.len_, ht, run_underlying (TK _ _ hT).desc.1, goInt]
  exact e3
theorem elems_any (M : MemRel w may ow m) {y : Leaf} {v : Value} (hy : LfRel w (okOf ow m) may ow y v) {e : TypeId} {k : K} {ys : List k.T} (hd : leafData m (.sl e k) y = some ys) :
    ∃ A c cs, v = .slice A ys.length c ∧ ys.length ≤ c ∧ RdEach w (okf (okOf ow m) may (rowFr m y)) k ys cs ∧ (ys ≠ [] → ∃ ad, A = some ad ∧ ∀ j u, cs[j]? = some u → w.cell? (ad.add j) = some u) := by
  by_cases hf : Froz m y
  · exact elems_rel M hy hf hd
  · cases y with
    | val => exact absurd (fun r e => by cases e) hf
    | nil => exact absurd (fun r e => by cases e) hf
    | own q =>
      simp only [leafData] at hd
      cases hr : m.row? q with
      | none => simp [hr] at hd
      | some row =>
        simp only [hr] at hd
        have hw : row.rw = true := by
          cases hw : row.rw with
          | true => rfl
          | false =>
            refine absurd (fun r e row' hr' => ?_) hf
            injection e with e
            subst e
            obtain rfl := Option.some.inj (hr.symm.trans hr')
            exact hw
        obtain ⟨e1, e2⟩ := cast_some hd
        injection e1 with e3 e4
        obtain ⟨u, hu, R⟩ := M.sl q row hr hy.1 hy.2
        obtain rfl : v = u := Option.some.inj (hy.1.symm.trans hu)
        obtain ⟨_, R2⟩ := R
        rw [hw] at R2
        simp only [if_true] at R2
        obtain ⟨cs, hown, hrd⟩ := R2
        simp only [rowFr, hr]
        obtain ⟨re, rk, rfr, rrw, rxs⟩ := row
        simp only at *
        subst e3 e4
        have e2 : rxs = ys := e2
        subst e2
        obtain ⟨A, c, rfl⟩ := ownsRow.slice hown
        refine ⟨A, c, cs, rfl, ?_, hrd, fun hne => ?_⟩
        · rcases hown.2 with ⟨h3, h4⟩ | ⟨g, cp, cur, h3, hg, hh, hn, rest⟩
          · omega
          · injection h3 with _ _ h3; omega
        · rcases hown.2 with ⟨h3, h4⟩ | ⟨g, cp, cur, h3, hg, hh, hn, rest⟩
          · exact absurd (List.eq_nil_of_length_eq_zero h4) hne
          · injection h3 with h3 _ h6
            subst h3
            exact ⟨_, rfl, fun j u hu => World.ownsRow.cells hown (g := g) rfl j u hu⟩
/-- What a call whose arguments are told comes to. -/
theorem body_enter {a : Act} {o : Oper} {q : Call} (ho : o.op = .call q) {g : FuncId} (hB : Body P g) (hg : q.callee = .value (.func g)) : (execOp a.eval o).run P w = .ok (.enter g (q.args.toList.map a.eval).toArray) w := by
  obtain ⟨fn, hf, hn, hbd⟩ := hB
  have hn' : fn.name ≠ "runtime.NumGoroutine" := by simpa using hn
  have hb' : fn.body ≠ none := by intro e; simp [e] at hbd
  have : q.args.map a.eval = (q.args.toList.map a.eval).toArray := by rw [← Array.toList_map]
  rw [← this]
  simp [execOp, ho, resolve, hg, Act.eval, Deferred.ofValue, invoke, callFunc, hf, hn', hb']
theorem callCl_ok (TK : TabOk P T) (M : MemRel w may ow m) (hm : ∀ b, w.heap.size ≤ b → may b) {a : Act} {vs : List SV} {o : Oper} {args : List Value} (F : F2 (fun sv v => SVRel w (okOf ow m) may ow m sv v) vs args) {g : FuncId}
    (hexec : (execOp a.eval o).run P w = .ok (.enter g args.toArray) w) {e : TypeId} {n b : Nat} (hC : ClOk P g e n b) {c : SV → Mem → Option R} (h : callCl T m e n b vs c = some r) : OpGo P may w ow m o a c r := by
  unfold callCl at h
  split at h
  case h_2 => cases h
  rename_i x
  split at h
  case h_2 => cases h
  rename_i l ei hl hT
  split at h
  case h_2 => cases h
  rename_i ys hd
  obtain ⟨hb, h9⟩ := cond_none h
  simp only [Bool.and_eq_true, decide_eq_true_eq] at hb
  obtain rfl := Nat.eq_of_beq_eq_true hb.1.1
  match args, F with
  | [u], F =>
  have hu := leaf?_rel F.1 hl
  obtain ⟨A, cp, cs, rfl, hcp, hrd, hA⟩ := elems_any M hu hd
  refine ⟨_, _, h9, fun K Q hK => ?_⟩
  unfold Oper.wp
  rw [hexec, Oper.upon_enter]
  refine (hC.contract w A ys.length cp cs hrd.len hrd.one (fun hq => hA (by rintro rfl; simp at hq)) hcp hb.2).mono fun e' w' ⟨v, he, hown, hblk, hbel⟩ => ?_
  subst he
  obtain ⟨M', K'⟩ := M.add (w' := w') ⟨e, ei.k, rowFr m l, true, ys⟩ v hbel.size hbel.os hbel.tape hbel.output hbel.block rfl cs hown hrd fun b e => ⟨hm b (hblk b e), (World.ownsRow.lt hown b e).2, hblk b e⟩
  obtain ⟨A', q', rfl⟩ := ownsRow.slice hown
  refine hK _ w' _ M' K' ⟨?_, _, _, _, rfl⟩
  show (ow.rv ++ [_])[m.rows.length]? = _
  rw [← M.rlen]; simp
theorem callGv_ok (M : MemRel w may ow m) (hm : ∀ b, w.heap.size ≤ b → may b) {a : Act} {vs : List SV} {o : Oper} {args : List Value} (F : F2 (fun sv v => SVRel w (okOf ow m) may ow m sv v) vs args) {g : FuncId}
    (hexec : (execOp a.eval o).run P w = .ok (.enter g args.toArray) w) {gg : GvSig} (hC : GvOk P g gg) {c : SV → Mem → Option R} (h : callGv m gg vs c = some r) : OpGo P may w ow m o a c r := by
  unfold callGv at h
  split at h
  · cases h
  rename_i x0 rest
  split at h
  case h_2 => cases h
  rename_i r0 cs hp hcs
  cases hr : m.row? r0 with
  | none => simp [hr] at h
  | some row =>
    simp only [hr] at h
    cases hc : K.cast (.sl row.e row.k) (.sl gg.e gg.k) row.xs with
    | none => simp [hc] at h
    | some zs =>
      simp only [hc] at h
      obtain ⟨hb, h8⟩ := cond_none h
      simp only [Bool.and_eq_true, List.all_eq_true] at hb
      obtain ⟨⟨hw, hno⟩, hagg, hfl⟩ := hb
      cases hx : packArgs m gg.ps cs with
      | none => simp [hx] at h8
      | some x =>
        simp only [hx] at h8
        obtain ⟨y, hy, h7⟩ := Option.bind_eq_some_iff.1 h8
        split at h7
        case h_2 => cases h7
        rename_i z0 hth
        match args, F with
        | u :: us, F =>
        have hu : LfRel w (okOf ow m) may ow (.own r0) u := leaf?_rel F.1 hp
        have hargs : F2 (CmpRel w (okOf ow m) may ow) cs us := svs_cmps F.2 (seqOf_some hcs)
        obtain ⟨u', hu', R⟩ := M.sl r0 row hr hu.1 hu.2
        obtain rfl : u = u' := Option.some.inj (hu.1.symm.trans hu')
        obtain ⟨_, R2⟩ := R
        rw [hw] at R2
        simp only [if_true] at R2
        obtain ⟨ds, hown, hrd⟩ := R2
        have hblk : blk ow m (.row r0) = oblk u := blk_row hr hu.1 hw
        obtain ⟨A, L, rfl⟩ := ownsRow.slice hown
        have hoff : ∀ b, blk ow m (.row r0) ≠ some b → offA A b := fun b hb a ha e => hb (by rw [hblk, ha, e]; rfl)
        have hoff2 : ∀ b, offA A b → blk ow m (.row r0) ≠ some b := fun b hb e => by
          rw [hblk] at e
          cases A with
          | none => cases e
          | some a => exact hb a rfl (Option.some.inj e).symm
        have hra := packArgs_gen (Q := fun b => blk ow m (.row r0) ≠ some b) (fun l hl k x v h e => leafData_off M (fun q hq => by
          have := hno l hl
          subst hq
          intro e9
          rw [e9] at this
          have h10 : Nat.beq r0 r0 = true := Nat.beq_refl r0
          simp [h10] at this) h e) hargs hx hagg
        obtain ⟨ge, gk, gps, grs, gfn⟩ := gg
        obtain ⟨re, rk, rfr, rrw, rxs⟩ := row
        simp only at *
        obtain ⟨e1, e2⟩ := cast_some hc
        injection e1 with e3 e4
        subst e3 e4
        have e2 : rxs = zs := e2
        subst e2
        refine ⟨_, _, h7, fun K Q hK => ?_⟩
        unfold Oper.wp
        rw [hexec, Oper.upon_enter]
        refine (hC.contract w rxs x y A _ L ds us hy hown (hrd.keep (Stay.mono fun b _ hb => hoff b (hb.1 (.row r0)))) (hra.mono hoff)).mono fun e' w' ⟨v, ds', he, hth', hsv, hsz, hos, htp, hout, hfr⟩ => ?_
        subst he
        rw [hth] at hth'
        obtain rfl := Option.some.inj hth'
        obtain ⟨M', K'⟩ := M.renew (w' := w') r0 ⟨re, rk, true, true, []⟩ (.slice none 0 0) hsz hos htp hout (fun b hb hn => hfr b hb (hoff b hn)) rfl [] (World.ownsRow_nil w' 0 re rk.n) rfl (fun b hb => by cases hb)
        exact hK v w' _ M' K' (hsv _ _ _ _)
theorem onePt_ok {g : FuncId} {sg : Sig} (h : CalOk P (fun _ => none) g sg) : CalsOk P (onePt g sg) :=
  ⟨(fun x s e => by
    simp only [onePt] at e
    cases hb : Nat.beq x g with
    | true => obtain rfl := Nat.eq_of_beq_eq_true hb; rw [hb] at e; obtain rfl := Option.some.inj e; exact h
    | false => rw [hb] at e; cases e), (fun _ _ e => by cases e), (fun _ _ e => by cases e), (fun _ _ _ e => by cases e), (fun _ _ e => by cases e)⟩
theorem callPt_ok (M : MemRel w may ow m) (hm : ∀ b, w.heap.size ≤ b → may b) {s : S} {a : Act} (hs : s.m = m) (F : FrRel w (okOf ow m) may ow s a) {o : Oper} {q : Call} (ho : o.op = .call q) {g : FuncId} (hg : q.callee = .value (.func g))
    {g' : FuncId} {sg : Sig} (hC : PtOk P g g' sg) {c : SV → Mem → Option R} (h : callPt m g' sg (q.args.toList.map s.opd) c = some r) : OpGo P may w ow m o a c r := by
  subst hs
  obtain rfl := hC.same
  have hF := opds_rel F q.args.toList
  unfold callPt at h
  split at h
  case h_2 => cases h
  rename_i q1 q2 r1 r2 b1 b2 f t hcs
  cases t with
  | true =>
    simp only [cond_true] at h
    exact call_ok (onePt_ok hC.own) M ⟨hm, (fun _ _ e => by cases e), (fun _ _ e => by cases e)⟩ hF ho hg rfl h
  | false =>
    simp only [cond_false] at h
    have hargs := svs_cmps hF (seqOf_some hcs)
    have hexec := body_enter (w := w) (a := a) ho hC.own.fn hg
    generalize q.args.toList.map a.eval = vs at hargs hexec
    match vs, hargs with
    | [v1, v2, v3, v4], ⟨⟨u1, e1, h1⟩, ⟨u2, e2, h2⟩, ⟨u3, e3, h3⟩, h4, _⟩ =>
    match u1, u2, u3, h1, h2, h3 with
    | [x1, x2], [y1, y2], [z1, z2], h1, h2, h3 =>
    subst e1 e2 e3
    have h4 : [v4] = [Value.bool false] := h4
    obtain rfl := (List.cons.inj h4).1
    refine ⟨_, _, h, fun K Q hK => ?_⟩
    unfold Oper.wp
    rw [hexec, Oper.upon_enter]
    refine (hC.pass w x1 x2 y1 y2 z1 z2 h1.1.one h1.2.1.one h2.1.one h2.2.1.one h3.1.one h3.2.1.one).mono fun e' w' ⟨he, hbel⟩ => ?_
    subst he
    obtain ⟨M2, K2, _⟩ := M.join (w' := w') (ow' := ⟨[], []⟩) hm hbel (rows := []) ⟨rfl, rfl, (fun i row e => by simp [Mem.row?] at e), (fun i bx e => by simp [Mem.box?] at e), (fun x y b hx => by cases x <;> simp [blk, Mem.row?, Mem.box?] at hx), (fun x b hx => by cases x <;> simp [blk, Mem.row?, Mem.box?] at hx), (fun i hi => absurd hi (Nat.not_lt_zero _))⟩ (fun i row e => by simp [Mem.row?] at e)
    rw [List.append_nil, List.append_nil] at M2 K2
    refine hK _ w' ow M2 K2 ⟨[.agg #[x1, x2], .agg #[y1, y2], .int .i64 0], rfl, ⟨[x1, x2], rfl, ?_⟩, ⟨[y1, y2], rfl, ?_⟩, rfl, trivial⟩
    · exact h1.imp fun _ _ h => LfRel.keep K2.stay K2.rv h
    · exact h2.imp fun _ _ h => LfRel.keep K2.stay K2.rv h
theorem callO_ok {C : Cals} (TK : TabOk P T) (CK : CalsOk P C) (M : MemRel w may ow m) (hm : ∀ b, w.heap.size ≤ b → may b) {s : S} {a : Act} (hs : s.m = m) (F : FrRel w (okOf ow m) may ow s a) {o : Oper} {q : Call} (ho : o.op = .call q) {g : FuncId} (hg : q.callee = .value (.func g))
    {z : Oth} (hC : C.io g = some z) {c : SV → Mem → Option R} (h : callO T m z (q.args.toList.map s.opd) c = some r) : OpGo P may w ow m o a c r := by
  subst hs
  have hO := CK.io g z hC
  cases z with
  | io ig => exact callIO_ok CK M hm rfl F ho hg hC h
  | gv gg => exact callGv_ok M hm (opds_rel F q.args.toList) (body_enter ho (GvOk.fn hO) hg) hO h
  | cl e n b => exact callCl_ok TK M hm (opds_rel F q.args.toList) (body_enter ho (ClOk.fn hO) hg) hO h
  | pt g' sg => exact callPt_ok M hm rfl F ho hg hO h
end
end Go.Fx
