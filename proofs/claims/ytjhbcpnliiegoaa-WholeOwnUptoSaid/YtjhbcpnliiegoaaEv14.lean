/- One operation as a whole: whatever it is. -/
import Derived.Test.YtjhbcpnliiegoaaEvH
import Derived.Test.YtjhbcpnliiegoaaEvM
namespace Go.Fx
open Go Go.RowKit
set_option linter.unusedVariables false
set_option linter.unusedSimpArgs false
section
variable {R : Type} {P : Program} {T : Tab} {C : Cals} {w : World} {may : Nat → Prop} {ow : Ow} {r : R} {s : S} {a : Act}
theorem Says.ok {x : Sem Value} {m : Mem} (M : MemRel w may ow m) {c : SV → Mem → Option R} (h : Says P w (okOf ow m) may ow x (fun l => c (.one (.lf l)) m) r) : OpOk P may w ow m (do pure (.value (← x))) c r := by
  obtain ⟨l, z, h1, h2, h3⟩ := h
  exact OpOk.quiet M h1 h3 h2
theorem move_ok {m : Mem} (M : MemRel w may ow m) {sv : SV} {v : Value} {c : SV → Mem → Option R} (h : c sv m = some r) (hv : SVRel w (okOf ow m) may ow m sv v) : OpOk P may w ow m (pure (.value v)) c r :=
  ⟨sv, m, v, w, ow, h, .inl (by simp), M, Keep.refl _ _ _ _, hv⟩
theorem HdRel.sv {ok : Nat → Prop} {m : Mem} : ∀ {h : Hd} {v : Value}, HdRel ow h v → SVRel w ok may ow m h.sv v
  | .nilp, _, h => h
  | .box b, _, ⟨g, e, h⟩ => ⟨g, e, by rw [h, Addr.add_zero_off]⟩
theorem isPtr_rel {ok : Nat → Prop} {m : Mem} {sv : SV} {v : Value} (h : SVRel w ok may ow m sv v) (e : isPtr m sv = true) : ∃ ad, v = .pointer (some ad) := by
  cases sv <;> simp [isPtr] at e
  case box b q => obtain ⟨g, _, h⟩ := h; exact ⟨_, h⟩
  case ref ls => obtain ⟨ad, vs, h, _⟩ := h; exact ⟨_, h⟩
  case adr r i q =>
    obtain ⟨_, h⟩ := h
    obtain ⟨row, hr⟩ := Option.isSome_iff_exists.1 e
    obtain ⟨_, g, n, c, _, h⟩ := h row hr
    exact ⟨_, h⟩
theorem eqLeaves_rel {ok : Nat → Prop} : ∀ {ls ls' : List Leaf} {us vs : List Value} {e : Bool}, F2 (LfRel w ok may ow) ls us → F2 (LfRel w ok may ow) ls' vs → eqLeaves ls ls' = some e →
    ∃ xs ys : List Int, us = xs.map (Value.int .i64) ∧ vs = ys.map (Value.int .i64) ∧ e = (xs == ys) ∧ xs.length = ls.length ∧ ys.length = ls'.length := by
  intro ls
  induction ls with
  | nil =>
    intro ls' us vs e h1 h2 h3
    cases ls' with
    | cons => simp [eqLeaves] at h3
    | nil =>
      obtain rfl := h1.nil_left
      obtain rfl := h2.nil_left
      obtain rfl := Option.some.inj h3
      exact ⟨[], [], rfl, rfl, rfl, rfl, rfl⟩
  | cons l ls ih =>
    intro ls' us vs e h1 h2 h3
    cases ls' with
    | nil => cases l with
      | val fr k x => cases k <;> first | (simp [eqLeaves] at h3; done) | (rename_i q; cases q <;> simp [eqLeaves] at h3)
      | nil => simp [eqLeaves] at h3
      | own r => simp [eqLeaves] at h3
    | cons l' ls' =>
      unfold eqLeaves at h3
      split at h3
      · rename_i e1 _; cases e1
      · rename_i fr a r fr' b q e1 e2
        injection e1 with e3 e4
        injection e2 with e5 e6
        subst e3 e4 e5 e6
        obtain ⟨e', h4, rfl⟩ := Option.map_eq_some_iff.1 h3
        cases us with
        | nil => exact h1.elim
        | cons u us =>
          cases vs with
          | nil => exact h2.elim
          | cons v vs =>
            obtain ⟨xs, ys, rfl, rfl, rfl, k1, k2⟩ := ih h1.2 h2.2 h4
            have h5 : u = .int .i64 a := val_int h1.1
            have h6 : v = .int .i64 b := val_int h2.1
            refine ⟨a :: xs, b :: ys, by rw [h5]; rfl, by rw [h6]; rfl, ?_, congrArg (· + 1) k1, congrArg (· + 1) k2⟩
            rfl
      · cases h3
theorem ptr_eq {t e : TypeId} (hu : P.underlying t = some (.pointer e)) {p q : Option Addr} (h : p = none ∨ q = none) : (Op.equal t (.pointer p) (.pointer q)).run P w = .ok (decide (p = q)) w := by
  have : ∀ d, (Op.equalIn (d + 1) t (.pointer p) (.pointer q)).run P w = .ok (decide (p = q)) w := fun d => by
    rw [Op.equalIn, Sem.run_bind, run_underlying hu, Result.andThen_ok]
    rcases h with rfl | rfl
    · cases q <;> rfl
    · cases p <;> rfl
  exact this 9999
theorem binV_ok {m : Mem} {ok : Nat → Prop} (TK : TabOk P T) (CK : CalsOk P C) {op : BinOp} {xt : TypeId} {x y : Operand} {sx sy : SV} {u v : Value} {z : SV} (hx : SVRel w ok may ow m sx u) (hy : SVRel w ok may ow m sy v) (h : binV C T xt op sx sy = some z) :
    ∃ zv, (do eqGuard op xt x y u v; binOp op xt u v : Sem Value).run P w = .ok zv w ∧ SVRel w ok may ow m z zv := by
  have ptrs : ∀ (b : Bool) (p q : Option Addr), (p = none ∨ q = none) → b = decide (p = q) → isPtrT T xt = true → eqRes op b = some z → u = .pointer p → v = .pointer q → ∃ zv, (do eqGuard op xt x y u v; binOp op xt u v : Sem Value).run P w = .ok zv w ∧ SVRel w ok may ow m z zv := by
    rintro b p q hpq hb ht hr rfl rfl
    obtain ⟨e, hu⟩ : ∃ e, P.underlying xt = some (.pointer e) := by
      unfold isPtrT at ht
      split at ht
      · rename_i hT; exact (TK _ _ hT).desc
      · cases ht
    have heq := ptr_eq (w := w) hu hpq
    rw [← hb] at heq
    cases op <;> simp only [eqRes] at hr <;> try (cases hr; done)
    · obtain rfl := Option.some.inj hr
      exact ⟨.bool b, by simp [eqGuard, binOp, heq], rfl⟩
    · obtain rfl := Option.some.inj hr
      exact ⟨.bool (!b), by simp [eqGuard, binOp, heq], rfl⟩
  unfold binV at h
  split at h
  · obtain ⟨ht, h⟩ := cond_none h
    exact ptrs true none none (.inl rfl) rfl ht h hx hy
  · obtain ⟨ht, h⟩ := cond_none h
    obtain ⟨g, _, hg⟩ := hx
    exact ptrs false _ none (.inr rfl) rfl ht h hg hy
  · obtain ⟨ht, h⟩ := cond_none h
    obtain ⟨g, _, hg⟩ := hy
    exact ptrs false none _ (.inl rfl) rfl ht h hx hg
  · split at h
    case h_2 => cases h
    rename_i ls ls' _ _ n e hn he
    obtain ⟨hl, h⟩ := cond_none h
    simp only [Bool.and_eq_true] at hl
    obtain ⟨us, rfl, h1⟩ := hx
    obtain ⟨vs, rfl, h2⟩ := hy
    obtain ⟨xs, ys, rfl, rfl, rfl, k1, k2⟩ := eqLeaves_rel h1 h2 he
    have hE := CK.eqs xt n hn w op x y xs ys (k1.trans (Nat.eq_of_beq_eq_true hl.1)) (k2.trans (Nat.eq_of_beq_eq_true hl.2))
    cases op <;> simp only [eqRes] at h <;> try (cases h; done)
    · obtain rfl := Option.some.inj h
      exact ⟨_, hE (.inl rfl), by simp [cb]; rfl⟩
    · obtain rfl := Option.some.inj h
      exact ⟨_, hE (.inr rfl), by simp [cb]; rfl⟩
  · cases h
theorem OpGo.mono {m m1 : Mem} {o : Oper} {a : Act} {c : SV → Mem → Option R} (K1 : Keep may w ow m w ow m1) (h : OpGo P may w ow m1 o a c r) : OpGo P may w ow m o a c r := by
  obtain ⟨sv, m', h1, h2⟩ := h
  exact ⟨sv, m', h1, fun K Q hK => h2 K Q fun v w' ow' M K' => hK v w' ow' M (K1.trans K')⟩
theorem fncOf_rel {ok : Nat → Prop} {m : Mem} {sv : SV} {v : Value} {g : FuncId} (h : SVRel w ok may ow m sv v) (e : fncOf sv = some g) : v = .func (.func g) #[] #[] := by
  unfold fncOf at e
  split at e
  · obtain rfl := Option.some.inj e
    have h : [v] = [.func (.func _) #[] #[]] := h
    injection h
  · cases e
theorem cloOf_rel {m : Mem} {sv : SV} {v : Value} {p : FuncId × SV} (h : SVRel w (okOf ow m) may ow m sv v) (e : cloOf sv = some p) : ∃ u, v = .func (.func p.1) #[] #[u] ∧ SVRel w (okOf ow m) may ow m p.2 u := by
  unfold cloOf at e
  split at e
  · rename_i fr g k y
    obtain rfl := Option.some.inj e
    obtain ⟨u, hu, hp⟩ : ∃ u, [v] = [.func (.func g) #[] #[u]] ∧ RdPt w (okf (okOf ow m) may fr) (Rd w (okf (okOf ow m) may fr) k) y u := h
    obtain rfl := (List.cons.inj hu).1
    exact ⟨u, rfl, ⟨u, rfl, hp⟩⟩
  · cases e
theorem deref_rel {m : Mem} {sv : SV} {v : Value} (h : SVRel w (okOf ow m) may ow m sv v) : SVRel w (okOf ow m) may ow m sv.deref v := by
  unfold SV.deref
  split
  · rename_i fr k y
    obtain ⟨u, hu, ad, es, rfl, hl, ho, hr, hc⟩ : ∃ u, [v] = [u] ∧ RdPt w (okf (okOf ow m) may fr) (Rd w (okf (okOf ow m) may fr) k) y u := h
    obtain rfl := (List.cons.inj hu).1
    exact ⟨ad, es, rfl, split_rel hr, fun j u hu => ⟨ho.1, hc j u hu⟩⟩
  · exact h
theorem evalOp_ok (TK : TabOk P T) (CK : CalsOk P C) (M : MemRel w may ow s.m) (hL : Live C may w ow s.m) (F : FrRel w (okOf ow s.m) may ow s a) {o : Oper} {c : SV → Mem → Option R} (h : evalOp C T s o c = some r) :
    OpGo P may w ow s.m o a c r := by
  obtain ⟨dst, op, ty, pos, after, guard⟩ := o
  have hm := hL.new
  cases op <;> simp only [evalOp] at h <;> try (cases h; done)
  case move x => exact OpGo.of_ok (move_ok M h (opd_rel F x)) rfl
  case assign x => exact OpGo.of_ok (move_ok M h (opd_rel F x)) rfl
  case pick q x y =>
    cases hq : (s.opd q).bool? with
    | none => simp [hq] at h
    | some b =>
      simp only [hq] at h
      have hv := bool?_rel (opd_rel F q) hq
      cases b with
      | true => exact OpGo.of_ok (x := pure (.value (a.eval x))) (move_ok M h (opd_rel F x)) (by simp [execOp, hv, asBool])
      | false => exact OpGo.of_ok (x := pure (.value (a.eval y))) (move_ok M h (opd_rel F y)) (by simp [execOp, hv, asBool])
  case binOp op xt x y yt =>
    cases h1 : (s.opd x).leaf? with
    | none =>
      cases h2 : (s.opd y).leaf? with
      | some ly => simp [h1, h2] at h
      | none =>
        simp only [h1, h2] at h
        cases hv : binV C T xt op (s.opd x) (s.opd y) with
        | none => simp [hv] at h
        | some v =>
          simp only [hv] at h
          obtain ⟨z, hz, hr⟩ := binV_ok TK CK (opd_rel F x) (opd_rel F y) hv (x := x) (y := y)
          exact OpGo.of_ok (OpOk.quiet (x := do eqGuard op xt x y (a.eval x) (a.eval y); binOp op xt (a.eval x) (a.eval y)) M h hz hr) rfl
    | some lx =>
      cases h2 : (s.opd y).leaf? with
      | none => simp [h1, h2] at h
      | some ly =>
        simp only [h1, h2] at h
        have hx := leaf?_rel (opd_rel F x) h1
        have hy := leaf?_rel (opd_rel F y) h2
        obtain ⟨⟨l, z, h3, h4, h5⟩, h6⟩ := binE_ok TK hx hy h
        exact OpGo.of_ok (OpOk.quiet (x := do eqGuard op xt x y (a.eval x) (a.eval y); binOp op xt (a.eval x) (a.eval y)) (sv := .one (.lf l)) M h3 (by simp [h6, h5]) h4) rfl
  case unOp op xt x =>
    cases h1 : (s.opd x).leaf? with
    | none => simp [h1] at h
    | some lx =>
      simp only [h1] at h
      exact OpGo.of_ok (Says.ok M (unE_ok (leaf?_rel (opd_rel F x) h1) h)) rfl
  case convert src dst x =>
    cases h1 : (s.opd x).leaf? with
    | none => simp [h1] at h
    | some lx =>
      simp only [h1] at h
      exact OpGo.of_ok (convE_ok TK M (leaf?_rel (opd_rel F x) h1) h) rfl
  case extract x i =>
    have hx := opd_rel F x
    split at h
    case h_3 => cases h
    · rename_i cs he
      rw [he] at hx
      obtain ⟨vs, hv, h2⟩ := hx
      split at h
      case h_2 => cases h
      rename_i v hi
      obtain ⟨u, hu, hr⟩ := F2.get h2 hi
      refine OpGo.of_ok (OpOk.quiet (x := Instr.extract (a.eval x) i) (v := u) (sv := .one v) M h ?_ hr) rfl
      simp [hv, Instr.extract, hu]
    · rename_i hd cs he
      rw [he] at hx
      obtain ⟨u, vs, hv, h1, h2⟩ := hx
      split at h
      · refine OpGo.of_ok (OpOk.quiet (x := Instr.extract (a.eval x) 0) (v := u) (sv := hd.sv) M h ?_ (HdRel.sv h1)) rfl
        simp [hv, Instr.extract]
      · rename_i i
        split at h
        case h_2 => cases h
        rename_i v hi
        obtain ⟨u', hu, hr⟩ := F2.get h2 hi
        refine OpGo.of_ok (OpOk.quiet (x := Instr.extract (a.eval x) (i + 1)) (v := u') (sv := .one v) M h ?_ hr) rfl
        simp [hv, Instr.extract, hu]
  case nilCheck x =>
    obtain ⟨hp, h⟩ := cond_none h
    obtain ⟨ad, he⟩ := isPtr_rel (opd_rel F x) hp
    refine OpGo.of_ok (move_ok M h (opd_rel F x)) ?_
    simp [execOp, he]
  case indexAddr t x i =>
    cases htb : tblAt C t x with
    | some tb =>
      simp only [htb] at h
      cases hix : (s.opd i).int? with
      | none => simp [hix, tblE] at h
      | some ix =>
        simp only [hix, tblE] at h
        obtain ⟨hb, h⟩ := cond_none h
        simp only [Bool.and_eq_true, decide_eq_true_eq] at hb
        obtain ⟨ki, hi⟩ := int?_rel (opd_rel F i) hix
        obtain ⟨g, rfl, hg, ht⟩ : ∃ g, x = .global g ∧ C.tabs g = some tb ∧ tb.t = t := by
          unfold tblAt at htb
          split at htb
          · rename_i g
            split at htb
            · rename_i tb' hg
              obtain ⟨he, hs⟩ := cond_none htb
              obtain rfl := Option.some.inj hs
              exact ⟨g, rfl, hg, Nat.eq_of_beq_eq_true he⟩
            · cases htb
          · cases htb
        subst ht
        obtain ⟨e, hu, hsz⟩ := CK.tabs g tb hg
        refine OpGo.of_ok (x := do pure (.value (← Instr.indexAt tb.t (.pointer (some ⟨g, 0, none⟩)) (.int ki ix)))) (OpOk.quiet (v := .pointer (some ((⟨g, 0, none⟩ : Addr).add (ix.toNat * 1)))) M h ?_ ?_) ?_
        · simp [Instr.indexAt, asIntOf, run_underlying hu, Instr.sureAddr, hb.1, hb.2, hsz]
        · have hget : tb.xs[ix.toNat]? = some (List.getD tb.xs ix.toNat 0) := by
            have hlt : ix.toNat < tb.xs.length := by omega
            simp [List.getD, List.getElem?_eq_getElem hlt]
          refine ⟨_, [.int tb.k (List.getD tb.xs ix.toNat 0)], rfl, ⟨rfl, trivial⟩, fun j u hu => ?_⟩
          cases j with
          | zero =>
            simp at hu; subst hu
            refine ⟨by rw [Addr.add_block]; exact hL.ok g tb hg, ?_⟩
            have := (hL.tab g tb hg).2 _ _ hget
            rw [Nat.mul_one, Addr.add_add', Nat.add_zero]
            exact this
          | succ j => simp at hu
        · have hge : a.eval (.global g) = .pointer (some ⟨g, 0, none⟩) := rfl
          simp [execOp, hi, hge]
    | none =>
    simp only [htb] at h
    cases har : arrN T t with
    | some q =>
      obtain ⟨n, sz⟩ := q
      simp only [har] at h
      split at h
      case h_2 => cases h
      rename_i b o ix h1 h2
      obtain ⟨ki, hi⟩ := int?_rel (opd_rel F i) h2
      have hx := opd_rel F x
      rw [h1] at hx
      refine OpGo.of_ok (idxBox_ok (t := t) (ki := ki) TK M hx har h) ?_
      simp [execOp, hi]
    | none =>
    simp only [har] at h
    split at h
    case h_3 => cases h
    · rename_i n lx ix h1 h2 h3
      obtain ⟨ki, hi⟩ := int?_rel (opd_rel F i) h3
      refine OpGo.of_ok (idxAddr_ok (t := t) (ki := ki) TK M h1 (leaf?_rel (opd_rel F x) h2) h) ?_
      simp [execOp, hi]
    · rename_i n ix h1 h2 h3
      obtain ⟨ki, hi⟩ := int?_rel (opd_rel F i) h3
      cases hb : isHsl (s.opd x) with
      | true =>
        simp only [hb, cond_true] at h
        refine OpGo.of_ok (idxHsl_ok (t := t) (ki := ki) TK M h1 (opd_rel F x) h) ?_
        simp [execOp, hi]
      | false =>
        simp only [hb, cond_false] at h
        refine OpGo.of_ok (idxSub_ok (t := t) (ki := ki) TK M h1 (opd_rel F x) h) ?_
        simp [execOp, hi]
  case index t x i =>
    split at h
    case h_2 => cases h
    rename_i k ag by' fr xs ix h1 h2 h3
    obtain ⟨ki, hi⟩ := int?_rel (opd_rel F i) h3
    have hx := val_str (leaf?_rel (opd_rel F x) h2)
    obtain ⟨hb, h⟩ := cond_none h
    simp only [Bool.and_eq_true, decide_eq_true_eq] at hb
    refine OpGo.of_ok (index_ok (t := t) (ki := ki) M (TK _ _ h1).desc.1 hb.1 hb.2 h) ?_
    simp [execOp, hi, hx]
  case load t x => exact OpGo.of_ok (loadE_ok TK M (deref_rel (opd_rel F x)) h) rfl
  case makeFunc fn first cap =>
    split at h
    case h_2 => cases h
    rename_i g x h1 h2
    unfold makeF at h
    split at h
    case h_2 => cases h
    rename_i b hb
    have hx := opd_rel F x
    rw [hb] at hx
    obtain ⟨d, hd, hv⟩ := hx
    rw [Addr.add_zero_off] at hv
    have e1 : first.map a.eval = #[] := by rw [show first = #[] from Array.toList_inj.1 h1]; simp
    have e2 : cap.map a.eval = #[a.eval x] := by rw [show cap = #[x] from Array.toList_inj.1 h2]; simp
    refine OpGo.of_ok (x := pure (.value (.func (.func g) #[] #[a.eval x]))) (move_ok M h (sv := .fb g b) ⟨d, hd, by rw [hv]⟩) ?_
    simp [execOp, Instr.makeFunc, e1, e2]
  case store t x v =>
    cases h1 : (s.opd v).cmp? with
    | none => simp [h1] at h
    | some cv =>
      simp only [h1] at h
      exact OpGo.of_ok (storeE_ok TK M (opd_rel F x) (cmp?_rel (opd_rel F v) h1) h) rfl
  case makeSlice t n q =>
    split at h
    case h_2 => cases h
    rename_i e e' k ag by' iN iQ h1 h2 h3
    split at h
    case h_2 => cases h
    rename_i ei hei
    obtain ⟨hb, h⟩ := cond_none h
    simp only [Bool.and_eq_true, decide_eq_true_eq, Nat.blt_eq] at hb
    have hz := hb.2.2.2.2
    have hb : 0 ≤ iN ∧ iN ≤ iQ ∧ iQ.toNat * ei.bytes ≤ 281474976710656 ∧ 0 < ei.bytes := ⟨hb.1, hb.2.1, hb.2.2.1, hb.2.2.2.1⟩
    obtain ⟨kn, hn⟩ := int?_rel (opd_rel F n) h2
    obtain ⟨kq, hq⟩ := int?_rel (opd_rel F q) h3
    obtain ⟨_, _, _, hk', _⟩ := (TK _ _ h1).desc
    injection hk' with h5 h6
    subst h5
    refine OpGo.of_ok (makeE_ok TK M hm h1 hei hz (kn := kn) (kq := kq) hb.1 hb.2.1 hb.2.2.1 hb.2.2.2 h) ?_
    simp [execOp, hn, hq]
  case buildSlice t n ps =>
    split at h
    case h_2 => cases h
    rename_i e e' k ag by' h1
    split at h
    case h_2 => cases h
    rename_i cs hcs
    obtain ⟨_, _, _, hk', _⟩ := (TK _ _ h1).desc
    injection hk' with h5 h6
    subst h5
    rcases cond_some h with ⟨_, h⟩ | ⟨_, h⟩
    · obtain ⟨hb, h⟩ := cond_none h
      simp only [Bool.and_eq_true, Nat.ble_eq, beq_iff_eq] at hb
      split at h
      case h_2 => cases h
      rename_i xs hp
      exact OpGo.of_ok (buildVal_ok TK M hm F h1 hcs hb.1.1 hb.1.2 hb.2 hp h) rfl
    obtain ⟨hb, h⟩ := cond_none h
    simp only [Bool.and_eq_true, Nat.ble_eq, beq_iff_eq] at hb
    split at h
    case h_2 => cases h
    rename_i xs hp
    exact OpGo.of_ok (buildSlice_ok TK M hm F h1 hcs hb.1 hb.2 hp h) rfl
  case slice t x lo hi mx =>
    rcases cond_some h with ⟨_, h⟩ | ⟨_, h⟩
    · split at h
      case h_2 => cases h
      rename_i n l q hn h2 h3 h4
      have hmx := optInt_rel F h4
      have hmx' : mx.map a.eval = none := by cases hq : mx.map a.eval with | none => rfl | some => rw [hq] at hmx; exact hmx.elim
      refine OpGo.of_ok (subE_ok TK M hn (opd_rel F x) (optInt_rel F h2) (optInt_rel F h3) h) ?_
      simp [execOp, hmx']
    split at h
    · rename_i fr xs l q h1 h2 h3 h4
      split at h
      case h_2 => cases h
      rename_i k ag by' hT
      have hx := val_str (leaf?_rel (opd_rel F x) h1)
      have hmx := optInt_rel F h4
      have hmx' : mx.map a.eval = none := by cases hq : mx.map a.eval with | none => rfl | some => rw [hq] at hmx; exact hmx.elim
      refine OpGo.of_ok (sliceStr_ok (t := t) M (TK _ _ hT).desc.1 (optInt_rel F h2) (optInt_rel F h3) h) ?_
      simp [execOp, hx, hmx']
    · rename_i lx l q hns h1 h2 h3 h4
      split at h
      case h_2 => cases h
      rename_i n hn
      have hmx := optInt_rel F h4
      have hmx' : mx.map a.eval = none := by cases hq : mx.map a.eval with | none => rfl | some => rw [hq] at hmx; exact hmx.elim
      refine OpGo.of_ok (sliceE_ok TK M hn (leaf?_rel (opd_rel F x) h1) (optInt_rel F h2) (optInt_rel F h3) h) ?_
      simp [execOp, hmx']
    · rename_i lx l q hns h1 h2 h3 h4
      split at h
      case h_2 => cases h
      rename_i n hn
      have hlo := optInt_rel F h2
      have hhi := optInt_rel F h3
      have hmx := optInt_rel F h4
      have hlo' : lo.map a.eval = none := by cases hq : lo.map a.eval with | none => rfl | some => rw [hq] at hlo; exact hlo.elim
      cases hq : hi.map a.eval with
      | none => rw [hq] at hhi; exact hhi.elim
      | some vh =>
        cases hq2 : mx.map a.eval with
        | none => rw [hq2] at hmx; exact hmx.elim
        | some vm =>
          rw [hq] at hhi; rw [hq2] at hmx
          refine OpGo.of_ok (slice3E_ok (t := t) TK M hn (leaf?_rel (opd_rel F x) h1) hhi hmx h) ?_
          simp [execOp, hlo', hq, hq2]
    · cases h
  case makeMap t rsv =>
    cases rsv with
    | some x => cases h
    | none => exact OpGo.of_ok (makeMap_ok M hm (t := t) h) rfl
  case lookup t x k ok => exact OpGo.of_ok (lookE_ok TK M (opd_rel F x) (opd_rel F k) h) rfl
  case mapUpdate t x k v => exact OpGo.of_ok (putE_ok TK M (opd_rel F x) (opd_rel F k) (opd_rel F v) h) rfl
  case insert t x k v => exact OpGo.of_ok (putE_ok TK M (opd_rel F x) (opd_rel F k) (opd_rel F v) h) rfl
  case alloc t =>
    split at h
    case h_2 => cases h
    rename_i ti hT
    exact OpGo.of_ok (alloc_ok TK M hm hT h) rfl
  case box t x =>
    split at h
    case h_2 => cases h
    rename_i ti v hT hv
    obtain ⟨hb, h⟩ := cond_none h
    exact OpGo.of_ok (boxE_ok M hm (cmp?_rel (opd_rel F x) hv) h) rfl
  case build t ps =>
    split at h
    case h_2 => cases h
    rename_i fs k hT
    split at h
    case h_2 => cases h
    rename_i cs hcs
    split at h
    case h_2 => cases h
    rename_i ls hls
    exact OpGo.of_ok (build_ok TK M F hT hcs hls h) rfl
  case fieldAddr t x f =>
    have hx := deref_rel (opd_rel F x)
    cases hf : fieldAt T t f with
    | none => simp [hf] at h
    | some q =>
      obtain ⟨o, ft⟩ := q
      rw [hf] at h
      revert h hx
      generalize (s.opd x).deref = sv
      intro hx h
      refine OpGo.of_ok (fieldAddr_ok TK M hx hf (c := c) ?_) rfl
      cases sv <;> exact h
  case field t x f =>
    have hx := opd_rel F x
    split at h
    case h_2 => cases h
    rename_i o ft ls hf hls
    split at h
    case h_2 => cases h
    rename_i ag n ht
    obtain ⟨hb, h⟩ := cond_none h
    have hb := Nat.eq_of_beq_eq_true hb
    split at h
    case h_2 => cases h
    rename_i v hv
    exact OpGo.of_ok (field_ok TK M hx hf hls ht hv hb h) rfl
  case call q =>
    split at h
    · rename_i g hg
      cases hX : C.x g (isNilp (q.args.toList.map s.opd)) with
      | some xg =>
        simp only [hX] at h
        exact callX_ok CK M hL rfl F rfl hg hX h
      | none =>
      simp only [hX] at h
      cases hio : C.io g with
      | none =>
        simp only [hio] at h
        rcases cond_some h with ⟨_, h⟩ | ⟨_, h⟩
        · exact callF_ok TK CK M hL (opds_rel F q.args.toList) rfl hg rfl h
        obtain ⟨M1, K1, F1⟩ := frz_rel M (opds_rel F q.args.toList)
        exact OpGo.mono K1 (call_ok CK M1 (hL.keep K1) F1 rfl hg rfl h)
      | some ig =>
        simp only [hio] at h
        exact callO_ok TK CK M hm rfl F rfl hg hio h
    · rename_i t hg
      split at h
      case h_2 =>
        split at h
        case h_2 => cases h
        rename_i p hp
        obtain ⟨u, hu, hr⟩ := cloOf_rel (opd_rel F (.tmp t)) hp
        exact call_gen CK M hL rfl hg (us := [u]) hu (F2.append (opds_rel F q.args.toList) (x' := [p.2]) ⟨hr, trivial⟩) h
      rename_i g hfn
      exact call_ok CK M hL (opds_rel F q.args.toList) rfl hg (fncOf_rel (opd_rel F (.tmp t)) hfn) h
    · rename_i b hg
      obtain ⟨hb, h⟩ := cond_none h
      have hb := Nat.eq_of_beq_eq_true hb
      have hargs : q.args.map a.eval = (q.args.toList.map a.eval).toArray := by rw [← Array.toList_map]
      have hts : q.argTypes = q.argTypes.toList.toArray := rfl
      have hsz : q.argTypes.toList.length = q.args.toList.length := by simpa using hb
      have hel : ∀ i, (s.opd i).cmp? = none ∨ True := fun _ => .inr trivial
      generalize hxs : q.args.toList.map s.opd = xs at h
      have hF : F2 (SVRel w (okOf ow s.m) may ow s.m) xs (q.args.toList.map a.eval) := by
        rw [← hxs]
        generalize q.args.toList = l
        induction l with
        | nil => trivial
        | cons x l ih => exact ⟨opd_rel F x, ih⟩
      have hlen : xs.length = q.argTypes.toList.length := by rw [← hxs, List.length_map, hsz]
      have hex : ∀ b', b = b' → execOp a.eval ⟨dst, .call q, ty, pos, after, guard⟩ = (do let d ← (pure { target := .builtin b' q.argTypes ty (q.args.map fun | .const _ => true | _ => false), args := (q.args.toList.map a.eval).toArray } : Sem Deferred); invoke d.target d.args) := by
        rintro _ rfl
        simp only [execOp, resolve, hg, hargs]
        rfl
      generalize q.args.toList.map a.eval = vs at hF hex
      unfold builtinE at h
      split at h
      · rename_i fr x0 hh
        split at h
        case h_2 => cases h
        rename_i k ag by' hT
        obtain ⟨t, ht, hT⟩ := Option.bind_eq_some_iff.1 hT
        match vs, hF with
        | [v], hF =>
        have h7 : LfRel w (okOf ow s.m) may ow (.val fr .str x0) v := hF.1
        obtain rfl := val_str h7
        refine OpGo.of_ok (lenStr_ok (ty := ty) (ts := q.argTypes) M (TK _ _ hT).desc.1 (by simpa using ht) h) ?_
        rw [hex _ rfl]
        simp [invoke, builtin]
      · rename_i l hns
        split at h
        case h_2 => cases h
        rename_i e k ag by' n hT hn
        obtain ⟨t, ht, hT⟩ := Option.bind_eq_some_iff.1 hT
        match vs, hF with
        | [v], hF =>
        refine OpGo.of_ok (lenSl_ok (ty := ty) (ts := q.argTypes) TK M hT (by simpa using ht) hF.1 hn h) ?_
        rw [hex _ rfl]
        simp [invoke, builtin]
      · rename_i n j z
        split at h
        case h_2 => cases h
        rename_i e k ag by' hT
        obtain ⟨t, ht, hT⟩ := Option.bind_eq_some_iff.1 hT
        match vs, hF with
        | [v], hF =>
        refine OpGo.of_ok (lenHsl_ok (ty := ty) (ts := q.argTypes) TK M hT (by simpa using ht) hF.1 h) ?_
        rw [hex _ rfl]
        simp [invoke, builtin]
      · rename_i l y
        match vs, hF with
        | [u, v], hF =>
        refine OpGo.of_ok (append_ok (ty := ty) (ts := q.argTypes.toList) TK M hm hF.1 hF.2.1 (c := c) ?_ hlen.symm) ?_
        · unfold builtinE; exact h
        rw [hex _ rfl]
        simp [invoke, builtin]
      · rename_i z y
        match vs, hF with
        | [u, v], hF =>
        refine OpGo.of_ok (copy_ok (ty := ty) (ts := q.argTypes.toList) TK M hF.1 hF.2.1 (c := c) ?_ hlen.symm) ?_
        · unfold builtinE; exact h
        rw [hex _ rfl]
        simp [invoke, builtin]
      · rename_i z oo nn gg y
        match vs, hF with
        | [u, v], hF =>
        refine OpGo.of_ok (copySub_ok (ty := ty) (ts := q.argTypes.toList) TK M hF.1 hF.2.1 (c := c) ?_ hlen.symm) ?_
        · unfold builtinE; exact h
        rw [hex _ rfl]
        simp [invoke, builtin]
      · cases h
    · cases h
end
end Go.Fx
