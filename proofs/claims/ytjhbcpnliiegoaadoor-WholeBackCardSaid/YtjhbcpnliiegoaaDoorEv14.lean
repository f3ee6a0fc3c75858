/- One operation as a whole: whatever it is. -/
import Derived.Test.YtjhbcpnliiegoaaDoorEv13
namespace Go.Fx
open Go Go.RowKit
set_option linter.unusedVariables false
set_option linter.unusedSimpArgs false

section
variable {R : Type} {P : Program} {T : Tab} {C : Cals} {w : World} {may : Nat → Prop} {ow : Ow} {r : R} {s : S} {a : Act}

theorem Says.ok {x : Sem Value} {m : Mem} (M : MemRel w may ow m) {c : SV → Mem → Option R} (h : Says P w (okOf ow m) may ow x (fun l => c (.one (.lf l)) m) r) : OpOk P may w ow m (do pure (.value (← x))) c r := by
  obtain ⟨l, z, h1, h2, h3⟩ := h
  exact OpOk.quiet M h1 h3 h2

theorem move_ok {m : Mem} (M : MemRel w may ow m) {sv : SV} {v : Value} {c : SV → Mem → Option R} (h : c sv m = some r) (hv : SVRel w (okOf ow m) may ow m sv v) : OpOk P may w ow m (pure (.value v)) c r :=
  ⟨sv, m, v, w, ow, h, .inl (by simp), M, Keep.refl _ _ _ _, hv⟩

theorem evalOp_ok (TK : TabOk P T) (CK : CalsOk P C) (M : MemRel w may ow s.m) (hL : Live C may w ow s.m) (F : FrRel w (okOf ow s.m) may ow s a) {o : Oper} {c : SV → Mem → Option R} (h : evalOp C T s o c = some r) :
    OpGo P may w ow s.m o a c r := by
  obtain ⟨dst, op, ty, pos, after, guard⟩ := o
  have hm := hL.new
  cases op <;> simp only [evalOp] at h <;> try (cases h; done)
  case move x => exact OpGo.of_ok (move_ok M h (opd_rel F x)) rfl
  case assign x => exact OpGo.of_ok (move_ok M h (opd_rel F x)) rfl
  case pick q x y =>
    cases hq : (s.opd q).bool? with
    | none => simp [hq] at h
    | some b =>
      simp only [hq] at h
      have hv := bool?_rel (opd_rel F q) hq
      cases b with
      | true => exact OpGo.of_ok (x := pure (.value (a.eval x))) (move_ok M h (opd_rel F x)) (by simp [execOp, hv, asBool])
      | false => exact OpGo.of_ok (x := pure (.value (a.eval y))) (move_ok M h (opd_rel F y)) (by simp [execOp, hv, asBool])
  case binOp op xt x y yt =>
    cases h1 : (s.opd x).leaf? with
    | none => simp [h1] at h
    | some lx =>
      cases h2 : (s.opd y).leaf? with
      | none => simp [h1, h2] at h
      | some ly =>
        simp only [h1, h2] at h
        have hx := leaf?_rel (opd_rel F x) h1
        have hy := leaf?_rel (opd_rel F y) h2
        obtain ⟨⟨l, z, h3, h4, h5⟩, h6⟩ := binE_ok TK hx hy h
        exact OpGo.of_ok (OpOk.quiet (x := do eqGuard op xt x y (a.eval x) (a.eval y); binOp op xt (a.eval x) (a.eval y)) (sv := .one (.lf l)) M h3 (by simp [h6, h5]) h4) rfl
  case unOp op xt x =>
    cases h1 : (s.opd x).leaf? with
    | none => simp [h1] at h
    | some lx =>
      simp only [h1] at h
      exact OpGo.of_ok (Says.ok M (unE_ok (leaf?_rel (opd_rel F x) h1) h)) rfl
  case convert src dst x =>
    cases h1 : (s.opd x).leaf? with
    | none => simp [h1] at h
    | some lx =>
      simp only [h1] at h
      exact OpGo.of_ok (convE_ok TK M (leaf?_rel (opd_rel F x) h1) h) rfl
  case extract x i =>
    have hx := opd_rel F x
    split at h
    case h_2 => cases h
    rename_i cs he
    rw [he] at hx
    obtain ⟨vs, hv, h2⟩ := hx
    split at h
    case h_2 => cases h
    rename_i v hi
    obtain ⟨u, hu, hr⟩ := F2.get h2 hi
    refine OpGo.of_ok (OpOk.quiet (x := Instr.extract (a.eval x) i) (v := u) (sv := .one v) M h ?_ hr) rfl
    simp [hv, Instr.extract, hu]
  case indexAddr t x i =>
    cases htb : tblAt C t x with
    | some tb =>
      simp only [htb] at h
      cases hix : (s.opd i).int? with
      | none => simp [hix, tblE] at h
      | some ix =>
        simp only [hix, tblE] at h
        obtain ⟨hb, h⟩ := cond_none h
        simp only [Bool.and_eq_true, decide_eq_true_eq] at hb
        obtain ⟨ki, hi⟩ := int?_rel (opd_rel F i) hix
        obtain ⟨g, rfl, hg, ht⟩ : ∃ g, x = .global g ∧ C.tabs g = some tb ∧ tb.t = t := by
          unfold tblAt at htb
          split at htb
          · rename_i g
            split at htb
            · rename_i tb' hg
              obtain ⟨he, hs⟩ := cond_none htb
              obtain rfl := Option.some.inj hs
              exact ⟨g, rfl, hg, Nat.eq_of_beq_eq_true he⟩
            · cases htb
          · cases htb
        subst ht
        obtain ⟨e, hu, hsz⟩ := CK.tabs g tb hg
        refine OpGo.of_ok (x := do pure (.value (← Instr.indexAt tb.t (.pointer (some ⟨g, 0, none⟩)) (.int ki ix)))) (OpOk.quiet (v := .pointer (some ((⟨g, 0, none⟩ : Addr).add (ix.toNat * 1)))) M h ?_ ?_) ?_
        · simp [Instr.indexAt, asIntOf, run_underlying hu, Instr.sureAddr, hb.1, hb.2, hsz]
        · have hget : tb.xs[ix.toNat]? = some (List.getD tb.xs ix.toNat 0) := by
            have hlt : ix.toNat < tb.xs.length := by omega
            simp [List.getD, List.getElem?_eq_getElem hlt]
          refine ⟨_, [.int tb.k (List.getD tb.xs ix.toNat 0)], rfl, ⟨rfl, trivial⟩, fun j u hu => ?_⟩
          cases j with
          | zero =>
            simp at hu; subst hu
            refine ⟨by rw [Addr.add_block]; exact hL.ok g tb hg, ?_⟩
            have := (hL.tab g tb hg).2 _ _ hget
            rw [Nat.mul_one, Addr.add_add', Nat.add_zero]
            exact this
          | succ j => simp at hu
        · have hge : a.eval (.global g) = .pointer (some ⟨g, 0, none⟩) := rfl
          simp [execOp, hi, hge]
    | none =>
    simp only [htb] at h
    split at h
    case h_3 => cases h
    · rename_i n lx ix h1 h2 h3
      obtain ⟨ki, hi⟩ := int?_rel (opd_rel F i) h3
      refine OpGo.of_ok (idxAddr_ok (t := t) (ki := ki) TK M h1 (leaf?_rel (opd_rel F x) h2) h) ?_
      simp [execOp, hi]
    · rename_i n ix h1 h2 h3
      obtain ⟨ki, hi⟩ := int?_rel (opd_rel F i) h3
      refine OpGo.of_ok (idxSub_ok (t := t) (ki := ki) TK M h1 (opd_rel F x) h) ?_
      simp [execOp, hi]
  case index t x i =>
    split at h
    case h_2 => cases h
    rename_i k ag by' fr xs ix h1 h2 h3
    obtain ⟨ki, hi⟩ := int?_rel (opd_rel F i) h3
    have hx := val_str (leaf?_rel (opd_rel F x) h2)
    obtain ⟨hb, h⟩ := cond_none h
    simp only [Bool.and_eq_true, decide_eq_true_eq] at hb
    refine OpGo.of_ok (index_ok (t := t) (ki := ki) M (TK _ _ h1).desc.1 hb.1 hb.2 h) ?_
    simp [execOp, hi, hx]
  case load t x => exact OpGo.of_ok (loadE_ok TK M (opd_rel F x) h) rfl
  case store t x v =>
    cases h1 : (s.opd v).cmp? with
    | none => simp [h1] at h
    | some cv =>
      simp only [h1] at h
      exact OpGo.of_ok (storeE_ok TK M (opd_rel F x) (cmp?_rel (opd_rel F v) h1) h) rfl
  case makeSlice t n q =>
    split at h
    case h_2 => cases h
    rename_i e e' k ag by' iN iQ h1 h2 h3
    split at h
    case h_2 => cases h
    rename_i ei hei
    obtain ⟨hb, h⟩ := cond_none h
    simp only [Bool.and_eq_true, decide_eq_true_eq, Nat.blt_eq] at hb
    obtain ⟨kn, hn⟩ := int?_rel (opd_rel F n) h2
    obtain ⟨kq, hq⟩ := int?_rel (opd_rel F q) h3
    obtain ⟨_, _, _, hk', _⟩ := (TK _ _ h1).desc
    injection hk' with h5 h6
    subst h5
    refine OpGo.of_ok (makeE_ok TK M hm h1 hei (kn := kn) (kq := kq) hb.1 hb.2.1 hb.2.2.1 hb.2.2.2 h) ?_
    simp [execOp, hn, hq]
  case buildSlice t n ps =>
    split at h
    case h_2 => cases h
    rename_i e e' k ag by' h1
    split at h
    case h_2 => cases h
    rename_i cs hcs
    obtain ⟨hb, h⟩ := cond_none h
    simp only [Bool.and_eq_true, Nat.ble_eq, beq_iff_eq] at hb
    split at h
    case h_2 => cases h
    rename_i xs hp
    obtain ⟨_, _, _, hk', _⟩ := (TK _ _ h1).desc
    injection hk' with h5 h6
    subst h5
    exact OpGo.of_ok (buildSlice_ok TK M hm F h1 hcs hb.1 hb.2 hp h) rfl
  case slice t x lo hi mx =>
    rcases cond_some h with ⟨_, h⟩ | ⟨_, h⟩
    · split at h
      case h_2 => cases h
      rename_i n l q hn h2 h3 h4
      have hmx := optInt_rel F h4
      have hmx' : mx.map a.eval = none := by cases hq : mx.map a.eval with | none => rfl | some => rw [hq] at hmx; exact hmx.elim
      refine OpGo.of_ok (subE_ok TK M hn (opd_rel F x) (optInt_rel F h2) (optInt_rel F h3) h) ?_
      simp [execOp, hmx']
    split at h
    · rename_i fr xs l q h1 h2 h3 h4
      split at h
      case h_2 => cases h
      rename_i k ag by' hT
      have hx := val_str (leaf?_rel (opd_rel F x) h1)
      have hmx := optInt_rel F h4
      have hmx' : mx.map a.eval = none := by cases hq : mx.map a.eval with | none => rfl | some => rw [hq] at hmx; exact hmx.elim
      refine OpGo.of_ok (sliceStr_ok (t := t) M (TK _ _ hT).desc.1 (optInt_rel F h2) (optInt_rel F h3) h) ?_
      simp [execOp, hx, hmx']
    · rename_i lx l q hns h1 h2 h3 h4
      split at h
      case h_2 => cases h
      rename_i n hn
      have hmx := optInt_rel F h4
      have hmx' : mx.map a.eval = none := by cases hq : mx.map a.eval with | none => rfl | some => rw [hq] at hmx; exact hmx.elim
      refine OpGo.of_ok (sliceE_ok TK M hn (leaf?_rel (opd_rel F x) h1) (optInt_rel F h2) (optInt_rel F h3) h) ?_
      simp [execOp, hmx']
    · rename_i lx l q hns h1 h2 h3 h4
      split at h
      case h_2 => cases h
      rename_i n hn
      have hlo := optInt_rel F h2
      have hhi := optInt_rel F h3
      have hmx := optInt_rel F h4
      have hlo' : lo.map a.eval = none := by cases hq : lo.map a.eval with | none => rfl | some => rw [hq] at hlo; exact hlo.elim
      cases hq : hi.map a.eval with
      | none => rw [hq] at hhi; exact hhi.elim
      | some vh =>
        cases hq2 : mx.map a.eval with
        | none => rw [hq2] at hmx; exact hmx.elim
        | some vm =>
          rw [hq] at hhi; rw [hq2] at hmx
          refine OpGo.of_ok (slice3E_ok (t := t) TK M hn (leaf?_rel (opd_rel F x) h1) hhi hmx h) ?_
          simp [execOp, hlo', hq, hq2]
    · cases h
  case alloc t =>
    split at h
    case h_2 => cases h
    rename_i ti hT
    exact OpGo.of_ok (alloc_ok TK M hm hT h) rfl
  case box t x =>
    split at h
    case h_2 => cases h
    rename_i ti v hT hv
    obtain ⟨hb, h⟩ := cond_none h
    exact OpGo.of_ok (boxE_ok M hm (cmp?_rel (opd_rel F x) hv) h) rfl
  case build t ps =>
    split at h
    case h_2 => cases h
    rename_i fs k ag by' hT
    split at h
    case h_2 => cases h
    rename_i cs hcs
    split at h
    case h_2 => cases h
    rename_i ls hls
    exact OpGo.of_ok (build_ok TK M F hT hcs hls h) rfl
  case fieldAddr t x f =>
    have hx := opd_rel F x
    cases hf : fieldAt T t f with
    | none => simp [hf] at h
    | some q =>
      obtain ⟨o, ft⟩ := q
      rw [hf] at h
      revert h hx
      generalize s.opd x = sv
      intro hx h
      refine OpGo.of_ok (fieldAddr_ok TK M hx hf (c := c) ?_) rfl
      cases sv <;> exact h
  case field t x f =>
    have hx := opd_rel F x
    split at h
    case h_2 => cases h
    rename_i o ft ls hf hls
    split at h
    case h_2 => cases h
    rename_i ag n ht
    obtain ⟨hb, h⟩ := cond_none h
    have hb := Nat.eq_of_beq_eq_true hb
    split at h
    case h_2 => cases h
    rename_i v hv
    exact OpGo.of_ok (field_ok TK M hx hf hls ht hv hb h) rfl
  case call q =>
    split at h
    · rename_i g hg
      cases hio : C.io g with
      | none =>
        simp only [hio] at h
        exact call_ok CK M hL rfl F rfl hg h
      | some ig =>
        simp only [hio] at h
        exact callIO_ok CK M hm rfl F rfl hg hio h
    · rename_i b hg
      obtain ⟨hb, h⟩ := cond_none h
      have hb := Nat.eq_of_beq_eq_true hb
      have hargs : q.args.map a.eval = (q.args.toList.map a.eval).toArray := by rw [← Array.toList_map]
      have hts : q.argTypes = q.argTypes.toList.toArray := rfl
      have hsz : q.argTypes.toList.length = q.args.toList.length := by simpa using hb
      have hel : ∀ i, (s.opd i).cmp? = none ∨ True := fun _ => .inr trivial
      generalize hxs : q.args.toList.map s.opd = xs at h
      have hF : F2 (SVRel w (okOf ow s.m) may ow s.m) xs (q.args.toList.map a.eval) := by
        rw [← hxs]
        generalize q.args.toList = l
        induction l with
        | nil => trivial
        | cons x l ih => exact ⟨opd_rel F x, ih⟩
      have hlen : xs.length = q.argTypes.toList.length := by rw [← hxs, List.length_map, hsz]
      have hex : ∀ b', b = b' → execOp a.eval ⟨dst, .call q, ty, pos, after, guard⟩ = (do let d ← (pure { target := .builtin b' q.argTypes ty (q.args.map fun | .const _ => true | _ => false), args := (q.args.toList.map a.eval).toArray } : Sem Deferred); invoke d.target d.args) := by
        rintro _ rfl
        simp only [execOp, resolve, hg, hargs]
        rfl
      generalize q.args.toList.map a.eval = vs at hF hex
      unfold builtinE at h
      split at h
      · rename_i fr x0 hh
        split at h
        case h_2 => cases h
        rename_i k ag by' hT
        obtain ⟨t, ht, hT⟩ := Option.bind_eq_some_iff.1 hT
        match vs, hF with
        | [v], hF =>
        have h7 : LfRel w (okOf ow s.m) may ow (.val fr .str x0) v := hF.1
        obtain rfl := val_str h7
        refine OpGo.of_ok (lenStr_ok (ty := ty) (ts := q.argTypes) M (TK _ _ hT).desc.1 (by simpa using ht) h) ?_
        rw [hex _ rfl]
        simp [invoke, builtin]
      · rename_i l hns
        split at h
        case h_2 => cases h
        rename_i e k ag by' n hT hn
        obtain ⟨t, ht, hT⟩ := Option.bind_eq_some_iff.1 hT
        match vs, hF with
        | [v], hF =>
        refine OpGo.of_ok (lenSl_ok (ty := ty) (ts := q.argTypes) TK M hT (by simpa using ht) hF.1 hn h) ?_
        rw [hex _ rfl]
        simp [invoke, builtin]
      · rename_i l y
        match vs, hF with
        | [u, v], hF =>
        refine OpGo.of_ok (append_ok (ty := ty) (ts := q.argTypes.toList) TK M hm hF.1 hF.2.1 (c := c) ?_ hlen.symm) ?_
        · unfold builtinE; exact h
        rw [hex _ rfl]
        simp [invoke, builtin]
      · rename_i z y
        match vs, hF with
        | [u, v], hF =>
        refine OpGo.of_ok (copy_ok (ty := ty) (ts := q.argTypes.toList) TK M hF.1 hF.2.1 (c := c) ?_ hlen.symm) ?_
        · unfold builtinE; exact h
        rw [hex _ rfl]
        simp [invoke, builtin]
      · rename_i z oo nn gg y
        match vs, hF with
        | [u, v], hF =>
        refine OpGo.of_ok (copySub_ok (ty := ty) (ts := q.argTypes.toList) TK M hF.1 hF.2.1 (c := c) ?_ hlen.symm) ?_
        · unfold builtinE; exact h
        rw [hex _ rfl]
        simp [invoke, builtin]
      · cases h
    · cases h
end
end Go.Fx
