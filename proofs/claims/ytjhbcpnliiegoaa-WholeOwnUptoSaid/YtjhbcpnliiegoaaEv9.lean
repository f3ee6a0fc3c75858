/- Cuts, appends, copies, texts. -/
import Derived.Test.YtjhbcpnliiegoaaEv8
import Derived.Maps.AppendAt
namespace Go.Fx
open Go Go.RowKit
set_option linter.unusedVariables false
set_option linter.unusedSimpArgs false
/-- An optional number and the optional operand's value. -/
def OptRel : Option Int → Option Value → Prop
  | none, none => True
  | some i, some v => ∃ k, v = .int k i
  | _, _ => False
section
variable {R : Type} {P : Program} {T : Tab} {w : World} {may : Nat → Prop} {ow : Ow} {m : Mem} {r : R}
theorem optInt_rel {ok : Nat → Prop} {s : S} {a : Act} (F : FrRel w ok may ow s a) {x : Option Operand} {i : Option Int} (h : optInt s x = some i) : OptRel i (x.map a.eval) := by
  cases x with
  | none => simp only [optInt] at h; obtain rfl := Option.some.inj h; trivial
  | some x =>
    simp only [optInt] at h
    obtain ⟨j, h1, rfl⟩ := Option.map_eq_some_iff.1 h
    exact int?_rel (opd_rel F x) h1
/-- 'xs[lo:hi]' of a slice. -/
theorem run_cut {t e : TypeId} {n : Nat} (hu : P.underlying t = some (.slice e)) (hs : (sizeOf e).run P w = .ok n w) {A : Option Addr} {len cap : Nat} {lo hi : Option Int} {vlo vhi : Option Value} (hlo : OptRel lo vlo) (hhi : OptRel hi vhi)
    {l h : Nat} (hl : lo.getD 0 = (l : Int)) (hh : hi.getD (len : Int) = (h : Int)) (h1 : l ≤ h) (h2 : h ≤ cap) :
    (Instr.sliceAt t (.slice A len cap) vlo vhi none).run P w = .ok (.slice (if cap = l then A else A.map (·.add (l * n))) (h - l) (cap - l)) w := by
  have hb : (Instr.sliceBounds true len cap vlo vhi none).run P w = .ok (l, h, cap) w := by
    cases lo with
    | none =>
      cases vlo with
      | some => exact hlo.elim
      | none =>
        simp at hl; obtain rfl : l = 0 := by omega
        cases hi with
        | none =>
          cases vhi with
          | some => exact hhi.elim
          | none => simp at hh; obtain rfl : h = len := by omega
                    simp [Instr.sliceBounds]
        | some j =>
          cases vhi with
          | none => exact hhi.elim
          | some v =>
            obtain ⟨k, rfl⟩ := hhi
            simp at hh; subst hh
            simp [Instr.sliceBounds, run_sliceBound, show (h : Int) ≤ cap by omega]
    | some i =>
      cases vlo with
      | none => exact hlo.elim
      | some v =>
        obtain ⟨k, rfl⟩ := hlo
        simp at hl; subst hl
        cases hi with
        | none =>
          cases vhi with
          | some => exact hhi.elim
          | none => simp at hh; obtain rfl : h = len := by omega
                    simp [Instr.sliceBounds, run_sliceBound, show (l : Int) ≤ h by omega]
        | some j =>
          cases vhi with
          | none => exact hhi.elim
          | some v =>
            obtain ⟨k', rfl⟩ := hhi
            simp at hh; subst hh
            simp [Instr.sliceBounds, run_sliceBound, show (h : Int) ≤ cap by omega, show (l : Int) ≤ h by omega]
  simp [Instr.sliceAt, run_underlying hu, Instr.slice, hb, hs]
def cutR {α : Type} (take drop : Nat → α → α) (x : α) : Option Int → Option Int → Nat → Nat → α
  | none, none, _, _ => x
  | none, some _, _, q => take q x
  | some _, none, l, _ => drop l x
  | some _, some _, l, q => drop l (take q x)
/-- The bounds that 'cutE' has tested. -/
theorem cutE_some {α : Type} {n : Nat} {take drop : Nat → α → α} {x : α} {lo hi : Option Int} {c : α → Option R} (h : cutE n take drop x lo hi c = some r) :
    ∃ l q : Nat, lo.getD 0 = (l : Int) ∧ hi.getD (n : Int) = (q : Int) ∧ l ≤ q ∧ q ≤ n ∧
      c (cutR take drop x lo hi l q) = some r := by
  unfold cutE at h
  cases lo with
  | none =>
    cases hi with
    | none => exact ⟨0, n, rfl, rfl, Nat.zero_le _, Nat.le_refl _, h⟩
    | some j =>
      obtain ⟨hb, h⟩ := cond_none h
      simp only [Bool.and_eq_true, decide_eq_true_eq] at hb
      exact ⟨0, j.toNat, rfl, by simp; omega, Nat.zero_le _, by omega, h⟩
  | some i =>
    cases hi with
    | none =>
      obtain ⟨hb, h⟩ := cond_none h
      simp only [Bool.and_eq_true, decide_eq_true_eq] at hb
      exact ⟨i.toNat, n, by simp; omega, rfl, by omega, Nat.le_refl _, h⟩
    | some j =>
      obtain ⟨hb, h⟩ := cond_none h
      simp only [Bool.and_eq_true, decide_eq_true_eq] at hb
      exact ⟨i.toNat, j.toNat, by simp; omega, by simp; omega, by omega, by omega, h⟩
theorem cut_list {α : Type} {xs : List α} {lo hi : Option Int} {l q : Nat} (hl : lo.getD 0 = (l : Int)) (hq : hi.getD (xs.length : Int) = (q : Int)) :
    cutR List.take List.drop xs lo hi l q = (xs.take q).drop l := by
  cases lo <;> cases hi <;> simp at hl hq <;> simp only [cutR]
  · obtain rfl : l = 0 := by omega
    obtain rfl : q = xs.length := by omega
    simp
  · obtain rfl : l = 0 := by omega
    rfl
  · obtain rfl : q = xs.length := by omega
    simp
/-- A cut of what nobody writes. -/
theorem cutVal_ok {t e : TypeId} {k : K} (hu : P.underlying t = some (.slice e)) (hs : (sizeOf e).run P w = .ok k.n w) (M : MemRel w may ow m) {fr : Bool} {e' : TypeId} {xs : List k.T} {u : Value} (hx : LfRel w (okOf ow m) may ow (.val fr (.sl e' k) xs) u)
    {lo hi : Option Int} {vlo vhi : Option Value} (hlo : OptRel lo vlo) (hhi : OptRel hi vhi) {l q : Nat} (hl : lo.getD 0 = (l : Int)) (hq : hi.getD (xs.length : Int) = (q : Int)) (h1 : l ≤ q) (h2 : q ≤ xs.length) {c : SV → Mem → Option R}
    (h : c (.one (.lf (.val fr (.sl e' k) ((xs.take q).drop l)))) m = some r) : OpOk P may w ow m (do pure (.value (← Instr.sliceAt t u vlo vhi none))) c r := by
  have hx' : Rd w (okf (okOf ow m) may fr) (.sl e' k) xs [u] := hx
  obtain ⟨A, cp, hu', hc, hel⟩ := hx'
  obtain rfl : u = .slice A xs.length cp := by simpa using hu'
  exact OpOk.quiet M h (run_cut hu hs hlo hhi hl hq h1 (by omega)) (Rd.cut (k := k) (e := e') hx l q cp h1 h2 A cp rfl (by omega))
theorem sliceE_ok (TK : TabOk P T) (M : MemRel w may ow m) {t : TypeId} {n : Nat} {x : Leaf} {u : Value} {lo hi : Option Int} {vlo vhi : Option Value} {c : SV → Mem → Option R} (hn : elemN T t = some n) (hx : LfRel w (okOf ow m) may ow x u)
    (hlo : OptRel lo vlo) (hhi : OptRel hi vhi) (h : sliceE m n x lo hi c = some r) : OpOk P may w ow m (do pure (.value (← Instr.sliceAt t u vlo vhi none))) c r := by
  unfold elemN at hn
  split at hn
  case h_2 => cases hn
  rename_i e e' k' ag by' hT
  obtain rfl := Option.some.inj hn
  obtain ⟨hu, ei, hei, hk', _⟩ := (TK _ _ hT).desc
  injection hk' with h1 h2
  subst h1 h2
  have hsz := (TK _ _ hei).size (w := w)
  cases x with
  | nil => simp [sliceE] at h
  | val fr k xs =>
    cases k <;> simp only [sliceE] at h <;> try (cases h; done)
    rename_i e2 k
    obtain ⟨hk, h⟩ := cond_none h
    have hk := Nat.eq_of_beq_eq_true hk
    rw [hk] at hsz
    obtain ⟨l, q, hl, hq, h1, h2, h⟩ := cutE_some h
    exact cutVal_ok (k := k) hu hsz M (xs := xs) hx hlo hhi hl hq h1 h2 (by rw [← cut_list (α := k.T) (xs := xs) hl hq]; exact h)
  | own z =>
    simp only [sliceE] at h
    cases hr : m.row? z with
    | none => simp [hr] at h
    | some row =>
      simp only [hr] at h
      obtain ⟨hk, h⟩ := cond_none h
      have hk := Nat.eq_of_beq_eq_true hk
      rw [hk] at hsz
      obtain ⟨v, hv, RR⟩ := M.sl z row hr hx.1 hx.2
      obtain rfl : u = v := Option.some.inj (hx.1.symm.trans hv)
      split at h
      · rename_i hw _
        obtain ⟨l, q, hl, hq, h1, h2, h⟩ := cutE_some h
        obtain rfl : l = 0 := by simpa using hl.symm
        rw [cut_list (xs := row.xs) hl hq] at h
        simp only [List.drop_zero] at h
        obtain ⟨_, R2⟩ := RR
        rw [hw] at R2
        simp only [if_true] at R2
        obtain ⟨cs, hown, hrd⟩ := R2
        obtain ⟨A, cap, rfl⟩ := ownsRow.slice hown
        have hcap : row.xs.length ≤ cap := by
          rcases hown.2 with ⟨h3, h4⟩ | ⟨g, cp, cur, h3, hg, hh, hn, rest⟩
          · omega
          · injection h3 with _ _ h3; omega
        have hrun := run_cut (P := P) (w := w) (A := A) (len := row.xs.length) (cap := cap) hu hsz hlo hhi hl hq (Nat.zero_le _) (by omega)
        have hA : (if cap = 0 then A else A.map (·.add (0 * row.k.n))) = A := by
          split
          · rfl
          · cases A <;> simp [Addr.add]
        simp only [Nat.sub_zero, hA] at hrun
        have hown' : w.ownsRow 0 row.e row.k.n (.slice A q cap) (row.xs.take q).length (cs.take (q * row.k.n)) := by
          have hlen : (row.xs.take q).length = q := by rw [List.length_take]; omega
          refine ⟨by rw [(hrd.take q).len], ?_⟩
          rw [hlen]
          rcases hown.2 with ⟨h3, h4⟩ | ⟨g, cp, cur, h3, hg, hh, hn, hm', hc', ht'⟩
          · injection h3 with h5 h6 h7
            subst h5 h7
            exact .inl ⟨by have : q = 0 := by omega
                           subst this; rfl, by omega⟩
          · injection h3 with h5 h6 h7
            subst h5 h7
            refine .inr ⟨g, _, cur, rfl, hg, hh, by omega, hm', hc', ?_⟩
            rw [← ht', List.take_take, Nat.min_eq_left (Nat.mul_le_mul_right _ h2)]
        have hblk : ∀ b, (Value.slice A q cap).ownBlock = some b → (Value.slice A row.xs.length cap).ownBlock = some b := fun b hb => by
          cases A with
          | none => cases hb
          | some ad => exact hb
        obtain ⟨M', K'⟩ := M.renew (w' := w) z { row with xs := row.xs.take q } (.slice A q cap) (Nat.le_refl _) rfl rfl rfl (fun _ _ _ => rfl) hw _ hown' (hrd.take q) (fun b hb => by
          have hb1 : blk ow m (.row z) = some b := (blk_row hr hv hw).trans (oblk_slice.trans (hblk b hb))
          exact ⟨(M.may_ _ _ hb1).1, (M.may_ _ _ hb1).2, .inr hb1⟩)
        unfold Fx.newRow at h
        simp only [List.length_set] at h
        refine ⟨_, _, .slice A q cap, w, _, h, .inl (by simp [hrun]), M', K', ?_, _, _, _, rfl⟩
        show (ow.rv ++ [_])[m.rows.length]? = _
        rw [← M.rlen]; simp
      · rename_i lo' _
        obtain ⟨l, q, hl, hq, h1, h2, h⟩ := cutE_some h
        rw [cut_list (xs := row.xs) hl hq] at h
        obtain ⟨M1, K1⟩ := M.freeze (.own z)
        have hread := leafData_rel M1 (freeze_froz m (.own z)) (LfRel.keep K1.stay K1.rv hx) (k := .sl row.e row.k) (x := row.xs) (by
          simp only [leafData, row?_freeze, if_true, hr, Option.map_some]
          simp [K.cast])
        have hfr : leafFr (m.freeze (.own z)) (.own z) = row.fr := by simp [leafFr, row?_freeze, hr]
        rw [hfr] at hread
        refine OpOk.mono K1 (cutVal_ok (k := row.k) hu hsz M1 (e' := row.e) (xs := row.xs) hread hlo hhi hl hq h1 h2 h)
theorem slice3E_ok (TK : TabOk P T) (M : MemRel w may ow m) {t : TypeId} {n : Nat} {x : Leaf} {u : Value} {hi q : Int} {vhi vq : Value} {c : SV → Mem → Option R} (hn : elemN T t = some n) (hx : LfRel w (okOf ow m) may ow x u)
    (hhi : ∃ k, vhi = .int k hi) (hq : ∃ k, vq = .int k q) (h : slice3E m n x hi q c = some r) : OpOk P may w ow m (do pure (.value (← Instr.sliceAt t u none (some vhi) (some vq)))) c r := by
  unfold elemN at hn
  split at hn
  case h_2 => cases hn
  rename_i e e' k' ag by' hT
  obtain rfl := Option.some.inj hn
  obtain ⟨hu, ei, hei, hk', _⟩ := (TK _ _ hT).desc
  injection hk' with h1 h2
  subst h1 h2
  have hsz := (TK _ _ hei).size (w := w)
  obtain ⟨k1, rfl⟩ := hhi
  obtain ⟨k2, rfl⟩ := hq
  cases x with
  | nil => simp [slice3E] at h
  | own => simp [slice3E] at h
  | val fr k xs =>
    cases k <;> simp only [slice3E] at h <;> try (cases h; done)
    rename_i e2 k
    obtain ⟨hk, h⟩ := cond_none h
    have hk := Nat.eq_of_beq_eq_true hk
    rw [hk] at hsz
    obtain ⟨hb, h⟩ := cond_none h
    simp only [Bool.and_eq_true, decide_eq_true_eq] at hb
    have hx' : Rd w (okf (okOf ow m) may fr) (.sl e2 k) xs [u] := hx
    obtain ⟨A, cp, hu', hc, hel⟩ := hx'
    obtain rfl : u = .slice A (List.length (α := k.T) xs) cp := by simpa using hu'
    have hrun : (Instr.sliceAt t (.slice A (List.length (α := k.T) xs) cp) none (some (.int k1 hi)) (some (.int k2 q))).run P w = .ok (.slice (if q.toNat = 0 then A else A.map (·.add (0 * k.n))) (hi.toNat - 0) (q.toNat - 0)) w := by
      have hq : (q.toNat : Int) = q := by omega
      simp [Instr.sliceAt, run_underlying hu, Instr.slice, Instr.sliceBounds, run_sliceBound, hsz, show (0 : Int) ≤ q by omega, show q ≤ (cp : Int) by omega, show (0 : Int) ≤ hi by omega, hq, show hi ≤ q by omega]
    refine OpOk.quiet M (c := c) (sv := .one (.lf (.val fr (.sl e2 k) (List.take (α := k.T) hi.toNat xs)))) h hrun ?_
    have := Rd.cut (k := k) (e := e2) (xs := xs) hx 0 hi.toNat q.toNat (Nat.zero_le _) (by omega) A cp rfl (by omega)
    rw [List.drop_zero] at this
    exact this
theorem subE_ok (TK : TabOk P T) (M : MemRel w may ow m) {t : TypeId} {n : Nat} {x : SV} {u : Value} {lo hi : Option Int} {vlo vhi : Option Value} {c : SV → Mem → Option R} (hn : elemN T t = some n) (hx : SVRel w (okOf ow m) may ow m x u)
    (hlo : OptRel lo vlo) (hhi : OptRel hi vhi) (h : subE m n x lo hi c = some r) : OpOk P may w ow m (do pure (.value (← Instr.sliceAt t u vlo vhi none))) c r := by
  unfold elemN at hn
  split at hn
  case h_2 => cases hn
  rename_i e e' k' ag by' hT
  obtain rfl := Option.some.inj hn
  obtain ⟨hu, ei, hei, hk', _⟩ := (TK _ _ hT).desc
  injection hk' with h1 h2
  subst h1 h2
  have hsz := (TK _ _ hei).size (w := w)
  unfold subE at h
  split at h
  case h_2 => cases h
  rename_i q hl
  have hx := leaf?_rel hx hl
  cases hr : m.row? q with
  | none => simp [hr] at h
  | some row =>
    simp only [hr] at h
    obtain ⟨hb, h⟩ := cond_none h
    simp only [Bool.and_eq_true, decide_eq_true_eq] at hb
    obtain ⟨⟨hk, hw⟩, h0, h1, h2⟩ := hb
    have hk := Nat.eq_of_beq_eq_true hk
    obtain ⟨v, hv, RR⟩ := M.sl q row hr hx.1 hx.2
    obtain rfl : u = v := Option.some.inj (hx.1.symm.trans hv)
    obtain ⟨⟨A, L, C, rfl⟩, R2⟩ := RR
    rw [hw] at R2
    simp only [if_true] at R2
    obtain ⟨cs, hown, _⟩ := R2
    obtain ⟨l, hl'⟩ := Int.eq_ofNat_of_zero_le h0
    obtain ⟨g, hg'⟩ := Int.eq_ofNat_of_zero_le (show 0 ≤ hi.getD (row.xs.length : Int) by omega)
    rw [hl', hg'] at h h1
    rw [hg'] at h2
    have hcut : ∀ (len cap : Nat) (A : Option Addr), row.xs.length = len → g ≤ cap → (Instr.sliceAt t (.slice A len cap) vlo vhi none).run P w = .ok (.slice (if cap = l then A else A.map (·.add (l * ei.k.n))) (g - l) (cap - l)) w := by
      intro len cap A hlen hcap
      exact run_cut hu hsz hlo hhi hl' (by rw [← hlen]; exact hg') (by omega) hcap
    have e1 : (Int.toNat (l : Int)) = l := Int.toNat_natCast l
    have e2 : ((g : Int) - (l : Int)).toNat = g - l := by omega
    rw [e1, e2] at h
    rcases hown.2 with ⟨h3, h4⟩ | ⟨γ, cap, cur, h3, _, hh, hnc, hcm, hcs, htake⟩
    · injection h3 with h5 h6 h7
      subst h5 h6 h7
      refine OpOk.quiet M h (hcut 0 0 none h4 (by omega)) ⟨row?_lt hr, ⟨_, _, _, hv⟩, fun row' hr' => ?_⟩
      rw [hr] at hr'
      obtain rfl := Option.some.inj hr'
      exact ⟨by omega, ⟨_, _, rfl, by omega⟩, fun hpos => by omega⟩
    · injection h3 with h5 h6 h7
      subst h5 h6 h7
      refine OpOk.quiet M h (hcut _ _ _ rfl (by omega)) ⟨row?_lt hr, ⟨_, _, _, hv⟩, fun row' hr' => ?_⟩
      rw [hr] at hr'
      obtain rfl := Option.some.inj hr'
      refine ⟨by omega, ⟨_, _, rfl, by omega⟩, fun hpos => ⟨γ, _, _, C - l, hv, by rw [if_neg (by omega), hk]; rfl, fun δ hδ => by cases hδ⟩⟩
end
end Go.Fx
