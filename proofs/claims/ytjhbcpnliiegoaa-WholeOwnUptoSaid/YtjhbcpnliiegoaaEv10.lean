/- Appends, copies, texts of bytes, lengths. -/
import Derived.Test.YtjhbcpnliiegoaaEv9
namespace Go.Fx
open Go Go.RowKit
set_option linter.unusedVariables false
set_option linter.unusedSimpArgs false
section
variable {R : Type} {P : Program} {T : Tab} {w : World} {may : Nat → Prop} {ow : Ow} {m : Mem} {r : R}
theorem append_types {t t2 e e2 : TypeId} {ty : TypeId} {u v : Value} (hu : P.underlying t = some (.slice e)) (hu2 : P.underlying t2 = some (.slice e2)) (w : World) :
    (Builtin.append_ #[t, t2] ty #[u, v]).run P w = (Builtin.append_ #[t, t] ty #[u, v]).run P w := by
  have h0 : (#[t, t2] : Array TypeId)[0]? = some t := rfl
  have h1 : (#[t, t2] : Array TypeId)[1]? = some t2 := rfl
  have h2 : (#[t, t] : Array TypeId)[0]? = some t := rfl
  have h3 : (#[t, t] : Array TypeId)[1]? = some t := rfl
  have h4 : (#[u, v] : Array Value)[0]? = some u := rfl
  have h5 : (#[u, v] : Array Value)[1]? = some v := rfl
  simp only [Builtin.append_, h0, h1, h2, h3, h4, h5, Sem.run_bind, run_underlying hu, Result.andThen_ok]
  cases u <;> try rfl
  simp only [Sem.run_bind, run_underlying hu, run_underlying hu2, Result.andThen_ok, Sem.run_pure]
theorem append_none {t e : TypeId} {ty : TypeId} {inf : TypeInfo} (hu : P.underlying t = some (.slice e)) (hi : P.info? e = some inf) {A : Option Addr} {n cap c : Nat} (h : n ≤ cap) (w : World) :
    (Builtin.append_ #[t, t] ty #[.slice A n cap, .slice none 0 c]).run P w = .ok (.slice A n cap) w := by
  cases A <;> simp [Builtin.append_, run_underlying hu, sizeOf, typeInfo, hi, Builtin.lenOf, h, Builtin.firstCells, storeCells, loadCells, loadCellsFrom]
theorem slD_some {t? : Option TypeId} (TK : TabOk P T) (h : slD T t? = true) : ∃ t e, t? = some t ∧ P.underlying t = some (.slice e) := by
  unfold slD at h
  split at h
  · rename_i t
    split at h
    · rename_i hT
      exact ⟨t, _, rfl, (TK _ _ hT).desc.1⟩
    · cases h
  · cases h
/-- The elements that are appended or copied. -/
theorem elems_rel (M : MemRel w may ow m) {y : Leaf} {v : Value} (hy : LfRel w (okOf ow m) may ow y v) {e : TypeId} {k : K} {ys : List k.T} (hf : Froz m y) (hd : leafData m (.sl e k) y = some ys) :
    ∃ A c cs, v = .slice A ys.length c ∧ ys.length ≤ c ∧ RdEach w (okf (okOf ow m) may (rowFr m y)) k ys cs ∧ (ys ≠ [] → ∃ ad, A = some ad ∧ ∀ j u, cs[j]? = some u → w.cell? (ad.add j) = some u) := by
  have h := leafData_rel M hf hy hd
  obtain ⟨A, c, cs, h1, h2, h3, h4⟩ := RdEach.ofSl h
  refine ⟨A, c, cs, h1, h2, ?_, fun hne => ?_⟩
  · cases y with
    | val fr k' x =>
      simp only [leafData] at hd
      obtain ⟨rfl, _⟩ := cast_some hd
      simp only [leafFr, K.flat, Bool.or_false] at h3
      simp only [rowFr]
      cases fr with
      | true => exact h3
      | false =>
        cases hk : k.flat with
        | true => exact h3.flat hk
        | false => simpa using h3
    | nil => exact h3
    | own q =>
      simp only [leafFr, rowFr] at h3 ⊢
      exact h3
  · obtain ⟨ad, h5, _, _, h6⟩ := h4 hne
    exact ⟨ad, h5, h6⟩
theorem append_run (TK : TabOk P T) {t t2 e e2 : TypeId} {ty : TypeId} {ei : TI} (hu : P.underlying t = some (.slice e)) (hu2 : P.underlying t2 = some (.slice e2)) (hei : T e = some ei) (hpos : 0 < ei.k.n)
    {v : Value} {n : Nat} {xs : List Value} (hown : w.ownsRow 0 e ei.k.n v n xs) {A : Option Addr} {q c : Nat} {news : List Value} (hl : news.length = q * ei.k.n)
    (hA : q ≠ 0 → ∃ ad, A = some ad ∧ ∀ j u, news[j]? = some u → w.cell? (ad.add j) = some u) (hA0 : q = 0 → A = none → c = c) (h1 : ∀ u ∈ news, u.oneCell' = true) (hlim : n + q < lim ei.bytes) :
    ∃ v' w', (Builtin.append_ #[t, t2] ty #[v, .slice A q c]).run P w = .ok v' w' ∧ w'.ownsRow 0 e ei.k.n v' (n + q) (xs ++ news) ∧ w.grownBy w' v.ownBlock ∧ (v'.ownBlock = v.ownBlock ∨ v'.ownBlock = some w.heap.size) := by
  obtain ⟨inf, hi1, hi2, hi3, z, hz1, hz2⟩ := (TK _ _ hei).info
  rw [append_types hu hu2]
  have hzs : z.cells.size = ei.k.n := by rw [← Array.length_toList, hz2, zero_len]
  have hb : (n + q) * ei.bytes ≤ 140737488355328 := by
    unfold lim at hlim
    exact Nat.le_trans (Nat.mul_le_mul_right _ (Nat.le_of_lt hlim)) (Nat.div_mul_le_self _ _)
  have hm : n + q ≤ maxLen := by
    have : n + q < 140737488355328 := Nat.lt_of_lt_of_le hlim (Nat.div_le_self _ _)
    unfold maxLen; omega
  cases A with
  | some ad =>
    obtain ⟨v', w', h2, h3, h4, _, h5⟩ := run_append_own_at (P := P) w 0 t ty e inf z ei.k.n ei.bytes hu hi1 hz1 hi2 hi3 hzs hpos v n xs hown ad q c news hl (fun j u hu => by
      by_cases hq : q = 0
      · subst hq
        have : news = [] := List.eq_nil_of_length_eq_zero (by simpa using hl)
        subst this; simp at hu
      · obtain ⟨ad', h6, h7⟩ := hA hq
        obtain rfl := Option.some.inj h6
        exact h7 j u hu) h1 hm hb (Nat.zero_le _)
    exact ⟨v', w', h2, h3, h4, h5⟩
  | none =>
    have hq : q = 0 := by
      rcases Nat.eq_zero_or_pos q with h | h
      · exact h
      · obtain ⟨ad, h6, _⟩ := hA (by omega); cases h6
    subst hq
    have hnil : news = [] := List.eq_nil_of_length_eq_zero (by simpa using hl)
    subst hnil
    obtain ⟨A', c', rfl⟩ := ownsRow.slice hown
    have hcap : n ≤ c' := by
      rcases hown.2 with ⟨h3, h4⟩ | ⟨g, cp, cur, h3, hg, hh, hn, rest⟩
      · omega
      · injection h3 with _ _ h3; omega
    exact ⟨_, w, append_none hu hi1 hcap w, by simpa using hown, ⟨rfl, rfl, rfl, Nat.le_refl _, fun _ _ _ => rfl⟩, .inl rfl⟩
theorem append_ok (TK : TabOk P T) (M : MemRel w may ow m) (hm : ∀ b, w.heap.size ≤ b → may b) {ts : List TypeId} {ty : TypeId} {l y : Leaf} {u v : Value} {c : SV → Mem → Option R} (hu' : LfRel w (okOf ow m) may ow l u) (hv : LfRel w (okOf ow m) may ow y v)
    (h : builtinE T m .append ts [.one (.lf l), .one (.lf y)] c = some r) (hts : ts.length = 2) : OpOk P may w ow m (do pure (.value (← Builtin.append_ ts.toArray ty #[u, v]))) c r := by
  match ts, hts with
  | [t, t2], _ =>
  simp only [builtinE, List.getElem?_cons_zero, List.getElem?_cons_succ] at h
  obtain ⟨hs, h⟩ := cond_none h
  obtain ⟨_, e2, ht2, hu2⟩ := slD_some TK hs
  obtain rfl := Option.some.inj ht2
  simp only [Option.bind_some] at h
  split at h
  case h_2 => cases h
  rename_i e e' k ag by' hT
  obtain ⟨hu, ei, hei, hk', hpos⟩ := (TK _ _ hT).desc
  injection hk' with h1 h2
  subst h1 h2
  obtain ⟨M1, K1⟩ := M.freeze y
  have hv1 : LfRel w (okOf ow (m.freeze y)) may ow y v := LfRel.keep K1.stay K1.rv hv
  have hu1 : LfRel w (okOf ow (m.freeze y)) may ow l u := LfRel.keep K1.stay K1.rv hu'
  simp only [hei] at h
  cases hd : leafData (m.freeze y) (.sl e' ei.k) y with
  | none => simp [hd] at h
  | some ys =>
    simp only [hd] at h
    obtain ⟨A, cp, cs, rfl, hcp, hrd, hA⟩ := elems_rel M1 hv1 (freeze_froz m y) hd
    cases l with
    | val => cases h
    | nil =>
      simp only at h
      obtain ⟨hlim, h⟩ := cond_none h
      simp only [decide_eq_true_eq] at hlim
      obtain rfl : u = .slice none 0 0 := hu1
      obtain ⟨v', w', h3, h4, h5, h6⟩ := append_run (P := P) (ty := ty) TK hu hu2 hei hpos (World.ownsRow_nil w 0 e' ei.k.n) (A := A) (c := cp) (hrd.len) (fun hq => hA (by rintro rfl; simp at hq)) (fun _ _ => rfl) hrd.one (by simpa using hlim)
      refine OpOk.mono K1 (OpOk.newRow M1 hm h h3 ⟨h5.os, h5.tape, h5.output, h5.size, fun b hb => h5.block b hb (by simp [Value.ownBlock])⟩ rfl (by simpa using h4) hrd fun b hb => ?_)
      rcases h6 with h6 | h6
      · rw [h6] at hb; cases hb
      · rw [h6] at hb; have := Option.some.inj hb; omega
    | own z =>
      simp only at h
      cases hr : (m.freeze y).row? z with
      | none => simp [hr] at h
      | some row =>
        simp only [hr] at h
        cases hc : K.cast (.sl row.e row.k) (.sl e' ei.k) row.xs with
        | none => simp [hc] at h
        | some xs =>
          simp only [hc] at h
          obtain ⟨e1, e2⟩ := cast_some hc
          obtain ⟨re, rk, rfr, rrw, rxs⟩ := row
          simp only at e1 e2 h hc
          injection e1 with e3 e4
          subst e3 e4
          simp only at e2
          subst e2
          obtain ⟨hw, h'⟩ := cond_none h
          clear h
          have h := h'
          clear h'
          simp only [Bool.and_eq_true, decide_eq_true_eq] at hw
          obtain ⟨hw, hlim⟩ := hw
          subst hw
          obtain ⟨v1, hv2, RR⟩ := M1.sl z _ hr hu1.1 hu1.2
          obtain rfl : u = v1 := Option.some.inj (hu1.1.symm.trans hv2)
          obtain ⟨_, R2⟩ := RR
          simp only [if_true] at R2
          obtain ⟨cs0, hown, hrd0⟩ := R2
          obtain ⟨v', w', h3, h4, h5, h6⟩ := append_run (P := P) (ty := ty) TK hu hu2 hei hpos hown (A := A) (c := cp) (hrd.len) (fun hq => hA (by rintro rfl; simp at hq)) (fun _ _ => rfl) hrd.one hlim
          have hbr : blk ow (m.freeze y) (.row z) = u.ownBlock := (blk_row hr hv2 rfl).trans (oblk_own hu1.2)
          obtain ⟨M2, K2⟩ := M1.renew (w' := w') z ⟨re, ei.k, rfr && rowFr (m.freeze y) y, true, List.append rxs ys⟩ v' h5.size h5.os h5.tape h5.output (fun b hb hne => h5.block b hb (by rw [hbr] at hne; exact fun e => hne e.symm)) rfl (cs0 ++ cs)
            (by have e5 : (List.append rxs ys).length = rxs.length + List.length (α := ei.k.T) ys := List.length_append
                show w'.ownsRow 0 re ei.k.n v' (List.append rxs ys).length _
                rw [e5]; exact h4) ((hrd0.keep (Stay.mono fun b _ hb => ⟨hb.1, fun g => hb.2 (by simp at g; exact g.1)⟩)).append (hrd.keep (Stay.mono fun b _ hb => ⟨hb.1, fun g => hb.2 (by simp at g; exact g.2)⟩))) (fun b hb => by
              have hlt := (World.ownsRow.lt h4 b hb).2
              rcases h6 with h6 | h6
              · rw [h6] at hb
                have := M1.may_ _ _ (hbr.trans hb)
                exact ⟨this.1, hlt, .inr (hbr.trans hb)⟩
              · rw [h6] at hb
                have := Option.some.inj hb
                exact ⟨hm b (by omega), hlt, .inl (by omega)⟩)
          unfold Fx.newRow at h
          simp only [List.length_set] at h
          obtain ⟨A', c', hv'⟩ := ownsRow.slice h4
          refine OpOk.mono K1 ⟨_, _, v', w', _, h, .inl (by simp [h3]), M2, K2, ?_, A', _, c', hv'⟩
          show (ow.rv ++ [_])[(m.freeze y).rows.length]? = _
          rw [← M1.rlen]; simp
end
end Go.Fx
