/- Copies, texts of bytes, lengths; every operation but the calls of functions. -/
import Derived.Test.YtjhbcpnliiegoaaEv10
namespace Go.Fx
open Go Go.RowKit
set_option linter.unusedVariables false
set_option linter.unusedSimpArgs false
section
variable {R : Type} {P : Program} {T : Tab} {w : World} {may : Nat → Prop} {ow : Ow} {m : Mem} {r : R}
theorem run_copy {dT sT e ty : TypeId} {inf : TypeInfo} (hu : P.underlying dT = some (.slice e)) (hi : P.info? e = some inf) {g dLen dCap : Nat} {t : TypeId} {cur : Array Value} (hg : w.heap[g]? = some (.cells cur t (0, 0)))
    {A : Option Addr} {sLen sCap : Nat} {cs : List Value} (hn : cs.length = Nat.min sLen dLen * inf.size) (hA : cs ≠ [] → ∃ ad, A = some ad ∧ ∀ j u, cs[j]? = some u → w.cell? (ad.add j) = some u) (hA0 : A = none → sLen = 0) (hfit : cs.length ≤ cur.size) (h1 : ∀ v ∈ cs, v.oneCell' = true) :
    (Builtin.copy_ #[dT, sT] ty #[.slice (some ⟨g, 0, none⟩) dLen dCap, .slice A sLen sCap]).run P w = .ok (goInt (Nat.min sLen dLen)) (w.setRow g (cs ++ cur.toList.drop cs.length).toArray) := by
  have hst := run_storeCells_at P g 0 t cs 0 cur w hg (by simpa using hfit) h1
  simp only [Nat.add_zero, List.take_zero, List.nil_append, Nat.zero_add] at hst
  have hf : (Builtin.firstCells inf.size (Nat.min sLen dLen) (.slice A sLen sCap)).run P w = .ok cs.toArray w := by
    cases A with
    | none =>
      have h0 := hA0 rfl
      subst h0
      have : cs = [] := List.eq_nil_of_length_eq_zero (by simpa using hn)
      subst this
      exact run_firstCells_none w _ _ _ _
    | some ad =>
      refine run_firstCells_some w _ _ ad _ _ cs hn fun j u hu => ?_
      obtain ⟨ad', h2, h3⟩ := hA (by rintro rfl; simp at hu)
      obtain rfl := Option.some.inj h2
      exact h3 j u hu
  simp [Builtin.copy_, run_underlying hu, Builtin.lenOf, sizeOf, typeInfo, hi, hf, hst]
theorem copy_ok (TK : TabOk P T) (M : MemRel w may ow m) {ts : List TypeId} {ty : TypeId} {z : Nat} {y : Leaf} {u v : Value} {c : SV → Mem → Option R} (hu' : LfRel w (okOf ow m) may ow (.own z) u) (hv : LfRel w (okOf ow m) may ow y v)
    (h : builtinE T m .copy ts [.one (.lf (.own z)), .one (.lf y)] c = some r) (hts : ts.length = 2) : OpOk P may w ow m (do pure (.value (← Builtin.copy_ ts.toArray ty #[u, v]))) c r := by
  match ts, hts with
  | [t, t2], _ =>
  simp only [builtinE, List.getElem?_cons_zero, List.getElem?_cons_succ, Option.bind_some] at h
  obtain ⟨M1, K1⟩ := M.freeze y
  have hv1 : LfRel w (okOf ow (m.freeze y)) may ow y v := LfRel.keep K1.stay K1.rv hv
  have hu1 : LfRel w (okOf ow (m.freeze y)) may ow (.own z) u := LfRel.keep K1.stay K1.rv hu'
  split at h
  case h_2 => cases h
  rename_i e e' k ag by' row hT hr
  obtain ⟨hu, ei, hei, hk', hpos⟩ := (TK _ _ hT).desc
  injection hk' with h1 h2
  subst h1 h2
  obtain ⟨inf, hi1, hi2, _⟩ := (TK _ _ hei).info
  cases hd : leafData (m.freeze y) (.sl row.e row.k) y with
  | none => simp [hd] at h
  | some ys =>
    simp only [hd] at h
    obtain ⟨ys', hys⟩ : ∃ ys' : List row.k.T, ys' = ys := ⟨ys, rfl⟩
    subst hys
    obtain ⟨hb, h⟩ := cond_none h
    simp only [Bool.and_eq_true] at hb
    obtain ⟨hw, hk⟩ := hb
    have hk := Nat.eq_of_beq_eq_true hk
    obtain ⟨A, cp, cs, rfl, hcp, hrd, hA⟩ := elems_rel M1 hv1 (freeze_froz m y) hd
    obtain ⟨v1, hv2, RR⟩ := M1.sl z _ hr hu1.1 hu1.2
    obtain rfl : u = v1 := Option.some.inj (hu1.1.symm.trans hv2)
    obtain ⟨_, R2⟩ := RR
    rw [hw] at R2
    simp only [if_true] at R2
    obtain ⟨cs0, hown, hrd0⟩ := R2
    have hpos' : 0 < row.k.n := hk ▸ hpos
    -- the new content
    have hrd1 := hrd.keep (ok' := okf (okOf ow (m.freeze y)) may (row.fr && rowFr (m.freeze y) y)) (Stay.mono fun b _ hb => ⟨hb.1, fun g => hb.2 (by simp at g; exact g.2)⟩)
    have hrd2 := hrd0.keep (ok' := okf (okOf ow (m.freeze y)) may (row.fr && rowFr (m.freeze y) y)) (Stay.mono fun b _ hb => ⟨hb.1, fun g => hb.2 (by simp at g; exact g.1)⟩)
    have hnew := (hrd1.take row.xs.length).append (hrd2.drop (List.length (α := row.k.T) ys'))
    have hl : (List.take row.xs.length ys' ++ row.xs.drop (List.length (α := row.k.T) ys')).length = row.xs.length := by
      simp only [List.length_append, List.length_take, List.length_drop]; omega
    have hcsl : (cs.take (row.xs.length * row.k.n)).length = Nat.min (List.length (α := row.k.T) ys') row.xs.length * inf.size := by
      rw [List.length_take, hrd.len, hi2, hk, ← Nat.mul_min_mul_right, Nat.min_comm]
    rcases hown.2 with ⟨h3, h4⟩ | ⟨g, cap, cur, h3, hg, hh, hnc, hcm, hcs, htake⟩
    · -- a row without memory
      subst h3
      have hnil : row.xs = [] := List.eq_nil_of_length_eq_zero h4
      have hrun : (Builtin.copy_ #[t, t2] ty #[.slice none 0 0, .slice A (List.length (α := row.k.T) ys') cp]).run P w = .ok (goInt 0) w := by
        have hf : (Builtin.firstCells inf.size 0 (.slice A (List.length (α := row.k.T) ys') cp)).run P w = .ok #[] w := by
          cases A <;> simp [Builtin.firstCells, loadCells, loadCellsFrom]
        simp [Builtin.copy_, run_underlying hu, Builtin.lenOf, sizeOf, typeInfo, hi1, hf]
      have hn0 : Nat.min (List.length (α := row.k.T) ys') row.xs.length = 0 := by rw [hnil]; simp
      rw [hn0] at h
      obtain ⟨M2, K2⟩ := M1.write (w' := w) z row { row with fr := row.fr && rowFr (m.freeze y) y, xs := List.take row.xs.length ys' ++ row.xs.drop (List.length (α := row.k.T) ys') } _ hr hv2 hw rfl hl hw rfl rfl rfl rfl (fun _ _ _ => rfl)
        _ (by
          have e1 : List.take row.xs.length ys' ++ row.xs.drop (List.length (α := row.k.T) ys') = [] := List.eq_nil_of_length_eq_zero (by rw [hl, h4])
          have e2 : cs.take (row.xs.length * row.k.n) ++ cs0.drop (List.length (α := row.k.T) ys' * row.k.n) = [] := by
            refine List.eq_nil_of_length_eq_zero ?_
            rw [hnew.len, hl, h4, Nat.zero_mul]
          rw [e1, e2]
          exact World.ownsRow_nil w 0 _ _) hnew
      exact OpOk.mono K1 ⟨_, _, .int .i64 0, w, ow, h, .inl (by simp [hrun, goInt]), M2, K2, rfl⟩
    · subst h3
      have hcur : cs0.length ≤ cur.size := by rw [hown.1, hcs]; exact Nat.mul_le_mul_right _ hnc
      have hcs0 := hown.1
      have hfit : (cs.take (row.xs.length * row.k.n)).length ≤ cur.size := by
        rw [List.length_take]; omega
      have hrun := run_copy (P := P) (ty := ty) (sT := t2) (dT := t) hu hi1 (dLen := row.xs.length) (dCap := cap) hh (A := A) (sLen := List.length (α := row.k.T) ys') (sCap := cp) hcsl
        (fun hne => by
          obtain ⟨ad, h5, h6⟩ := hA (by rintro rfl; have := hrd.len; simp at this; subst this; simp at hne)
          exact ⟨ad, h5, fun j u hu => h6 j u (by rw [List.getElem?_take] at hu; split at hu; exact hu; cases hu)⟩)
        (fun hnone => by
          by_cases hy : ys' = []
          · subst hy; rfl
          · obtain ⟨ad, h5, _⟩ := hA hy; rw [hnone] at h5; cases h5) hfit
        (fun v hv => hrd.one v (List.mem_of_mem_take hv))
      have hcells : (cs.take (row.xs.length * row.k.n) ++ cur.toList.drop (cs.take (row.xs.length * row.k.n)).length).take (row.xs.length * row.k.n) =
          cs.take (row.xs.length * row.k.n) ++ cs0.drop (List.length (α := row.k.T) ys' * row.k.n) := by
        have hle : (cs.take (row.xs.length * row.k.n)).length ≤ row.xs.length * row.k.n := List.length_take_le _ _
        rw [List.take_append, List.take_of_length_le hle]
        congr 1
        have hl1 : (cs.take (row.xs.length * row.k.n)).length = Nat.min (row.xs.length * row.k.n) (List.length (α := row.k.T) ys' * row.k.n) := by rw [List.length_take, hrd.len]
        rw [← htake, hl1]
        apply List.ext_getElem?
        intro j
        simp only [List.getElem?_take, List.getElem?_drop]
        by_cases hc : List.length (α := row.k.T) ys' * row.k.n ≤ row.xs.length * row.k.n
        · rw [show Nat.min (row.xs.length * row.k.n) (List.length (α := row.k.T) ys' * row.k.n) = List.length (α := row.k.T) ys' * row.k.n from Nat.min_eq_right hc]
          by_cases hj : j < row.xs.length * row.k.n - List.length (α := row.k.T) ys' * row.k.n
          · rw [if_pos hj, if_pos (by omega)]
          · rw [if_neg hj, if_neg (by omega)]
        · rw [show Nat.min (row.xs.length * row.k.n) (List.length (α := row.k.T) ys' * row.k.n) = row.xs.length * row.k.n from Nat.min_eq_left (by omega)]
          rw [if_neg (by omega), if_neg (by omega)]
      obtain ⟨M2, K2⟩ := M1.write (w' := w.setRow g (cs.take (row.xs.length * row.k.n) ++ cur.toList.drop (cs.take (row.xs.length * row.k.n)).length).toArray) z row
        { row with fr := row.fr && rowFr (m.freeze y) y, xs := List.take row.xs.length ys' ++ row.xs.drop (List.length (α := row.k.T) ys') } _ hr hv2 hw rfl hl hw (setRow_size _ _ _) rfl rfl rfl
        (fun b hb hne => setRow_frame w g _ b (fun e => hne (by rw [e]; rfl))) _ (by
          refine ⟨?_, .inr ⟨g, cap, _, by rw [hl], Nat.zero_le _, setRow_heap w g cur _ row.e _ hh, by rw [hl]; exact hnc, hcm, ?_, ?_⟩⟩
          · exact hnew.len
          · rw [← hcs]
            simp only [List.size_toArray, List.length_append, List.length_drop, Array.length_toList]
            omega
          · rw [hl]
            simpa using hcells) hnew
      exact OpOk.mono K1 ⟨_, _, .int .i64 _, _, ow, h, .inl (by simp [hrun, goInt]), M2, K2, rfl⟩
theorem run_copy_at {dT sT e ty : TypeId} {inf : TypeInfo} (hu : P.underlying dT = some (.slice e)) (hi : P.info? e = some inf) {g o dLen dCap : Nat} {t : TypeId} {cur : Array Value} (hg : w.heap[g]? = some (.cells cur t (0, 0)))
    {A : Option Addr} {sLen sCap : Nat} {cs : List Value} (hn : cs.length = Nat.min sLen dLen * inf.size) (hA : cs ≠ [] → ∃ ad, A = some ad ∧ ∀ j u, cs[j]? = some u → w.cell? (ad.add j) = some u) (hA0 : A = none → sLen = 0) (hfit : o + cs.length ≤ cur.size) (h1 : ∀ v ∈ cs, v.oneCell' = true) :
    (Builtin.copy_ #[dT, sT] ty #[.slice (some ((⟨g, 0, none⟩ : Addr).add o)) dLen dCap, .slice A sLen sCap]).run P w = .ok (goInt (Nat.min sLen dLen)) (w.setRow g (cur.toList.take o ++ cs ++ cur.toList.drop (o + cs.length)).toArray) := by
  have hst := run_storeCells_at P g o t cs 0 cur w hg (by simpa using hfit) h1
  simp only [Nat.add_zero] at hst
  rw [Addr.add_zero_off]
  have hf : (Builtin.firstCells inf.size (Nat.min sLen dLen) (.slice A sLen sCap)).run P w = .ok cs.toArray w := by
    cases A with
    | none =>
      have h0 := hA0 rfl
      subst h0
      have : cs = [] := List.eq_nil_of_length_eq_zero (by simpa using hn)
      subst this
      exact run_firstCells_none w _ _ _ _
    | some ad =>
      refine run_firstCells_some w _ _ ad _ _ cs hn fun j u hu => ?_
      obtain ⟨ad', h2, h3⟩ := hA (by rintro rfl; simp at hu)
      obtain rfl := Option.some.inj h2
      exact h3 j u hu
  simp [Builtin.copy_, run_underlying hu, Builtin.lenOf, sizeOf, typeInfo, hi, hf, hst]
theorem copySub_ok (TK : TabOk P T) (M : MemRel w may ow m) {ts : List TypeId} {ty : TypeId} {z o n : Nat} {gg : Option (Nat × Nat)} {y : Leaf} {u v : Value} {c : SV → Mem → Option R} (hu' : SVRel w (okOf ow m) may ow m (.sub z o n gg) u) (hv : LfRel w (okOf ow m) may ow y v)
    (h : builtinE T m .copy ts [.sub z o n gg, .one (.lf y)] c = some r) (hts : ts.length = 2) : OpOk P may w ow m (do pure (.value (← Builtin.copy_ ts.toArray ty #[u, v]))) c r := by
  match ts, hts with
  | [t, t2], _ =>
  simp only [builtinE, List.getElem?_cons_zero, List.getElem?_cons_succ, Option.bind_some] at h
  obtain ⟨M1, K1⟩ := M.freeze y
  have hv1 : LfRel w (okOf ow (m.freeze y)) may ow y v := LfRel.keep K1.stay K1.rv hv
  have hu1 := SVRel.keep K1 hu'
  split at h
  case h_2 => cases h
  rename_i e e' k ag by' row hT hr
  obtain ⟨hu, ei, hei, hk', hpos⟩ := (TK _ _ hT).desc
  injection hk' with h1 h2
  subst h1 h2
  obtain ⟨inf, hi1, hi2, _⟩ := (TK _ _ hei).info
  cases hd : leafData (m.freeze y) (.sl row.e row.k) y with
  | none => simp [hd] at h
  | some ys =>
    simp only [hd] at h
    obtain ⟨ys', hys⟩ : ∃ ys' : List row.k.T, ys' = ys := ⟨ys, rfl⟩
    subst hys
    obtain ⟨hb, h⟩ := cond_none h
    simp only [Bool.and_eq_true] at hb
    obtain ⟨⟨hw, hn0⟩, hk, hle⟩ := hb
    have hk := Nat.eq_of_beq_eq_true hk
    have hle := Nat.le_of_ble_eq_true hle
    have hn0 : 0 < n := Nat.le_of_ble_eq_true hn0
    obtain ⟨A, cp, cs, rfl, hcp, hrd, hA⟩ := elems_rel M1 hv1 (freeze_froz m y) hd
    obtain ⟨_, _, hu1⟩ := hu1
    obtain ⟨_, _, hu1⟩ := hu1 row hr
    obtain ⟨γ, L, C, c', hu2, rfl, _⟩ := hu1 hn0
    obtain ⟨v1, hv2, RR⟩ := M1.sl z _ hr hu2 ⟨_, _, _, rfl⟩
    obtain rfl := Option.some.inj (hv2.symm.trans hu2)
    obtain ⟨_, R2⟩ := RR
    rw [hw] at R2
    simp only [if_true] at R2
    obtain ⟨cs0, hown, hrd0⟩ := R2
    have hpos' : 0 < row.k.n := hk ▸ hpos
    have hq : ∃ q, q = Nat.min (List.length (α := row.k.T) ys') n := ⟨_, rfl⟩
    obtain ⟨q, hq⟩ := hq
    have hqn : q ≤ n := hq ▸ Nat.min_le_right _ _
    have hqy : q ≤ List.length (α := row.k.T) ys' := hq ▸ Nat.min_le_left _ _
    have htk : List.take n ys' = List.take q ys' := by
      rw [hq]
      by_cases hyn : List.length (α := row.k.T) ys' ≤ n
      · rw [show Nat.min (List.length (α := row.k.T) ys') n = List.length (α := row.k.T) ys' from Nat.min_eq_left hyn, List.take_of_length_le hyn, List.take_length]
      · rw [show Nat.min (List.length (α := row.k.T) ys') n = n from Nat.min_eq_right (by omega)]
    rw [← hq, htk] at h
    have hrd1 := hrd.keep (ok' := okf (okOf ow (m.freeze y)) may (row.fr && rowFr (m.freeze y) y)) (Stay.mono fun b _ hb => ⟨hb.1, fun g => hb.2 (by simp at g; exact g.2)⟩)
    have hrd2 := hrd0.keep (ok' := okf (okOf ow (m.freeze y)) may (row.fr && rowFr (m.freeze y) y)) (Stay.mono fun b _ hb => ⟨hb.1, fun g => hb.2 (by simp at g; exact g.1)⟩)
    have hnew := (hrd2.take o).append ((hrd1.take q).append (hrd2.drop (o + q)))
    have hl : (row.xs.take o ++ (List.take q ys' ++ row.xs.drop (o + q))).length = row.xs.length := by
      simp only [List.length_append, List.length_take, List.length_drop]; omega
    have hcsl : (cs.take (q * row.k.n)).length = Nat.min (List.length (α := row.k.T) ys') n * inf.size := by
      rw [List.length_take, hrd.len, hi2, hk, ← hq]
      exact Nat.min_eq_left (Nat.mul_le_mul_right _ hqy)
    have hcsl' : (cs.take (q * row.k.n)).length = q * row.k.n := by rw [hcsl, hi2, hk, hq]
    rcases hown.2 with ⟨h3, h4⟩ | ⟨g, cap, cur, h3, hg, hh, hnc, hcm, hcs, htake⟩
    · cases h3
    · injection h3 with h5 h6 h7
      injection h5 with h5
      injection h5 with h5
      subst h5 h6 h7
      have hoq : o * row.k.n + q * row.k.n ≤ row.xs.length * row.k.n := by rw [← Nat.add_mul]; exact Nat.mul_le_mul_right _ (by omega)
      have hcur : row.xs.length * row.k.n ≤ cur.size := by rw [hcs]; exact Nat.mul_le_mul_right _ hnc
      have hrun := run_copy_at (P := P) (ty := ty) (sT := t2) (dT := t) hu hi1 (o := o * row.k.n) (dLen := n) (dCap := c') hh (A := A) (sLen := List.length (α := row.k.T) ys') (sCap := cp) hcsl
        (fun hne => by
          obtain ⟨ad, h5, h6⟩ := hA (by rintro rfl; have := hrd.len; simp at this; subst this; simp at hne)
          exact ⟨ad, h5, fun j u hu => h6 j u (by rw [List.getElem?_take] at hu; split at hu; exact hu; cases hu)⟩)
        (fun hnone => by
          by_cases hy : ys' = []
          · subst hy; rfl
          · obtain ⟨ad, h5, _⟩ := hA hy; rw [hnone] at h5; cases h5) (by rw [hcsl']; omega)
        (fun v hv => hrd.one v (List.mem_of_mem_take hv))
      have hcells : (cur.toList.take (o * row.k.n) ++ cs.take (q * row.k.n) ++ cur.toList.drop (o * row.k.n + (cs.take (q * row.k.n)).length)).take (row.xs.length * row.k.n) =
          cs0.take (o * row.k.n) ++ (cs.take (q * row.k.n) ++ cs0.drop ((o + q) * row.k.n)) := by
        have h9 : (cur.toList.take (o * row.k.n)).length = o * row.k.n := by simp; omega
        rw [hcsl', List.append_assoc, List.take_append, h9, List.take_of_length_le (by rw [h9]; omega), List.take_append, hcsl', List.take_of_length_le (l := cs.take (q * row.k.n)) (by rw [hcsl']; omega)]
        rw [← htake, List.take_take, Nat.min_eq_left (by omega)]
        congr 2
        apply List.ext_getElem?
        intro j
        simp only [List.getElem?_take, List.getElem?_drop, Nat.add_mul]
        by_cases hj : j < row.xs.length * row.k.n - o * row.k.n - q * row.k.n
        · rw [if_pos hj, if_pos (by omega)]
        · rw [if_neg hj, if_neg (by omega)]
      obtain ⟨M2, K2⟩ := M1.write (w' := w.setRow γ (cur.toList.take (o * row.k.n) ++ cs.take (q * row.k.n) ++ cur.toList.drop (o * row.k.n + (cs.take (q * row.k.n)).length)).toArray) z row
        { row with fr := row.fr && rowFr (m.freeze y) y, xs := row.xs.take o ++ (List.take q ys' ++ row.xs.drop (o + q)) } _ hr hv2 hw rfl hl hw (setRow_size _ _ _) rfl rfl rfl
        (fun b hb hne => setRow_frame w γ _ b (fun e => hne (by rw [e]; rfl))) _ (by
          refine ⟨?_, .inr ⟨γ, _, _, by rw [hl], Nat.zero_le _, setRow_heap w γ cur _ row.e _ hh, by rw [hl]; exact hnc, hcm, ?_, ?_⟩⟩
          · exact hnew.len
          · rw [← hcs]
            simp only [List.size_toArray, List.length_append, List.length_drop, Array.length_toList, hcsl', List.length_take]
            omega
          · rw [hl]
            simpa using hcells) hnew
      have hrun' : (Builtin.copy_ [t, t2].toArray ty #[.slice (some ((⟨γ, 0, none⟩ : Addr).add (o * row.k.n))) n c', .slice A (List.length (α := row.k.T) ys') cp]).run P w = .ok (.int .i64 (q : Nat)) (w.setRow γ (cur.toList.take (o * row.k.n) ++ cs.take (q * row.k.n) ++ cur.toList.drop (o * row.k.n + (cs.take (q * row.k.n)).length)).toArray) := by
        exact hrun.trans (by rw [← hq]; rfl)
      exact OpOk.mono K1 ⟨_, _, .int .i64 _, _, ow, h, .inl (by simp only [Sem.run_bind, hrun']; rfl), M2, K2, rfl⟩
theorem convE_ok (TK : TabOk P T) (M : MemRel w may ow m) {src dst : TypeId} {x : Leaf} {u : Value} {c : SV → Mem → Option R} (hx : LfRel w (okOf ow m) may ow x u)
    (h : convE T m src dst x (fun l => c (.one (.lf l)) m) = some r) : OpOk P may w ow m (do pure (.value (← convert src dst u))) c r := by
  unfold convE at h
  split at h
  · rename_i hs hd
    obtain rfl := val_int hx
    exact OpOk.quiet M h (v := .int _ _) (by simp [convert, run_underlying (TK _ _ hs).desc.1, run_underlying (TK _ _ hd).desc.1, Conv.intToInt]) rfl
  · rename_i e k1 ag by' k2 ag2 by2 q hs hd
    split at h
    case h_2 => cases h
    rename_i k3 ag3 by3 row hei hr
    obtain ⟨hu, _⟩ := (TK _ _ hs).desc
    have hu8 : P.underlying e = some (.int .u8) := (TK _ _ hei).desc.1
    have hd' : P.underlying dst = some .string := (TK _ _ hd).desc.1
    cases hc : K.cast (.sl row.e row.k) (.sl row.e (.int .u8)) row.xs with
    | none => simp [hc] at h
    | some xs =>
      simp only [hc] at h
      obtain ⟨e1, e2⟩ := cast_some hc
      obtain ⟨re, rk, rfr, rrw, rxs⟩ := row
      simp only at e1 e2 h hc
      injection e1 with _ e4
      subst e4
      simp only at e2
      subst e2
      obtain ⟨v, hv, RR⟩ := M.sl q _ hr hx.1 hx.2
      obtain rfl : u = v := Option.some.inj (hx.1.symm.trans hv)
      have hread := RR.read (ok' := fun _ => True) (fun _ _ => trivial) fun hrw b hb => ⟨trivial, (M.may_ (.row q) b (by rw [blk_row hr hv hrw]; exact hb)).1⟩
      obtain ⟨xs, hxs⟩ : ∃ xs : List Int, xs = rxs := ⟨rxs, rfl⟩
      subst hxs
      obtain ⟨A, cp, hu', hc', hel⟩ := hread
      obtain rfl : u = .slice A xs.length cp := (List.cons.inj hu').1
      refine OpOk.quiet M h (v := .string (strOfNums xs)) ?_ rfl
      cases xs with
      | nil =>
        cases A with
        | none => exact run_convert_bytes_nil w src e hu hu8 _ _ dst hd'
        | some ad =>
          have := run_convert_bytes_string w src dst e (some ad) 0 cp hu hu8 hd'
          show (convert src dst (.slice (some ad) 0 cp)).run P w = _
          rw [this]
          simp [Conv.bytesToString, loadCells, loadCellsFrom]
          rfl
      | cons x0 xr =>
        obtain ⟨ad, es, rfl, _, _, hr0, hc0⟩ := hel 0 x0 rfl
        have hr0' : es = [.int .u8 x0] := hr0
        have hspot : ad.spot = none := by
          have := hc0 0 (.int .u8 x0) (by rw [hr0']; rfl)
          simp [Addr.add, World.cell?] at this
          split at this
          · split at this
            · cases this
            · rename_i hs; simpa using hs
          · cases this
        obtain ⟨b, off, sp⟩ := ad
        simp only at hspot
        subst hspot
        exact run_convert_bytes_arg w src e hu hu8 b off _ cp (x0 :: xr) rfl (fun i hi => by
          obtain ⟨ad', es', h5, _, _, hr1, hc1⟩ := hel i _ (List.getElem?_eq_getElem hi)
          obtain rfl := Option.some.inj h5
          have hr1' : es' = [.int .u8 ((x0 :: xr)[i])] := hr1
          have := hc1 0 _ (by rw [hr1']; rfl)
          simp only [K.n, Nat.mul_one, Nat.add_zero] at this
          have e9 : (⟨b, off, none⟩ : Addr).add i = ⟨b, off + i, none⟩ := by unfold Addr.add; split <;> simp_all
          rw [e9] at this
          rw [this]
          simp [List.getD, List.getElem?_eq_getElem hi]) dst hd'
  · cases h
end
end Go.Fx
