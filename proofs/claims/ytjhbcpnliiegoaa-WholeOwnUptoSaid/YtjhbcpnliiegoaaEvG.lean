/- A call that is lent a variable, or given rows. -/
import Derived.Test.YtjhbcpnliiegoaaEvF
namespace Go.Fx
open Go Go.RowKit
set_option linter.unusedVariables false
set_option linter.unusedSimpArgs false
section
variable {R : Type} {P : Program} {T : Tab} {w w' : World} {may : Nat → Prop} {ow : Ow} {m : Mem} {r : R}
def xn : Option Rcv → Bool → Nat
  | none, false => 0
  | _, _ => 1
theorem xrest_drop (rcv : Option Rcv) (nilr : Bool) (vs : List SV) : xrest rcv nilr vs = vs.drop (xn rcv nilr) := by
  cases rcv <;> cases nilr <;> rfl
theorem raws_len (G : Gh) (i n : Nat) : (raws G i n).length = n := by simp [raws]
theorem F2.cat {α β : Type} {R : α → β → Prop} {x y : List α} {z : List β} (h : F2 R (x ++ y) z) : F2 R x (z.take x.length) ∧ F2 R y (z.drop x.length) := by
  obtain ⟨a, b, rfl, h1, h2⟩ := h.split
  rw [h1.len]
  simp only [List.take_left, List.drop_left]
  exact ⟨h1, h2⟩
/-- The lent variable, as the one that is called finds it. -/
structure RcvP (w : World) (may : Nat → Prop) (ow : Ow) (m : Mem) (rcv : Option Rcv) (nilr : Bool) (p : Option Nat × List Leaf × rcvT rcv) (vals : List Value) (G : Gh) (rv0 : List Value) (ids0 : List (Option Nat)) (bb bids : List Nat) : Prop where
  made : Made w may ow m (thawL 0 (rcvL rcv p.2.2)).2 rv0 ids0
  ids : ids0.filterMap id = ownIds p.2.1
  nd : noDup bids = true
  hp : bids = p.1.toList
  lb : bb.length = (entR G (thawL 0 (rcvL rcv p.2.2)).1 rcv nilr).2.length
  boxes : ∀ (i : Nat) (bx : Box), (entR G (thawL 0 (rcvL rcv p.2.2)).1 rcv nilr).2[i]? = some bx → ∃ g b vs, bb[i]? = some g ∧ bids[i]? = some b ∧ blk ow m (.box b) = some g ∧ ow.bb[b]? = some (some g) ∧ w.heap[g]? = some (.cells vs.toArray bx.t (0, 0)) ∧
    ∀ (ok' may' : Nat → Prop) (o' : Ow), RvAt 0 rv0 o'.rv → F2 (LfRel w ok' may' o') bx.ls vs
  slots : ∀ q ∈ (entR G (thawL 0 (rcvL rcv p.2.2)).1 rcv nilr).1, ∃ v, vals[q.1]? = some v ∧ q.1 < xn rcv nilr ∧ ∀ (ok' may' : Nat → Prop) (o' : Ow) (m' : Mem), o'.bb = bb.map some → SVRel w ok' may' o' m' q.2 v
  ls : (entR G (thawL 0 (rcvL rcv p.2.2)).1 rcv nilr).1.length = xn rcv nilr
  lv : xn rcv nilr ≤ vals.length
theorem rcv_piece (M : MemRel w may ow m) {rcv : Option Rcv} {nilr : Bool} {svs : List SV} {vals : List Value} {p : Option Nat × List Leaf × rcvT rcv} (h : xrcv m rcv nilr svs = some p) (hF : F2 (SVRel w (okOf ow m) may ow m) svs vals) (ho : p.2.1.all (ownLf m) = true) :
    ∃ G rv0 ids0 bb bids, RcvP w may ow m rcv nilr p vals G rv0 ids0 bb bids ∧ ∀ rc, rcv = some rc → ∃ b bx γ vs, p.1 = some b ∧ m.box? b = some bx ∧ bx.t = rc.t ∧ bx.ls.length = rc.pre + rc.k.n + rc.post ∧ bb = [γ] ∧ ow.bb[b]? = some (some γ) ∧
      w.heap[γ]? = some (.cells vs.toArray rc.t (0, 0)) ∧ F2 (LfRel w (okOf ow m) may ow) bx.ls vs ∧ (∀ j, j < rc.pre → vs[j]? = some (G.v j)) ∧ ∀ j, j < rc.post → vs[rc.pre + rc.k.n + j]? = some (G.v (rc.pre + j)) := by
  cases rcv with
  | none =>
    cases nilr with
    | false =>
      simp only [xrcv] at h
      obtain rfl := Option.some.inj h
      exact ⟨⟨0, fun _ => undef⟩, [], [], [], [], ⟨Made.nil, rfl, rfl, rfl, rfl, fun i bx e => by simp [entR] at e, fun q hq => by simp [entR] at hq, rfl, Nat.zero_le _⟩, fun rc e => by cases e⟩
    | true =>
      cases svs with
      | nil => cases h
      | cons sv tl =>
      cases sv <;> try (cases h; done)
      rename_i hh
      cases hh <;> try (cases h; done)
      obtain rfl := Option.some.inj h
      cases vals with
      | nil => exact hF.elim
      | cons v vals =>
        refine ⟨⟨0, fun _ => undef⟩, [], [], [], [], ⟨Made.nil, rfl, rfl, rfl, rfl, fun i bx e => by simp [entR] at e, fun q hq => ?_, rfl, by simp [xn]⟩, fun rc e => by cases e⟩
        simp only [entR, List.mem_singleton] at hq
        subst hq
        exact ⟨v, rfl, by simp [xn], fun ok' may' o' m' _ => hF.1⟩
  | some rc =>
    cases svs with
    | nil => cases nilr <;> cases h
    | cons sv tl =>
    cases sv <;> try (cases nilr <;> cases h; done)
    rename_i b o
    have h : (match m.box? b with
    | some bx => bif (Nat.beq o rc.pre && Nat.beq bx.t rc.t) && Nat.beq bx.ls.length (rc.pre + rc.k.n + rc.post) then (match packK m rc.k ((bx.ls.drop rc.pre).take rc.k.n) with
      | some x => some (some b, (bx.ls.drop rc.pre).take rc.k.n, x)
      | none => none) else none
    | none => none) = some p := h
    cases hb : m.box? b with
    | none => simp [hb] at h
    | some bx =>
      simp only [hb] at h
      obtain ⟨hc, h2⟩ := cond_none h
      clear h
      simp only [Bool.and_eq_true] at hc
      obtain ⟨⟨ho1, ht⟩, hl⟩ := hc
      obtain rfl := Nat.eq_of_beq_eq_true ho1
      have ht := Nat.eq_of_beq_eq_true ht
      have hl := Nat.eq_of_beq_eq_true hl
      cases hx : packK m rc.k ((bx.ls.drop rc.pre).take rc.k.n) with
      | none => simp [hx] at h2
      | some d =>
        simp only [hx] at h2
        obtain rfl := Option.some.inj h2
        simp only at ho
        cases vals with
        | nil => exact hF.elim
        | cons v vals =>
          obtain ⟨γ, hγ, hv⟩ := hF.1
          obtain ⟨γ', hγ', vs, hcell, hls⟩ := M.boxes b bx hb
          obtain rfl : γ = γ' := Option.some.inj (Option.some.inj (hγ.symm.trans hγ'))
          have hlv : vs.length = rc.pre + rc.k.n + rc.post := by rw [← hl]; exact hls.len.symm
          have hpart := (hls.drop rc.pre).take rc.k.n
          obtain ⟨rv0, ids0, m0, i0, f0⟩ := thawL_own M (k := rc.k) 0 ho hpart hx
          let G : Gh := ⟨γ, fun i => if i < rc.pre then vs.getD i undef else vs.getD (i + rc.k.n) undef⟩
          have hone : ∀ (j : Nat) (u : Value), vs[j]? = some u → u.oneCell' = true := fun j u hu => F2.ones hls u (List.mem_of_getElem? hu)
          have hp1 : ∀ j, j < rc.pre → vs[j]? = some (G.v j) := by
            intro j hj
            have : j < vs.length := by omega
            simp only [G, hj, if_true, List.getD, List.getElem?_eq_getElem this, Option.getD_some]
          have hp2 : ∀ j, j < rc.post → vs[rc.pre + rc.k.n + j]? = some (G.v (rc.pre + j)) := by
            intro j hj
            have h1 : rc.pre + j + rc.k.n < vs.length := by omega
            have h2 : ¬ rc.pre + j < rc.pre := by omega
            simp only [G, h2, if_false, List.getD]
            rw [show rc.pre + rc.k.n + j = rc.pre + j + rc.k.n by omega, List.getElem?_eq_getElem h1, Option.getD_some]
          refine ⟨G, rv0, ids0, [γ], [b], ⟨m0, i0, rfl, rfl, rfl, fun i bx' e => ?_, fun q hq => ?_, rfl, by simp [xn]⟩, fun rc' e => ?_⟩
          · cases i with
            | succ i => simp [entR] at e
            | zero =>
              simp only [entR, List.getElem?_cons_zero, Option.some.injEq] at e
              subst e
              refine ⟨γ, b, vs, rfl, rfl, blk_box hb hγ, hγ, by rw [hcell, ht], fun ok' may' o' hrv => ?_⟩
              have e1 : vs = vs.take rc.pre ++ ((vs.drop rc.pre).take rc.k.n ++ (vs.drop rc.pre).drop rc.k.n) := by rw [List.take_append_drop, List.take_append_drop]
              rw [e1, List.append_assoc]
              refine F2.append (raws_rel (by simp; omega) fun j u hu => ?_) (F2.append (f0 ok' may' o' hrv) (raws_rel (by simp; omega) fun j u hu => ?_))
              · have hj : j < rc.pre := by
                  have := (List.getElem?_eq_some_iff.1 hu).1
                  simp at this; omega
                rw [List.getElem?_take, if_pos hj] at hu
                rw [Nat.zero_add]
                exact ⟨Option.some.inj ((hp1 j hj).symm.trans hu), hone j u hu⟩
              · rw [List.getElem?_drop, List.getElem?_drop] at hu
                have hj : j < rc.post := by
                  have := (List.getElem?_eq_some_iff.1 hu).1
                  omega
                exact ⟨Option.some.inj ((hp2 j hj).symm.trans (by rw [Nat.add_assoc]; exact hu)), hone _ u hu⟩
          · simp only [entR, List.mem_singleton] at hq
            subst hq
            exact ⟨v, rfl, by simp [xn], fun ok' may' o' m' hbb => ⟨by rw [hbb]; rfl, hv⟩⟩
          · obtain rfl := Option.some.inj e
            exact ⟨b, bx, γ, vs, rfl, hb, ht, hl, rfl, hγ, by rw [hcell, ht], hls, hp1, hp2⟩
/-- The lent variable behind the call. -/
theorem rcv_back {may' : Nat → Prop} {rc : Rcv} {bx : Box} {γ : Nat} {vs : List Value} {G : Gh} {ext : Mem} {ow1 : Ow} {L : List Leaf} {bbx : List (Option Nat)} (M : MemRel w may ow m)
    (hl : bx.ls.length = rc.pre + rc.k.n + rc.post) (hls : F2 (LfRel w (okOf ow m) may ow) bx.ls vs) (hp1 : ∀ j, j < rc.pre → vs[j]? = some (G.v j)) (hp2 : ∀ j, j < rc.post → vs[rc.pre + rc.k.n + j]? = some (G.v (rc.pre + j)))
    (MX : MemRel w' may' ow1 ext) (hmay : ∀ b, may' b → may b) (hb : ext.box? 0 = some ⟨rc.t, raws G 0 rc.pre ++ L ++ raws G rc.pre rc.post⟩) (hL : L.length = rc.k.n) (hu : ∀ l ∈ L, UpL l) (hg : ow1.bb[0]? = some (some γ))
    (hst : ∀ b, b < w.heap.size → okOf ow m b → okOf ow1 ext b ∧ w'.heap[b]? = w.heap[b]?) (hsz : w.heap.size ≤ w'.heap.size) :
    ∃ us, blk ow1 ext (.box 0) = some γ ∧ w'.heap[γ]? = some (.cells us.toArray rc.t (0, 0)) ∧
      ∀ ok' : Nat → Prop, (∀ b, okOf ow1 ext b ∧ (may' b ∨ (b < w.heap.size ∧ okOf ow m b)) → ok' b) → F2 (LfRel w' ok' may ⟨ow.rv ++ ow1.rv, bbx⟩) (putList bx.ls rc.pre (L.map (shL true ow.rv.length))) us := by
  obtain ⟨γ', h1, us, hcell, hF⟩ := MX.boxes 0 _ hb
  obtain rfl : γ = γ' := Option.some.inj (Option.some.inj (hg.symm.trans h1))
  refine ⟨us, blk_box hb hg, hcell, fun ok' hok => ?_⟩
  rw [List.append_assoc] at hF
  obtain ⟨f1, f23⟩ := F2.cat hF
  obtain ⟨f2, f3⟩ := F2.cat f23
  rw [raws_len] at f1 f2 f3
  have e1 := raws_val f1
  have e3 := raws_val f3
  have hlv : vs.length = rc.pre + rc.k.n + rc.post := by rw [← hl]; exact hls.len.symm
  have keep : ∀ l v, LfRel w (okOf ow m) may ow l v → LfRel w' ok' may ⟨ow.rv ++ ow1.rv, bbx⟩ l v := fun l v h =>
    LfRel.keep (fun b hlt hb => ⟨hok b ⟨(hst b hlt hb).1, .inr ⟨hlt, hb⟩⟩, Nat.lt_of_lt_of_le hlt hsz, (hst b hlt hb).2⟩) (fun i v hv => by
      show (ow.rv ++ ow1.rv)[i]? = some v
      rw [List.getElem?_append_left (List.getElem?_eq_some_iff.1 hv).1]; exact hv) h
  have t1 : us.take rc.pre = vs.take rc.pre := by
    rw [e1]
    refine List.ext_getElem? fun j => ?_
    by_cases hj : j < rc.pre
    · rw [List.getElem?_take, if_pos hj, hp1 j hj]
      simp [hj]
    · rw [List.getElem?_eq_none (by simp; omega), List.getElem?_eq_none (by simp; omega)]
  have t3 : (us.drop rc.pre).drop L.length = vs.drop (rc.pre + rc.k.n) := by
    rw [e3]
    refine List.ext_getElem? fun j => ?_
    by_cases hj : j < rc.post
    · rw [List.getElem?_drop, hp2 j hj]
      simp [hj]
    · rw [List.getElem?_eq_none (by simp; omega), List.getElem?_eq_none (by simp; omega)]
  have eu : us = us.take rc.pre ++ ((us.drop rc.pre).take L.length ++ (us.drop rc.pre).drop L.length) := by rw [List.take_append_drop, List.take_append_drop]
  rw [eu, t1, t3]
  unfold putList
  rw [List.append_assoc]
  refine F2.append ((hls.take rc.pre).imp fun l v h => keep l v h) (F2.append (LfsRel.shiftT (fun b h1 h2 => ⟨hok b ⟨h1, .inl h2⟩, hmay b h2⟩) hu f2) ?_)
  rw [List.length_map, hL]
  exact (hls.drop _).imp fun l v h => keep l v h
end
end Go.Fx
