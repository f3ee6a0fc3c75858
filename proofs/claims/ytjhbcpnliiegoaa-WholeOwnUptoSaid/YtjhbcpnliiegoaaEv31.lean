/- A law's arguments of any depth (structs and slices of whole numbers, truth values, texts), as data. -/
import Derived.Test.YtjhbcpnliiegoaaEv26
namespace Go.Fx
open Go Go.RowKit Go.ChangeShapes Go.WideShapes Go.ChangeAt
set_option linter.unusedVariables false
set_option linter.unusedSimpArgs false
/-- Is the kind k what the type t holds? -/
def shpF (P : Program) (r : TypeId → K → Bool) : List Field → Nat → K → Bool
  | [], _, .unit => true
  | [f], o, k => Nat.beq f.offset o && (Nat.beq (P.cellsOf f.type) k.n && r f.type k)
  | f :: g :: fs, o, .prod a b => Nat.beq f.offset o && (Nat.beq (P.cellsOf f.type) a.n && (r f.type a && shpF P r (g :: fs) (o + a.n) b))
  | _, _, _ => false
/-- An array's elements, as fields. -/
def arrFs (P : Program) (m : Nat) (e : TypeId) : List Field := (List.range m).map fun i => { name := "", type := e, offset := i * P.cellsOf e, embedded := false, tag := "", pkgPath := "", byteOffset := 0 }
def shp (P : Program) : Nat → TypeId → K → Bool
  | 0, _, _ => false
  | n + 1, t, k => match P.underlying t with
    | some (.int q) => (match k with | .int q' => decide (q = q') | _ => false)
    | some .bool => (match k with | .bool => true | _ => false)
    | some .string => (match k with | .str => true | _ => false)
    | some (.slice e) => (match k with | .sl e' k' => Nat.beq e e' && (Nat.beq (P.cellsOf e) k'.n && (Nat.blt 0 k'.n && shp P n e k')) | _ => false)
    | some (.struct fs) => Nat.beq (P.cellsOf t) k.n && shpF P (shp P n) fs.toList 0 k
    | some (.array m e) => Nat.beq (P.cellsOf t) k.n && shpF P (shp P n) (arrFs P m e) 0 k
    | _ => false
/-- Within their types. -/
def K.wf : (k : K) → k.T → Prop
  | .int q, x => (Lit.int q x).wf = true
  | .str, s => s.size ≤ maxLen
  | .sl _ k, xs => ∀ x : k.T, List.Mem x xs → k.wf x
  | .prod a b, x => a.wf x.1 ∧ b.wf x.2
  | _, _ => True
/-- How many values and letters, at least. -/
def K.bulk : (k : K) → k.T → Nat
  | .int _, _ => 1
  | .bool, _ => 1
  | .str, s => s.size + 1
  | .sl _ k, xs => ((xs : List k.T).map k.bulk).sum + 1
  | .prod a b, x => a.bulk x.1 + b.bulk x.2
  | _, _ => 0
/-- No slice and no text is longer than R bytes. -/
def K.fits (bt : TypeId → Nat) (R : Nat) : (k : K) → k.T → Prop
  | .str, s => s.size ≤ R
  | .sl e k, xs => List.length (α := k.T) xs * bt e ≤ R ∧ ∀ x : k.T, List.Mem x xs → k.fits bt R x
  | .prod a b, x => a.fits bt R x.1 ∧ b.fits bt R x.2
  | _, _ => True
/-- A measure of readings that counts all of that. -/
structure Bulk {H : Type} (bk : DataW H → Nat) : Prop where
  lit : ∀ l, 1 ≤ bk (.lit l)
  str : ∀ s : List UInt8, s.length + 1 ≤ bk (.lit (.string s))
  nil : 1 ≤ bk .nil
  sl : ∀ a b, (a.map bk).sum + 1 ≤ bk (.slice a b)
  agg : ∀ p, (p.map bk).sum ≤ bk (.agg p)
theorem pick {α : Type} {Q : Nat → α → Prop} : ∀ (n : Nat), (∀ i, i < n → ∃ y, Q i y) → ∃ ys : List α, ys.length = n ∧ ∀ i y, ys[i]? = some y → Q i y
  | 0, _ => ⟨[], rfl, fun i y h => by cases h⟩
  | n + 1, h => by
    obtain ⟨ys, hl, hq⟩ := pick n fun i hi => h i (by omega)
    obtain ⟨y, hy⟩ := h n (by omega)
    refine ⟨ys ++ [y], by simp [hl], fun i z hz => ?_⟩
    rw [List.getElem?_append] at hz
    split at hz
    · exact hq i z hz
    · rename_i hi
      have : i - ys.length = 0 := by
        rcases Nat.eq_zero_or_pos (i - ys.length) with h0 | h0
        · exact h0
        · rw [List.getElem?_eq_none (by simp; omega)] at hz; cases hz
      rw [this] at hz
      simp at hz
      subst hz
      have : i = n := by omega
      rw [this]; exact hy
theorem sums_le {α β : Type} {f : α → Nat} {g : β → Nat} : ∀ (xs : List α) (ys : List β), xs.length = ys.length → (∀ (i : Nat) (x : α) (y : β), xs[i]? = some x → ys[i]? = some y → f x ≤ g y) → (xs.map f).sum ≤ (ys.map g).sum
  | [], [], _, _ => Nat.le_refl _
  | x :: xs, y :: ys, hl, h => by
    have h1 := h 0 x y rfl rfl
    have h2 := sums_le xs ys (by simpa using hl) fun i x y hx hy => h (i + 1) x y (by simpa using hx) (by simpa using hy)
    simp only [List.map_cons, List.sum_cons]
    omega
  | [], _ :: _, hl, _ => by simp at hl
  | _ :: _, [], hl, _ => by simp at hl
section
variable {H : Type} {enc : TypeId × Value → H} {P : Program} {W : World}
theorem cells?_at {base n : Nat} {a : Addr} {cs : List Value} (h : W.cells? base a n = some cs) : cs.length = n ∧ ∀ j v, cs[j]? = some v → W.cell? (a.add j) = some v := by
  unfold World.cells? at h
  split at h
  · have hl := mapM_some_length h
    refine ⟨by simpa using hl, fun j v hv => ?_⟩
    have hj := (List.getElem?_eq_some_iff.1 hv).1
    have hj' : j < n := by simp at hl; omega
    have := mapM_some_get h j j (by simp [hj'])
    rw [this]; exact hv
  · cases h
theorem weights_mem_all {e : TypeId} {d : DataW H} {m : Nat} : ∀ {l : List (DataW H)}, d ∈ l → m ∈ DataW.weights P e d → m ∈ DataW.weightsAll P e l
  | x :: l, hd, hm => by
    simp only [DataW.weightsAll, List.mem_append]
    rcases List.mem_cons.1 hd with rfl | h
    · exact .inl hm
    · exact .inr (weights_mem_all h hm)
  | [], hd, _ => by cases hd
theorem weights_each_all {e : TypeId} {m : Nat} : ∀ {ts : List TypeId} {l : List (DataW H)}, (∀ t ∈ ts, t = e) → m ∈ DataW.weightsEach P ts l → m ∈ DataW.weightsAll P e l
  | [], l, _, hm => by cases l <;> simp [DataW.weightsEach] at hm
  | t :: ts, [], _, hm => by simp [DataW.weightsEach] at hm
  | t :: ts, x :: l, h, hm => by
    simp only [DataW.weightsEach, DataW.weightsAll, List.mem_append] at hm ⊢
    rcases hm with hm | hm
    · left; rw [← h t List.mem_cons_self]; exact hm
    · exact .inr (weights_each_all (fun t ht => h t (List.mem_cons_of_mem _ ht)) hm)
theorem shpF_rd {r : TypeId → K → Bool} {base : Nat} {held : Bool} {cs : List Value} {n : Nat}
    (ih : ∀ {t : TypeId} {k : K} {cs : List Value} {x : DataW H × List MemPlace}, r t k = true → DataW.trod enc P W base (fun _ => true) held n t cs = some x → ∃ y : k.T, Rd W (fun _ => True) k y cs ∧ k.wf y ∧ (∀ bk : DataW H → Nat, Bulk bk → k.bulk y ≤ bk x.1) ∧ ∀ R, (∀ m ∈ DataW.weights P t x.1, m ≤ R) → k.fits P.bytesOf R y) :
    ∀ (fs : List Field) (xs : List (DataW H × List MemPlace)) (o : Nat) (k : K), shpF P r fs o k = true → xs.length = fs.length → cs.length = o + k.n →
      (∀ (i : Nat) (f : Field), fs[i]? = some f → DataW.trod enc P W base (fun _ => true) held n f.type ((cs.drop f.offset).take (P.cellsOf f.type)) = xs[i]?) →
      ∃ y : k.T, Rd W (fun _ => True) k y (cs.drop o) ∧ k.wf y ∧ (∀ bk : DataW H → Nat, Bulk bk → k.bulk y ≤ (xs.map fun x => bk x.1).sum) ∧ ∀ R, (∀ m ∈ DataW.weightsEach P (fs.map (·.type)) (xs.map (·.1)), m ≤ R) → k.fits P.bytesOf R y
  | [], xs, o, k, hs, hl, hc, hx => by
    cases k <;> simp [shpF] at hs
    refine ⟨(), ?_, trivial, fun _ _ => Nat.zero_le _, fun _ _ => trivial⟩
    show cs.drop o = []
    rw [List.drop_eq_nil_iff]
    simp [K.n] at hc; omega
  | [f], xs, o, k, hs, hl, hc, hx => by
    have hs : (Nat.beq f.offset o && (Nat.beq (P.cellsOf f.type) k.n && r f.type k)) = true := by cases k <;> exact hs
    simp only [Bool.and_eq_true] at hs
    obtain ⟨h1, h2, h3⟩ := hs
    have h1 := Nat.eq_of_beq_eq_true h1
    have h2 := Nat.eq_of_beq_eq_true h2
    match xs, hl with
    | [x], _ =>
      have hx := hx 0 f rfl
      obtain ⟨y, hr, hw, hb, hf⟩ := ih h3 hx
      rw [h1, h2] at hr
      have e : (cs.drop o).take k.n = cs.drop o := List.take_of_length_le (by rw [List.length_drop]; omega)
      rw [e] at hr
      exact ⟨y, hr, hw, fun bk B => by simpa using hb bk B, fun R hR => hf R fun m hm => hR m (by simp [DataW.weightsEach, hm])⟩
  | f :: g :: fs, xs, o, k, hs, hl, hc, hx => by
    cases k with
    | prod a b =>
      have hs : (Nat.beq f.offset o && (Nat.beq (P.cellsOf f.type) a.n && (r f.type a && shpF P r (g :: fs) (o + a.n) b))) = true := hs
      simp only [Bool.and_eq_true] at hs
      obtain ⟨h1, h2, h3, h4⟩ := hs
      have h1 := Nat.eq_of_beq_eq_true h1
      have h2 := Nat.eq_of_beq_eq_true h2
      match xs, hl with
      | x :: xs, hl =>
        have hx0 := hx 0 f rfl
        obtain ⟨y, hr, hw, hb, hf⟩ := ih h3 hx0
        rw [h1, h2] at hr
        obtain ⟨z, hr2, hw2, hb2, hf2⟩ := shpF_rd (cs := cs) ih (g :: fs) xs (o + a.n) b h4 (by simpa using hl) (by have hc : cs.length = o + (a.n + b.n) := hc; omega) fun i f hf => by
          have := hx (i + 1) f (by simpa using hf)
          simpa using this
        refine ⟨(y, z), ⟨_, _, (List.take_append_drop a.n (cs.drop o)).symm, hr, ?_⟩, ⟨hw, hw2⟩, fun bk B => ?_, fun R hR => ⟨hf R fun m hm => hR m (by simp [DataW.weightsEach, hm]), hf2 R fun m hm => hR m (by simp only [List.map_cons, DataW.weightsEach, List.mem_append]; exact Or.inr (by simpa using hm))⟩⟩
        · rw [List.drop_drop]; exact hr2
        · simp only [List.map_cons, List.sum_cons]
          show a.bulk y + b.bulk z ≤ _
          have := hb bk B; have := hb2 bk B
          omega
    | _ => simp [shpF] at hs
/-- Whatever is read is data of its kind. -/
theorem trod_rd {base : Nat} {held : Bool} : ∀ (N : Nat) {t : TypeId} {k : K} {fuel : Nat} {cs : List Value} {x : DataW H × List MemPlace},
    shp P N t k = true → DataW.trod enc P W base (fun _ => true) held fuel t cs = some x → ∃ y : k.T, Rd W (fun _ => True) k y cs ∧ k.wf y ∧ (∀ bk : DataW H → Nat, Bulk bk → k.bulk y ≤ bk x.1) ∧ ∀ R, (∀ m ∈ DataW.weights P t x.1, m ≤ R) → k.fits P.bytesOf R y
  | 0, t, k, fuel, cs, x, hs, h => by cases hs
  | N + 1, t, k, fuel, cs, x, hs, h => by
    have ih := @trod_rd base held N
    unfold shp at hs
    split at hs
    · rename_i q hu
      split at hs
      · rename_i q'
        have := of_decide_eq_true hs
        subst this
        obtain ⟨n, rfl, rfl, hw⟩ := DataW.trod_int hu h
        exact ⟨n, rfl, hw, fun bk B => B.lit _, fun _ _ => trivial⟩
      · cases hs
    · rename_i hu
      split at hs
      · obtain ⟨b, rfl, rfl⟩ := DataW.trod_bool hu h
        exact ⟨b, rfl, trivial, fun bk B => B.lit _, fun _ _ => trivial⟩
      · cases hs
    · rename_i hu
      split at hs
      · obtain ⟨s, rfl, rfl, hw⟩ := DataW.trod_string hu h
        refine ⟨s, rfl, hw, fun bk B => ?_, fun R hR => ?_⟩
        · have := B.str s.data.toList
          rwa [Array.length_toList] at this
        · have := hR s.data.toList.length (by simp [DataW.weights])
          rwa [Array.length_toList] at this
      · cases hs
    · rename_i e hu
      split at hs
      · rename_i e' k'
        simp only [Bool.and_eq_true] at hs
        obtain ⟨h1, h2, h3, h4⟩ := hs
        have h1 := Nat.eq_of_beq_eq_true h1
        have h2 := Nat.eq_of_beq_eq_true h2
        have h3 : 0 < k'.n := Nat.le_of_ble_eq_true h3
        subst h1
        rcases DataW.trod_slice hu h with ⟨rfl, rfl⟩ | ⟨a, len, cap, elems, rest, n, rfl, rfl, rfl, hb, hlc, hcm, hel, hat, -, -⟩
        · have w0 : ∀ x : k'.T, List.Mem x [] → k'.wf x := fun x hx => by cases hx
          have b0 : ∀ bk : DataW H → Nat, Bulk bk → (K.sl e k').bulk ([] : List k'.T) ≤ bk .nil := by intro bk B; have := B.nil; simpa [K.bulk] using this
          exact ⟨[], ⟨none, 0, rfl, Nat.le_refl _, fun i x hx => by cases i <;> cases hx⟩, w0, b0, fun R _ => ⟨by show 0 * _ ≤ R; omega, (fun x hx => by cases hx)⟩⟩
        · have key : ∀ i, i < len → ∃ y : k'.T, (∃ es : List Value, Rd W (fun _ => True) k' y es ∧ es.length = k'.n ∧ ∀ j v, es[j]? = some v → W.cell? (a.add (i * k'.n + j)) = some v) ∧ k'.wf y ∧ ∀ z, elems[i]? = some z → (∀ bk : DataW H → Nat, Bulk bk → k'.bulk y ≤ bk z.1) ∧ ∀ R, (∀ m ∈ DataW.weights P e z.1, m ≤ R) → k'.fits P.bytesOf R y := by
            intro i hi
            have g := hat i hi
            have hi' : i < elems.length := by omega
            rw [List.getElem?_eq_getElem hi'] at g
            obtain ⟨es, hes, ht⟩ := Option.bind_eq_some_iff.1 g
            obtain ⟨y, hr, hw, hbk⟩ := ih h4 ht
            obtain ⟨c1, c2⟩ := cells?_at hes
            refine ⟨y, ⟨es, hr, by rw [c1, h2], fun j v hv => ?_⟩, hw, fun z hz => ?_⟩
            · have := c2 j v hv
              rw [Addr.add_add'] at this
              rw [← h2]; exact this
            · rw [List.getElem?_eq_getElem hi'] at hz
              have := Option.some.inj hz
              subst this; exact hbk
          obtain ⟨ys, hl, hq⟩ := pick len key
          refine ⟨ys, ⟨some a, cap, by rw [show ys.length = len from hl], by rw [show ys.length = len from hl]; exact hlc, fun i y hy => ?_⟩, fun y hy => ?_, fun bk B => ?_, fun R hR => ?_⟩
          · obtain ⟨⟨es, hr, hle, hc⟩, -, -⟩ := hq i y hy
            have hlt : a.block < W.heap.size := by
              have := hc 0 es[0] (List.getElem?_eq_getElem (by omega))
              have := lt_of_cell this
              rwa [Addr.add_block] at this
            exact ⟨a, es, rfl, hlt, trivial, hr, hc⟩
          · obtain ⟨i, hi, rfl⟩ := List.getElem_of_mem hy
            exact (hq i _ (List.getElem?_eq_getElem hi)).2.1
          · have h5 := sums_le (f := k'.bulk) (g := fun z : DataW H × List MemPlace => bk z.1) ys elems (by rw [hl, hel]) fun i y z hy hz => ((hq i y hy).2.2 z hz).1 bk B
            have h6 := B.sl (elems.map (·.1)) (rest.map (·.1))
            rw [List.map_map] at h6
            show (ys.map k'.bulk).sum + 1 ≤ _
            exact Nat.le_trans (Nat.succ_le_succ h5) h6
          · have hW : DataW.weights P t (.slice (elems.map (·.1)) (rest.map (·.1))) = ((elems.map (·.1)).length + (rest.map (·.1)).length) * P.bytesOf e :: (DataW.weightsAll P e (elems.map (·.1)) ++ DataW.weightsAll P e (rest.map (·.1))) := by
              simp only [DataW.weights, hu]
            rw [hW] at hR
            refine ⟨?_, fun y hy => ?_⟩
            · have := hR _ (List.mem_cons_self ..)
              refine Nat.le_trans (Nat.mul_le_mul_right _ ?_) this
              show ys.length ≤ _
              rw [List.length_map]; omega
            · obtain ⟨i, hi, rfl⟩ := List.getElem_of_mem hy
              have hi' : i < elems.length := by omega
              refine ((hq i _ (List.getElem?_eq_getElem hi)).2.2 _ (List.getElem?_eq_getElem hi')).2 R fun m hm => hR m (List.mem_cons_of_mem _ (List.mem_append_left _ ?_))
              exact weights_mem_all (List.mem_map.2 ⟨_, List.getElem_mem hi', rfl⟩) hm
      · cases hs
    · rename_i fs hu
      simp only [Bool.and_eq_true] at hs
      have h1 := Nat.eq_of_beq_eq_true hs.1
      obtain ⟨xs, n, rfl, rfl, hcl, hxl, hx⟩ := DataW.trod_struct hu h
      obtain ⟨y, hr, hw, hb, hft⟩ := shpF_rd (n := n) (cs := cs) (fun {t} {k} {cs} {x} h1 h2 => ih h1 h2) fs.toList xs 0 k hs.2 (by simpa using hxl) (by rw [hcl, h1]; omega) fun i f hf => hx i f (by simpa using hf)
      refine ⟨y, by simpa using hr, hw, fun bk B => Nat.le_trans (hb bk B) ?_, fun R hR => hft R fun m hm => hR m ?_⟩
      rotate_left
      · simp only [DataW.weights, hu]; exact hm
      have := B.agg (xs.map (·.1))
      rw [List.map_map] at this
      exact this
    · rename_i m e hu
      simp only [Bool.and_eq_true] at hs
      have h1 := Nat.eq_of_beq_eq_true hs.1
      obtain ⟨xs, n, rfl, rfl, hcl, hxl, hx⟩ := DataW.trod_array hu h
      obtain ⟨y, hr, hw, hb, hft⟩ := shpF_rd (n := n) (cs := cs) (fun {t} {k} {cs} {x} h1 h2 => ih h1 h2) (arrFs P m e) xs 0 k hs.2 (by simp [arrFs, hxl]) (by rw [hcl, h1]; omega) fun i f hf => by
        unfold arrFs at hf
        rw [List.getElem?_map] at hf
        obtain ⟨q, h3, h4⟩ := Option.map_eq_some_iff.1 hf
        obtain ⟨h5, h6⟩ := List.getElem?_eq_some_iff.1 h3
        rw [List.getElem_range] at h6
        subst h6; subst h4
        exact hx i (by simpa using h5)
      refine ⟨y, by simpa using hr, hw, fun bk B => Nat.le_trans (hb bk B) ?_, fun R hR => hft R fun q hq => hR q ?_⟩
      rotate_left
      · simp only [DataW.weights, hu]
        exact weights_each_all (fun t ht => by unfold arrFs at ht; simp only [List.map_map, List.mem_map] at ht; obtain ⟨_, _, rfl⟩ := ht; rfl) hq
      have := B.agg (xs.map (·.1))
      rw [List.map_map] at this
      exact this
    · cases hs
/-- Does an argument of this kind come as a struct's value? -/
def isAgg (P : Program) (t : TypeId) : Bool := match P.underlying t with | some (.struct _) => true | some (.array _ _) => true | _ => false
theorem arg_open {base b0 : Nat} {r : Reach} {held : Bool} {t : TypeId} {k : K} {v : Value} {d : DataW H} {ps : List MemPlace} {N : Nat}
    (hval : Value.okWide P W r b0 t v) (hs : shp P N t k = true) (h : DataW.Trod enc P W base (fun _ => true) held t v d ps) :
    ∃ y : k.T, RdV W (fun _ => True) (isAgg P t, k) y v ∧ k.wf y ∧ (∀ bk : DataW H → Nat, Bulk bk → k.bulk y ≤ bk d) ∧ ∀ R, (∀ m ∈ DataW.weights P t d, m ≤ R) → k.fits P.bytesOf R y := by
  obtain ⟨fuel, hf⟩ := h
  obtain ⟨y, hr, hw, hb⟩ := trod_rd N hs hf
  refine ⟨y, ?_, hw, hb⟩
  cases N with
  | zero => cases hs
  | succ N =>
  have one : ∀ {v : Value}, v.cells.toList = [v] → Rd W (fun _ => True) k y v.cells.toList → isAgg P t = false → RdV W (fun _ => True) (isAgg P t, k) y v := by
    intro v h1 h2 h3
    unfold RdV
    rw [h3]
    rw [h1] at h2
    exact h2
  unfold shp at hs
  split at hs
  · rename_i q hu
    have ha : isAgg P t = false := by unfold isAgg; rw [hu]
    obtain ⟨n, hcs, -, -⟩ := DataW.trod_int hu hf
    have : ∃ n, v = .int q n := by
      simp only [Value.okWide, hu, Cell.okWide] at hval
      cases v <;> simp_all [Cell.ok]
    obtain ⟨n, rfl⟩ := this
    exact one rfl hr ha
  · rename_i hu
    have ha : isAgg P t = false := by unfold isAgg; rw [hu]
    have : ∃ n, v = .bool n := by
      simp only [Value.okWide, hu, Cell.okWide] at hval
      cases v <;> simp_all [Cell.ok]
    obtain ⟨n, rfl⟩ := this
    exact one rfl hr ha
  · rename_i hu
    have ha : isAgg P t = false := by unfold isAgg; rw [hu]
    obtain ⟨s, rfl⟩ := okWide_string hu hval
    exact one rfl hr ha
  · rename_i e hu
    have ha : isAgg P t = false := by unfold isAgg; rw [hu]
    obtain ⟨a, len, cap, rfl⟩ := okWide_slice hu hval
    exact one rfl hr ha
  · rename_i fs hu
    have ha : isAgg P t = true := by unfold isAgg; rw [hu]
    obtain ⟨cs, rfl, -⟩ := okWide_struct hu hval
    unfold RdV
    rw [ha]
    exact ⟨cs.toList, by simp, hr⟩
  · rename_i m e hu
    have ha : isAgg P t = true := by unfold isAgg; rw [hu]
    have : ∃ cs, v = .agg cs := by
      simp only [Value.okWide, hu, Cell.okWide] at hval
      cases v <;> simp_all [Cell.ok]
    obtain ⟨cs, rfl⟩ := this
    unfold RdV
    rw [ha]
    exact ⟨cs.toList, by simp, hr⟩
  · cases hs
end
end Go.Fx
