/- What the data of the second reading stand for in the machine's memory, and that it stays so where nobody writes. -/
import Derived.Test.YtjhbcpnliiegoaaEv0
import Derived.Below
import Derived.Laws.AppendOwn
namespace Go.Fx
open Go Go.RowKit
set_option linter.unusedVariables false
theorem lt_of_cell {w : World} {a : Addr} {v : Value} (h : w.cell? a = some v) : a.block < w.heap.size := World.block_lt_of_cell? w a h
/-- A slice whose elements (of n cells each) are read by R. -/
def RdSl (w : World) (ok : Nat → Prop) (n : Nat) {α : Type} (R : α → List Value → Prop) (xs : List α) (cs : List Value) : Prop :=
  ∃ A c, cs = [.slice A xs.length c] ∧ xs.length ≤ c ∧ ∀ i x, xs[i]? = some x →
    ∃ ad es, A = some ad ∧ ad.block < w.heap.size ∧ ok ad.block ∧ R x es ∧ ∀ j v, es[j]? = some v → w.cell? (ad.add (i * n + j)) = some v
/-- Data that a pointer leads to. -/
def RdPt (w : World) (ok : Nat → Prop) {α : Type} (R : α → List Value → Prop) (x : α) (u : Value) : Prop :=
  ∃ (ad : Addr) (es : List Value), u = .pointer (some ad) ∧ ad.block < w.heap.size ∧ ok ad.block ∧ R x es ∧ ∀ j v, es[j]? = some v → w.cell? (ad.add j) = some v
/-- Two lists, one against the other. -/
def MapEs (es : List MapEntry) (xs : List (ByteArray × Int)) : Prop := es.map (fun e => (e.key, e.val)) = xs.map fun x => (.string x.1, .int .i64 x.2)
/-- A map from texts to whole numbers. -/
def RdMp (w : World) (ok : Nat → Prop) (xs : List (ByteArray × Int)) (u : Value) : Prop :=
  (u = .map none ∧ xs = []) ∨ ∃ (r : Nat) (es : Array MapEntry) (clk : Nat), u = .map (some r) ∧ r < w.heap.size ∧ ok r ∧ w.heap[r]? = some (.map es clk) ∧ MapEs es.toList xs
/-- Data of a kind, as cells' values; all that is read lies in blocks of 'ok'. -/
def Rd (w : World) (ok : Nat → Prop) : (k : K) → k.T → List Value → Prop
  | .int q, x, cs => cs = [.int q x]
  | .bool, x, cs => cs = [.bool x]
  | .str, x, cs => cs = [.string x]
  | .unit, _, cs => cs = []
  | .prod a b, x, cs => ∃ c1 c2, cs = c1 ++ c2 ∧ Rd w ok a x.1 c1 ∧ Rd w ok b x.2 c2
  | .sl _ k, xs, cs => RdSl w ok k.n (Rd w ok k) xs cs
  | .raw, x, cs => cs = [x] ∧ Value.oneCell' x = true
  | .hd, x, cs => cs = [x] ∧ ∃ A n c, x = Value.slice A n c
  | .fnc g, _, cs => cs = [.func (.func g) #[] #[]]
  | .mp, x, cs => ∃ u, cs = [u] ∧ RdMp w ok x u
  | .rp k, x, cs => ∃ u, cs = [u] ∧ RdPt w ok (Rd w ok k) x u
  | .clo g k, x, cs => ∃ u, cs = [.func (.func g) #[] #[u]] ∧ RdPt w ok (Rd w ok k) x u
theorem Rd.len {w : World} {ok : Nat → Prop} : ∀ {k : K} {x : k.T} {cs : List Value}, Rd w ok k x cs → cs.length = k.n
  | .int q, x, cs, h => by simp only [Rd] at h; subst h; rfl
  | .bool, x, cs, h => by simp only [Rd] at h; subst h; rfl
  | .str, x, cs, h => by simp only [Rd] at h; subst h; rfl
  | .unit, x, cs, h => by simp only [Rd] at h; subst h; rfl
  | .sl e k, x, cs, h => by obtain ⟨A, c, rfl, _⟩ := h; rfl
  | .raw, x, cs, h => by obtain ⟨rfl, _⟩ := h; rfl
  | .hd, x, cs, h => by obtain ⟨rfl, _⟩ := h; rfl
  | .fnc g, x, cs, h => by have h : cs = [.func (.func g) #[] #[]] := h; subst h; rfl
  | .mp, x, cs, h => by obtain ⟨u, rfl, _⟩ := h; rfl
  | .rp k, y, cs, h => by obtain ⟨u, rfl, _⟩ := h; rfl
  | .clo g k, y, cs, h => by obtain ⟨u, rfl, _⟩ := h; rfl
  | .prod a b, x, cs, h => by
    obtain ⟨c1, c2, rfl, h1, h2⟩ := h
    simp [K.n, h1.len, h2.len]
theorem Rd.one {w : World} {ok : Nat → Prop} : ∀ {k : K} {x : k.T} {cs : List Value}, Rd w ok k x cs → ∀ u ∈ cs, u.oneCell' = true
  | .int q, x, cs, h, u, hu => by simp only [Rd] at h; subst h; simp at hu; subst hu; rfl
  | .bool, x, cs, h, u, hu => by simp only [Rd] at h; subst h; simp at hu; subst hu; rfl
  | .str, x, cs, h, u, hu => by simp only [Rd] at h; subst h; simp at hu; subst hu; rfl
  | .unit, x, cs, h, u, hu => by simp only [Rd] at h; subst h; simp at hu
  | .sl e k, x, cs, h, u, hu => by obtain ⟨A, c, rfl, _⟩ := h; simp at hu; subst hu; rfl
  | .raw, x, cs, h, u, hu => by obtain ⟨rfl, h⟩ := h; rw [List.mem_singleton.1 hu]; exact h
  | .hd, x, cs, h, u, hu => by obtain ⟨rfl, _, _, _, rfl⟩ := h; rw [List.mem_singleton.1 hu]; rfl
  | .fnc g, x, cs, h, u, hu => by have h : cs = [.func (.func g) #[] #[]] := h; subst h; simp at hu; subst hu; rfl
  | .mp, x, cs, h, u, hu => by
    obtain ⟨v, rfl, h⟩ := h
    simp at hu; subst hu
    rcases h with ⟨rfl, _⟩ | ⟨r, es, clk, rfl, _⟩ <;> rfl
  | .rp k, y, cs, h, u, hu => by obtain ⟨v, rfl, ad, es, rfl, _⟩ := h; simp at hu; subst hu; rfl
  | .clo g k, y, cs, h, u, hu => by obtain ⟨v, rfl, _⟩ := h; simp at hu; subst hu; rfl
  | .prod a b, x, cs, h, u, hu => by
    obtain ⟨c1, c2, rfl, h1, h2⟩ := h
    rcases List.mem_append.1 hu with hu | hu
    · exact h1.one u hu
    · exact h2.one u hu
/-- From (w, ok) to (w', ok'): what lies in blocks of ok is there still, in blocks of ok'. -/
def Stay (w : World) (ok : Nat → Prop) (w' : World) (ok' : Nat → Prop) : Prop := ∀ b, b < w.heap.size → ok b → ok' b ∧ b < w'.heap.size ∧ w'.heap[b]? = w.heap[b]?
theorem Stay.refl (w : World) (ok : Nat → Prop) : Stay w ok w ok := fun b h k => ⟨k, h, rfl⟩
theorem Stay.mono {w : World} {ok ok' : Nat → Prop} (h : ∀ b, b < w.heap.size → ok b → ok' b) : Stay w ok w ok' := fun b l k => ⟨h b l k, l, rfl⟩
theorem Stay.trans {w w1 w2 : World} {o o1 o2 : Nat → Prop} (h : Stay w o w1 o1) (k : Stay w1 o1 w2 o2) : Stay w o w2 o2 := fun b l p =>
  let ⟨a, b', c⟩ := h b l p
  let ⟨d, e, f⟩ := k b b' a
  ⟨d, e, f.trans c⟩
theorem Stay.cell {w w' : World} {ok ok' : Nat → Prop} (H : Stay w ok w' ok') {a : Addr} {v : Value} (ho : ok a.block) (h : w.cell? a = some v) : w'.cell? a = some v :=
  (World.cell?_of_block (H a.block (lt_of_cell h) ho).2.2).trans h
theorem Addr.add_block (a : Addr) (n : Nat) : (a.add n).block = a.block := by unfold Addr.add; split <;> rfl
theorem RdPt.keep {w w' : World} {ok ok' : Nat → Prop} (H : Stay w ok w' ok') {α : Type} {R R' : α → List Value → Prop} (HR : ∀ x cs, R x cs → R' x cs) {x : α} {u : Value} (h : RdPt w ok R x u) : RdPt w' ok' R' x u := by
  obtain ⟨ad, es, rfl, hl, ho, hr, hcell⟩ := h
  obtain ⟨ho', hl', _⟩ := H _ hl ho
  exact ⟨ad, es, rfl, hl', ho', HR _ _ hr, fun j v hv => H.cell (by rw [Addr.add_block]; exact ho) (hcell j v hv)⟩
theorem RdMp.keep {w w' : World} {ok ok' : Nat → Prop} (H : Stay w ok w' ok') {xs : List (ByteArray × Int)} {u : Value} (h : RdMp w ok xs u) : RdMp w' ok' xs u := by
  rcases h with h | ⟨r, es, clk, rfl, hl, ho, hh, he⟩
  · exact .inl h
  · obtain ⟨ho', hl', hs⟩ := H _ hl ho
    exact .inr ⟨r, es, clk, rfl, hl', ho', hs.trans hh, he⟩
theorem Rd.keep {w w' : World} {ok ok' : Nat → Prop} (H : Stay w ok w' ok') : ∀ {k : K} {x : k.T} {cs : List Value}, Rd w ok k x cs → Rd w' ok' k x cs
  | .int q, x, cs, h => h
  | .bool, x, cs, h => h
  | .str, x, cs, h => h
  | .unit, x, cs, h => h
  | .raw, x, cs, h => h
  | .hd, x, cs, h => h
  | .fnc g, x, cs, h => h
  | .mp, x, cs, ⟨u, e, h⟩ => ⟨u, e, h.keep H⟩
  | .rp k, y, cs, ⟨u, e, h⟩ => ⟨u, e, h.keep H fun _ _ h => Rd.keep H h⟩
  | .clo g k, y, cs, ⟨u, e, h⟩ => ⟨u, e, h.keep H fun _ _ h => Rd.keep H h⟩
  | .prod a b, x, cs, h => by
    obtain ⟨c1, c2, rfl, h1, h2⟩ := h
    exact ⟨c1, c2, rfl, h1.keep H, h2.keep H⟩
  | .sl e k, xs, cs, h => by
    obtain ⟨A, c, rfl, hc, hx⟩ := h
    refine ⟨A, c, rfl, hc, fun i x hi => ?_⟩
    obtain ⟨ad, es, rfl, hl, ho, hr, hcell⟩ := hx i x hi
    obtain ⟨ho', hl', _⟩ := H _ hl ho
    exact ⟨ad, es, rfl, hl', ho', hr.keep H, fun j v hv => H.cell (by rw [Addr.add_block]; exact ho) (hcell j v hv)⟩
theorem Rd.mono {w : World} {ok ok' : Nat → Prop} (H : ∀ b, ok b → ok' b) {k : K} {x : k.T} {cs : List Value} (h : Rd w ok k x cs) : Rd w ok' k x cs :=
  h.keep (Stay.mono fun b _ => H b)
/-- A flat kind leads to no memory. -/
theorem Rd.flat {w w' : World} {ok ok' : Nat → Prop} : ∀ {k : K} {x : k.T} {cs : List Value}, k.flat = true → Rd w ok k x cs → Rd w' ok' k x cs
  | .int q, x, cs, _, h => h
  | .bool, x, cs, _, h => h
  | .str, x, cs, _, h => h
  | .unit, x, cs, _, h => h
  | .raw, x, cs, _, h => h
  | .hd, x, cs, _, h => h
  | .fnc g, x, cs, _, h => h
  | .prod a b, x, cs, f, h => by
    obtain ⟨c1, c2, rfl, h1, h2⟩ := h
    simp only [K.flat, Bool.and_eq_true] at f
    exact ⟨c1, c2, rfl, h1.flat f.1, h2.flat f.2⟩
def RdEach (w : World) (ok : Nat → Prop) (k : K) : List k.T → List Value → Prop
  | [], cs => cs = []
  | x :: r, cs => ∃ c1 c2, cs = c1 ++ c2 ∧ Rd w ok k x c1 ∧ RdEach w ok k r c2
section
variable {w w' : World} {ok ok' : Nat → Prop} {k : K}
theorem RdEach.len : ∀ {xs : List k.T} {cs : List Value}, RdEach w ok k xs cs → cs.length = xs.length * k.n
  | [], cs, h => by simp only [RdEach] at h; subst h; simp
  | x :: r, cs, h => by
    obtain ⟨c1, c2, rfl, h1, h2⟩ := h
    rw [List.length_append, h1.len, h2.len, List.length_cons, Nat.add_mul]; omega
theorem RdEach.one : ∀ {xs : List k.T} {cs : List Value}, RdEach w ok k xs cs → ∀ u ∈ cs, u.oneCell' = true
  | [], cs, h, u, hu => by simp only [RdEach] at h; subst h; simp at hu
  | x :: r, cs, h, u, hu => by
    obtain ⟨c1, c2, rfl, h1, h2⟩ := h
    rcases List.mem_append.1 hu with hu | hu
    · exact h1.one u hu
    · exact h2.one u hu
theorem RdEach.keep (H : Stay w ok w' ok') : ∀ {xs : List k.T} {cs : List Value}, RdEach w ok k xs cs → RdEach w' ok' k xs cs
  | [], cs, h => h
  | x :: r, cs, h => by
    obtain ⟨c1, c2, rfl, h1, h2⟩ := h
    exact ⟨c1, c2, rfl, h1.keep H, h2.keep H⟩
theorem RdEach.flat (f : k.flat = true) : ∀ {xs : List k.T} {cs : List Value}, RdEach w ok k xs cs → RdEach w' ok' k xs cs
  | [], cs, h => h
  | x :: r, cs, h => by
    obtain ⟨c1, c2, rfl, h1, h2⟩ := h
    exact ⟨c1, c2, rfl, h1.flat f, h2.flat f⟩
theorem RdEach.append : ∀ {xs ys : List k.T} {cs ds : List Value}, RdEach w ok k xs cs → RdEach w ok k ys ds → RdEach w ok k (xs ++ ys) (cs ++ ds)
  | [], ys, cs, ds, h, h' => by simp only [RdEach] at h; subst h; exact h'
  | x :: r, ys, cs, ds, h, h' => by
    obtain ⟨c1, c2, rfl, h1, h2⟩ := h
    exact ⟨c1, c2 ++ ds, by simp, h1, h2.append h'⟩
theorem RdEach.split : ∀ {xs ys : List k.T} {cs : List Value}, RdEach w ok k (xs ++ ys) cs → ∃ c1 c2, cs = c1 ++ c2 ∧ RdEach w ok k xs c1 ∧ RdEach w ok k ys c2
  | [], ys, cs, h => ⟨[], cs, rfl, rfl, h⟩
  | x :: r, ys, cs, h => by
    obtain ⟨c1, c2, rfl, h1, h2⟩ := h
    obtain ⟨d1, d2, rfl, h3, h4⟩ := h2.split
    exact ⟨c1 ++ d1, d2, by simp, ⟨c1, d1, rfl, h1, h3⟩, h4⟩
/-- Element i: its cells. -/
theorem RdEach.at_ {xs : List k.T} {cs : List Value} (h : RdEach w ok k xs cs) {i : Nat} {x : k.T} (hi : xs[i]? = some x) :
    ∃ es, Rd w ok k x es ∧ (∀ j v, es[j]? = some v → cs[i * k.n + j]? = some v) ∧ cs = cs.take (i * k.n) ++ es ++ cs.drop (i * k.n + k.n) := by
  induction xs generalizing cs i with
  | nil => simp at hi
  | cons y r ih =>
    obtain ⟨c1, c2, rfl, h1, h2⟩ := h
    have l1 := h1.len
    cases i with
    | zero =>
      simp at hi; subst hi
      refine ⟨c1, h1, fun j v hv => ?_, ?_⟩
      · have hj : j < c1.length := (List.getElem?_eq_some_iff.1 hv).1
        rw [Nat.zero_mul, Nat.zero_add, List.getElem?_append_left hj]; exact hv
      · rw [Nat.zero_mul, Nat.zero_add, ← l1]; simp
    | succ i =>
      simp at hi
      obtain ⟨es, he, hc, hs⟩ := ih h2 hi
      refine ⟨es, he, fun j v hv => ?_, ?_⟩
      · rw [List.getElem?_append_right (by rw [l1, Nat.add_mul]; omega)]
        have : (i + 1) * k.n + j - c1.length = i * k.n + j := by rw [l1, Nat.add_mul]; omega
        rw [this]; exact hc j v hv
      · have e1 : (i + 1) * k.n = c1.length + i * k.n := by rw [l1, Nat.add_mul]; omega
        rw [e1, List.take_length_add_append, Nat.add_assoc, List.drop_length_add_append]
        conv => lhs; rw [hs]
        simp
/-- Element i, written anew. -/
theorem RdEach.set {xs : List k.T} {cs : List Value} (h : RdEach w ok k xs cs) {i : Nat} {y : k.T} {es : List Value} (hi : i < xs.length) (hy : Rd w ok k y es) :
    RdEach w ok k (xs.set i y) (cs.take (i * k.n) ++ es ++ cs.drop (i * k.n + k.n)) := by
  induction xs generalizing cs i with
  | nil => simp at hi
  | cons x r ih =>
    obtain ⟨c1, c2, rfl, h1, h2⟩ := h
    have l1 := h1.len
    cases i with
    | zero =>
      simp only [List.set_cons_zero, Nat.zero_mul, Nat.zero_add, List.take_zero, List.nil_append]
      refine ⟨es, c2, ?_, hy, h2⟩
      rw [← l1, List.drop_left]
    | succ i =>
      simp only [List.set_cons_succ]
      have e1 : (i + 1) * k.n = c1.length + i * k.n := by rw [l1, Nat.add_mul]; omega
      refine ⟨c1, c2.take (i * k.n) ++ es ++ c2.drop (i * k.n + k.n), ?_, h1, ih h2 (by simpa using hi)⟩
      rw [e1, List.take_length_add_append, Nat.add_assoc, List.drop_length_add_append]
      simp
theorem RdEach.replicate {x : k.T} {es : List Value} (h : Rd w ok k x es) (n : Nat) : RdEach w ok k (List.replicate n x) (List.replicate n es).flatten := by
  induction n with
  | zero => rfl
  | succ n ih => exact ⟨es, (List.replicate n es).flatten, by simp [List.replicate_succ], h, ih⟩
/-- A slice that is read, as its elements. -/
theorem RdEach.ofSl {e : TypeId} {xs : List k.T} {v : Value} (h : Rd w ok (.sl e k) xs [v]) :
    ∃ A c cs, v = .slice A xs.length c ∧ xs.length ≤ c ∧ RdEach w ok k xs cs ∧ (xs ≠ [] → ∃ ad, A = some ad ∧ ad.block < w.heap.size ∧ ok ad.block ∧ ∀ j u, cs[j]? = some u → w.cell? (ad.add j) = some u) := by
  obtain ⟨A, c, hv, hc, hx⟩ := h
  obtain rfl : v = .slice A xs.length c := by simpa using hv
  have key : ∀ (ys zs : List k.T), xs = ys ++ zs → ∃ cs, RdEach w ok k zs cs ∧ ∀ ad, A = some ad → ∀ j u, cs[j]? = some u → w.cell? (ad.add (ys.length * k.n + j)) = some u := by
    intro ys zs
    induction zs generalizing ys with
    | nil => exact fun _ => ⟨[], rfl, fun ad _ j u hu => by simp at hu⟩
    | cons z r ih =>
      intro he
      obtain ⟨ad, es, rfl, _, _, hr, hcell⟩ := hx ys.length z (by rw [he]; simp)
      obtain ⟨cs, h1, h2⟩ := ih (ys ++ [z]) (by rw [he]; simp)
      refine ⟨es ++ cs, ⟨es, cs, rfl, hr, h1⟩, fun ad' hA j u hu => ?_⟩
      obtain rfl := Option.some.inj hA
      by_cases hj : j < es.length
      · rw [List.getElem?_append_left hj] at hu; exact hcell j u hu
      · rw [List.getElem?_append_right (by omega)] at hu
        have := h2 ad rfl _ _ hu
        have l := hr.len
        have e : (ys ++ [z]).length * k.n + (j - es.length) = ys.length * k.n + j := by
          rw [List.length_append, List.length_singleton, Nat.add_mul]; omega
        rwa [e] at this
  obtain ⟨cs, h1, h2⟩ := key [] xs rfl
  refine ⟨A, c, cs, rfl, hc, h1, fun hne => ?_⟩
  obtain ⟨x, r, rfl⟩ := List.exists_cons_of_ne_nil hne
  obtain ⟨ad, es, rfl, hl, ho, _⟩ := hx 0 x rfl
  exact ⟨ad, rfl, hl, ho, fun j u hu => by simpa using h2 ad rfl j u hu⟩
/-- And back. -/
theorem RdEach.toSl {e : TypeId} {xs : List k.T} {cs : List Value} (h : RdEach w ok k xs cs) {A : Option Addr} {c : Nat} (hc : xs.length ≤ c)
    (hA : xs ≠ [] → ∃ ad, A = some ad ∧ ad.block < w.heap.size ∧ ok ad.block ∧ ∀ j u, cs[j]? = some u → w.cell? (ad.add j) = some u) : Rd w ok (.sl e k) xs [.slice A xs.length c] := by
  refine ⟨A, c, rfl, hc, fun i x hi => ?_⟩
  obtain ⟨ad, rfl, hl, ho, hcell⟩ := hA (by rintro rfl; simp at hi)
  obtain ⟨es, he, hj, _⟩ := h.at_ hi
  exact ⟨ad, es, rfl, hl, ho, he, fun j v hv => hcell _ _ (hj j v hv)⟩
theorem RdEach.take {xs : List k.T} {cs : List Value} (h : RdEach w ok k xs cs) (n : Nat) : RdEach w ok k (xs.take n) (cs.take (n * k.n)) := by
  by_cases hn : n ≤ xs.length
  · obtain ⟨c1, c2, rfl, h1, h2⟩ := (show RdEach w ok k (xs.take n ++ xs.drop n) cs by rw [List.take_append_drop]; exact h).split
    have l := h1.len
    rw [List.length_take, Nat.min_eq_left hn] at l
    rw [← l, List.take_left]; exact h1
  · rw [List.take_of_length_le (by omega), List.take_of_length_le (by rw [h.len]; exact Nat.mul_le_mul_right _ (by omega))]; exact h
theorem RdEach.drop {xs : List k.T} {cs : List Value} (h : RdEach w ok k xs cs) (n : Nat) : RdEach w ok k (xs.drop n) (cs.drop (n * k.n)) := by
  by_cases hn : n ≤ xs.length
  · obtain ⟨c1, c2, rfl, h1, h2⟩ := (show RdEach w ok k (xs.take n ++ xs.drop n) cs by rw [List.take_append_drop]; exact h).split
    have l := h1.len
    rw [List.length_take, Nat.min_eq_left hn] at l
    rw [← l, List.drop_left]; exact h2
  · rw [List.drop_eq_nil_of_le (by omega), List.drop_eq_nil_of_le (by rw [h.len]; exact Nat.mul_le_mul_right _ (by omega))]; rfl
end
theorem Addr.add_add' (a : Addr) (m n : Nat) : (a.add m).add n = a.add (m + n) := by
  unfold Addr.add
  by_cases h : m = 0 <;> by_cases h' : n = 0 <;> simp_all [Nat.add_assoc]
section
variable {w : World} {ok : Nat → Prop} {k : K} {e : TypeId}
/-- 'xs[l:h]' of a slice that is read. -/
theorem Rd.cut {xs : List k.T} {v : Value} (h : Rd w ok (.sl e k) xs [v]) (lo hi m : Nat) (h1 : lo ≤ hi) (h2 : hi ≤ xs.length) (A : Option Addr) (c : Nat) (hv : v = .slice A xs.length c) (hm : hi ≤ m) :
    Rd w ok (.sl e k) ((xs.take hi).drop lo) [.slice (if m = lo then A else A.map (·.add (lo * k.n))) (hi - lo) (m - lo)] := by
  obtain ⟨A', c', cs, hv', hc, he, hA⟩ := RdEach.ofSl h
  rw [hv] at hv'
  injection hv' with e1 _ e3
  subst e1 e3
  have hl : ((xs.take hi).drop lo).length = hi - lo := by rw [List.length_drop, List.length_take]; omega
  have := RdEach.toSl (e := e) ((he.take hi).drop lo) (A := if m = lo then A else A.map (·.add (lo * k.n))) (c := m - lo) (by rw [hl]; omega) (fun hne => ?_)
  · rw [hl] at this; exact this
  · have hlt : lo < hi := by
      rcases Nat.lt_or_ge lo hi with h' | h'
      · exact h'
      · exact absurd (List.eq_nil_of_length_eq_zero (by rw [hl]; omega)) hne
    obtain ⟨ad, rfl, hb, ho, hcell⟩ := hA (by rintro rfl; simp at h2; omega)
    rw [if_neg (by omega)]
    refine ⟨ad.add (lo * k.n), rfl, by rw [Addr.add_block]; exact hb, by rw [Addr.add_block]; exact ho, fun j u hu => ?_⟩
    rw [Addr.add_add']
    apply hcell
    rw [List.getElem?_drop] at hu
    rw [List.getElem?_take] at hu
    split at hu
    · exact hu
    · cases hu
end
end Go.Fx
