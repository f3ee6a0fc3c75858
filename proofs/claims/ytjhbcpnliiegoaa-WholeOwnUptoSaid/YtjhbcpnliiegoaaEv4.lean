/- The operations that make no memory: what the second reading says of them is what the machine does. -/
import Derived.Test.YtjhbcpnliiegoaaEv3
import Derived.Laws.Rows
import Derived.Laws.MakeOwn
import Derived.Laws.CopyRow
import Derived.Laws.Slices
import Derived.Laws.Concat
import Derived.Deep.AppendLies
namespace Go.Fx
open Go Go.RowKit
set_option linter.unusedVariables false
set_option linter.unusedSimpArgs false
def zeroCells : K → List Value
  | .prod a b => zeroCells a ++ zeroCells b
  | .unit => []
  | .int q => [.int q 0]
  | .bool => [.bool false]
  | .str => [.string ByteArray.empty]
  | .sl _ _ => [.slice none 0 0]
  | .raw => [.nilFunc]
  | .hd => [.slice none 0 0]
  | .fnc g => [.func (.func g) #[] #[]]
  | .mp => [.map none]
  | .rp _ => [.pointer none]
  | .clo _ _ => [.nilFunc]
def isAggD : TypeDesc → Bool
  | .struct _ => true
  | .array _ _ => true
  | _ => false
structure TOk (P : Program) (T : Tab) (t : TypeId) (ti : TI) : Prop where
  info : ∃ i, P.info? t = some i ∧ i.size = ti.k.n ∧ i.bytes = ti.bytes ∧ ∃ z, i.zero = some z ∧ z.cells.toList = zeroCells ti.k
  agg : ∃ d, P.underlying t = some d ∧ isAggD d = ti.agg
  desc : match ti.d with
    | .int k => P.underlying t = some (.int k) ∧ ti.k = .int k
    | .bool => P.underlying t = some .bool ∧ ti.k = .bool
    | .str => P.underlying t = some .string ∧ ti.k = .str
    | .sl e => P.underlying t = some (.slice e) ∧ ∃ ei, T e = some ei ∧ ti.k = .sl e ei.k ∧ 0 < ei.k.n
    | .struct fs => ∃ F : Array Field, P.underlying t = some (.struct F) ∧ F.size = fs.length ∧ ∀ (i o : Nat) (ft : TypeId), fs[i]? = some (o, ft) → ∃ f : Field, F[i]? = some f ∧ f.offset = o ∧ f.type = ft ∧ ∃ fi, T ft = some fi ∧ 0 < fi.k.n
    | .arr n e => P.underlying t = some (.array n e) ∧ ∃ ei, T e = some ei ∧ 0 < ei.k.n
    | .ptr => ∃ e, P.underlying t = some (.pointer e)
    | .map => ti.k = .mp ∧ ∃ k e, P.underlying t = some (.map k e) ∧ P.underlying k = some .string ∧ ∃ i, P.info? e = some i ∧ i.zero = some (.int .i64 0)
    | .other => True
def TabOk (P : Program) (T : Tab) : Prop := ∀ t ti, T t = some ti → TOk P T t ti
section
variable {P : Program} {T : Tab} {w : World}
theorem TOk.size {t : TypeId} {ti : TI} (h : TOk P T t ti) : (sizeOf t).run P w = .ok ti.k.n w := by
  obtain ⟨i, h1, h2, _⟩ := h.info
  simp [sizeOf, typeInfo, h1, h2]
theorem TOk.isAgg {t : TypeId} {ti : TI} (h : TOk P T t ti) : (isAgg t).run P w = .ok ti.agg w := by
  obtain ⟨d, h1, h2⟩ := h.agg
  simp only [Go.isAgg, Sem.run_bind, run_underlying h1, Result.andThen_ok]
  rw [← h2]
  cases d <;> rfl
end
section
variable {w : World} {ok may : Nat → Prop} {ow : Ow} {s : S} {a : Act}
def FrRel (w : World) (ok may : Nat → Prop) (ow : Ow) (s : S) (a : Act) : Prop := ∀ t, SVRel w ok may ow s.m (s.get t) (a.tmps.getD t undef)
theorem constSV_rel (v : Value) : SVRel w ok may ow s.m (constSV v) v := by
  unfold constSV
  split
  · exact rfl
  · exact rfl
  · exact rfl
  · exact rfl
  · exact rfl
  · exact ⟨_, rfl, .inl ⟨rfl, rfl⟩⟩
  · trivial
theorem plain_rel {m : Mem} {sv : SV} {v : Value} (h : SVRel w ok may ow m sv v) : SVRel w ok may ow m sv.plain v := by
  cases sv with
  | pbox b o g => exact ⟨g, h.1, h.2⟩
  | _ => exact h
theorem plain_bool (v : SV) : v.plain.bool? = v.bool? := by cases v <;> rfl
theorem opd_bool (s : S) (d : Nat) : (s.opd (.tmp d)).bool? = (s.get d).bool? := plain_bool _
theorem opd_rel (F : FrRel w ok may ow s a) (x : Operand) : SVRel w ok may ow s.m (s.opd x) (a.eval x) := by
  cases x with
  | tmp t => exact plain_rel (F t)
  | const v => exact constSV_rel v
  | global g => trivial
  | func f => exact (rfl : Rd w _ (.fnc f) () _)
variable {m : Mem} {sv : SV} {v : Value}
theorem leaf?_rel {l : Leaf} (h : SVRel w ok may ow m sv v) (e : sv.leaf? = some l) : LfRel w ok may ow l v := by
  unfold SV.leaf? at e
  split at e
  · obtain rfl := Option.some.inj e; exact h
  · cases e
theorem cmp?_rel {c : Cmp} (h : SVRel w ok may ow m sv v) (e : sv.cmp? = some c) : CmpRel w ok may ow c v := by
  unfold SV.cmp? at e
  split at e
  · obtain rfl := Option.some.inj e; exact h
  · cases e
theorem bool?_rel {b : Bool} (h : SVRel w ok may ow m sv v) (e : sv.bool? = some b) : v = .bool b := by
  unfold SV.bool? at e
  split at e
  · obtain rfl := Option.some.inj e
    have h : [v] = [.bool _] := h
    simpa using h
  · cases e
theorem int?_rel {n : Int} (h : SVRel w ok may ow m sv v) (e : sv.int? = some n) : ∃ k, v = .int k n := by
  unfold SV.int? at e
  split at e
  · rename_i fr k a
    obtain rfl := Option.some.inj e
    have h : [v] = [.int k a] := h
    exact ⟨k, by simpa using h⟩
  · cases e
theorem val_int {fr : Bool} {k : IntKind} {a : Int} (h : LfRel w ok may ow (.val fr (.int k) a) v) : v = .int k a := by
  have h : [v] = [.int k a] := h
  simpa using h
theorem val_bool {fr : Bool} {a : Bool} (h : LfRel w ok may ow (.val fr .bool a) v) : v = .bool a := by
  have h : [v] = [.bool a] := h
  simpa using h
theorem val_str {fr : Bool} {a : ByteArray} (h : LfRel w ok may ow (.val fr .str a) v) : v = .string a := by
  have h : [v] = [.string a] := h
  simpa using h
end
theorem cond_some {R : Type} {b : Bool} {x y : Option R} {r : R} (h : (bif b then x else y) = some r) : (b = true ∧ x = some r) ∨ (b = false ∧ y = some r) := by
  cases b <;> simp_all
theorem cond_none {R : Type} {b : Bool} {x : Option R} {r : R} (h : (bif b then x else none) = some r) : b = true ∧ x = some r := by
  cases b <;> simp_all
theorem cond_none' {R : Type} {b : Bool} {x : Option R} {r : R} (h : (bif b then none else x) = some r) : b = false ∧ x = some r := by
  cases b <;> simp_all
section
variable {R : Type} {P : Program} {T : Tab} {w : World} {ok may : Nat → Prop} {ow : Ow} {r : R}
/-- A leaf and its value, and what the machine does. -/
def Says (P : Program) (w : World) (ok may : Nat → Prop) (ow : Ow) (x : Sem Value) (c : Leaf → Option R) (r : R) : Prop :=
  ∃ l z, c l = some r ∧ LfRel w ok may ow l z ∧ x.run P w = .ok z w
theorem Says.int {x : Sem Value} {c : Leaf → Option R} {k : IntKind} {n : Int} (h : c (.val true (.int k) n) = some r) (hx : x.run P w = .ok (.int k n) w) : Says P w ok may ow x c r :=
  ⟨_, _, h, rfl, hx⟩
theorem Says.bool {x : Sem Value} {c : Leaf → Option R} {b : Bool} (h : c (.val true .bool b) = some r) (hx : x.run P w = .ok (.bool b) w) : Says P w ok may ow x c r :=
  ⟨_, _, h, rfl, hx⟩
theorem Says.str {x : Sem Value} {c : Leaf → Option R} {b : ByteArray} (h : c (.val true .str b) = some r) (hx : x.run P w = .ok (.string b) w) : Says P w ok may ow x c r :=
  ⟨_, _, h, rfl, hx⟩
theorem binInts_ok {op : BinOp} {k k' : IntKind} {a b : Int} {c : Leaf → Option R} {xt : TypeId} (h : binInts op k a k' b c = some r) :
    Says P w ok may ow (binOp op xt (.int k a) (.int k' b)) c r := by
  cases op <;> simp only [binInts] at h
  case shl =>
    obtain ⟨h1, h⟩ := cond_none' h
    exact Says.int h (by simp only [binOp, Op.shift]; rw [if_neg (by simpa using h1)]; rfl)
  case shr =>
    obtain ⟨h1, h⟩ := cond_none' h
    exact Says.int h (by simp only [binOp, Op.shift]; rw [if_neg (by simpa using h1)]; rfl)
  all_goals
    split at h
    case isFalse => cases h
    rename_i hk
    subst hk
    simp only [binInt] at h
  case quo =>
    obtain ⟨h1, h⟩ := cond_none' h
    exact Says.int h (by simp only [binOp, ne_eq, not_true_eq_false, if_false, Op.intDiv]; rw [if_neg (by simpa using h1)]; rfl)
  case rem =>
    obtain ⟨h1, h⟩ := cond_none' h
    exact Says.int h (by simp only [binOp, ne_eq, not_true_eq_false, if_false, Op.intDiv]; rw [if_neg (by simpa using h1)]; rfl)
  case add => exact Says.int h (by simp [binOp, Op.intArith])
  case sub => exact Says.int h (by simp [binOp, Op.intArith])
  case mul => exact Says.int h (by simp [binOp, Op.intArith])
  case and => exact Says.int h (by simp [binOp, Op.intBits, bitsOp])
  case or => exact Says.int h (by simp [binOp, Op.intBits, bitsOp])
  case xor => exact Says.int h (by simp [binOp, Op.intBits, bitsOp])
  case andNot => exact Says.int h (by simp [binOp, Op.intBits, bitsOp])
  all_goals exact Says.bool h (by simp [binOp, Op.intCmp])
theorem binStr_ok {op : BinOp} {a b : ByteArray} {c : Leaf → Option R} {xt : TypeId} (h : binStr op a b c = some r) :
    Says P w ok may ow (binOp op xt (.string a) (.string b)) c r := by
  cases op <;> simp only [binStr] at h
  case add =>
    obtain ⟨h1, h⟩ := cond_none h
    exact Says.str h (by simp only [binOp]; exact run_string_add_sum w a b (by simpa using h1))
  case eql => exact Says.bool h (by simp [binOp, Op.stringOp])
  case neq => exact Says.bool h (by simp [binOp, Op.stringOp])
  all_goals cases h
theorem binBool_ok {op : BinOp} {a b : Bool} {c : Leaf → Option R} {xt : TypeId} (hu : P.underlying xt = some .bool) (h : binBool op a b c = some r) :
    Says P w ok may ow (binOp op xt (.bool a) (.bool b)) c r := by
  have he : (Op.equal xt (.bool a) (.bool b)).run P w = .ok (a == b) w := by
    have : ∀ d, (Op.equalIn (d + 1) xt (.bool a) (.bool b)).run P w = .ok (a == b) w := fun d => by
      rw [Op.equalIn, Sem.run_bind, run_underlying hu, Result.andThen_ok]; rfl
    exact this 9999
  cases op <;> simp only [binBool] at h
  case eql => exact Says.bool h (by simp [binOp, he])
  case neq => exact Says.bool h (by simp [binOp, he])
  all_goals cases h
theorem binE_ok (TK : TabOk P T) {op : BinOp} {x y : Leaf} {u v : Value} {c : Leaf → Option R} {xt : TypeId} (hx : LfRel w ok may ow x u) (hy : LfRel w ok may ow y v) (h : binE T xt op x y c = some r) :
    Says P w ok may ow (binOp op xt u v) c r ∧ (∀ X Y, (eqGuard op xt X Y u v).run P w = .ok () w) := by
  unfold binE at h
  split at h
  · obtain rfl := val_int hx
    obtain rfl := val_int hy
    exact ⟨binInts_ok h, fun X Y => by unfold eqGuard; split <;> simp_all⟩
  · obtain rfl := val_bool hx
    obtain rfl := val_bool hy
    split at h
    · rename_i e
      exact ⟨binBool_ok (TK _ _ e).desc.1 h, fun X Y => by unfold eqGuard; split <;> simp_all⟩
    · cases h
  · obtain rfl := val_str hx
    obtain rfl := val_str hy
    exact ⟨binStr_ok h, fun X Y => by unfold eqGuard; split <;> simp_all⟩
  · cases h
theorem unE_ok {op : UnOp} {x : Leaf} {u : Value} {c : Leaf → Option R} (hx : LfRel w ok may ow x u) (h : unE op x c = some r) : Says P w ok may ow (Op.unary op u) c r := by
  unfold unE at h
  split at h
  · obtain rfl := val_int hx
    exact Says.int h (by simp [Op.unary, Op.intArith, negI])
  · obtain rfl := val_int hx
    exact Says.int h (by simp [Op.unary, Op.intBits, bitsOp])
  · obtain rfl := val_bool hx
    exact Says.bool h (by simp [Op.unary])
  · cases h
end
end Go.Fx
