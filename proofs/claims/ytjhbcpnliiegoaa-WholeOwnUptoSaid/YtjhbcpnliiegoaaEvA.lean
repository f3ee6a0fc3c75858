/- Operations, told apart from what comes after them. -/
import Derived.Test.YtjhbcpnliiegoaaEv16
namespace Go.Fx
open Go Go.RowKit
set_option linter.unusedVariables false
set_option linter.unusedSimpArgs false
section
variable {R : Type}
theorem cond_bind {α β : Type} (b : Bool) (x y : Option α) (f : α → Option β) : (bif b then x else y).bind f = bif b then x.bind f else y.bind f := by cases b <;> rfl
theorem binInt_cps (op : BinOp) (k : IntKind) (a b : Int) (c : Leaf → Option R) : binInt op k a b c = (binInt op k a b some).bind c := by
  cases op <;> simp [binInt, cond_bind]
theorem binStr_cps (op : BinOp) (a b : ByteArray) (c : Leaf → Option R) : binStr op a b c = (binStr op a b some).bind c := by
  cases op <;> simp [binStr, cond_bind]
theorem binBool_cps (op : BinOp) (a b : Bool) (c : Leaf → Option R) : binBool op a b c = (binBool op a b some).bind c := by
  cases op <;> simp [binBool, cond_bind]
theorem binInts_cps (op : BinOp) (k : IntKind) (a : Int) (k' : IntKind) (b : Int) (c : Leaf → Option R) : binInts op k a k' b c = (binInts op k a k' b some).bind c := by
  cases op <;> simp only [binInts, cond_bind] <;> first | rfl | (split <;> first | exact binInt_cps _ _ _ _ _ | rfl)
theorem binE_cps (T : Tab) (xt : TypeId) (op : BinOp) (x y : Leaf) (c : Leaf → Option R) : binE T xt op x y c = (binE T xt op x y some).bind c := by
  unfold binE
  split
  · exact binInts_cps _ _ _ _ _ _
  · split
    · exact binBool_cps _ _ _ _
    · rfl
  · exact binStr_cps _ _ _ _
  · rfl
theorem unE_cps (op : UnOp) (x : Leaf) (c : Leaf → Option R) : unE op x c = (unE op x some).bind c := by
  unfold unE
  split <;> rfl
theorem convE_cps (T : Tab) (m : Mem) (src dst : TypeId) (x : Leaf) (c : Leaf → Option R) : convE T m src dst x c = (convE T m src dst x some).bind c := by
  unfold convE
  split
  · rfl
  · split
    · split <;> rfl
    · rfl
  · rfl
theorem idxAddr_cps (m : Mem) (n : Nat) (x : Leaf) (i : Int) (c : SV → Option R) : idxAddr m n x i c = (idxAddr m n x i some).bind c := by
  unfold idxAddr
  split
  · simp only [cond_bind]; rfl
  · split
    · simp only [cond_bind]; rfl
    · rfl
  · rfl
theorem loadE_cps (T : Tab) (m : Mem) (t : TypeId) (x : SV) (c : SV → Option R) : loadE T m t x c = (loadE T m t x some).bind c := by
  unfold loadE
  split
  · rfl
  · simp only []
    split
    · rfl
    · rw [cond_bind]
      split <;> rfl
theorem storeE_cps (T : Tab) (m : Mem) (t : TypeId) (x : SV) (v : Cmp) (c : Mem → Option R) : storeE T m t x v c = (storeE T m t x v some).bind c := by
  unfold storeE
  split
  · rfl
  · rw [cond_bind]
    split
    · simp only []
      split
      · rw [cond_bind]
        split <;> rfl
      · rfl
    · split
      · rw [cond_bind]; rfl
      · rfl
    · rfl
theorem callE_cps (C : Cals) (m : Mem) (g : FuncId) (xs : List SV) (c : SV → Mem → Option R) : callE C m g xs c = (callE C m g xs fun v m => some (v, m)).bind fun p => c p.1 p.2 := by
  unfold callE
  split
  · simp only []
    rw [cond_bind]
    split
    · rfl
    · rename_i x _
      cases (_ : Sig).fn x with
      | none => rfl
      | some y =>
        simp only [Option.bind_some]
        split <;> rfl
  · rfl
theorem callF_cps (C : Cals) (T : Tab) (m : Mem) (g : FuncId) (xs : List SV) (c : SV → Mem → Option R) : callF C T m g xs c = (callF C T m g xs fun v m => some (v, m)).bind fun p => c p.1 p.2 := by
  unfold callF
  split
  · rw [cond_bind]
    split
    · rfl
    · rename_i x _
      cases (_ : Sig).fn x with
      | none => rfl
      | some y =>
        simp only [Option.bind_some]
        split <;> rfl
  · rfl
theorem sliceE_cps (m : Mem) (n : Nat) (x : Leaf) (lo hi : Option Int) (c : SV → Mem → Option R) : sliceE m n x lo hi c = (sliceE m n x lo hi fun v m => some (v, m)).bind fun p => c p.1 p.2 := by
  unfold sliceE
  split
  · rw [cond_bind]
    cases lo <;> cases hi <;> simp only [cutE, cond_bind] <;> rfl
  · split
    · rfl
    · rw [cond_bind]
      rename_i row _
      cases hw : row.rw <;> cases lo <;> cases hi <;> simp only [cutE, cond_bind, newRow] <;> rfl
  · rfl
theorem slice3E_cps (m : Mem) (n : Nat) (x : Leaf) (h q : Int) (c : SV → Mem → Option R) : slice3E m n x h q c = (slice3E m n x h q fun v m => some (v, m)).bind fun p => c p.1 p.2 := by
  unfold slice3E
  split
  · simp only [cond_bind]; rfl
  · rfl
theorem sliceStr_cps (m : Mem) (s : ByteArray) (lo hi : Option Int) (c : SV → Mem → Option R) : sliceStr m s lo hi c = (sliceStr m s lo hi fun v m => some (v, m)).bind fun p => c p.1 p.2 := by
  unfold sliceStr
  simp only [cond_bind]; rfl
theorem builtinE_cps (T : Tab) (m : Mem) (b : Builtin) (ts : List TypeId) (xs : List SV) (c : SV → Mem → Option R) : builtinE T m b ts xs c = (builtinE T m b ts xs fun v m => some (v, m)).bind fun p => c p.1 p.2 := by
  unfold builtinE
  split
  · split <;> rfl
  · split <;> rfl
  · split <;> rfl
  · simp only [cond_bind]
    congr 1
    split
    · split
      · split
        · simp only [cond_bind]; rfl
        · split
          · split
            · simp only [cond_bind]; rfl
            · rfl
          · rfl
        · rfl
      · rfl
    · rfl
  · simp only []
    split
    · split
      · simp only [cond_bind]; rfl
      · rfl
    · rfl
  · simp only []
    split
    · split
      · simp only [cond_bind]; rfl
      · rfl
    · rfl
  · rfl
theorem idxHsl_cps (n : Nat) (x : SV) (i : Int) (c : SV → Option R) : idxHsl n x i c = (idxHsl n x i some).bind c := by
  unfold idxHsl
  split
  · simp only [cond_bind]; rfl
  · rfl
theorem idxSub_cps (m : Mem) (n : Nat) (x : SV) (i : Int) (c : SV → Option R) : idxSub m n x i c = (idxSub m n x i some).bind c := by
  unfold idxSub
  split
  · split
    · simp only [cond_bind]; rfl
    · rfl
  · rfl
theorem subE_cps (m : Mem) (n : Nat) (x : SV) (lo hi : Option Int) (c : SV → Mem → Option R) : subE m n x lo hi c = (subE m n x lo hi fun v m => some (v, m)).bind fun p => c p.1 p.2 := by
  unfold subE
  split
  · split
    · simp only [cond_bind]; rfl
    · rfl
  · rfl
theorem callIO_cps (m : Mem) (ig : IoSig) (xs : List SV) (c : SV → Mem → Option R) : callIO m ig xs c = (callIO m ig xs fun v m => some (v, m)).bind fun p => c p.1 p.2 := by
  unfold callIO
  split
  · rfl
  · split
    · simp only []
      split
      · rfl
      · split
        · rfl
        · rw [cond_bind]
          split
          · rfl
          · rename_i zs _ _ x _
            cases (ig.fn zs _ _ x) with
            | none => rfl
            | some y =>
              simp only [Option.bind_some]
              split
              · rw [cond_bind]; rfl
              · rfl
    · rfl
theorem callGv_cps (m : Mem) (gg : GvSig) (xs : List SV) (c : SV → Mem → Option R) : callGv m gg xs c = (callGv m gg xs fun v m => some (v, m)).bind fun p => c p.1 p.2 := by
  unfold callGv
  split
  · rfl
  · split
    · split
      · rfl
      · split
        · rfl
        · rw [cond_bind]
          split
          · rfl
          · rename_i zs _ _ x _
            cases (gg.fn zs x) with
            | none => rfl
            | some y =>
              simp only [Option.bind_some]
              split <;> rfl
    · rfl
theorem callCl_cps (T : Tab) (m : Mem) (e : TypeId) (n b : Nat) (xs : List SV) (c : SV → Mem → Option R) : callCl T m e n b xs c = (callCl T m e n b xs fun v m => some (v, m)).bind fun p => c p.1 p.2 := by
  unfold callCl
  split
  · split
    · split
      · rw [cond_bind]; rfl
      · rfl
    · rfl
  · rfl
theorem callPt_cps (m : Mem) (g : FuncId) (sg : Sig) (xs : List SV) (c : SV → Mem → Option R) : callPt m g sg xs c = (callPt m g sg xs fun v m => some (v, m)).bind fun p => c p.1 p.2 := by
  unfold callPt
  split
  · rename_i t _
    cases t with
    | true => exact callE_cps _ _ _ _ _
    | false => rfl
  · rfl
theorem callO_cps (T : Tab) (m : Mem) (q : Oth) (xs : List SV) (c : SV → Mem → Option R) : callO T m q xs c = (callO T m q xs fun v m => some (v, m)).bind fun p => c p.1 p.2 := by
  cases q with
  | io ig => exact callIO_cps _ _ _ _
  | gv gg => exact callGv_cps _ _ _ _
  | cl e n b => exact callCl_cps _ _ _ _ _ _ _
  | pt g sg => exact callPt_cps _ _ _ _ _
theorem callX_cps (m : Mem) (xg : XSig) (vs : List SV) (c : SV → Mem → Option R) : callX m xg vs c = (callX m xg vs fun v m => some (v, m)).bind fun p => c p.1 p.2 := by
  unfold callX
  split
  · rfl
  · simp only []
    split
    · rfl
    · rw [cond_bind]
      split
      · rfl
      · rename_i p _ _ x _
        cases xg.fn p.2.2 x with
        | none => rfl
        | some y =>
          simp only [Option.bind_some, caseN_eq]
          split <;> rfl
theorem pickI_cps {R : Type} {i : Int} {a : Nat → SV} {m : Mem} (c : SV → Mem → Option R) : ∀ {n : Nat}, pickI i (fun j => c (a j) m) n = (pickI i (fun j => some (a j, m)) n).bind fun p => c p.1 p.2
  | 0 => rfl
  | n + 1 => by
    unfold pickI
    rw [pickI_cps c]
    cases i == (n : Int) <;> rfl
theorem tblE_cps (tb : Tbl) {m : Mem} (i : Option Int) (c : SV → Mem → Option R) : tblE tb i (fun v => c v m) = (tblE tb i fun v => some (v, m)).bind fun p => c p.1 p.2 := by
  unfold tblE
  split
  · simp only [cond_bind]; rfl
  · rfl
theorem lookE_cps (T : Tab) (m : Mem) (t : TypeId) (x k : SV) (ok : Bool) (c : SV → Option R) : lookE T m t x k ok c = (lookE T m t x k ok some).bind c := by
  unfold lookE
  split
  · simp only [cond_bind]; rfl
  · rfl
theorem putE_cps (T : Tab) (m : Mem) (t : TypeId) (x k v : SV) (c : Mem → Option R) : putE T m t x k v c = (putE T m t x k v some).bind c := by
  unfold putE
  split
  · split
    · simp only [cond_bind]; rfl
    · rfl
  · rfl
theorem evalOp_cps (C : Cals) (T : Tab) (s : S) (o : Oper) (c : SV → Mem → Option R) : evalOp C T s o c = (evalOp C T s o fun v m => some (v, m)).bind fun p => c p.1 p.2 := by
  obtain ⟨dst, op, ty, pos, after, guard⟩ := o
  cases op <;> simp only [evalOp] <;> try rfl
  case pick q a b =>
    split
    · simp only [cond_bind]; rfl
    · rfl
  case binOp op xt x y yt =>
    split
    · rw [binE_cps]; conv => rhs; rw [binE_cps]
      rw [Option.bind_assoc]; rfl
    · split <;> rfl
    · rfl
  case unOp op xt x =>
    split
    · rw [unE_cps]; conv => rhs; rw [unE_cps]
      rw [Option.bind_assoc]; rfl
    · rfl
  case convert src dst x =>
    split
    · rw [convE_cps]; conv => rhs; rw [convE_cps]
      rw [Option.bind_assoc]; rfl
    · rfl
  case extract x i =>
    split
    · split <;> rfl
    · split
      · rfl
      · split <;> rfl
    · rfl
  case nilCheck x => rw [cond_bind]; rfl
  case indexAddr t x i =>
    split
    · exact tblE_cps _ _ _
    split
    · split
      · exact pickI_cps _
      · rfl
    split
    · rw [idxAddr_cps]; conv => rhs; rw [idxAddr_cps]
      rw [Option.bind_assoc]; rfl
    · cases isHsl (s.opd x) with
      | true =>
        simp only [cond_true]
        rw [idxHsl_cps]; conv => rhs; rw [idxHsl_cps]
        rw [Option.bind_assoc]; rfl
      | false =>
        simp only [cond_false]
        rw [idxSub_cps]; conv => rhs; rw [idxSub_cps]
        rw [Option.bind_assoc]; rfl
    · rfl
  case index t x i =>
    split
    · simp only [cond_bind]; rfl
    · rfl
  case load t x =>
    rw [loadE_cps]; conv => rhs; rw [loadE_cps]
    rw [Option.bind_assoc]; rfl
  case store t x v =>
    split
    · rw [storeE_cps]; conv => rhs; rw [storeE_cps]
      rw [Option.bind_assoc]; rfl
    · rfl
  case makeSlice t n q =>
    split
    · split
      · simp only [cond_bind]; rfl
      · rfl
    · rfl
  case buildSlice t n ps =>
    split
    · split
      · simp only [cond_bind]
        congr 1
        · congr 1
          split <;> rfl
        · congr 1
          split <;> rfl
      · rfl
    · rfl
  case slice t x lo hi mx =>
    rw [cond_bind]
    congr 1
    · split
      · exact subE_cps _ _ _ _ _ _
      · rfl
    split
    · split
      · exact sliceStr_cps _ _ _ _ _
      · rfl
    · split
      · exact sliceE_cps _ _ _ _ _ _
      · rfl
    · split
      · exact slice3E_cps _ _ _ _ _ _
      · rfl
    · rfl
  case makeMap t rsv => cases rsv <;> rfl
  case lookup t x k ok =>
    rw [lookE_cps]; conv => rhs; rw [lookE_cps]
    rw [Option.bind_assoc]; rfl
  case mapUpdate t x k v =>
    rw [putE_cps]; conv => rhs; rw [putE_cps]
    rw [Option.bind_assoc]; rfl
  case insert t x k v =>
    rw [putE_cps]; conv => rhs; rw [putE_cps]
    rw [Option.bind_assoc]; rfl
  case alloc t => split <;> rfl
  case box t x =>
    split
    · simp only [cond_bind]; rfl
    · rfl
  case build t ps =>
    split
    · split
      · split <;> rfl
      · rfl
    · rfl
  case fieldAddr t x f =>
    split
    · split <;> rfl
    · split <;> rfl
    · rfl
    · rfl
  case field t x f =>
    split
    · split
      · simp only [cond_bind]
        congr 1
        split <;> rfl
      · rfl
    · rfl
  case makeFunc fn first cap =>
    split
    · unfold makeF; split <;> rfl
    · rfl
  case call q =>
    split
    · split
      · exact callX_cps _ _ _ _
      · split
        · cases (q.args.toList.map s.opd).any isFb with
          | true => exact callF_cps _ _ _ _ _ _
          | false => exact callE_cps _ _ _ _ _
        · exact callO_cps _ _ _ _ _
    · split
      · exact callE_cps _ _ _ _ _
      · split
        · exact callE_cps _ _ _ _ _
        · rfl
    · rw [cond_bind, builtinE_cps]; rfl
    · rfl
/-- Nothing but the operands and the memory matter. -/
theorem evalOp_opd (C : Cals) (T : Tab) {s s' : S} {o : Oper} (hm : s'.m = s.m) (h : ∀ x ∈ o.op.operands, s'.opd x = s.opd x) (c : SV → Mem → Option R) : evalOp C T s' o c = evalOp C T s o c := by
  obtain ⟨dst, op, ty, pos, after, guard⟩ := o
  have pairs : ∀ {β : Type} (f : Nat → SV → β) (ps : Array (Nat × Operand)), (∀ x ∈ (ps.toList.map (·.2)).toArray, s'.opd x = s.opd x) → ps.toList.map (fun p => f p.1 (s'.opd p.2)) = ps.toList.map (fun p => f p.1 (s.opd p.2)) := fun f ps hp =>
    List.map_congr_left fun p hp' => by rw [hp p.2 (by simpa using ⟨p.1, by simpa using hp'⟩)]
  cases op <;> simp only [Op.operands] at h <;> simp only [evalOp, hm] <;> try rfl
  case build t ps => rw [pairs (fun i v => v.cmp?.map fun v => (i, v)) ps h]
  case buildSlice t n ps => rw [pairs (fun i v => v.cmp?) ps h]
  case call q =>
    have hq : q.args.toList.map s'.opd = q.args.toList.map s.opd := List.map_congr_left fun x hx => h x (by simp [Call.operands]; exact .inr (by simpa using hx))
    rw [hq]
    cases hc : q.callee with
    | value f =>
      cases f with
      | tmp t =>
        have ht : s'.opd (.tmp t) = s.opd (.tmp t) := h (.tmp t) (by simp [Call.operands, hc])
        simp only [ht]
      | _ => rfl
    | _ => rfl
  case slice t x lo hi mx =>
    have ho : ∀ y : Option Operand, (∀ z, y = some z → s'.opd z = s.opd z) → optInt s' y = optInt s y := fun y hy => by cases y with | none => rfl | some z => simp [optInt, hy z rfl]
    rw [ho lo (fun z e => h z (by simp [e])), ho hi (fun z e => h z (by simp [e])), ho mx (fun z e => h z (by simp [e])), h x (by simp)]
  case makeMap t rsv => cases rsv <;> simp only [evalOp, hm]
  case makeFunc fn first cap =>
    split
    · rename_i g x h1 h2
      rw [h x (by rw [show cap = #[x] from Array.toList_inj.1 h2]; simp)]
    · rfl
  all_goals (simp_all; done)
end
end Go.Fx
