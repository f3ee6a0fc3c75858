/- A function's answer, whatever the number of rounds. -/
import Derived.Test.YtjhbcpnliiegoaaEv22
import Derived.KernelRfl
namespace Go.Fx
open Go Go.RowKit
set_option linter.unusedVariables false
set_option linter.unusedSimpArgs false
section
variable {R : Type} {C : Cals} {T : Tab} {N : Nat}
theorem evalOp_mono {s : S} {o : Oper} {c c' : SV → Mem → Option R} {r : R} (h : evalOp C T s o c = some r) (H : ∀ v m, c v m = some r → c' v m = some r) : evalOp C T s o c' = some r := by
  rw [evalOp_cps] at h ⊢
  obtain ⟨p, h1, h2⟩ := Option.bind_eq_some_iff.1 h
  exact Option.bind_eq_some_iff.2 ⟨p, h1, H _ _ h2⟩
theorem evalG_mono {all : List Oper} {o : Oper} {s : S} {c c' : S → Bool → SV → Mem → Option R} {r : R} (h : evalG C T all o s c = some r) (H : ∀ s wt v m, c s wt v m = some r → c' s wt v m = some r) : evalG C T all o s c' = some r := by
  unfold evalG at h ⊢
  split at h
  · rename_i hg
    try simp only [hg]
    exact evalOp_mono h fun v m => H _ _ _ _
  · rename_i g want hg
    try simp only [hg]
    split at h
    case h_1 => cases h
    rename_i d hd
    try simp only [hd]
    cases hvd : isVoid (s.get d) with
    | true =>
      rw [hvd] at h
      exact H _ _ _ _ h
    | false =>
    rw [hvd] at h
    simp only [cond_false] at h ⊢
    split at h
    case h_1 => cases h
    rename_i b hb
    try simp only [hb]
    cases b <;> cases want <;> first | exact evalOp_mono h fun v m => H _ _ _ _ | exact H _ _ _ _ h
theorem evalOps_mono {all : List Oper} {r : R} : ∀ {l : List Oper} {s : S} {c c' : S → Option R}, evalOps C T N all l s c = some r → (∀ s, c s = some r → c' s = some r) → evalOps C T N all l s c' = some r
  | [], s, c, c', h, H => H _ h
  | o :: l, s, c, c', h, H => by
    unfold evalOps at h ⊢
    obtain ⟨hd, h⟩ := cond_none h
    rw [hd]
    exact evalG_mono h fun s wt v m h => evalOps_mono h H
theorem evalOpsD_mono {B : Nat} {all : List Oper} {r : R} : ∀ {l : List Oper} {lg : List LogE} {s : S} {c c' : List LogE → S → Option R}, evalOpsD C T N B all l lg s c = some r → (∀ lg s, c lg s = some r → c' lg s = some r) → evalOpsD C T N B all l lg s c' = some r
  | [], lg, s, c, c', h, H => H _ _ h
  | o :: l, lg, s, c, c', h, H => by
    unfold evalOpsD at h ⊢
    obtain ⟨hd, h⟩ := cond_none h
    rw [hd]
    cases hn : isNew o with
    | true =>
      rw [hn] at h
      simp only [cond_true] at h ⊢
      split at h
      · rename_i bx hb
        try simp only [hb]
        exact evalOpsD_mono h H
      · cases h
    | false =>
      rw [hn] at h
      simp only [cond_false, cond_true] at h ⊢
      exact evalG_mono h fun s wt v m h => evalOpsD_mono h H
theorem go_mono {E : Env R} {A A' : Nat → S → Option R} {r : R} (H : ∀ j s, A j s = some r → A' j s = some r) : ∀ (n : Nat) (items : List Item) (s : S), go E A n items s = some r → go E A' n items s = some r := by
  have hcross : ∀ j s, cross E A j s = some r → cross E A' j s = some r := by
    intro j s h
    unfold cross at h ⊢
    split at h
    · exact H _ _ h
    · cases h
  intro n
  induction n with
  | zero => intro items s h; cases h
  | succ n ih =>
    intro items s h
    cases items with
    | nil => exact h
    | cons x k =>
      cases x <;> simp only [go] at h ⊢ <;> try (cases h; done)
      case code c =>
        cases c <;> simp only [] at h ⊢ <;> try (cases h; done)
        case skip => exact ih _ _ h
        case seq x y => exact ih _ _ h
        case region id ops d =>
          cases d with
          | false => exact evalOps_mono h fun s => ih _ _
          | true =>
            exact evalOpsD_mono h fun lg s h => by
              obtain ⟨h1, h2⟩ := cond_none h
              rw [h1]; exact ih _ _ h2
        case cond x y z =>
          split at h
          case h_2 => cases h
          rename_i t ht
          cases t <;> exact ih _ _ h
        case block id c => exact ih _ _ h
        case loop c => exact hcross _ _ h
        case exit id =>
          split at h
          · exact ih _ _ h
          · cases h
        case ret => exact h
      case inBlock id => exact ih _ _ h
      case inLoop c => exact hcross _ _ h
theorem heads_mono {E : Env R} {pts : Nat → List Item} {r : R} : ∀ (k k' j : Nat) (s : S), k ≤ k' → heads E pts k j s = some r → heads E pts k' j s = some r
  | 0, k', j, s, hk, h => by cases h
  | k + 1, 0, j, s, hk, h => by omega
  | k + 1, k' + 1, j, s, hk, h => go_mono (fun j s h => heads_mono k k' j s (by omega) h) _ _ _ h
end
theorem evalF_mono {q : Spec} {C : Cals} {T : Tab} {f : Func} {k k' : Nat} {x : argT q.ps} {y : argT q.rs} (hk : k ≤ k') (h : evalF q C T f k x = some y) : evalF q C T f k' x = some y :=
  go_mono (fun j s h => heads_mono k k' j s hk h) _ _ _ h
open Classical in
noncomputable def limF (q : Spec) (C : Cals) (T : Tab) (f : Func) (x : argT q.ps) : Option (argT q.rs) :=
  if h : ∃ y, ∃ k, evalF q C T f k x = some y then some (Classical.choose h) else none
theorem limF_spec {q : Spec} {C : Cals} {T : Tab} {f : Func} {x : argT q.ps} {y : argT q.rs} (h : limF q C T f x = some y) : ∃ k, evalF q C T f k x = some y := by
  unfold limF at h
  split at h
  · rename_i hex
    obtain rfl := Option.some.inj h
    exact Classical.choose_spec hex
  · cases h
theorem limF_of {q : Spec} {C : Cals} {T : Tab} {f : Func} {x : argT q.ps} {y : argT q.rs} (k : Nat) (h : evalF q C T f k x = some y) : limF q C T f x = some y := by
  have hex : ∃ y, ∃ k, evalF q C T f k x = some y := ⟨y, k, h⟩
  obtain ⟨k', h'⟩ := Classical.choose_spec hex
  unfold limF
  rw [dif_pos hex]
  have h1 := evalF_mono (Nat.le_max_left k k') h
  have h2 := evalF_mono (Nat.le_max_right k k') h'
  rw [← h2, h1]
noncomputable def Spec.sig (q : Spec) (C : Cals) (T : Tab) (f : Func) : Sig := ⟨q.ps, q.rs, q.md, limF q C T f⟩
/-- Each function that is walked keeps its word. -/
theorem calOk_lim {P : Program} {T : Tab} {C : Cals} {g : FuncId} {f : Func} {q : Spec} (code : Code) (TK : TabOk P T) (CK : CalsOk P C) (hmix : P.follows .mixedOrders = true) (hf : P.funcs[g]? = some f) (hb : f.body = some code)
    (hd : noDup (loopTags code) = true) (hn : Nat.ble q.ps.length f.ntmps = true) (hnm : (f.name == "runtime.NumGoroutine") = false) : CalOk P C.tabs g (q.sig C T f) :=
  calOk_of hf hnm (by rw [hb]; rfl) (contract_of TK CK hmix hf hb hd hn fun x y h => limF_spec h)
theorem calOk_lim' {P : Program} {T : Tab} {C : Cals} {g : FuncId} {f : Func} {q : Spec} (TK : TabOk P T) (CK : CalsOk P C) (hmix : P.follows .mixedOrders = true) (hf : P.funcs[g]? = some f) (hb : f.body.isSome = true)
    (hd : noDup (loopTags (f.body.get hb)) = true) (hn : Nat.ble q.ps.length f.ntmps = true) (hnm : (f.name == "runtime.NumGoroutine") = false) : CalOk P C.tabs g (q.sig C T f) :=
  calOk_lim (f.body.get hb) TK CK hmix hf (Option.some_get hb).symm hd hn hnm
end Go.Fx
