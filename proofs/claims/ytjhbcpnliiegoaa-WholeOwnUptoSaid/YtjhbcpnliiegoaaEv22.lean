/- Tables, piece by piece; a function's heads and its evaluation. -/
import Derived.Test.YtjhbcpnliiegoaaEv21
namespace Go.Fx
open Go Go.RowKit
set_option linter.unusedVariables false
set_option linter.unusedSimpArgs false
def noTabs : Nat → Option Tbl := fun _ => none
def Cals.base (tabs : Nat → Option Tbl) : Cals := ⟨fun _ => none, fun _ => none, fun _ => false, tabs, fun _ _ => none, fun _ => none⟩
def Cals.cons (g : FuncId) (sg : Sig) (C : Cals) : Cals := ⟨fun x => bif Nat.beq x g then some sg else C.fn x, C.io, C.subs, C.tabs, C.x, C.eqs⟩
def Cals.consIo (g : FuncId) (ig : IoSig) (C : Cals) : Cals := ⟨C.fn, fun x => bif Nat.beq x g then some (.io ig) else C.io x, C.subs, C.tabs, C.x, C.eqs⟩
def Cals.consO (g : FuncId) (q : Oth) (C : Cals) : Cals := ⟨C.fn, fun x => bif Nat.beq x g then some q else C.io x, C.subs, C.tabs, C.x, C.eqs⟩
def Cals.withSubs (l : List Nat) (C : Cals) : Cals := ⟨C.fn, C.io, fun d => l.any (Nat.beq d), C.tabs, C.x, C.eqs⟩
def Tab.nil : Tab := fun _ => none
def Tab.cons (t : TypeId) (ti : TI) (T : Tab) : Tab := fun x => bif Nat.beq x t then some ti else T x
theorem CalsOk.base {P : Program} {tabs : Nat → Option Tbl} (h : ∀ g tb, tabs g = some tb → TblOk P tb) : CalsOk P (Cals.base tabs) := ⟨(fun g sg h => by cases h), (fun g sg h => by cases h), h, (fun g n xg h => by cases h), (fun t n h => by cases h)⟩
theorem noTabs_ok {P : Program} : ∀ g tb, noTabs g = some tb → TblOk P tb := fun g tb h => by cases h
theorem CalsOk.cons {P : Program} {C : Cals} {g : FuncId} {sg : Sig} (h : CalOk P C.tabs g sg) (hC : CalsOk P C) : CalsOk P (Cals.cons g sg C) := by
  refine ⟨fun x s hx => ?_, hC.io, hC.tabs, hC.x, hC.eqs⟩
  unfold Cals.cons at hx
  rcases cond_some hx with ⟨h1, h2⟩ | ⟨h1, h2⟩
  · obtain rfl := Option.some.inj h2
    rw [Nat.eq_of_beq_eq_true h1]; exact h
  · exact hC.fn x s h2
theorem CalsOk.consIo {P : Program} {C : Cals} {g : FuncId} {ig : IoSig} (h : IoOk P g ig) (hC : CalsOk P C) : CalsOk P (Cals.consIo g ig C) := by
  refine ⟨hC.fn, fun x s hx => ?_, hC.tabs, hC.x, hC.eqs⟩
  unfold Cals.consIo at hx
  rcases cond_some hx with ⟨h1, h2⟩ | ⟨h1, h2⟩
  · obtain rfl := Option.some.inj h2
    rw [Nat.eq_of_beq_eq_true h1]; exact h
  · exact hC.io x s h2
theorem CalsOk.consO {P : Program} {C : Cals} {g : FuncId} {q : Oth} (h : OthOk P g q) (hC : CalsOk P C) : CalsOk P (Cals.consO g q C) := by
  refine ⟨hC.fn, fun x s hx => ?_, hC.tabs, hC.x, hC.eqs⟩
  unfold Cals.consO at hx
  rcases cond_some hx with ⟨h1, h2⟩ | ⟨h1, h2⟩
  · obtain rfl := Option.some.inj h2
    rw [Nat.eq_of_beq_eq_true h1]; exact h
  · exact hC.io x s h2
theorem CalsOk.withSubs {P : Program} {C : Cals} (l : List Nat) (hC : CalsOk P C) : CalsOk P (Cals.withSubs l C) := ⟨hC.fn, hC.io, hC.tabs, hC.x, hC.eqs⟩
theorem TOk.mono {P : Program} {T T' : Tab} {t : TypeId} {ti : TI} (h : TOk P T t ti) (H : ∀ x i, T x = some i → T' x = some i) : TOk P T' t ti := by
  refine ⟨h.info, h.agg, ?_⟩
  have hd := h.desc
  revert hd
  split
  · exact id
  · exact id
  · exact id
  · rintro ⟨h1, ei, h2, h3⟩; exact ⟨h1, ei, H _ _ h2, h3⟩
  · rintro ⟨F, h1, h2, h3⟩
    refine ⟨F, h1, h2, fun i o ft hi => ?_⟩
    obtain ⟨f, h4, h5, h6, fi, h7, h8⟩ := h3 i o ft hi
    exact ⟨f, h4, h5, h6, fi, H _ _ h7, h8⟩
  · rintro ⟨h1, ei, h2, h3⟩; exact ⟨h1, ei, H _ _ h2, h3⟩
  · exact id
  · exact id
  · exact id
theorem TabOk.nil {P : Program} : TabOk P Tab.nil := fun t ti h => by cases h
theorem TabOk.cons {P : Program} {T : Tab} {t : TypeId} {ti : TI} (hn : T t = none) (h : TOk P T t ti) (hT : TabOk P T) : TabOk P (Tab.cons t ti T) := by
  have H : ∀ x i, T x = some i → Tab.cons t ti T x = some i := by
    intro x i hx
    unfold Tab.cons
    by_cases hxt : x = t
    · subst hxt; rw [hn] at hx; cases hx
    · rw [show Nat.beq x t = false from by cases hb : Nat.beq x t with | false => rfl | true => exact absurd (Nat.eq_of_beq_eq_true hb) hxt]; exact hx
  intro x i hx
  unfold Tab.cons at hx
  rcases cond_some hx with ⟨h1, h2⟩ | ⟨h1, h2⟩
  · obtain rfl := Option.some.inj h2
    rw [Nat.eq_of_beq_eq_true h1]; exact h.mono H
  · exact (hT x i h2).mono H
end Go.Fx
