/- Structs of whole numbers, held against each other. -/
import Derived.Test.YtjhbcpnliiegoaaEv27
import Derived.Test.YtjhbcpnliiegoaaEv29
namespace Go.Fx
open Go Go.RowKit
set_option linter.unusedVariables false
set_option linter.unusedSimpArgs false
/-- A function whose last argument is a flag, by two contracts: what it does where the flag is true, and (its arguments as cells) where it is false. -/
theorem pt_ok {P : Program} {g : FuncId} {sg : Sig} {tabs : Nat → Option Tbl} (h : CalOk P tabs g sg) (ht : tabs = fun _ => none)
    {fn : argT [(true, .prod .raw .raw), (true, .prod .raw .raw), (true, .prod .raw .raw), (false, .bool)] → Option (argT [(true, .prod .raw .raw), (true, .prod .raw .raw), (false, (.int .i64))])}
    (hr : CalOk P tabs g ⟨[(true, .prod .raw .raw), (true, .prod .raw .raw), (true, .prod .raw .raw), (false, .bool)], [(true, .prod .raw .raw), (true, .prod .raw .raw), (false, (.int .i64))], .fresh, fn⟩)
    (hF : ∀ x1 x2 y1 y2 z1 z2 : Value, fn ((x1, x2), (y1, y2), (z1, z2), false, ()) = some ((x1, x2), (y1, y2), (0 : Int), ())) : OthOk P g (.pt g sg) := by
  subst ht
  refine ⟨rfl, h, fun w x1 x2 y1 y2 z1 z2 h1 h2 h3 h4 h5 h6 => ?_⟩
  have one : ∀ u v : Value, u.oneCell' = true → v.oneCell' = true → RdV w (fun _ => True) (true, .prod .raw .raw) (u, v) (.agg #[u, v]) := fun u v hu hv => by
    unfold RdV
    rw [if_pos rfl]
    exact ⟨[u, v], rfl, [u], [v], rfl, ⟨rfl, hu⟩, ⟨rfl, hv⟩⟩
  have hb : RdV w (fun _ => True) (false, .bool) false (.bool false) := by
    unfold RdV
    rw [if_neg (by simp)]
    rfl
  refine (hr.contract w (fun _ => True) ((x1, x2), (y1, y2), (z1, z2), false, ()) _ [.agg #[x1, x2], .agg #[y1, y2], .agg #[z1, z2], .bool false] (fun g tb e => by cases e) (hF x1 x2 y1 y2 z1 z2) ⟨_, _, rfl, one x1 x2 h1 h2, _, _, rfl, one y1 y2 h3 h4, _, _, rfl, one z1 z2 h5 h6, _, _, rfl, hb, rfl⟩).mono fun e w' ⟨v, cs, rows, ow', he, hth, _, hsv, hbel⟩ => ⟨?_, hbel⟩
  have hth : some ([Cmp.agg [.val false .raw x1, .val false .raw x2], Cmp.agg [.val false .raw y1, .val false .raw y2], Cmp.lf (.val false (.int .i64) (0 : Int))], ([] : List (Option Row))) = some (cs, rows) := hth
  have e1 := (Prod.mk.inj (Option.some.inj hth)).1
  subst e1
  obtain ⟨vs, rfl, hF⟩ := hsv
  match vs, hF with
  | [v1, v2, v3], hF =>
  obtain ⟨⟨u1, e1, hu1⟩, ⟨u2, e2, hu2⟩, hu3, _⟩ := hF
  subst e1 e2
  match u1, u2, hu1, hu2 with
  | [a1, a2], [b1, b2], hu1, hu2 =>
  have e1 : [a1] = [x1] ∧ _ := hu1.1
  have e2 : [a2] = [x2] ∧ _ := hu1.2.1
  have e3 : [b1] = [y1] ∧ _ := hu2.1
  have e4 : [b2] = [y2] ∧ _ := hu2.2.1
  have e5 : [v3] = [Value.int .i64 0] := hu3
  rw [he, (List.cons.inj e1.1).1, (List.cons.inj e2.1).1, (List.cons.inj e3.1).1, (List.cons.inj e4.1).1, (List.cons.inj e5).1]
end Go.Fx
