/- WholeBack: the statement, from what the walked function answers. -/
import Derived.Test.YtjhbcpnliiegoaaDoorNE
import Derived.Test.YtjhbcpnliiegoaaDoorRows
import Derived.Test.YtjhbcpnliiegoaaDoorTie
import Derived.Test.YtjhbcpnliiegoaaDoorCards
import Derived.SevenTiedAt
import Derived.LaidMore
import Derived.MakeChecks
import Derived.FnData
import Derived.Stop.Joined
import Derived.Test.YtjhbcpnliiegoaaDoorEv26
import Derived.WalkKit
import Derived.ProofKit
import Derived.OpenShut
import Derived.ShutString
import Derived.ChangeOld
import Derived.Below
import Derived.SizedLaws
namespace Go.Proofs.YtjhbcpnliiegoaaDoor.wholeBack
open Go Go.Proofs Go.ChangeShapes Go.WideShapes Go.ChangeAt Go.RowKit Go.Fx
open Go.ChangeMaps (open_string shut_string)
set_option linter.unusedVariables false
theorem own : ownKnob Tryd.prog.godebug = none := by kernel_rfl
theorem laidOut : laidOutB Tryd.prog = true := by kernel_rfl
set_option maxRecDepth 100000
theorem gName : Tryd.prog.globalNamed "fulcrum/nat.values" = some 0 := by kernel_rfl
theorem gType : (Tryd.prog.globals[0]?).map (·.type) = some 51 := by kernel_rfl
theorem door_met (os : Os) (args : Array Value) : laidMetH Tryd.prog Rows.wholeBackRow.laid ((World.doorLaid Tryd.prog 400 os).forCall (fun _ _ => 0) ⟨#[], args, []⟩).memory :=
  laidMetH_of_parts3 (fuel := 8) (laidMet_of_run' 8 (by kernel_rfl) (by kernel_rfl)) (by kernel_rfl) (by kernel_rfl)
theorem laid_eq : (Rows.laid_fulcrum_nat_values : DataW Unit) = .agg (Go.Fx.Tryd.tabXs.map fun x => .lit (.int .u32 x)) := by kernel_rfl
theorem tabled {W : World} (h : laidMetH Tryd.prog Rows.wholeBackRow.laid W) : Tabled Go.Fx.Tryd.tabs W := by
  rw [MakeChecks.laidMetH_plain _ _ _ (by kernel_rfl)] at h
  obtain ⟨ps, ⟨g0, t0, cs0, f0, p0, q0, hg0, ht0, hv0, hd0, _⟩, _, _⟩ := h
  obtain rfl := Option.some.inj (gName.symm.trans hg0)
  obtain rfl := Option.some.inj (gType.symm.trans ht0)
  rw [laid_eq] at hd0
  obtain ⟨ys, m, rfl, hx, hl, hn, hel⟩ := DataW.trod_array Tryd.underlying51 hd0
  have hc : Tryd.prog.cellsOf 50 = 1 := by kernel_rfl
  have hy : ys.map (·.1) = Go.Fx.Tryd.tabXs.map fun x => (.lit (.int .u32 x) : DataW _) := by
    have := (Prod.mk.inj hx).1
    injection this with this
    exact this.symm
  intro g tb e
  unfold Go.Fx.Tryd.tabs oneTab at e
  obtain ⟨hb, e⟩ := cond_none e
  obtain rfl := Option.some.inj e
  obtain rfl := Nat.eq_of_beq_eq_true hb
  have hcell : ∀ (j : Nat) (x : Int), Go.Fx.Tryd.tabXs[j]? = some x → W.cell? ((⟨0, 0, none⟩ : Addr).add j) = some (.int .u32 x) := by
    intro j x hj
    have hlt : j < Go.Fx.Tryd.tabXs.length := (List.getElem?_eq_some_iff.1 hj).1
    have hlt2 : j < ys.length := by
      have := congrArg List.length hy
      simp only [List.length_map] at this
      omega
    have h1 := hel j (by rw [← hn]; exact hlt2)
    rw [hc, Nat.mul_one, List.getElem?_eq_getElem hlt2] at h1
    obtain ⟨z, e1, e2, _⟩ := DataW.trod_int Tryd.underlying50 h1
    have h2 : (ys.map (·.1))[j]? = some (.lit (.int .u32 z)) := by rw [List.getElem?_map, List.getElem?_eq_getElem hlt2, e2]; rfl
    rw [hy, List.getElem?_map, hj] at h2
    simp only [Option.map_some, Option.some.injEq, DataW.lit.injEq, Lit.int.injEq, true_and] at h2
    subst h2
    have h3 : cs0.toList[j]? = some (.int .u32 x) := by
      have : ((cs0.toList.drop j).take 1)[0]? = some (Value.int .u32 x) := by rw [e1]; rfl
      rw [List.getElem?_take] at this
      simpa using this
    have h4 := World.var?_cell gName hv0 j
    have h5 : (⟨0, 0, none⟩ : Addr).add j = ⟨0, j, none⟩ := by cases j with | zero => rfl | succ j => simp [Addr.add]
    rw [h5, h4]
    simpa using h3
  refine ⟨?_, hcell⟩
  have h6 := hcell 0 _ rfl
  have := lt_of_cell h6
  rwa [Addr.add_block] at this
set_option maxRecDepth 100000 in
theorem lifted (os : Os) (started : os.Started) (H : Type) (enc : TypeId × Value → H) :
    ReturnsInHanded {} Tryd.checked os 5 .any (fun w args => (Rows.wholeBackSpec.pre enc Tryd.prog Tryd.f5 [] false w args ∧ laidMetH Tryd.prog Rows.wholeBackRow.laid w) ∧ sizedMet enc Tryd.prog Tryd.f5 (OpenSpec.ofChange Rows.wholeBackSpec) false w args) (Rows.wholeBackSpec.post enc Tryd.prog Tryd.f5 false true false false) := by
  refine returnsInHanded_of_change_and (C := Tryd.checked) (X := fun w _ => laidMetH Tryd.prog Rows.wholeBackRow.laid w) (fun _ _ _ hh h => h.of_heap hh) own started (by kernel_rfl) Tryd.func5
    (ChangeSpec.witness_shaped (enc := enc) (C := Tryd.checked) (os := os) (X := fun w _ => laidMetH Tryd.prog Rows.wholeBackRow.laid w) false (World.doorLaid Tryd.prog 400 os) #[.agg #[.bool false, .slice none 0 0], .agg #[.bool false, .slice none 0 0]] 8 rfl (World.shaped_of_RefB (by kernel_rfl) (by kernel_rfl)) (by kernel_rfl) (by kernel_rfl) (by kernel_rfl) (door_met os _)) ?_
  intro W base args ds gs before hval0 hW hcnd hsz0 hL _
  have hval : ∀ (j : Nat) t v, Tryd.f5.params[j]? = some t → args[j]? = some v → Value.okWide Tryd.prog W .any base t v := hval0
  have hW' := hW
  obtain ⟨p, q, hA0, hV, rfl, hfz, hnd⟩ := hW
  have hA : DataW.TrodAll enc Tryd.prog W 0 (fun _ => true) true Tryd.f5.params.toList args.toList ds p := hA0
  have hsz : (DataW.weightsEach Tryd.prog (Tryd.f5.params.toList ++ Rows.wholeBackSpec.plain.varTypes Tryd.prog) (ds ++ gs)).all (· ≤ reachBytes) = true := hsz0
  rw [Tryd.params5] at hA hval hsz
  obtain ⟨v0, vs0, d0, ds0, p0, q0, hargs, rfl, rfl, h0, r0⟩ := trodAll_cons hA
  obtain ⟨v1, vs1, d1, ds1, p1, q1, rfl, rfl, rfl, h1, r1⟩ := trodAll_cons r0
  obtain ⟨rfl, rfl, rfl⟩ := trodAll_nil r1
  obtain rfl : args = #[v0, v1] := by cases args; simp_all
  obtain ⟨rfl, rfl⟩ := trodVars_none hV
  have k0 := h0
  have lt0 : ∀ x ∈ p0, x.block < W.heap.size := by obtain ⟨m, hm⟩ := k0; exact DataW.trod_lt m _ _ _ hm
  obtain ⟨b0, xs0, rd0, wf0, e0, rfl, ln0⟩ := Go.Fx.whole_open (hval 0 25 v0 rfl rfl) Tryd.underlying25 (by kernel_rfl) rfl rfl rfl rfl Tryd.underlying4 (by kernel_rfl) Tryd.underlying23 (by kernel_rfl) Tryd.underlying50 (by kernel_rfl) h0
  have sz0 := Go.Fx.whole_size (j := 0) hsz rfl rfl Tryd.underlying25 rfl Tryd.underlying23 ln0 (B := 4) (by kernel_rfl)
  have k1 := h1
  have lt1 : ∀ x ∈ p1, x.block < W.heap.size := by obtain ⟨m, hm⟩ := k1; exact DataW.trod_lt m _ _ _ hm
  obtain ⟨b1, xs1, rd1, wf1, e1, rfl, ln1⟩ := Go.Fx.whole_open (hval 1 25 v1 rfl rfl) Tryd.underlying25 (by kernel_rfl) rfl rfl rfl rfl Tryd.underlying4 (by kernel_rfl) Tryd.underlying23 (by kernel_rfl) Tryd.underlying50 (by kernel_rfl) h1
  have sz1 := Go.Fx.whole_size (j := 1) hsz rfl rfl Tryd.underlying25 rfl Tryd.underlying23 ln1 (B := 4) (by kernel_rfl)
  clear hA0 hval0 hsz0
  have hr : RdArgs W (fun _ => True) [(true, (.prod .bool (.sl 50 (.int .u32)))), (true, (.prod .bool (.sl 50 (.int .u32))))] ((b0, xs0), (b1, xs1), ()) [v0, v1] := ⟨_, _, rfl, rd0, ⟨_, _, rfl, rd1, rfl⟩⟩
  refine (calls_true (ps := [(true, (.prod .bool (.sl 50 (.int .u32)))), (true, (.prod .bool (.sl 50 (.int .u32))))]) (fn := Go.Fx.Tryd.fulcrumlaw02_WholeBack.F) (md := Go.Fx.Tryd.fulcrumlaw02_WholeBack.spec.md) Go.Fx.Tryd.fulcrumlaw02_WholeBack.cal (Go.Fx.Tryd.wholeBack_true (b0, xs0) (b1, xs1) wf0 sz0 wf1 sz1) (tabled hL) hr).mono fun e W' ⟨he, bel⟩ => ?_
  subst he
  exact ⟨_, rfl, _, _, _, [], _, [], hW', trodAll_mk1 (shut_bool Tryd.underlying4 _), (trodAll_cons_mk (Below.trod laidOut (by kernel_rfl) (of_decide_eq_true (by kernel_rfl)) k0 bel lt0) (trodAll_cons_mk (Below.trod laidOut (by kernel_rfl) (of_decide_eq_true (by kernel_rfl)) k1 bel lt1) trodAll_mk0)), rfl, bel.frame _, fun h => by cases h⟩
theorem over : Rows.wholeBackRow.holds Tryd.pinned (OpenSpec.ofChange Rows.wholeBackSpec) :=
  OpenClaim.holds_of_wide 5 Tryd.f5 rfl rfl rfl rfl rfl rfl rfl ⟨rfl, rfl, rfl, rfl, rfl⟩ rfl rfl rfl rfl rfl (by kernel_rfl) Tryd.func5 (by kernel_rfl)
    (of_decide_eq_true (by kernel_rfl)) (by unfold Func.isWrapper; first | (rw [if_pos (by decide +kernel)]; kernel_rfl) | (rw [if_neg (by decide +kernel)]; exact ⟨rfl, rfl⟩))
    (fun os started H enc _ => lifted os started H enc)
theorem card : Claim7.holds Tryd.pinned (.plain (OpenSpec.ofChange Rows.wholeBackSpec)) Rows.wholeBackCard :=
  Claim7.holds_tied_plain_at .later [] [.data] true (true, "e2ee6078c6165d00c03959dc2f217c533832f220e46cbfbe89a75c89dae64b80") false
    over (fun _ h => by cases h) (by kernel_rfl) (fun _ h => by cases h) wholeBack_row_tie rfl ⟨rfl, rfl⟩ (by kernel_rfl) rfl
    (fun f fn hf hfn => by
      obtain rfl : f = 5 := Option.some.inj ((show Tryd.prog.funcNamed "fulcrum/fulcrumlaw02.WholeBack" = some 5 by kernel_rfl).symm.trans hf) |>.symm
      obtain rfl : fn = Tryd.f5 := (Option.some.inj (Tryd.func5.symm.trans hfn)).symm
      exact ⟨by kernel_rfl, fun j t ht => by
        rw [Tryd.params5] at ht
        have hm : t ∈ [25, 25] := by simpa using Array.mem_of_getElem? ht
        have hall : ([25, 25].all fun u => !Tryd.prog.wantsStandIn u) = true := by kernel_rfl
        exact (show Tryd.prog.wantsStandIn t = false by simpa using List.all_eq_true.1 hall t hm)⟩)
    (by kernel_rfl)
theorem proved : Rows.WholeBackCardSaid := card
#print axioms proved
end Go.Proofs.YtjhbcpnliiegoaaDoor.wholeBack
