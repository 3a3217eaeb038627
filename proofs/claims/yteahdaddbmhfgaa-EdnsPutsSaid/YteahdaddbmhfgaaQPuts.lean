import Derived.Test.YteahdaddbmhfgaaQPuts1
import Derived.Test.YteahdaddbmhfgaaQPuts2
import Derived.Test.YteahdaddbmhfgaaQPuts3
import Derived.Test.YteahdaddbmhfgaaQPuts4
import Derived.Test.YteahdaddbmhfgaaQPuts5
import Derived.Test.YteahdaddbmhfgaaQPuts6
import Derived.Test.YteahdaddbmhfgaaQPuts7
import Derived.Test.YteahdaddbmhfgaaQPuts8
import Derived.Test.YteahdaddbmhfgaaQPuts9
import Derived.Test.YteahdaddbmhfgaaQPuts10
import Derived.Test.YteahdaddbmhfgaaQPuts11
import Derived.Test.YteahdaddbmhfgaaQPuts12
import Derived.Test.YteahdaddbmhfgaaQPuts13
import Derived.Test.YteahdaddbmhfgaaQPuts14
import Derived.Test.YteahdaddbmhfgaaQPuts15
import Derived.Test.YteahdaddbmhfgaaRows
import Derived.WalkKit
import Derived.ProofKit
import Derived.Below
import Derived.OpenShut
import Derived.ShutString
import Derived.Lib.SmallJoins
section
namespace Go.Proofs.Yteahdaddbmhfgaa.ednsPuts
open Go.ChangeShapes Go.WideShapes Go.ChangeAt Go.RowKit Go.Proofs.Yteahdaddbmhfgaa.P
open Go.ChangeMaps (open_string shut_string)
set_option linter.unusedVariables false      -- a walk need not use every 'w<i>' (that an integer argument fits its kind)
theorem own : ownKnob Try.prog.godebug = none := by kernel_rfl
theorem laidOut : laidOutB Try.prog = true := by kernel_rfl
set_option maxRecDepth 100000 in
theorem lifted (os : Os) (started : os.Started) (H : Type) (enc : TypeId × Value → H) :
    ReturnsInHanded {} Try.checked os 3 .any (Rows.ednsPutsSpec.pre6 enc Try.prog Try.f3 Rows.ednsPutsRow.domain false) (Rows.ednsPutsSpec.post enc Try.prog Try.f3 false true false false) := by
  refine returnsInHanded_of_change_sized (C := Try.checked) own started (by kernel_rfl) Try.func3
    (ChangeSpec.witness6 (enc := enc) (C := Try.checked) false ⟨#[], #[.agg #[.int .i64 0, .int .i64 0, .slice none 0 0, .slice none 0 0, .slice none 0 0, .slice none 0 0], .agg #[.int .i64 0, .int .i64 0, .int .i64 0, .bool false, .slice none 0 0]], []⟩ 8 (by kernel_rfl) (by kernel_rfl) (by kernel_rfl) (by kernel_rfl)) ?_
  intro W base args ds gs before hval0 hW hcnd hsz0 _
  have hsz : (DataW.weightsEach Try.prog (Try.f3.params.toList ++ Rows.ednsPutsSpec.plain.varTypes Try.prog) (ds ++ gs)).all (· ≤ reachBytes) = true := hsz0
  have hval : ∀ (j : Nat) t v, Try.f3.params[j]? = some t → args[j]? = some v → Value.okWide Try.prog W .any base t v := hval0
  have hW' := hW
  obtain ⟨p, q, hA0, hV, rfl, hfz, hnd⟩ := hW
  have hA : DataW.TrodAll enc Try.prog W 0 (fun _ => true) true Try.f3.params.toList args.toList ds p := hA0
  rw [Try.params3] at hA hval hsz
  obtain ⟨v0, vs0, d0, ds0, p0, q0, hargs, rfl, rfl, h0, r0⟩ := trodAll_cons hA
  obtain ⟨v1, vs1, d1, ds1, p1, q1, rfl, rfl, rfl, h1, r1⟩ := trodAll_cons r0
  obtain ⟨rfl, rfl, rfl⟩ := trodAll_nil r1
  obtain rfl : args = #[v0, v1] := by cases args; simp_all
  obtain ⟨rfl, rfl⟩ := trodVars_none hV
  obtain ⟨cs, rfl, hcs⟩ := okWide_struct Try.underlying25 (hval 0 25 v0 rfl rfl)
  obtain ⟨cs1, rfl, hcs1⟩ := okWide_struct Try.underlying28 (hval 1 28 v1 rfl rfl)
  have k0 := h0
  have k1 := h1
  have lt0 : ∀ x ∈ p0, x.block < W.heap.size := by obtain ⟨m, hm⟩ := k0; exact DataW.trod_lt m _ _ _ hm
  have lt1 : ∀ x ∈ p1, x.block < W.heap.size := by obtain ⟨m, hm⟩ := k1; exact DataW.trod_lt m _ _ _ hm
  obtain ⟨fuel, hf⟩ := h0
  obtain ⟨fuel1, hf1⟩ := h1
  have hw01 : (d0.weights Try.prog 25).all (· ≤ reachBytes) = true ∧ (d1.weights Try.prog 28).all (· ≤ reachBytes) = true := by
    simp only [List.cons_append, List.nil_append, List.append_nil, DataW.weightsEach, List.all_append, Bool.and_eq_true] at hsz
    exact ⟨hsz.1, hsz.2.1⟩
  obtain ⟨m, ⟨vq, va, vn, vr, hc, hq, ha, hn, hr⟩, _, _⟩ := open_msg hf hw01.1
  obtain ⟨e1, e2, e3, e4, vo, eo, hc1, hqo⟩ := open_edns hf1 hw01.2
  obtain ⟨Aq, cq, rfl, lq, bq, -, rq⟩ := hq
  obtain ⟨Aa, ca, rfl, la, ba, -, ra⟩ := ha
  obtain ⟨An, cn, rfl, ln, bn, -, rn⟩ := hn
  obtain ⟨Ar, cr, rfl, lr, br, -, rr⟩ := hr
  obtain ⟨Ae, ce, rfl, le, be, -, re⟩ := hqo
  obtain rfl : cs = #[.int .i64 m.id, .int .i64 m.flags, .slice Aq m.q.length cq, .slice Aa m.an.length ca, .slice An m.ns.length cn, .slice Ar m.ar.length cr] := by
    have hc' : cs.toList = [.int .i64 m.id, .int .i64 m.flags, .slice Aq m.q.length cq, .slice Aa m.an.length ca, .slice An m.ns.length cn, .slice Ar m.ar.length cr] := hc
    cases cs; simpa using hc'
  obtain rfl : cs1 = #[.int .i64 e1, .int .i64 e2, .int .i64 e3, .bool e4, .slice Ae eo.length ce] := by
    have hc' : cs1.toList = [.int .i64 e1, .int .i64 e2, .int .i64 e3, .bool e4, .slice Ae eo.length ce] := hc1
    cases cs1; simpa using hc'
  clear hA0 hval0 hsz0 hsz
  simp only [List.append_nil] at hW'
  have hcall := puts_all m.id m.flags Aq cq m.q Aa ca m.an An cn m.ns Ar cr m.ar e1 e2 e3 e4 Ae ce eo W (quests_C rq) lq (recs_C ra) la (recs_C rn) ln (recs_C rr) lr (opts_C re) le (by omega) (by omega)
  refine hcall.mono fun e W' ⟨he, bel⟩ => ?_
  subst he
  exact ⟨_, rfl, _, _, _, [], _, [], hW', trodAll_mk1 (shut_bool Try.underlying4 _), (trodAll_cons_mk (Below.trod laidOut (by kernel_rfl) (of_decide_eq_true (by kernel_rfl)) k0 bel lt0) (trodAll_cons_mk (Below.trod laidOut (by kernel_rfl) (of_decide_eq_true (by kernel_rfl)) k1 bel lt1) trodAll_mk0)), rfl, bel.frame _, fun h => by cases h⟩
theorem over : Rows.ednsPutsRow.holds Try.pinned (OpenSpec.ofChange Rows.ednsPutsSpec) :=
  OpenClaim.holds_of_wide 3 Try.f3 rfl rfl rfl rfl rfl rfl rfl ⟨rfl, rfl, rfl, rfl, rfl⟩ rfl rfl rfl rfl rfl (by kernel_rfl) Try.func3 (by kernel_rfl)
    (of_decide_eq_true (by kernel_rfl)) (by unfold Func.isWrapper; first | (rw [if_pos (by decide +kernel)]; kernel_rfl) | (rw [if_neg (by decide +kernel)]; exact ⟨rfl, rfl⟩))
    (fun os started H enc _ => lifted os started H enc)
theorem proved : Rows.EdnsPutsSaid := over
#print axioms proved
end Go.Proofs.Yteahdaddbmhfgaa.ednsPuts
namespace Go.Proofs.Yteahdaddbmhfgaa
theorem ednsPuts_holds : Rows.EdnsPutsSaid := ednsPuts.proved
end Go.Proofs.Yteahdaddbmhfgaa
end
