/- The law FnExactSteadyIn of the given program returns true for every input, and its arguments read afterwards as they read before. -/
import Derived.Test.YteccfcojjcnokaaGreatRows
import Derived.Test.YteccfcojjcnokaaGreatB2
import Derived.Test.YteccfcojjcnokaaGreatA3
import Derived.Test.YteccfcojjcnokaaGreatFactExactSteadyIn
import Derived.WalkKit
import Derived.ProofKit
import Derived.OpenShut
import Derived.ShutString
import Derived.ChangeOld
import Derived.Below
import Derived.SizedLaws
import Derived.Carry
namespace Go.Proofs.YteccfcojjcnokaaGreat.fnExactSteadyIn
open Go.ChangeShapes Go.WideShapes Go.ChangeAt Go.RowKit
open Go.AE (Sh ShR topA Imm0 VR arg_vrW law_calls AV Light light_each shWld shOdr shPik shAfs i64S Rdr)
set_option linter.unusedVariables false
theorem own : ownKnob Tryz.prog.godebug = none := by kernel_rfl
theorem laidOut : laidOutB Tryz.prog = true := by kernel_rfl
set_option maxRecDepth 100000 in
theorem lifted (os : Os) (started : os.Started) (H : Type) (enc : TypeId × Value → H) :
    ReturnsInHanded {} Tryz.checked os 4 .any (Rows.fnExactSteadyInSpec.pre6 enc Tryz.prog Tryz.f4 Rows.fnExactSteadyInRow.domain false) (Rows.fnExactSteadyInSpec.post enc Tryz.prog Tryz.f4 false true false false) := by
  refine returnsInHanded_of_change_sized (C := Tryz.checked) own started (by kernel_rfl) Tryz.func4
    (ChangeSpec.witness6 (enc := enc) (C := Tryz.checked) false ⟨#[], #[.agg #[.int .i64 0, .slice none 0 0, .slice none 0 0, .slice none 0 0, .slice none 0 0, .slice none 0 0, .slice none 0 0, .slice none 0 0, .int .i64 0, .slice none 0 0, .slice none 0 0, .slice none 0 0, .slice none 0 0, .slice none 0 0, .slice none 0 0, .slice none 0 0, .slice none 0 0]], []⟩ 8 (by kernel_rfl) (by kernel_rfl) (by kernel_rfl) (by kernel_rfl)) ?_
  intro W base args ds gs before hval0 hW hcnd hsz0 _
  have hval : ∀ (j : Nat) t v, Tryz.f4.params[j]? = some t → args[j]? = some v → Value.okWide Tryz.prog W .any base t v := hval0
  have hW' := hW
  obtain ⟨p, q, hA0, hV, rfl, hfz, hnd⟩ := hW
  have hA : DataW.TrodAll enc Tryz.prog W 0 (fun _ => true) true Tryz.f4.params.toList args.toList ds p := hA0
  rw [Tryz.params4] at hA hval
  obtain ⟨v0, vs0, d0, ds0, p0, q0, hargs0, rfl, rfl, h0, r0⟩ := trodAll_cons hA
  obtain ⟨rfl, rfl, rfl⟩ := trodAll_nil r0
  obtain rfl : args = #[v0] := by cases args; simp_all
  obtain ⟨rfl, rfl⟩ := trodVars_none hV
  have lt0 : ∀ x ∈ p0, x.block < W.heap.size := by obtain ⟨m, hm⟩ := h0; exact DataW.trod_lt m _ _ _ hm
  have li0 : Light Tryz.prog 83 d0 := light_each hsz0 0 _ _ (by rw [Tryz.params4]; rfl) rfl
  obtain ⟨l0, hs0, hv0⟩ := arg_vrW (ρ := fun _ => none) (n := 8) (s := shWld) (t := 83) (by kernel_rfl) h0 (hval 0 83 v0 rfl rfl) li0
  obtain ⟨x0, up0, ok0⟩ := Rdr.arg Go.AE.rdWld hs0
  have vv0 := up0 _ _ _ _ hv0
  have hpc : Go.AE.PC Tryz.prog 4 [.agg (Go.AE.wldV Go.AE.FT x0)] (.bool true) := Go.AE.Tryz.law_SteadyIn
  refine (law_calls hpc (Go.AE.vrs1 vv0)).mono fun e W' ⟨he, bel⟩ => ?_
  subst he
  exact ⟨_, rfl, _, _, _, [], _, [], hW', trodAll_mk1 (shut_bool (t := 4) (by kernel_rfl) _), (trodAll_cons_mk (Below.trod laidOut (by kernel_rfl) (of_decide_eq_true (by kernel_rfl)) h0 bel lt0) trodAll_mk0), rfl, bel.frame _, fun h => by cases h⟩
theorem over : Rows.fnExactSteadyInRow.holds Tryz.pinned (OpenSpec.ofChange Rows.fnExactSteadyInSpec) :=
  OpenClaim.holds_of_wide 4 Tryz.f4 rfl rfl rfl rfl rfl rfl rfl ⟨rfl, rfl, rfl, rfl, rfl⟩ rfl rfl rfl rfl rfl fnExactSteadyInF.fnm Tryz.func4 fnExactSteadyInF.closed
    fnExactSteadyInF.inst fnExactSteadyInF.wrap
    (fun os started H enc _ => lifted os started H enc)
theorem proved : Rows.FnExactSteadyInSaid := over
#print axioms proved
end Go.Proofs.YteccfcojjcnokaaGreat.fnExactSteadyIn
namespace Go.Proofs.YteccfcojjcnokaaGreat
theorem fnExactSteadyIn_holds : Rows.FnExactSteadyInSaid := fnExactSteadyIn.proved
end Go.Proofs.YteccfcojjcnokaaGreat
