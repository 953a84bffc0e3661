/- The law FnRings of the given program returns true for every input, and its arguments read afterwards as they read before. -/
import Derived.Test.YtfffnioddgeohaaGreatRows
import Derived.Test.YtfffnioddgeohaaGreatB2
import Derived.Test.YtfffnioddgeohaaGreatA3
import Derived.Test.YtfffnioddgeohaaGreatFactRings
import Derived.WalkKit
import Derived.ProofKit
import Derived.OpenShut
import Derived.ShutString
import Derived.ChangeOld
import Derived.Below
import Derived.SizedLaws
import Derived.Carry
namespace Go.Proofs.YtfffnioddgeohaaGreat.fnRings
open Go.ChangeShapes Go.WideShapes Go.ChangeAt Go.RowKit
open Go.AE (Sh ShR topA Imm0 VR arg_vrW law_calls AV Light light_each shWld shOdr shPik shAfs i64S Rdr)
set_option linter.unusedVariables false
theorem own : ownKnob Tryz.prog.godebug = none := by kernel_rfl
theorem laidOut : laidOutB Tryz.prog = true := by kernel_rfl
set_option maxRecDepth 100000 in
theorem lifted (os : Os) (started : os.Started) (H : Type) (enc : TypeId × Value → H) :
    ReturnsInHanded {} Tryz.checked os 3 .any (Rows.fnRingsSpec.pre6 enc Tryz.prog Tryz.f3 Rows.fnRingsRow.domain false) (Rows.fnRingsSpec.post enc Tryz.prog Tryz.f3 false true false false) := by
  refine returnsInHanded_of_change_sized (C := Tryz.checked) own started (by kernel_rfl) Tryz.func3
    (ChangeSpec.witness6 (enc := enc) (C := Tryz.checked) false ⟨#[], #[.slice none 0 0], []⟩ 8 (by kernel_rfl) (by kernel_rfl) (by kernel_rfl) (by kernel_rfl)) ?_
  intro W base args ds gs before hval0 hW hcnd hsz0 _
  have hval : ∀ (j : Nat) t v, Tryz.f3.params[j]? = some t → args[j]? = some v → Value.okWide Tryz.prog W .any base t v := hval0
  have hW' := hW
  obtain ⟨p, q, hA0, hV, rfl, hfz, hnd⟩ := hW
  have hA : DataW.TrodAll enc Tryz.prog W 0 (fun _ => true) true Tryz.f3.params.toList args.toList ds p := hA0
  rw [Tryz.params3] at hA hval
  obtain ⟨v0, vs0, d0, ds0, p0, q0, hargs0, rfl, rfl, h0, r0⟩ := trodAll_cons hA
  obtain ⟨rfl, rfl, rfl⟩ := trodAll_nil r0
  obtain rfl : args = #[v0] := by cases args; simp_all
  obtain ⟨rfl, rfl⟩ := trodVars_none hV
  have lt0 : ∀ x ∈ p0, x.block < W.heap.size := by obtain ⟨m, hm⟩ := h0; exact DataW.trod_lt m _ _ _ hm
  have li0 : Light Tryz.prog 22 d0 := light_each hsz0 0 _ _ (by rw [Tryz.params3]; rfl) rfl
  obtain ⟨l0, hs0, hv0⟩ := arg_vrW (ρ := fun _ => none) (n := 8) (s := (.slice (.int .u8))) (t := 22) (by kernel_rfl) h0 (hval 0 22 v0 rfl rfl) li0
  obtain ⟨x0, up0, hx0⟩ := Rdr.argS Go.AE.rdBytes hs0
  have vv0 := up0 _ _ _ _ hv0
  have hpc : Go.AE.PC Tryz.prog 3 [.view true 1 (x0.map Go.AE.uv)] (.bool true) := Go.AE.Tryz.law_Rings hx0.2
  refine (law_calls hpc (Go.AE.vrs1 vv0)).mono fun e W' ⟨he, bel⟩ => ?_
  subst he
  exact ⟨_, rfl, _, _, _, [], _, [], hW', trodAll_mk1 (shut_bool (t := 4) (by kernel_rfl) _), (trodAll_cons_mk (Below.trod laidOut (by kernel_rfl) (of_decide_eq_true (by kernel_rfl)) h0 bel lt0) trodAll_mk0), rfl, bel.frame _, fun h => by cases h⟩
theorem over : Rows.fnRingsRow.holds Tryz.pinned (OpenSpec.ofChange Rows.fnRingsSpec) :=
  OpenClaim.holds_of_wide 3 Tryz.f3 rfl rfl rfl rfl rfl rfl rfl ⟨rfl, rfl, rfl, rfl, rfl⟩ rfl rfl rfl rfl rfl fnRingsF.fnm Tryz.func3 fnRingsF.closed
    fnRingsF.inst fnRingsF.wrap
    (fun os started H enc _ => lifted os started H enc)
theorem proved : Rows.FnRingsSaid := over
#print axioms proved
end Go.Proofs.YtfffnioddgeohaaGreat.fnRings
namespace Go.Proofs.YtfffnioddgeohaaGreat
theorem fnRings_holds : Rows.FnRingsSaid := fnRings.proved
end Go.Proofs.YtfffnioddgeohaaGreat
