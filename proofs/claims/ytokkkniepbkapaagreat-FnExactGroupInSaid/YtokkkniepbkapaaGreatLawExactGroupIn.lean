/- The law FnExactGroupIn of the given program returns true for every input, and its arguments read afterwards as they read before. -/
import Derived.Test.YtokkkniepbkapaaGreatRows
import Derived.Test.YtokkkniepbkapaaGreatB5
import Derived.Test.YtokkkniepbkapaaGreatA3
import Derived.Test.YtokkkniepbkapaaGreatFactExactGroupIn
import Derived.WalkKit
import Derived.ProofKit
import Derived.OpenShut
import Derived.ShutString
import Derived.ChangeOld
import Derived.Below
import Derived.SizedLaws
import Derived.Carry
namespace Go.Proofs.YtokkkniepbkapaaGreat.fnExactGroupIn
open Go.ChangeShapes Go.WideShapes Go.ChangeAt Go.RowKit
open Go.AE (Sh ShR topA Imm0 VR arg_vrW law_calls AV Light light_each shWld shOdr shPik shAfs i64S Rdr)
set_option linter.unusedVariables false
theorem own : ownKnob Tryz.prog.godebug = none := by kernel_rfl
theorem laidOut : laidOutB Tryz.prog = true := by kernel_rfl
set_option maxRecDepth 100000 in
theorem lifted (os : Os) (started : os.Started) (H : Type) (enc : TypeId × Value → H) :
    ReturnsInHanded {} Tryz.checked os 5 .any (Rows.fnExactGroupInSpec.pre6 enc Tryz.prog Tryz.f5 Rows.fnExactGroupInRow.domain false) (Rows.fnExactGroupInSpec.post enc Tryz.prog Tryz.f5 false true false false) := by
  refine returnsInHanded_of_change_sized (C := Tryz.checked) own started (by kernel_rfl) Tryz.func5
    (ChangeSpec.witness6 (enc := enc) (C := Tryz.checked) false ⟨#[], #[.agg #[.int .i64 0, .slice none 0 0, .slice none 0 0, .slice none 0 0, .slice none 0 0, .slice none 0 0, .slice none 0 0, .slice none 0 0, .int .i64 0, .slice none 0 0, .slice none 0 0, .slice none 0 0, .slice none 0 0, .slice none 0 0, .slice none 0 0, .slice none 0 0, .slice none 0 0], .int .i64 0, .int .i64 0], []⟩ 8 (by kernel_rfl) (by kernel_rfl) (by kernel_rfl) (by kernel_rfl)) ?_
  intro W base args ds gs before hval0 hW hcnd hsz0 _
  have hval : ∀ (j : Nat) t v, Tryz.f5.params[j]? = some t → args[j]? = some v → Value.okWide Tryz.prog W .any base t v := hval0
  have hW' := hW
  obtain ⟨p, q, hA0, hV, rfl, hfz, hnd⟩ := hW
  have hA : DataW.TrodAll enc Tryz.prog W 0 (fun _ => true) true Tryz.f5.params.toList args.toList ds p := hA0
  rw [Tryz.params5] at hA hval
  obtain ⟨v0, vs0, d0, ds0, p0, q0, hargs0, rfl, rfl, h0, r0⟩ := trodAll_cons hA
  obtain ⟨v1, vs1, d1, ds1, p1, q1, hargs1, rfl, rfl, h1, r1⟩ := trodAll_cons r0
  obtain ⟨v2, vs2, d2, ds2, p2, q2, hargs2, rfl, rfl, h2, r2⟩ := trodAll_cons r1
  obtain ⟨rfl, rfl, rfl⟩ := trodAll_nil r2
  subst hargs2
  subst hargs1
  obtain rfl : args = #[v0, v1, v2] := by cases args; simp_all
  obtain ⟨rfl, rfl⟩ := trodVars_none hV
  have lt0 : ∀ x ∈ p0, x.block < W.heap.size := by obtain ⟨m, hm⟩ := h0; exact DataW.trod_lt m _ _ _ hm
  have li0 : Light Tryz.prog 42 d0 := light_each hsz0 0 _ _ (by rw [Tryz.params5]; rfl) rfl
  obtain ⟨l0, hs0, hv0⟩ := arg_vrW (ρ := fun _ => none) (n := 8) (s := shWld) (t := 42) (by kernel_rfl) h0 (hval 0 42 v0 rfl rfl) li0
  obtain ⟨x0, up0, ok0⟩ := Rdr.arg Go.AE.rdWld hs0
  have vv0 := up0 _ _ _ _ hv0
  have lt1 : ∀ x ∈ p1, x.block < W.heap.size := by obtain ⟨m, hm⟩ := h1; exact DataW.trod_lt m _ _ _ hm
  have li1 : Light Tryz.prog 2 d1 := light_each hsz0 1 _ _ (by rw [Tryz.params5]; rfl) rfl
  obtain ⟨l1, hs1, hv1⟩ := arg_vrW (ρ := fun _ => none) (n := 8) (s := i64S) (t := 2) (by kernel_rfl) h1 (hval 1 2 v1 rfl rfl) li1
  obtain ⟨x1, rfl, _⟩ := hs1
  have vv1 := hv1
  have lt2 : ∀ x ∈ p2, x.block < W.heap.size := by obtain ⟨m, hm⟩ := h2; exact DataW.trod_lt m _ _ _ hm
  have li2 : Light Tryz.prog 2 d2 := light_each hsz0 2 _ _ (by rw [Tryz.params5]; rfl) rfl
  obtain ⟨l2, hs2, hv2⟩ := arg_vrW (ρ := fun _ => none) (n := 8) (s := i64S) (t := 2) (by kernel_rfl) h2 (hval 2 2 v2 rfl rfl) li2
  obtain ⟨x2, rfl, _⟩ := hs2
  have vv2 := hv2
  have hpc : Go.AE.PC Tryz.prog 5 [.agg (Go.AE.wldV Go.AE.FT x0), .int .i64 x1, .int .i64 x2] (.bool true) := Go.AE.Tryz.law_GroupIn
  refine (law_calls hpc (Go.AE.vrs3 vv0 vv1 vv2)).mono fun e W' ⟨he, bel⟩ => ?_
  subst he
  exact ⟨_, rfl, _, _, _, [], _, [], hW', trodAll_mk1 (shut_bool (t := 4) (by kernel_rfl) _), (trodAll_cons_mk (Below.trod laidOut (by kernel_rfl) (of_decide_eq_true (by kernel_rfl)) h0 bel lt0) (trodAll_cons_mk (Below.trod laidOut (by kernel_rfl) (of_decide_eq_true (by kernel_rfl)) h1 bel lt1) (trodAll_cons_mk (Below.trod laidOut (by kernel_rfl) (of_decide_eq_true (by kernel_rfl)) h2 bel lt2) trodAll_mk0))), rfl, bel.frame _, fun h => by cases h⟩
theorem over : Rows.fnExactGroupInRow.holds Tryz.pinned (OpenSpec.ofChange Rows.fnExactGroupInSpec) :=
  OpenClaim.holds_of_wide 5 Tryz.f5 rfl rfl rfl rfl rfl rfl rfl ⟨rfl, rfl, rfl, rfl, rfl⟩ rfl rfl rfl rfl rfl fnExactGroupInF.fnm Tryz.func5 fnExactGroupInF.closed
    fnExactGroupInF.inst fnExactGroupInF.wrap
    (fun os started H enc _ => lifted os started H enc)
theorem proved : Rows.FnExactGroupInSaid := over
#print axioms proved
end Go.Proofs.YtokkkniepbkapaaGreat.fnExactGroupIn
namespace Go.Proofs.YtokkkniepbkapaaGreat
theorem fnExactGroupIn_holds : Rows.FnExactGroupInSaid := fnExactGroupIn.proved
end Go.Proofs.YtokkkniepbkapaaGreat
