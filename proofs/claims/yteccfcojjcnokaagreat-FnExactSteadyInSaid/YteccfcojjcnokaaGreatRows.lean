/-
  No cell of these rows narrows 'for every input' (looked for: loops, veiled, ifaces, maps, wideKeys, modest, calm, conditions, laid).
  DERIVED. THE GIVEN ROWS OF THIS SEAT. 4 by the template 'for every input the law returns true; each argument reads behind the call as it read before'; 0 by the template 'total and deterministic' (their statements: YteccfcojjcnokaaGreatTotals.lean).
  GIVEN WITH THE SEED: the statements are not yours to turn. If you find one false, say at which input.
  Laid BY PROGRAM, IN A SANDBOX (cutbox-rows.mjs): the forced cells as the released guide's own fill.sh prints them over the translation 93635fc474d3575b… (all of the seat's roots in one cut). By AI agents, Wed Nov 11 2026. No macro, syntax, notation, axiom, sorry.
-/
import Derived.Test.YteccfcojjcnokaaGreatChecked
import GoSem.Claim
import GoSem.ClaimJoined
import GoSem.ClaimMapViews
import Derived.JoinedTies
import Derived.KernelRfl
namespace Go.Proofs.YteccfcojjcnokaaGreat
/- THE CELL 'sum', in the pinned program and in every row, IS THE sha256 OF THE DUMP (.gsa) THAT YteccfcojjcnokaaGreatProg.lean LOADS. Nothing in Lean hashes anything: it is a label: what it is worth is what the hold of that sum in a sandbox is worth. -/
noncomputable def Tryz.pinned : Pinned := { name := "yteccfcojjcnokaagreat", sum := "93635fc474d3575b33376f8e418cd94dd40a1aada293af8fb3021a0b13e36d3d", checked := Tryz.checked }
namespace Rows
def none {H : Type} : Left H := { results := [], args := [] }

/-- 'laws.FnJoins': WHATEVER THE INPUT: true; the input reads as it did. -/
def fnJoinsSpec : ChangeSpec := { name := "fnJoins", fn := fun _ => fun
  | [d] => { results := [.lit (.bool true)], args := [d] }
  | _ => none }
def fnJoinsRow : OpenClaim := { program := "yteccfcojjcnokaagreat", sum := "93635fc474d3575b33376f8e418cd94dd40a1aada293af8fb3021a0b13e36d3d", func := "loop.example/g00673/laws.FnJoins", spec := "fnJoins", unfollowed := true, recurses := true, apart := false }
def FnJoinsSaid : Prop := fnJoinsRow.holds Tryz.pinned (OpenSpec.ofChange fnJoinsSpec)

/-- ITS FALSE NEIGHBOUR: 'it returns false'. Refute it at one input. -/
def fnJoinsWrong : ChangeSpec := { name := "fnJoins", fn := fun _ => fun
  | [d] => { results := [.lit (.bool false)], args := [d] }
  | _ => none }
def FnJoinsWrongFalsely : Prop := fnJoinsRow.holds Tryz.pinned (OpenSpec.ofChange fnJoinsWrong)

/-- 'laws.FnExactSteadyIn': WHATEVER THE INPUT: true; the input reads as it did. -/
def fnExactSteadyInSpec : ChangeSpec := { name := "fnExactSteadyIn", fn := fun _ => fun
  | [d] => { results := [.lit (.bool true)], args := [d] }
  | _ => none }
def fnExactSteadyInRow : OpenClaim := { program := "yteccfcojjcnokaagreat", sum := "93635fc474d3575b33376f8e418cd94dd40a1aada293af8fb3021a0b13e36d3d", func := "loop.example/g00673/laws.FnExactSteadyIn", spec := "fnExactSteadyIn", unfollowed := true, recurses := true, apart := false }
def FnExactSteadyInSaid : Prop := fnExactSteadyInRow.holds Tryz.pinned (OpenSpec.ofChange fnExactSteadyInSpec)

/-- ITS FALSE NEIGHBOUR: 'it returns false'. Refute it at one input. -/
def fnExactSteadyInWrong : ChangeSpec := { name := "fnExactSteadyIn", fn := fun _ => fun
  | [d] => { results := [.lit (.bool false)], args := [d] }
  | _ => none }
def FnExactSteadyInWrongFalsely : Prop := fnExactSteadyInRow.holds Tryz.pinned (OpenSpec.ofChange fnExactSteadyInWrong)

/-- 'laws.FnBornDone': WHATEVER THE INPUT: true; the input reads as it did. -/
def fnBornDoneSpec : ChangeSpec := { name := "fnBornDone", fn := fun _ => fun
  | [d] => { results := [.lit (.bool true)], args := [d] }
  | _ => none }
def fnBornDoneRow : OpenClaim := { program := "yteccfcojjcnokaagreat", sum := "93635fc474d3575b33376f8e418cd94dd40a1aada293af8fb3021a0b13e36d3d", func := "loop.example/g00673/laws.FnBornDone", spec := "fnBornDone", unfollowed := true, recurses := true, apart := false }
def FnBornDoneSaid : Prop := fnBornDoneRow.holds Tryz.pinned (OpenSpec.ofChange fnBornDoneSpec)

/-- ITS FALSE NEIGHBOUR: 'it returns false'. Refute it at one input. -/
def fnBornDoneWrong : ChangeSpec := { name := "fnBornDone", fn := fun _ => fun
  | [d] => { results := [.lit (.bool false)], args := [d] }
  | _ => none }
def FnBornDoneWrongFalsely : Prop := fnBornDoneRow.holds Tryz.pinned (OpenSpec.ofChange fnBornDoneWrong)

/-- 'laws.FnExactExecIn': WHATEVER THE INPUT: true; the input reads as it did. -/
def fnExactExecInSpec : ChangeSpec := { name := "fnExactExecIn", fn := fun _ => fun
  | [d1, d2] => { results := [.lit (.bool true)], args := [d1, d2] }
  | _ => none }
def fnExactExecInRow : OpenClaim := { program := "yteccfcojjcnokaagreat", sum := "93635fc474d3575b33376f8e418cd94dd40a1aada293af8fb3021a0b13e36d3d", func := "loop.example/g00673/laws.FnExactExecIn", spec := "fnExactExecIn", unfollowed := true, recurses := true, apart := false }
def FnExactExecInSaid : Prop := fnExactExecInRow.holds Tryz.pinned (OpenSpec.ofChange fnExactExecInSpec)

/-- ITS FALSE NEIGHBOUR: 'it returns false'. Refute it at one input. -/
def fnExactExecInWrong : ChangeSpec := { name := "fnExactExecIn", fn := fun _ => fun
  | [d1, d2] => { results := [.lit (.bool false)], args := [d1, d2] }
  | _ => none }
def FnExactExecInWrongFalsely : Prop := fnExactExecInRow.holds Tryz.pinned (OpenSpec.ofChange fnExactExecInWrong)

/- THE SECOND FORM. 'bulk': how many values and letters a reading holds, each counted each time it is reached (what is shared counts as often as it is met; a slice's spare places count too). A statement '..UptoSaid' is the law's where the arguments, and the package variables that the reading takes, are together of bulk at most 1048576: NARROWER than '..Said'. Prove '..Said' where nothing that the law and all that it calls make is longer than what came in: it says more and counts as full. Else prove '..UptoSaid'. A law counts once. -/
mutual
def uptoBulk {H : Type} : DataW H → Nat
  | .lit (.string bytes) => bytes.length + 1
  | .lit _ => 1
  | .nil => 1
  | .ptr d => uptoBulk d + 1
  | .slice elems spare => uptoBulkAll elems + uptoBulkAll spare + 1
  | .agg parts => uptoBulkAll parts + 1
  | .iface _ d => uptoBulk d + 1
  | .map entries => uptoBulkEntries entries + 1
  | .held _ => 1
def uptoBulkAll {H : Type} : List (DataW H) → Nat
  | [] => 0
  | d :: r => uptoBulk d + uptoBulkAll r
def uptoBulkEntries {H : Type} : List (Lit × DataW H) → Nat
  | [] => 0
  | x :: r => uptoBulkEntry x + uptoBulkEntries r
def uptoBulkEntry {H : Type} : Lit × DataW H → Nat
  | (.string bytes, d) => bytes.length + uptoBulk d + 1
  | (_, d) => uptoBulk d + 1
 end
def uptoSmall : (H : Type) → List (DataW H) → Bool := fun _ ds => decide (uptoBulkAll ds ≤ 1048576)
def OpenSpec.upto (s : _root_.Go.ChangeSpec) : _root_.Go.OpenSpec := { _root_.Go.OpenSpec.ofChange s with cond := some uptoSmall }

/-- 'laws.FnJoins', WHERE WHAT IT READS IS OF BULK AT MOST 1048576: true; the input reads as it did. -/
def fnJoinsUptoRow : OpenClaim := { program := "yteccfcojjcnokaagreat", sum := "93635fc474d3575b33376f8e418cd94dd40a1aada293af8fb3021a0b13e36d3d", func := "loop.example/g00673/laws.FnJoins", spec := "fnJoins", unfollowed := true, recurses := true, apart := false, narrowed := true }
def FnJoinsUptoSaid : Prop := fnJoinsUptoRow.holds Tryz.pinned (OpenSpec.upto fnJoinsSpec)

/-- 'laws.FnExactSteadyIn', WHERE WHAT IT READS IS OF BULK AT MOST 1048576: true; the input reads as it did. -/
def fnExactSteadyInUptoRow : OpenClaim := { program := "yteccfcojjcnokaagreat", sum := "93635fc474d3575b33376f8e418cd94dd40a1aada293af8fb3021a0b13e36d3d", func := "loop.example/g00673/laws.FnExactSteadyIn", spec := "fnExactSteadyIn", unfollowed := true, recurses := true, apart := false, narrowed := true }
def FnExactSteadyInUptoSaid : Prop := fnExactSteadyInUptoRow.holds Tryz.pinned (OpenSpec.upto fnExactSteadyInSpec)

/-- 'laws.FnBornDone', WHERE WHAT IT READS IS OF BULK AT MOST 1048576: true; the input reads as it did. -/
def fnBornDoneUptoRow : OpenClaim := { program := "yteccfcojjcnokaagreat", sum := "93635fc474d3575b33376f8e418cd94dd40a1aada293af8fb3021a0b13e36d3d", func := "loop.example/g00673/laws.FnBornDone", spec := "fnBornDone", unfollowed := true, recurses := true, apart := false, narrowed := true }
def FnBornDoneUptoSaid : Prop := fnBornDoneUptoRow.holds Tryz.pinned (OpenSpec.upto fnBornDoneSpec)

/-- 'laws.FnExactExecIn', WHERE WHAT IT READS IS OF BULK AT MOST 1048576: true; the input reads as it did. -/
def fnExactExecInUptoRow : OpenClaim := { program := "yteccfcojjcnokaagreat", sum := "93635fc474d3575b33376f8e418cd94dd40a1aada293af8fb3021a0b13e36d3d", func := "loop.example/g00673/laws.FnExactExecIn", spec := "fnExactExecIn", unfollowed := true, recurses := true, apart := false, narrowed := true }
def FnExactExecInUptoSaid : Prop := fnExactExecInUptoRow.holds Tryz.pinned (OpenSpec.upto fnExactExecInSpec)

end Rows
end Go.Proofs.YteccfcojjcnokaaGreat
