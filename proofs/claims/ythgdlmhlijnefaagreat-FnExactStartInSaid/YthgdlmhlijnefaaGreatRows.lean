/-
  No cell of these rows narrows 'for every input' (looked for: loops, veiled, ifaces, maps, wideKeys, modest, calm, conditions, laid).
  DERIVED. THE GIVEN ROWS OF THIS SEAT. 12 by the template 'for every input the law returns true; each argument reads behind the call as it read before'; 0 by the template 'total and deterministic' (their statements: YthgdlmhlijnefaaGreatTotals.lean).
  GIVEN WITH THE SEED: the statements are not yours to turn. If you find one false, say at which input.
  Laid BY PROGRAM, IN A SANDBOX (cutbox-rows.mjs): the forced cells as the released guide's own fill.sh prints them over the translation 97997f187aae6a1d… (all of the seat's roots in one cut). By AI agents, Wed Nov 11 2026. No macro, syntax, notation, axiom, sorry.
-/
import Derived.Test.YthgdlmhlijnefaaGreatChecked
import GoSem.Claim
import GoSem.ClaimJoined
import GoSem.ClaimMapViews
import Derived.JoinedTies
import Derived.KernelRfl
namespace Go.Proofs.YthgdlmhlijnefaaGreat
/- THE CELL 'sum', in the pinned program and in every row, IS THE sha256 OF THE DUMP (.gsa) THAT YthgdlmhlijnefaaGreatProg.lean LOADS. Nothing in Lean hashes anything: it is a label: what it is worth is what the hold of that sum in a sandbox is worth. -/
noncomputable def Tryz.pinned : Pinned := { name := "ythgdlmhlijnefaagreat", sum := "97997f187aae6a1d22efb8a4f8dc7ef4d3e89446ed2b93ef4d11ec9984db5242", checked := Tryz.checked }
namespace Rows
def none {H : Type} : Left H := { results := [], args := [] }

/-- 'laws.FnExactSteadyIn': WHATEVER THE INPUT: true; the input reads as it did. -/
def fnExactSteadyInSpec : ChangeSpec := { name := "fnExactSteadyIn", fn := fun _ => fun
  | [d] => { results := [.lit (.bool true)], args := [d] }
  | _ => none }
def fnExactSteadyInRow : OpenClaim := { program := "ythgdlmhlijnefaagreat", sum := "97997f187aae6a1d22efb8a4f8dc7ef4d3e89446ed2b93ef4d11ec9984db5242", func := "loop.example/g00673/laws.FnExactSteadyIn", spec := "fnExactSteadyIn", unfollowed := true, recurses := true, apart := false }
def FnExactSteadyInSaid : Prop := fnExactSteadyInRow.holds Tryz.pinned (OpenSpec.ofChange fnExactSteadyInSpec)

/-- ITS FALSE NEIGHBOUR: 'it returns false'. Refute it at one input. -/
def fnExactSteadyInWrong : ChangeSpec := { name := "fnExactSteadyIn", fn := fun _ => fun
  | [d] => { results := [.lit (.bool false)], args := [d] }
  | _ => none }
def FnExactSteadyInWrongFalsely : Prop := fnExactSteadyInRow.holds Tryz.pinned (OpenSpec.ofChange fnExactSteadyInWrong)

/-- 'laws.FnExactStepsLeft': WHATEVER THE INPUT: true; the input reads as it did. -/
def fnExactStepsLeftSpec : ChangeSpec := { name := "fnExactStepsLeft", fn := fun _ => fun
  | [d] => { results := [.lit (.bool true)], args := [d] }
  | _ => none }
def fnExactStepsLeftRow : OpenClaim := { program := "ythgdlmhlijnefaagreat", sum := "97997f187aae6a1d22efb8a4f8dc7ef4d3e89446ed2b93ef4d11ec9984db5242", func := "loop.example/g00673/laws.FnExactStepsLeft", spec := "fnExactStepsLeft", unfollowed := true, recurses := true, apart := false }
def FnExactStepsLeftSaid : Prop := fnExactStepsLeftRow.holds Tryz.pinned (OpenSpec.ofChange fnExactStepsLeftSpec)

/-- ITS FALSE NEIGHBOUR: 'it returns false'. Refute it at one input. -/
def fnExactStepsLeftWrong : ChangeSpec := { name := "fnExactStepsLeft", fn := fun _ => fun
  | [d] => { results := [.lit (.bool false)], args := [d] }
  | _ => none }
def FnExactStepsLeftWrongFalsely : Prop := fnExactStepsLeftRow.holds Tryz.pinned (OpenSpec.ofChange fnExactStepsLeftWrong)

/-- 'laws.FnExactTimelyIn': WHATEVER THE INPUT: true; the input reads as it did. -/
def fnExactTimelyInSpec : ChangeSpec := { name := "fnExactTimelyIn", fn := fun _ => fun
  | [d] => { results := [.lit (.bool true)], args := [d] }
  | _ => none }
def fnExactTimelyInRow : OpenClaim := { program := "ythgdlmhlijnefaagreat", sum := "97997f187aae6a1d22efb8a4f8dc7ef4d3e89446ed2b93ef4d11ec9984db5242", func := "loop.example/g00673/laws.FnExactTimelyIn", spec := "fnExactTimelyIn", unfollowed := true, recurses := true, apart := false }
def FnExactTimelyInSaid : Prop := fnExactTimelyInRow.holds Tryz.pinned (OpenSpec.ofChange fnExactTimelyInSpec)

/-- ITS FALSE NEIGHBOUR: 'it returns false'. Refute it at one input. -/
def fnExactTimelyInWrong : ChangeSpec := { name := "fnExactTimelyIn", fn := fun _ => fun
  | [d] => { results := [.lit (.bool false)], args := [d] }
  | _ => none }
def FnExactTimelyInWrongFalsely : Prop := fnExactTimelyInRow.holds Tryz.pinned (OpenSpec.ofChange fnExactTimelyInWrong)

/-- 'laws.FnExactBelowIn': WHATEVER THE INPUT: true; the input reads as it did. -/
def fnExactBelowInSpec : ChangeSpec := { name := "fnExactBelowIn", fn := fun _ => fun
  | [d] => { results := [.lit (.bool true)], args := [d] }
  | _ => none }
def fnExactBelowInRow : OpenClaim := { program := "ythgdlmhlijnefaagreat", sum := "97997f187aae6a1d22efb8a4f8dc7ef4d3e89446ed2b93ef4d11ec9984db5242", func := "loop.example/g00673/laws.FnExactBelowIn", spec := "fnExactBelowIn", unfollowed := true, recurses := true, apart := false }
def FnExactBelowInSaid : Prop := fnExactBelowInRow.holds Tryz.pinned (OpenSpec.ofChange fnExactBelowInSpec)

/-- ITS FALSE NEIGHBOUR: 'it returns false'. Refute it at one input. -/
def fnExactBelowInWrong : ChangeSpec := { name := "fnExactBelowIn", fn := fun _ => fun
  | [d] => { results := [.lit (.bool false)], args := [d] }
  | _ => none }
def FnExactBelowInWrongFalsely : Prop := fnExactBelowInRow.holds Tryz.pinned (OpenSpec.ofChange fnExactBelowInWrong)

/-- 'laws.FnExactExplainedIn': WHATEVER THE INPUT: true; the input reads as it did. -/
def fnExactExplainedInSpec : ChangeSpec := { name := "fnExactExplainedIn", fn := fun _ => fun
  | [d] => { results := [.lit (.bool true)], args := [d] }
  | _ => none }
def fnExactExplainedInRow : OpenClaim := { program := "ythgdlmhlijnefaagreat", sum := "97997f187aae6a1d22efb8a4f8dc7ef4d3e89446ed2b93ef4d11ec9984db5242", func := "loop.example/g00673/laws.FnExactExplainedIn", spec := "fnExactExplainedIn", unfollowed := true, recurses := true, apart := false }
def FnExactExplainedInSaid : Prop := fnExactExplainedInRow.holds Tryz.pinned (OpenSpec.ofChange fnExactExplainedInSpec)

/-- ITS FALSE NEIGHBOUR: 'it returns false'. Refute it at one input. -/
def fnExactExplainedInWrong : ChangeSpec := { name := "fnExactExplainedIn", fn := fun _ => fun
  | [d] => { results := [.lit (.bool false)], args := [d] }
  | _ => none }
def FnExactExplainedInWrongFalsely : Prop := fnExactExplainedInRow.holds Tryz.pinned (OpenSpec.ofChange fnExactExplainedInWrong)

/-- 'laws.FnExactHeardIn': WHATEVER THE INPUT: true; the input reads as it did. -/
def fnExactHeardInSpec : ChangeSpec := { name := "fnExactHeardIn", fn := fun _ => fun
  | [d] => { results := [.lit (.bool true)], args := [d] }
  | _ => none }
def fnExactHeardInRow : OpenClaim := { program := "ythgdlmhlijnefaagreat", sum := "97997f187aae6a1d22efb8a4f8dc7ef4d3e89446ed2b93ef4d11ec9984db5242", func := "loop.example/g00673/laws.FnExactHeardIn", spec := "fnExactHeardIn", unfollowed := true, recurses := true, apart := false }
def FnExactHeardInSaid : Prop := fnExactHeardInRow.holds Tryz.pinned (OpenSpec.ofChange fnExactHeardInSpec)

/-- ITS FALSE NEIGHBOUR: 'it returns false'. Refute it at one input. -/
def fnExactHeardInWrong : ChangeSpec := { name := "fnExactHeardIn", fn := fun _ => fun
  | [d] => { results := [.lit (.bool false)], args := [d] }
  | _ => none }
def FnExactHeardInWrongFalsely : Prop := fnExactHeardInRow.holds Tryz.pinned (OpenSpec.ofChange fnExactHeardInWrong)

/-- 'laws.FnExactCalmIn': WHATEVER THE INPUT: true; the input reads as it did. -/
def fnExactCalmInSpec : ChangeSpec := { name := "fnExactCalmIn", fn := fun _ => fun
  | [d] => { results := [.lit (.bool true)], args := [d] }
  | _ => none }
def fnExactCalmInRow : OpenClaim := { program := "ythgdlmhlijnefaagreat", sum := "97997f187aae6a1d22efb8a4f8dc7ef4d3e89446ed2b93ef4d11ec9984db5242", func := "loop.example/g00673/laws.FnExactCalmIn", spec := "fnExactCalmIn", unfollowed := true, recurses := true, apart := false }
def FnExactCalmInSaid : Prop := fnExactCalmInRow.holds Tryz.pinned (OpenSpec.ofChange fnExactCalmInSpec)

/-- ITS FALSE NEIGHBOUR: 'it returns false'. Refute it at one input. -/
def fnExactCalmInWrong : ChangeSpec := { name := "fnExactCalmIn", fn := fun _ => fun
  | [d] => { results := [.lit (.bool false)], args := [d] }
  | _ => none }
def FnExactCalmInWrongFalsely : Prop := fnExactCalmInRow.holds Tryz.pinned (OpenSpec.ofChange fnExactCalmInWrong)

/-- 'laws.FnExactEnabledIn': WHATEVER THE INPUT: true; the input reads as it did. -/
def fnExactEnabledInSpec : ChangeSpec := { name := "fnExactEnabledIn", fn := fun _ => fun
  | [d] => { results := [.lit (.bool true)], args := [d] }
  | _ => none }
def fnExactEnabledInRow : OpenClaim := { program := "ythgdlmhlijnefaagreat", sum := "97997f187aae6a1d22efb8a4f8dc7ef4d3e89446ed2b93ef4d11ec9984db5242", func := "loop.example/g00673/laws.FnExactEnabledIn", spec := "fnExactEnabledIn", unfollowed := true, recurses := true, apart := false }
def FnExactEnabledInSaid : Prop := fnExactEnabledInRow.holds Tryz.pinned (OpenSpec.ofChange fnExactEnabledInSpec)

/-- ITS FALSE NEIGHBOUR: 'it returns false'. Refute it at one input. -/
def fnExactEnabledInWrong : ChangeSpec := { name := "fnExactEnabledIn", fn := fun _ => fun
  | [d] => { results := [.lit (.bool false)], args := [d] }
  | _ => none }
def FnExactEnabledInWrongFalsely : Prop := fnExactEnabledInRow.holds Tryz.pinned (OpenSpec.ofChange fnExactEnabledInWrong)

/-- 'laws.FnExactTickIn': WHATEVER THE INPUT: true; the input reads as it did. -/
def fnExactTickInSpec : ChangeSpec := { name := "fnExactTickIn", fn := fun _ => fun
  | [d1, d2] => { results := [.lit (.bool true)], args := [d1, d2] }
  | _ => none }
def fnExactTickInRow : OpenClaim := { program := "ythgdlmhlijnefaagreat", sum := "97997f187aae6a1d22efb8a4f8dc7ef4d3e89446ed2b93ef4d11ec9984db5242", func := "loop.example/g00673/laws.FnExactTickIn", spec := "fnExactTickIn", unfollowed := true, recurses := true, apart := false }
def FnExactTickInSaid : Prop := fnExactTickInRow.holds Tryz.pinned (OpenSpec.ofChange fnExactTickInSpec)

/-- ITS FALSE NEIGHBOUR: 'it returns false'. Refute it at one input. -/
def fnExactTickInWrong : ChangeSpec := { name := "fnExactTickIn", fn := fun _ => fun
  | [d1, d2] => { results := [.lit (.bool false)], args := [d1, d2] }
  | _ => none }
def FnExactTickInWrongFalsely : Prop := fnExactTickInRow.holds Tryz.pinned (OpenSpec.ofChange fnExactTickInWrong)

/-- 'laws.FnExactStartIn': WHATEVER THE INPUT: true; the input reads as it did. -/
def fnExactStartInSpec : ChangeSpec := { name := "fnExactStartIn", fn := fun _ => fun
  | [d] => { results := [.lit (.bool true)], args := [d] }
  | _ => none }
def fnExactStartInRow : OpenClaim := { program := "ythgdlmhlijnefaagreat", sum := "97997f187aae6a1d22efb8a4f8dc7ef4d3e89446ed2b93ef4d11ec9984db5242", func := "loop.example/g00673/laws.FnExactStartIn", spec := "fnExactStartIn", unfollowed := true, recurses := true, apart := false }
def FnExactStartInSaid : Prop := fnExactStartInRow.holds Tryz.pinned (OpenSpec.ofChange fnExactStartInSpec)

/-- ITS FALSE NEIGHBOUR: 'it returns false'. Refute it at one input. -/
def fnExactStartInWrong : ChangeSpec := { name := "fnExactStartIn", fn := fun _ => fun
  | [d] => { results := [.lit (.bool false)], args := [d] }
  | _ => none }
def FnExactStartInWrongFalsely : Prop := fnExactStartInRow.holds Tryz.pinned (OpenSpec.ofChange fnExactStartInWrong)

/-- 'laws.FnExactResetIn': WHATEVER THE INPUT: true; the input reads as it did. -/
def fnExactResetInSpec : ChangeSpec := { name := "fnExactResetIn", fn := fun _ => fun
  | [d1, d2, d3] => { results := [.lit (.bool true)], args := [d1, d2, d3] }
  | _ => none }
def fnExactResetInRow : OpenClaim := { program := "ythgdlmhlijnefaagreat", sum := "97997f187aae6a1d22efb8a4f8dc7ef4d3e89446ed2b93ef4d11ec9984db5242", func := "loop.example/g00673/laws.FnExactResetIn", spec := "fnExactResetIn", unfollowed := true, recurses := true, apart := false }
def FnExactResetInSaid : Prop := fnExactResetInRow.holds Tryz.pinned (OpenSpec.ofChange fnExactResetInSpec)

/-- ITS FALSE NEIGHBOUR: 'it returns false'. Refute it at one input. -/
def fnExactResetInWrong : ChangeSpec := { name := "fnExactResetIn", fn := fun _ => fun
  | [d1, d2, d3] => { results := [.lit (.bool false)], args := [d1, d2, d3] }
  | _ => none }
def FnExactResetInWrongFalsely : Prop := fnExactResetInRow.holds Tryz.pinned (OpenSpec.ofChange fnExactResetInWrong)

/-- 'laws.FnExactNodeIn': WHATEVER THE INPUT: true; the input reads as it did. -/
def fnExactNodeInSpec : ChangeSpec := { name := "fnExactNodeIn", fn := fun _ => fun
  | [d1, d2, d3, d4, d5] => { results := [.lit (.bool true)], args := [d1, d2, d3, d4, d5] }
  | _ => none }
def fnExactNodeInRow : OpenClaim := { program := "ythgdlmhlijnefaagreat", sum := "97997f187aae6a1d22efb8a4f8dc7ef4d3e89446ed2b93ef4d11ec9984db5242", func := "loop.example/g00673/laws.FnExactNodeIn", spec := "fnExactNodeIn", unfollowed := true, recurses := true, apart := false }
def FnExactNodeInSaid : Prop := fnExactNodeInRow.holds Tryz.pinned (OpenSpec.ofChange fnExactNodeInSpec)

/-- ITS FALSE NEIGHBOUR: 'it returns false'. Refute it at one input. -/
def fnExactNodeInWrong : ChangeSpec := { name := "fnExactNodeIn", fn := fun _ => fun
  | [d1, d2, d3, d4, d5] => { results := [.lit (.bool false)], args := [d1, d2, d3, d4, d5] }
  | _ => none }
def FnExactNodeInWrongFalsely : Prop := fnExactNodeInRow.holds Tryz.pinned (OpenSpec.ofChange fnExactNodeInWrong)

/- THE SECOND FORM. 'bulk': how many values and letters a reading holds, each counted each time it is reached (what is shared counts as often as it is met; a slice's spare places count too). A statement '..UptoSaid' is the law's where the arguments, and the package variables that the reading takes, are together of bulk at most 1048576: NARROWER than '..Said'. Prove '..Said' where nothing that the law and all that it calls make is longer than what came in: it says more and counts as full. Else prove '..UptoSaid'. A law counts once. -/
mutual
def uptoBulk {H : Type} : DataW H → Nat
  | .lit (.string bytes) => bytes.length + 1
  | .lit _ => 1
  | .nil => 1
  | .ptr d => uptoBulk d + 1
  | .slice elems spare => uptoBulkAll elems + uptoBulkAll spare + 1
  | .agg parts => uptoBulkAll parts + 1
  | .iface _ d => uptoBulk d + 1
  | .map entries => uptoBulkEntries entries + 1
  | .held _ => 1
def uptoBulkAll {H : Type} : List (DataW H) → Nat
  | [] => 0
  | d :: r => uptoBulk d + uptoBulkAll r
def uptoBulkEntries {H : Type} : List (Lit × DataW H) → Nat
  | [] => 0
  | x :: r => uptoBulkEntry x + uptoBulkEntries r
def uptoBulkEntry {H : Type} : Lit × DataW H → Nat
  | (.string bytes, d) => bytes.length + uptoBulk d + 1
  | (_, d) => uptoBulk d + 1
 end
def uptoSmall : (H : Type) → List (DataW H) → Bool := fun _ ds => decide (uptoBulkAll ds ≤ 1048576)
def OpenSpec.upto (s : _root_.Go.ChangeSpec) : _root_.Go.OpenSpec := { _root_.Go.OpenSpec.ofChange s with cond := some uptoSmall }

/-- 'laws.FnExactSteadyIn', WHERE WHAT IT READS IS OF BULK AT MOST 1048576: true; the input reads as it did. -/
def fnExactSteadyInUptoRow : OpenClaim := { program := "ythgdlmhlijnefaagreat", sum := "97997f187aae6a1d22efb8a4f8dc7ef4d3e89446ed2b93ef4d11ec9984db5242", func := "loop.example/g00673/laws.FnExactSteadyIn", spec := "fnExactSteadyIn", unfollowed := true, recurses := true, apart := false, narrowed := true }
def FnExactSteadyInUptoSaid : Prop := fnExactSteadyInUptoRow.holds Tryz.pinned (OpenSpec.upto fnExactSteadyInSpec)

/-- 'laws.FnExactStepsLeft', WHERE WHAT IT READS IS OF BULK AT MOST 1048576: true; the input reads as it did. -/
def fnExactStepsLeftUptoRow : OpenClaim := { program := "ythgdlmhlijnefaagreat", sum := "97997f187aae6a1d22efb8a4f8dc7ef4d3e89446ed2b93ef4d11ec9984db5242", func := "loop.example/g00673/laws.FnExactStepsLeft", spec := "fnExactStepsLeft", unfollowed := true, recurses := true, apart := false, narrowed := true }
def FnExactStepsLeftUptoSaid : Prop := fnExactStepsLeftUptoRow.holds Tryz.pinned (OpenSpec.upto fnExactStepsLeftSpec)

/-- 'laws.FnExactTimelyIn', WHERE WHAT IT READS IS OF BULK AT MOST 1048576: true; the input reads as it did. -/
def fnExactTimelyInUptoRow : OpenClaim := { program := "ythgdlmhlijnefaagreat", sum := "97997f187aae6a1d22efb8a4f8dc7ef4d3e89446ed2b93ef4d11ec9984db5242", func := "loop.example/g00673/laws.FnExactTimelyIn", spec := "fnExactTimelyIn", unfollowed := true, recurses := true, apart := false, narrowed := true }
def FnExactTimelyInUptoSaid : Prop := fnExactTimelyInUptoRow.holds Tryz.pinned (OpenSpec.upto fnExactTimelyInSpec)

/-- 'laws.FnExactBelowIn', WHERE WHAT IT READS IS OF BULK AT MOST 1048576: true; the input reads as it did. -/
def fnExactBelowInUptoRow : OpenClaim := { program := "ythgdlmhlijnefaagreat", sum := "97997f187aae6a1d22efb8a4f8dc7ef4d3e89446ed2b93ef4d11ec9984db5242", func := "loop.example/g00673/laws.FnExactBelowIn", spec := "fnExactBelowIn", unfollowed := true, recurses := true, apart := false, narrowed := true }
def FnExactBelowInUptoSaid : Prop := fnExactBelowInUptoRow.holds Tryz.pinned (OpenSpec.upto fnExactBelowInSpec)

/-- 'laws.FnExactExplainedIn', WHERE WHAT IT READS IS OF BULK AT MOST 1048576: true; the input reads as it did. -/
def fnExactExplainedInUptoRow : OpenClaim := { program := "ythgdlmhlijnefaagreat", sum := "97997f187aae6a1d22efb8a4f8dc7ef4d3e89446ed2b93ef4d11ec9984db5242", func := "loop.example/g00673/laws.FnExactExplainedIn", spec := "fnExactExplainedIn", unfollowed := true, recurses := true, apart := false, narrowed := true }
def FnExactExplainedInUptoSaid : Prop := fnExactExplainedInUptoRow.holds Tryz.pinned (OpenSpec.upto fnExactExplainedInSpec)

/-- 'laws.FnExactHeardIn', WHERE WHAT IT READS IS OF BULK AT MOST 1048576: true; the input reads as it did. -/
def fnExactHeardInUptoRow : OpenClaim := { program := "ythgdlmhlijnefaagreat", sum := "97997f187aae6a1d22efb8a4f8dc7ef4d3e89446ed2b93ef4d11ec9984db5242", func := "loop.example/g00673/laws.FnExactHeardIn", spec := "fnExactHeardIn", unfollowed := true, recurses := true, apart := false, narrowed := true }
def FnExactHeardInUptoSaid : Prop := fnExactHeardInUptoRow.holds Tryz.pinned (OpenSpec.upto fnExactHeardInSpec)

/-- 'laws.FnExactCalmIn', WHERE WHAT IT READS IS OF BULK AT MOST 1048576: true; the input reads as it did. -/
def fnExactCalmInUptoRow : OpenClaim := { program := "ythgdlmhlijnefaagreat", sum := "97997f187aae6a1d22efb8a4f8dc7ef4d3e89446ed2b93ef4d11ec9984db5242", func := "loop.example/g00673/laws.FnExactCalmIn", spec := "fnExactCalmIn", unfollowed := true, recurses := true, apart := false, narrowed := true }
def FnExactCalmInUptoSaid : Prop := fnExactCalmInUptoRow.holds Tryz.pinned (OpenSpec.upto fnExactCalmInSpec)

/-- 'laws.FnExactEnabledIn', WHERE WHAT IT READS IS OF BULK AT MOST 1048576: true; the input reads as it did. -/
def fnExactEnabledInUptoRow : OpenClaim := { program := "ythgdlmhlijnefaagreat", sum := "97997f187aae6a1d22efb8a4f8dc7ef4d3e89446ed2b93ef4d11ec9984db5242", func := "loop.example/g00673/laws.FnExactEnabledIn", spec := "fnExactEnabledIn", unfollowed := true, recurses := true, apart := false, narrowed := true }
def FnExactEnabledInUptoSaid : Prop := fnExactEnabledInUptoRow.holds Tryz.pinned (OpenSpec.upto fnExactEnabledInSpec)

/-- 'laws.FnExactTickIn', WHERE WHAT IT READS IS OF BULK AT MOST 1048576: true; the input reads as it did. -/
def fnExactTickInUptoRow : OpenClaim := { program := "ythgdlmhlijnefaagreat", sum := "97997f187aae6a1d22efb8a4f8dc7ef4d3e89446ed2b93ef4d11ec9984db5242", func := "loop.example/g00673/laws.FnExactTickIn", spec := "fnExactTickIn", unfollowed := true, recurses := true, apart := false, narrowed := true }
def FnExactTickInUptoSaid : Prop := fnExactTickInUptoRow.holds Tryz.pinned (OpenSpec.upto fnExactTickInSpec)

/-- 'laws.FnExactStartIn', WHERE WHAT IT READS IS OF BULK AT MOST 1048576: true; the input reads as it did. -/
def fnExactStartInUptoRow : OpenClaim := { program := "ythgdlmhlijnefaagreat", sum := "97997f187aae6a1d22efb8a4f8dc7ef4d3e89446ed2b93ef4d11ec9984db5242", func := "loop.example/g00673/laws.FnExactStartIn", spec := "fnExactStartIn", unfollowed := true, recurses := true, apart := false, narrowed := true }
def FnExactStartInUptoSaid : Prop := fnExactStartInUptoRow.holds Tryz.pinned (OpenSpec.upto fnExactStartInSpec)

/-- 'laws.FnExactResetIn', WHERE WHAT IT READS IS OF BULK AT MOST 1048576: true; the input reads as it did. -/
def fnExactResetInUptoRow : OpenClaim := { program := "ythgdlmhlijnefaagreat", sum := "97997f187aae6a1d22efb8a4f8dc7ef4d3e89446ed2b93ef4d11ec9984db5242", func := "loop.example/g00673/laws.FnExactResetIn", spec := "fnExactResetIn", unfollowed := true, recurses := true, apart := false, narrowed := true }
def FnExactResetInUptoSaid : Prop := fnExactResetInUptoRow.holds Tryz.pinned (OpenSpec.upto fnExactResetInSpec)

/-- 'laws.FnExactNodeIn', WHERE WHAT IT READS IS OF BULK AT MOST 1048576: true; the input reads as it did. -/
def fnExactNodeInUptoRow : OpenClaim := { program := "ythgdlmhlijnefaagreat", sum := "97997f187aae6a1d22efb8a4f8dc7ef4d3e89446ed2b93ef4d11ec9984db5242", func := "loop.example/g00673/laws.FnExactNodeIn", spec := "fnExactNodeIn", unfollowed := true, recurses := true, apart := false, narrowed := true }
def FnExactNodeInUptoSaid : Prop := fnExactNodeInUptoRow.holds Tryz.pinned (OpenSpec.upto fnExactNodeInSpec)

end Rows
end Go.Proofs.YthgdlmhlijnefaaGreat
