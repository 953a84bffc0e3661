/-
  No cell of these rows narrows 'for every input' (looked for: loops, veiled, ifaces, maps, wideKeys, modest, calm, conditions, laid).
  DERIVED. THE GIVEN ROWS OF THIS SEAT. 4 by the template 'for every input the law returns true; each argument reads behind the call as it read before'; 0 by the template 'total and deterministic' (their statements: YtfffnioddgeohaaGreatTotals.lean).
  GIVEN WITH THE SEED: the statements are not yours to turn. If you find one false, say at which input.
  Laid BY PROGRAM, IN A SANDBOX (cutbox-rows.mjs): the forced cells as the released guide's own fill.sh prints them over the translation afb7f3ebe9e0f4f4… (all of the seat's roots in one cut). By AI agents, Wed Nov 11 2026. No macro, syntax, notation, axiom, sorry.
-/
import Derived.Test.YtfffnioddgeohaaGreatChecked
import GoSem.Claim
import GoSem.ClaimJoined
import GoSem.ClaimMapViews
import Derived.JoinedTies
import Derived.KernelRfl
namespace Go.Proofs.YtfffnioddgeohaaGreat
/- THE CELL 'sum', in the pinned program and in every row, IS THE sha256 OF THE DUMP (.gsa) THAT YtfffnioddgeohaaGreatProg.lean LOADS. Nothing in Lean hashes anything: it is a label: what it is worth is what the hold of that sum in a sandbox is worth. -/
noncomputable def Tryz.pinned : Pinned := { name := "ytfffnioddgeohaagreat", sum := "afb7f3ebe9e0f4f429b94e6c99d595ba900e6d397b6bd2bb758dea82fe468fe5", checked := Tryz.checked }
namespace Rows
def none {H : Type} : Left H := { results := [], args := [] }

/-- 'laws.FnRings': WHATEVER THE INPUT: true; the input reads as it did. -/
def fnRingsSpec : ChangeSpec := { name := "fnRings", fn := fun _ => fun
  | [d] => { results := [.lit (.bool true)], args := [d] }
  | _ => none }
def fnRingsRow : OpenClaim := { program := "ytfffnioddgeohaagreat", sum := "afb7f3ebe9e0f4f429b94e6c99d595ba900e6d397b6bd2bb758dea82fe468fe5", func := "loop.example/g00673/laws.FnRings", spec := "fnRings", unfollowed := true, recurses := true, apart := false }
def FnRingsSaid : Prop := fnRingsRow.holds Tryz.pinned (OpenSpec.ofChange fnRingsSpec)

/-- ITS FALSE NEIGHBOUR: 'it returns false'. Refute it at one input. -/
def fnRingsWrong : ChangeSpec := { name := "fnRings", fn := fun _ => fun
  | [d] => { results := [.lit (.bool false)], args := [d] }
  | _ => none }
def FnRingsWrongFalsely : Prop := fnRingsRow.holds Tryz.pinned (OpenSpec.ofChange fnRingsWrong)

/-- 'laws.FnPastDeadline': WHATEVER THE INPUT: true; the input reads as it did. -/
def fnPastDeadlineSpec : ChangeSpec := { name := "fnPastDeadline", fn := fun _ => fun
  | [d] => { results := [.lit (.bool true)], args := [d] }
  | _ => none }
def fnPastDeadlineRow : OpenClaim := { program := "ytfffnioddgeohaagreat", sum := "afb7f3ebe9e0f4f429b94e6c99d595ba900e6d397b6bd2bb758dea82fe468fe5", func := "loop.example/g00673/laws.FnPastDeadline", spec := "fnPastDeadline", unfollowed := true, recurses := true, apart := false }
def FnPastDeadlineSaid : Prop := fnPastDeadlineRow.holds Tryz.pinned (OpenSpec.ofChange fnPastDeadlineSpec)

/-- ITS FALSE NEIGHBOUR: 'it returns false'. Refute it at one input. -/
def fnPastDeadlineWrong : ChangeSpec := { name := "fnPastDeadline", fn := fun _ => fun
  | [d] => { results := [.lit (.bool false)], args := [d] }
  | _ => none }
def FnPastDeadlineWrongFalsely : Prop := fnPastDeadlineRow.holds Tryz.pinned (OpenSpec.ofChange fnPastDeadlineWrong)

/-- 'laws.FnExactTellIn': WHATEVER THE INPUT: true; the input reads as it did. -/
def fnExactTellInSpec : ChangeSpec := { name := "fnExactTellIn", fn := fun _ => fun
  | [d] => { results := [.lit (.bool true)], args := [d] }
  | _ => none }
def fnExactTellInRow : OpenClaim := { program := "ytfffnioddgeohaagreat", sum := "afb7f3ebe9e0f4f429b94e6c99d595ba900e6d397b6bd2bb758dea82fe468fe5", func := "loop.example/g00673/laws.FnExactTellIn", spec := "fnExactTellIn", unfollowed := true, recurses := true, apart := false }
def FnExactTellInSaid : Prop := fnExactTellInRow.holds Tryz.pinned (OpenSpec.ofChange fnExactTellInSpec)

/-- ITS FALSE NEIGHBOUR: 'it returns false'. Refute it at one input. -/
def fnExactTellInWrong : ChangeSpec := { name := "fnExactTellIn", fn := fun _ => fun
  | [d] => { results := [.lit (.bool false)], args := [d] }
  | _ => none }
def FnExactTellInWrongFalsely : Prop := fnExactTellInRow.holds Tryz.pinned (OpenSpec.ofChange fnExactTellInWrong)

/-- 'laws.FnExactExecIn': WHATEVER THE INPUT: true; the input reads as it did. -/
def fnExactExecInSpec : ChangeSpec := { name := "fnExactExecIn", fn := fun _ => fun
  | [d1, d2] => { results := [.lit (.bool true)], args := [d1, d2] }
  | _ => none }
def fnExactExecInRow : OpenClaim := { program := "ytfffnioddgeohaagreat", sum := "afb7f3ebe9e0f4f429b94e6c99d595ba900e6d397b6bd2bb758dea82fe468fe5", func := "loop.example/g00673/laws.FnExactExecIn", spec := "fnExactExecIn", unfollowed := true, recurses := true, apart := false }
def FnExactExecInSaid : Prop := fnExactExecInRow.holds Tryz.pinned (OpenSpec.ofChange fnExactExecInSpec)

/-- ITS FALSE NEIGHBOUR: 'it returns false'. Refute it at one input. -/
def fnExactExecInWrong : ChangeSpec := { name := "fnExactExecIn", fn := fun _ => fun
  | [d1, d2] => { results := [.lit (.bool false)], args := [d1, d2] }
  | _ => none }
def FnExactExecInWrongFalsely : Prop := fnExactExecInRow.holds Tryz.pinned (OpenSpec.ofChange fnExactExecInWrong)

/- THE SECOND FORM. 'bulk': how many values and letters a reading holds, each counted each time it is reached (what is shared counts as often as it is met; a slice's spare places count too). A statement '..UptoSaid' is the law's where the arguments, and the package variables that the reading takes, are together of bulk at most 1048576: NARROWER than '..Said'. Prove '..Said' where nothing that the law and all that it calls make is longer than what came in: it says more and counts as full. Else prove '..UptoSaid'. A law counts once. -/
mutual
def uptoBulk {H : Type} : DataW H → Nat
  | .lit (.string bytes) => bytes.length + 1
  | .lit _ => 1
  | .nil => 1
  | .ptr d => uptoBulk d + 1
  | .slice elems spare => uptoBulkAll elems + uptoBulkAll spare + 1
  | .agg parts => uptoBulkAll parts + 1
  | .iface _ d => uptoBulk d + 1
  | .map entries => uptoBulkEntries entries + 1
  | .held _ => 1
def uptoBulkAll {H : Type} : List (DataW H) → Nat
  | [] => 0
  | d :: r => uptoBulk d + uptoBulkAll r
def uptoBulkEntries {H : Type} : List (Lit × DataW H) → Nat
  | [] => 0
  | x :: r => uptoBulkEntry x + uptoBulkEntries r
def uptoBulkEntry {H : Type} : Lit × DataW H → Nat
  | (.string bytes, d) => bytes.length + uptoBulk d + 1
  | (_, d) => uptoBulk d + 1
 end
def uptoSmall : (H : Type) → List (DataW H) → Bool := fun _ ds => decide (uptoBulkAll ds ≤ 1048576)
def OpenSpec.upto (s : _root_.Go.ChangeSpec) : _root_.Go.OpenSpec := { _root_.Go.OpenSpec.ofChange s with cond := some uptoSmall }

/-- 'laws.FnRings', WHERE WHAT IT READS IS OF BULK AT MOST 1048576: true; the input reads as it did. -/
def fnRingsUptoRow : OpenClaim := { program := "ytfffnioddgeohaagreat", sum := "afb7f3ebe9e0f4f429b94e6c99d595ba900e6d397b6bd2bb758dea82fe468fe5", func := "loop.example/g00673/laws.FnRings", spec := "fnRings", unfollowed := true, recurses := true, apart := false, narrowed := true }
def FnRingsUptoSaid : Prop := fnRingsUptoRow.holds Tryz.pinned (OpenSpec.upto fnRingsSpec)

/-- 'laws.FnPastDeadline', WHERE WHAT IT READS IS OF BULK AT MOST 1048576: true; the input reads as it did. -/
def fnPastDeadlineUptoRow : OpenClaim := { program := "ytfffnioddgeohaagreat", sum := "afb7f3ebe9e0f4f429b94e6c99d595ba900e6d397b6bd2bb758dea82fe468fe5", func := "loop.example/g00673/laws.FnPastDeadline", spec := "fnPastDeadline", unfollowed := true, recurses := true, apart := false, narrowed := true }
def FnPastDeadlineUptoSaid : Prop := fnPastDeadlineUptoRow.holds Tryz.pinned (OpenSpec.upto fnPastDeadlineSpec)

/-- 'laws.FnExactTellIn', WHERE WHAT IT READS IS OF BULK AT MOST 1048576: true; the input reads as it did. -/
def fnExactTellInUptoRow : OpenClaim := { program := "ytfffnioddgeohaagreat", sum := "afb7f3ebe9e0f4f429b94e6c99d595ba900e6d397b6bd2bb758dea82fe468fe5", func := "loop.example/g00673/laws.FnExactTellIn", spec := "fnExactTellIn", unfollowed := true, recurses := true, apart := false, narrowed := true }
def FnExactTellInUptoSaid : Prop := fnExactTellInUptoRow.holds Tryz.pinned (OpenSpec.upto fnExactTellInSpec)

/-- 'laws.FnExactExecIn', WHERE WHAT IT READS IS OF BULK AT MOST 1048576: true; the input reads as it did. -/
def fnExactExecInUptoRow : OpenClaim := { program := "ytfffnioddgeohaagreat", sum := "afb7f3ebe9e0f4f429b94e6c99d595ba900e6d397b6bd2bb758dea82fe468fe5", func := "loop.example/g00673/laws.FnExactExecIn", spec := "fnExactExecIn", unfollowed := true, recurses := true, apart := false, narrowed := true }
def FnExactExecInUptoSaid : Prop := fnExactExecInUptoRow.holds Tryz.pinned (OpenSpec.upto fnExactExecInSpec)

end Rows
end Go.Proofs.YtfffnioddgeohaaGreat
