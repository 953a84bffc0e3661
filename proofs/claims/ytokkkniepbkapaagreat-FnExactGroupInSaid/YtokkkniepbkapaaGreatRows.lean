/-
  No cell of these rows narrows 'for every input' (looked for: loops, veiled, ifaces, maps, wideKeys, modest, calm, conditions, laid).
  DERIVED. THE GIVEN ROWS OF THIS SEAT. 5 by the template 'for every input the law returns true; each argument reads behind the call as it read before'; 0 by the template 'total and deterministic' (their statements: YtokkkniepbkapaaGreatTotals.lean).
  GIVEN WITH THE SEED: the statements are not yours to turn. If you find one false, say at which input.
  Laid BY PROGRAM, IN A SANDBOX (cutbox-rows.mjs): the forced cells as the released guide's own fill.sh prints them over the translation 867223786961f5c0… (all of the seat's roots in one cut). By AI agents, Wed Nov 11 2026. No macro, syntax, notation, axiom, sorry.
-/
import Derived.Test.YtokkkniepbkapaaGreatChecked
import GoSem.Claim
import GoSem.ClaimJoined
import GoSem.ClaimMapViews
import Derived.JoinedTies
import Derived.KernelRfl
namespace Go.Proofs.YtokkkniepbkapaaGreat
/- THE CELL 'sum', in the pinned program and in every row, IS THE sha256 OF THE DUMP (.gsa) THAT YtokkkniepbkapaaGreatProg.lean LOADS. Nothing in Lean hashes anything: it is a label: what it is worth is what the hold of that sum in a sandbox is worth. -/
noncomputable def Tryz.pinned : Pinned := { name := "ytokkkniepbkapaagreat", sum := "867223786961f5c0e5a9fbb75196e04e72cfae0f50ea34f6c61858aed9656d07", checked := Tryz.checked }
namespace Rows
def none {H : Type} : Left H := { results := [], args := [] }

/-- 'laws.FnExactResetIn': WHATEVER THE INPUT: true; the input reads as it did. -/
def fnExactResetInSpec : ChangeSpec := { name := "fnExactResetIn", fn := fun _ => fun
  | [d1, d2, d3] => { results := [.lit (.bool true)], args := [d1, d2, d3] }
  | _ => none }
def fnExactResetInRow : OpenClaim := { program := "ytokkkniepbkapaagreat", sum := "867223786961f5c0e5a9fbb75196e04e72cfae0f50ea34f6c61858aed9656d07", func := "loop.example/g00673/laws.FnExactResetIn", spec := "fnExactResetIn", unfollowed := true, recurses := true, apart := false }
def FnExactResetInSaid : Prop := fnExactResetInRow.holds Tryz.pinned (OpenSpec.ofChange fnExactResetInSpec)

/-- ITS FALSE NEIGHBOUR: 'it returns false'. Refute it at one input. -/
def fnExactResetInWrong : ChangeSpec := { name := "fnExactResetIn", fn := fun _ => fun
  | [d1, d2, d3] => { results := [.lit (.bool false)], args := [d1, d2, d3] }
  | _ => none }
def FnExactResetInWrongFalsely : Prop := fnExactResetInRow.holds Tryz.pinned (OpenSpec.ofChange fnExactResetInWrong)

/-- 'laws.FnExactNodeIn': WHATEVER THE INPUT: true; the input reads as it did. -/
def fnExactNodeInSpec : ChangeSpec := { name := "fnExactNodeIn", fn := fun _ => fun
  | [d1, d2, d3, d4, d5] => { results := [.lit (.bool true)], args := [d1, d2, d3, d4, d5] }
  | _ => none }
def fnExactNodeInRow : OpenClaim := { program := "ytokkkniepbkapaagreat", sum := "867223786961f5c0e5a9fbb75196e04e72cfae0f50ea34f6c61858aed9656d07", func := "loop.example/g00673/laws.FnExactNodeIn", spec := "fnExactNodeIn", unfollowed := true, recurses := true, apart := false }
def FnExactNodeInSaid : Prop := fnExactNodeInRow.holds Tryz.pinned (OpenSpec.ofChange fnExactNodeInSpec)

/-- ITS FALSE NEIGHBOUR: 'it returns false'. Refute it at one input. -/
def fnExactNodeInWrong : ChangeSpec := { name := "fnExactNodeIn", fn := fun _ => fun
  | [d1, d2, d3, d4, d5] => { results := [.lit (.bool false)], args := [d1, d2, d3, d4, d5] }
  | _ => none }
def FnExactNodeInWrongFalsely : Prop := fnExactNodeInRow.holds Tryz.pinned (OpenSpec.ofChange fnExactNodeInWrong)

/-- 'laws.FnExactGroupIn': WHATEVER THE INPUT: true; the input reads as it did. -/
def fnExactGroupInSpec : ChangeSpec := { name := "fnExactGroupIn", fn := fun _ => fun
  | [d1, d2, d3] => { results := [.lit (.bool true)], args := [d1, d2, d3] }
  | _ => none }
def fnExactGroupInRow : OpenClaim := { program := "ytokkkniepbkapaagreat", sum := "867223786961f5c0e5a9fbb75196e04e72cfae0f50ea34f6c61858aed9656d07", func := "loop.example/g00673/laws.FnExactGroupIn", spec := "fnExactGroupIn", unfollowed := true, recurses := true, apart := false }
def FnExactGroupInSaid : Prop := fnExactGroupInRow.holds Tryz.pinned (OpenSpec.ofChange fnExactGroupInSpec)

/-- ITS FALSE NEIGHBOUR: 'it returns false'. Refute it at one input. -/
def fnExactGroupInWrong : ChangeSpec := { name := "fnExactGroupIn", fn := fun _ => fun
  | [d1, d2, d3] => { results := [.lit (.bool false)], args := [d1, d2, d3] }
  | _ => none }
def FnExactGroupInWrongFalsely : Prop := fnExactGroupInRow.holds Tryz.pinned (OpenSpec.ofChange fnExactGroupInWrong)

/-- 'laws.FnExactDrainIn': WHATEVER THE INPUT: true; the input reads as it did. -/
def fnExactDrainInSpec : ChangeSpec := { name := "fnExactDrainIn", fn := fun _ => fun
  | [d] => { results := [.lit (.bool true)], args := [d] }
  | _ => none }
def fnExactDrainInRow : OpenClaim := { program := "ytokkkniepbkapaagreat", sum := "867223786961f5c0e5a9fbb75196e04e72cfae0f50ea34f6c61858aed9656d07", func := "loop.example/g00673/laws.FnExactDrainIn", spec := "fnExactDrainIn", unfollowed := true, recurses := true, apart := false }
def FnExactDrainInSaid : Prop := fnExactDrainInRow.holds Tryz.pinned (OpenSpec.ofChange fnExactDrainInSpec)

/-- ITS FALSE NEIGHBOUR: 'it returns false'. Refute it at one input. -/
def fnExactDrainInWrong : ChangeSpec := { name := "fnExactDrainIn", fn := fun _ => fun
  | [d] => { results := [.lit (.bool false)], args := [d] }
  | _ => none }
def FnExactDrainInWrongFalsely : Prop := fnExactDrainInRow.holds Tryz.pinned (OpenSpec.ofChange fnExactDrainInWrong)

/-- 'laws.FnExactTellIn': WHATEVER THE INPUT: true; the input reads as it did. -/
def fnExactTellInSpec : ChangeSpec := { name := "fnExactTellIn", fn := fun _ => fun
  | [d] => { results := [.lit (.bool true)], args := [d] }
  | _ => none }
def fnExactTellInRow : OpenClaim := { program := "ytokkkniepbkapaagreat", sum := "867223786961f5c0e5a9fbb75196e04e72cfae0f50ea34f6c61858aed9656d07", func := "loop.example/g00673/laws.FnExactTellIn", spec := "fnExactTellIn", unfollowed := true, recurses := true, apart := false }
def FnExactTellInSaid : Prop := fnExactTellInRow.holds Tryz.pinned (OpenSpec.ofChange fnExactTellInSpec)

/-- ITS FALSE NEIGHBOUR: 'it returns false'. Refute it at one input. -/
def fnExactTellInWrong : ChangeSpec := { name := "fnExactTellIn", fn := fun _ => fun
  | [d] => { results := [.lit (.bool false)], args := [d] }
  | _ => none }
def FnExactTellInWrongFalsely : Prop := fnExactTellInRow.holds Tryz.pinned (OpenSpec.ofChange fnExactTellInWrong)

/- THE SECOND FORM. 'bulk': how many values and letters a reading holds, each counted each time it is reached (what is shared counts as often as it is met; a slice's spare places count too). A statement '..UptoSaid' is the law's where the arguments, and the package variables that the reading takes, are together of bulk at most 1048576: NARROWER than '..Said'. Prove '..Said' where nothing that the law and all that it calls make is longer than what came in: it says more and counts as full. Else prove '..UptoSaid'. A law counts once. -/
mutual
def uptoBulk {H : Type} : DataW H → Nat
  | .lit (.string bytes) => bytes.length + 1
  | .lit _ => 1
  | .nil => 1
  | .ptr d => uptoBulk d + 1
  | .slice elems spare => uptoBulkAll elems + uptoBulkAll spare + 1
  | .agg parts => uptoBulkAll parts + 1
  | .iface _ d => uptoBulk d + 1
  | .map entries => uptoBulkEntries entries + 1
  | .held _ => 1
def uptoBulkAll {H : Type} : List (DataW H) → Nat
  | [] => 0
  | d :: r => uptoBulk d + uptoBulkAll r
def uptoBulkEntries {H : Type} : List (Lit × DataW H) → Nat
  | [] => 0
  | x :: r => uptoBulkEntry x + uptoBulkEntries r
def uptoBulkEntry {H : Type} : Lit × DataW H → Nat
  | (.string bytes, d) => bytes.length + uptoBulk d + 1
  | (_, d) => uptoBulk d + 1
 end
def uptoSmall : (H : Type) → List (DataW H) → Bool := fun _ ds => decide (uptoBulkAll ds ≤ 1048576)
def OpenSpec.upto (s : _root_.Go.ChangeSpec) : _root_.Go.OpenSpec := { _root_.Go.OpenSpec.ofChange s with cond := some uptoSmall }

/-- 'laws.FnExactResetIn', WHERE WHAT IT READS IS OF BULK AT MOST 1048576: true; the input reads as it did. -/
def fnExactResetInUptoRow : OpenClaim := { program := "ytokkkniepbkapaagreat", sum := "867223786961f5c0e5a9fbb75196e04e72cfae0f50ea34f6c61858aed9656d07", func := "loop.example/g00673/laws.FnExactResetIn", spec := "fnExactResetIn", unfollowed := true, recurses := true, apart := false, narrowed := true }
def FnExactResetInUptoSaid : Prop := fnExactResetInUptoRow.holds Tryz.pinned (OpenSpec.upto fnExactResetInSpec)

/-- 'laws.FnExactNodeIn', WHERE WHAT IT READS IS OF BULK AT MOST 1048576: true; the input reads as it did. -/
def fnExactNodeInUptoRow : OpenClaim := { program := "ytokkkniepbkapaagreat", sum := "867223786961f5c0e5a9fbb75196e04e72cfae0f50ea34f6c61858aed9656d07", func := "loop.example/g00673/laws.FnExactNodeIn", spec := "fnExactNodeIn", unfollowed := true, recurses := true, apart := false, narrowed := true }
def FnExactNodeInUptoSaid : Prop := fnExactNodeInUptoRow.holds Tryz.pinned (OpenSpec.upto fnExactNodeInSpec)

/-- 'laws.FnExactGroupIn', WHERE WHAT IT READS IS OF BULK AT MOST 1048576: true; the input reads as it did. -/
def fnExactGroupInUptoRow : OpenClaim := { program := "ytokkkniepbkapaagreat", sum := "867223786961f5c0e5a9fbb75196e04e72cfae0f50ea34f6c61858aed9656d07", func := "loop.example/g00673/laws.FnExactGroupIn", spec := "fnExactGroupIn", unfollowed := true, recurses := true, apart := false, narrowed := true }
def FnExactGroupInUptoSaid : Prop := fnExactGroupInUptoRow.holds Tryz.pinned (OpenSpec.upto fnExactGroupInSpec)

/-- 'laws.FnExactDrainIn', WHERE WHAT IT READS IS OF BULK AT MOST 1048576: true; the input reads as it did. -/
def fnExactDrainInUptoRow : OpenClaim := { program := "ytokkkniepbkapaagreat", sum := "867223786961f5c0e5a9fbb75196e04e72cfae0f50ea34f6c61858aed9656d07", func := "loop.example/g00673/laws.FnExactDrainIn", spec := "fnExactDrainIn", unfollowed := true, recurses := true, apart := false, narrowed := true }
def FnExactDrainInUptoSaid : Prop := fnExactDrainInUptoRow.holds Tryz.pinned (OpenSpec.upto fnExactDrainInSpec)

/-- 'laws.FnExactTellIn', WHERE WHAT IT READS IS OF BULK AT MOST 1048576: true; the input reads as it did. -/
def fnExactTellInUptoRow : OpenClaim := { program := "ytokkkniepbkapaagreat", sum := "867223786961f5c0e5a9fbb75196e04e72cfae0f50ea34f6c61858aed9656d07", func := "loop.example/g00673/laws.FnExactTellIn", spec := "fnExactTellIn", unfollowed := true, recurses := true, apart := false, narrowed := true }
def FnExactTellInUptoSaid : Prop := fnExactTellInUptoRow.holds Tryz.pinned (OpenSpec.upto fnExactTellInSpec)

end Rows
end Go.Proofs.YtokkkniepbkapaaGreat
