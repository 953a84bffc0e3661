/- Abstract machine: comparing. -/
import Derived.Test.YtkfdpbhjklaecaaAeSound1
import Derived.Laws.Small
import Derived.Laws.Entries
namespace Go.AE
theorem eq_bool {P : Program} {t : TypeId} {a b : Bool} (h : P.underlying t = some .bool) (ρ : Names) (I : Imm) (w : World) (xv yv : Value) (hx : VR ρ I w (.bool a) xv) (hy : VR ρ I w (.bool b) yv) (xo yo : Operand) (W : World) :
    (do eqGuard .eql t xo yo xv yv; Go.binOp .eql t xv yv : Sem Value).run P W = .ok (.bool (a == b)) W ∧
    (do eqGuard .neq t xo yo xv yv; Go.binOp .neq t xv yv : Sem Value).run P W = .ok (.bool (!(a == b))) W := by
  cases hx; cases hy
  constructor
  · rw [eqGuard_at_bool]; exact run_eql_bool _ t a b h
  · rw [eqGuard_at_bool]; exact run_neq_bool _ t a b h
end Go.AE
