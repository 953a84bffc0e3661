import Derived.Test.YtkfdpbhjklaecaaAeFz
import Derived.Test.YtkfdpbhjklaecaaAeEq
import Derived.Test.YtkfdpbhjklaecaaProg
import Derived.KernelRfl
namespace Go.AE.Try
def tyT : TypeId → Option TyD
  | 2 => some { size := 1, bytes := 8, agg := false, zero := [.int .i64 0], ik := some .i64 }
  | 3 => some { size := 1, bytes := 8, agg := false, zero := [.int .i64 0], ik := some .i64 }
  | 4 => some { size := 1, bytes := 1, agg := false, zero := [.bool false] }
  | 5 => some { size := 1, bytes := 1, agg := false, zero := [.int .u8 0], ik := some .u8 }
  | 7 => some { size := 4, bytes := 24, agg := true, zero := [.int .i64 0, .int .i64 0, .bool false, .int .u8 0], fields := [(0, 1, 2), (1, 1, 3), (2, 1, 4), (3, 1, 6)] }
  | 9 => some { size := 1, bytes := 16, agg := false, zero := [.str ⟨#[]⟩], isStr := true }
  | 12 => some { size := 1, bytes := 8, agg := false, zero := [.int .u64 0], ik := some .u64 }
  | 13 => some { size := 2, bytes := 24, agg := true, zero := [.str ⟨#[]⟩, .int .u64 0], fields := [(0, 1, 9), (1, 1, 12)] }
  | 18 => some { size := 1, bytes := 8, agg := true, zero := [.dead], fields := [(0, 1, 17)] }
  | 21 => some { size := 1, bytes := 4, agg := false, zero := [.int .i32 0], ik := some .i32 }
  | 22 => some { size := 5, bytes := 40, agg := true, zero := [.int .i64 0, .int .i64 0, .int .i64 0, .int .i64 0, .int .i64 0], fields := [(0, 1, 2), (1, 1, 2), (2, 1, 2), (3, 1, 2), (4, 1, 2)] }
  | 23 => some { size := 5, bytes := 40, agg := true, zero := [.int .i64 0, .int .i64 0, .int .i64 0, .int .i64 0, .int .i64 0], fields := [(0, 1, 2), (1, 1, 2), (2, 1, 2), (3, 1, 2), (4, 1, 2)] }
  | 25 => some { size := 5, bytes := 40, agg := true, zero := [.int .i64 0, .int .i64 0, .int .i64 0, .int .i64 0, .int .i64 0], fields := [(0, 1, 2), (1, 1, 2), (2, 1, 2), (3, 1, 2), (4, 1, 2)] }
  | 28 => some { size := 1, bytes := 24, agg := false, zero := [.nil], elem := some 5 }
  | 32 => some { size := 1, bytes := 8, agg := false, zero := [.int .u64 0], ik := some .u64 }
  | 34 => some { size := 1, bytes := 24, agg := false, zero := [.nil], elem := some 2 }
  | 35 => some { size := 1, bytes := 24, agg := false, zero := [.nil], elem := some 4 }
  | 36 => some { size := 2, bytes := 48, agg := true, zero := [.nil, .nil], fields := [(0, 1, 34), (1, 1, 35)] }
  | 37 => some { size := 2, bytes := 48, agg := true, zero := [.nil, .nil], fields := [(0, 1, 34), (1, 1, 35)] }
  | 38 => some { size := 1, bytes := 24, agg := false, zero := [.nil], elem := some 48 }
  | 39 => some { size := 3, bytes := 72, agg := true, zero := [.nil, .nil, .nil], fields := [(0, 2, 37), (2, 1, 38)] }
  | 40 => some { size := 3, bytes := 72, agg := true, zero := [.nil, .nil, .nil], fields := [(0, 2, 37), (2, 1, 38)] }
  | 43 => some { size := 1, bytes := 24, agg := false, zero := [.nil], elem := some 46 }
  | 45 => some { size := 2, bytes := 16, agg := true, zero := [.int .i64 0, .int .i64 0], fields := [(0, 1, 2), (1, 1, 2)] }
  | 46 => some { size := 2, bytes := 16, agg := true, zero := [.int .i64 0, .int .i64 0], fields := [(0, 1, 2), (1, 1, 2)] }
  | 47 => some { size := 5, bytes := 40, agg := true, zero := [.int .i64 0, .int .i64 0, .int .i64 0, .int .i64 0, .bool false], fields := [(0, 2, 46), (2, 1, 2), (3, 1, 2), (4, 1, 4)] }
  | 48 => some { size := 5, bytes := 40, agg := true, zero := [.int .i64 0, .int .i64 0, .int .i64 0, .int .i64 0, .bool false], fields := [(0, 2, 46), (2, 1, 2), (3, 1, 2), (4, 1, 4)] }
  | 56 => some { size := 2, bytes := 48, agg := true, zero := [.nil, .nil], fields := [(0, 1, 34), (1, 1, 35)] }
  | 57 => some { size := 1, bytes := 24, agg := false, zero := [.nil], elem := some 119 }
  | 58 => some { size := 3, bytes := 72, agg := true, zero := [.nil, .nil, .nil], fields := [(0, 2, 56), (2, 1, 57)] }
  | 59 => some { size := 3, bytes := 72, agg := true, zero := [.nil, .nil, .nil], fields := [(0, 2, 56), (2, 1, 57)] }
  | 69 => some { size := 3, bytes := 40, agg := true, zero := [.nil, .int .i64 0, .int .u64 0], fields := [(0, 1, 28), (1, 1, 3), (2, 1, 32)] }
  | 70 => some { size := 3, bytes := 40, agg := true, zero := [.nil, .int .i64 0, .int .u64 0], fields := [(0, 1, 28), (1, 1, 3), (2, 1, 32)] }
  | 71 => some { size := 1, bytes := 8, agg := false, zero := [.int .u64 0], ik := some .u64 }
  | 97 => some { size := 1, bytes := 24, agg := false, zero := [.nil], elem := some 3 }
  | 117 => some { size := 2, bytes := 16, agg := true, zero := [.int .i64 0, .int .i64 0], fields := [(0, 1, 2), (1, 1, 2)] }
  | 118 => some { size := 5, bytes := 40, agg := true, zero := [.int .i64 0, .int .i64 0, .int .i64 0, .int .i64 0, .bool false], fields := [(0, 2, 117), (2, 1, 2), (3, 1, 2), (4, 1, 4)] }
  | 119 => some { size := 5, bytes := 40, agg := true, zero := [.int .i64 0, .int .i64 0, .int .i64 0, .int .i64 0, .bool false], fields := [(0, 2, 117), (2, 1, 2), (3, 1, 2), (4, 1, 4)] }
  | 126 => some { size := 4, bytes := 40, agg := true, zero := [.dead, .dead, .dead, .str ⟨#[]⟩], fields := [(0, 1, 17), (1, 1, 17), (2, 1, 17), (3, 1, 9)] }
  | 129 => some { size := 0, bytes := 0, agg := true, zero := [], fields := [(0, 0, 128)] }
  | 132 => some { size := 1, bytes := 4, agg := false, zero := [.int .u32 0], ik := some .u32 }
  | 139 => some { size := 11, bytes := 48, agg := true, zero := [.int .u64 0, .int .u64 0, .int .u32 0, .int .u8 0, .int .u8 0, .int .u8 0, .int .u8 0, .dead, .dead, .int .i32 0, .int .i32 0], fields := [(0, 1, 12), (1, 1, 12), (2, 1, 132), (3, 1, 133), (4, 1, 5), (5, 1, 5), (6, 1, 134), (7, 1, 135), (8, 1, 136), (9, 1, 137), (10, 1, 138)] }
  | 141 => some { size := 1, bytes := 8, agg := false, zero := [.dead] }
  | _ => none
def eqT : TypeId → AV → AV → Option Bool
  | 4, .bool a, .bool b => some (a == b)
  | _, _, _ => none
noncomputable def ctx : Ctx := { P := Go.Proofs.Try.prog, ty := tyT, eqA := eqT }
theorem tys : ∀ t d, tyT t = some d → tyOk Go.Proofs.Try.prog t d = true := by
  intro t d h
  unfold tyT at h
  split at h <;> first | (cases h; kernel_rfl) | cases h
@[simp] theorem ty2 : ctx.ty 2 = some { size := 1, bytes := 8, agg := false, zero := [.int .i64 0], ik := some .i64 } := rfl
@[simp] theorem ty3 : ctx.ty 3 = some { size := 1, bytes := 8, agg := false, zero := [.int .i64 0], ik := some .i64 } := rfl
@[simp] theorem ty4 : ctx.ty 4 = some { size := 1, bytes := 1, agg := false, zero := [.bool false] } := rfl
@[simp] theorem ty5 : ctx.ty 5 = some { size := 1, bytes := 1, agg := false, zero := [.int .u8 0], ik := some .u8 } := rfl
@[simp] theorem ty7 : ctx.ty 7 = some { size := 4, bytes := 24, agg := true, zero := [.int .i64 0, .int .i64 0, .bool false, .int .u8 0], fields := [(0, 1, 2), (1, 1, 3), (2, 1, 4), (3, 1, 6)] } := rfl
@[simp] theorem ty9 : ctx.ty 9 = some { size := 1, bytes := 16, agg := false, zero := [.str ⟨#[]⟩], isStr := true } := rfl
@[simp] theorem ty12 : ctx.ty 12 = some { size := 1, bytes := 8, agg := false, zero := [.int .u64 0], ik := some .u64 } := rfl
@[simp] theorem ty13 : ctx.ty 13 = some { size := 2, bytes := 24, agg := true, zero := [.str ⟨#[]⟩, .int .u64 0], fields := [(0, 1, 9), (1, 1, 12)] } := rfl
@[simp] theorem ty18 : ctx.ty 18 = some { size := 1, bytes := 8, agg := true, zero := [.dead], fields := [(0, 1, 17)] } := rfl
@[simp] theorem ty21 : ctx.ty 21 = some { size := 1, bytes := 4, agg := false, zero := [.int .i32 0], ik := some .i32 } := rfl
@[simp] theorem ty22 : ctx.ty 22 = some { size := 5, bytes := 40, agg := true, zero := [.int .i64 0, .int .i64 0, .int .i64 0, .int .i64 0, .int .i64 0], fields := [(0, 1, 2), (1, 1, 2), (2, 1, 2), (3, 1, 2), (4, 1, 2)] } := rfl
@[simp] theorem ty23 : ctx.ty 23 = some { size := 5, bytes := 40, agg := true, zero := [.int .i64 0, .int .i64 0, .int .i64 0, .int .i64 0, .int .i64 0], fields := [(0, 1, 2), (1, 1, 2), (2, 1, 2), (3, 1, 2), (4, 1, 2)] } := rfl
@[simp] theorem ty25 : ctx.ty 25 = some { size := 5, bytes := 40, agg := true, zero := [.int .i64 0, .int .i64 0, .int .i64 0, .int .i64 0, .int .i64 0], fields := [(0, 1, 2), (1, 1, 2), (2, 1, 2), (3, 1, 2), (4, 1, 2)] } := rfl
@[simp] theorem ty28 : ctx.ty 28 = some { size := 1, bytes := 24, agg := false, zero := [.nil], elem := some 5 } := rfl
@[simp] theorem ty32 : ctx.ty 32 = some { size := 1, bytes := 8, agg := false, zero := [.int .u64 0], ik := some .u64 } := rfl
@[simp] theorem ty34 : ctx.ty 34 = some { size := 1, bytes := 24, agg := false, zero := [.nil], elem := some 2 } := rfl
@[simp] theorem ty35 : ctx.ty 35 = some { size := 1, bytes := 24, agg := false, zero := [.nil], elem := some 4 } := rfl
@[simp] theorem ty36 : ctx.ty 36 = some { size := 2, bytes := 48, agg := true, zero := [.nil, .nil], fields := [(0, 1, 34), (1, 1, 35)] } := rfl
@[simp] theorem ty37 : ctx.ty 37 = some { size := 2, bytes := 48, agg := true, zero := [.nil, .nil], fields := [(0, 1, 34), (1, 1, 35)] } := rfl
@[simp] theorem ty38 : ctx.ty 38 = some { size := 1, bytes := 24, agg := false, zero := [.nil], elem := some 48 } := rfl
@[simp] theorem ty39 : ctx.ty 39 = some { size := 3, bytes := 72, agg := true, zero := [.nil, .nil, .nil], fields := [(0, 2, 37), (2, 1, 38)] } := rfl
@[simp] theorem ty40 : ctx.ty 40 = some { size := 3, bytes := 72, agg := true, zero := [.nil, .nil, .nil], fields := [(0, 2, 37), (2, 1, 38)] } := rfl
@[simp] theorem ty43 : ctx.ty 43 = some { size := 1, bytes := 24, agg := false, zero := [.nil], elem := some 46 } := rfl
@[simp] theorem ty45 : ctx.ty 45 = some { size := 2, bytes := 16, agg := true, zero := [.int .i64 0, .int .i64 0], fields := [(0, 1, 2), (1, 1, 2)] } := rfl
@[simp] theorem ty46 : ctx.ty 46 = some { size := 2, bytes := 16, agg := true, zero := [.int .i64 0, .int .i64 0], fields := [(0, 1, 2), (1, 1, 2)] } := rfl
@[simp] theorem ty47 : ctx.ty 47 = some { size := 5, bytes := 40, agg := true, zero := [.int .i64 0, .int .i64 0, .int .i64 0, .int .i64 0, .bool false], fields := [(0, 2, 46), (2, 1, 2), (3, 1, 2), (4, 1, 4)] } := rfl
@[simp] theorem ty48 : ctx.ty 48 = some { size := 5, bytes := 40, agg := true, zero := [.int .i64 0, .int .i64 0, .int .i64 0, .int .i64 0, .bool false], fields := [(0, 2, 46), (2, 1, 2), (3, 1, 2), (4, 1, 4)] } := rfl
@[simp] theorem ty56 : ctx.ty 56 = some { size := 2, bytes := 48, agg := true, zero := [.nil, .nil], fields := [(0, 1, 34), (1, 1, 35)] } := rfl
@[simp] theorem ty57 : ctx.ty 57 = some { size := 1, bytes := 24, agg := false, zero := [.nil], elem := some 119 } := rfl
@[simp] theorem ty58 : ctx.ty 58 = some { size := 3, bytes := 72, agg := true, zero := [.nil, .nil, .nil], fields := [(0, 2, 56), (2, 1, 57)] } := rfl
@[simp] theorem ty59 : ctx.ty 59 = some { size := 3, bytes := 72, agg := true, zero := [.nil, .nil, .nil], fields := [(0, 2, 56), (2, 1, 57)] } := rfl
@[simp] theorem ty69 : ctx.ty 69 = some { size := 3, bytes := 40, agg := true, zero := [.nil, .int .i64 0, .int .u64 0], fields := [(0, 1, 28), (1, 1, 3), (2, 1, 32)] } := rfl
@[simp] theorem ty70 : ctx.ty 70 = some { size := 3, bytes := 40, agg := true, zero := [.nil, .int .i64 0, .int .u64 0], fields := [(0, 1, 28), (1, 1, 3), (2, 1, 32)] } := rfl
@[simp] theorem ty71 : ctx.ty 71 = some { size := 1, bytes := 8, agg := false, zero := [.int .u64 0], ik := some .u64 } := rfl
@[simp] theorem ty97 : ctx.ty 97 = some { size := 1, bytes := 24, agg := false, zero := [.nil], elem := some 3 } := rfl
@[simp] theorem ty117 : ctx.ty 117 = some { size := 2, bytes := 16, agg := true, zero := [.int .i64 0, .int .i64 0], fields := [(0, 1, 2), (1, 1, 2)] } := rfl
@[simp] theorem ty118 : ctx.ty 118 = some { size := 5, bytes := 40, agg := true, zero := [.int .i64 0, .int .i64 0, .int .i64 0, .int .i64 0, .bool false], fields := [(0, 2, 117), (2, 1, 2), (3, 1, 2), (4, 1, 4)] } := rfl
@[simp] theorem ty119 : ctx.ty 119 = some { size := 5, bytes := 40, agg := true, zero := [.int .i64 0, .int .i64 0, .int .i64 0, .int .i64 0, .bool false], fields := [(0, 2, 117), (2, 1, 2), (3, 1, 2), (4, 1, 4)] } := rfl
@[simp] theorem ty126 : ctx.ty 126 = some { size := 4, bytes := 40, agg := true, zero := [.dead, .dead, .dead, .str ⟨#[]⟩], fields := [(0, 1, 17), (1, 1, 17), (2, 1, 17), (3, 1, 9)] } := rfl
@[simp] theorem ty129 : ctx.ty 129 = some { size := 0, bytes := 0, agg := true, zero := [], fields := [(0, 0, 128)] } := rfl
@[simp] theorem ty132 : ctx.ty 132 = some { size := 1, bytes := 4, agg := false, zero := [.int .u32 0], ik := some .u32 } := rfl
@[simp] theorem ty139 : ctx.ty 139 = some { size := 11, bytes := 48, agg := true, zero := [.int .u64 0, .int .u64 0, .int .u32 0, .int .u8 0, .int .u8 0, .int .u8 0, .int .u8 0, .dead, .dead, .int .i32 0, .int .i32 0], fields := [(0, 1, 12), (1, 1, 12), (2, 1, 132), (3, 1, 133), (4, 1, 5), (5, 1, 5), (6, 1, 134), (7, 1, 135), (8, 1, 136), (9, 1, 137), (10, 1, 138)] } := rfl
@[simp] theorem ty141 : ctx.ty 141 = some { size := 1, bytes := 8, agg := false, zero := [.dead] } := rfl
@[simp] theorem el28 : elemOf ctx 28 = some { size := 1, bytes := 1, agg := false, zero := [.int .u8 0], ik := some .u8 } := rfl
@[simp] theorem el34 : elemOf ctx 34 = some { size := 1, bytes := 8, agg := false, zero := [.int .i64 0], ik := some .i64 } := rfl
@[simp] theorem el35 : elemOf ctx 35 = some { size := 1, bytes := 1, agg := false, zero := [.bool false] } := rfl
@[simp] theorem el38 : elemOf ctx 38 = some { size := 5, bytes := 40, agg := true, zero := [.int .i64 0, .int .i64 0, .int .i64 0, .int .i64 0, .bool false], fields := [(0, 2, 46), (2, 1, 2), (3, 1, 2), (4, 1, 4)] } := rfl
@[simp] theorem el43 : elemOf ctx 43 = some { size := 2, bytes := 16, agg := true, zero := [.int .i64 0, .int .i64 0], fields := [(0, 1, 2), (1, 1, 2)] } := rfl
@[simp] theorem el57 : elemOf ctx 57 = some { size := 5, bytes := 40, agg := true, zero := [.int .i64 0, .int .i64 0, .int .i64 0, .int .i64 0, .bool false], fields := [(0, 2, 117), (2, 1, 2), (3, 1, 2), (4, 1, 4)] } := rfl
@[simp] theorem el97 : elemOf ctx 97 = some { size := 1, bytes := 8, agg := false, zero := [.int .i64 0], ik := some .i64 } := rfl

@[simp] theorem eq4 (a b) : ctx.eqA 4 (.bool a) (.bool b) = some (a == b) := rfl
theorem okC : ctx.Ok where
  tys := tys
  eqs := by
    intro t x y b h
    change eqT t x y = some b at h
    unfold eqT at h
    split at h
    · cases h; exact eq_bool (by kernel_rfl)
    · cases h

end Go.AE.Try
