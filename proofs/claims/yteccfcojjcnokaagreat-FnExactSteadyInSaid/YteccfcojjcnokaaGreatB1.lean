/- Contracts of the seat's functions: what each answers, for all arguments. -/
import Derived.Test.YteccfcojjcnokaaGreatA3
import Derived.Test.YteccfcojjcnokaaGreatA2
import Derived.Test.YteccfcojjcnokaaGreatA1
import Derived.Test.YteccfcojjcnokaaGreatProg
import Derived.KernelRfl
set_option linter.unusedVariables false
set_option linter.unusedSimpArgs false
set_option linter.deprecated false
section
/- The seat's types, for the abstract machine. -/
namespace Go.AE.Tryz
open Go.Proofs
def tyL : List (TypeId × TyD) := [
  (1, { size := 1, bytes := 8, agg := false, zero := [.dead] }),
  (2, { size := 1, bytes := 8, agg := false, zero := [.int .i64 0], ik := some .i64 }),
  (3, { size := 1, bytes := 8, agg := false, zero := [.int .i64 0], ik := some .i64 }),
  (4, { size := 1, bytes := 1, agg := false, zero := [.bool false] }),
  (5, { size := 1, bytes := 1, agg := false, zero := [.int .u8 0], ik := some .u8 }),
  (7, { size := 4, bytes := 24, agg := true, zero := [.int .i64 0, .int .i64 0, .bool false, .int .u8 0], fields := [(0, 1, 2), (1, 1, 3), (2, 1, 4), (3, 1, 6)] }),
  (9, { size := 1, bytes := 16, agg := false, zero := [.str ⟨#[]⟩], isStr := true }),
  (12, { size := 1, bytes := 8, agg := false, zero := [.int .u64 0], ik := some .u64 }),
  (28, { size := 1, bytes := 24, agg := false, zero := [.nil], elem := some 2 }),
  (30, { size := 3, bytes := 24, agg := true, zero := [.int .i64 0, .int .i64 0, .int .i64 0], fields := [(0, 1, 2), (1, 1, 2), (2, 1, 2)] }),
  (31, { size := 1, bytes := 24, agg := false, zero := [.nil], elem := some 30 }),
  (32, { size := 1, bytes := 24, agg := false, zero := [.nil], elem := some 31 }),
  (33, { size := 1, bytes := 24, agg := false, zero := [.nil], elem := some 104 }),
  (34, { size := 1, bytes := 24, agg := false, zero := [.nil], elem := some 63 }),
  (35, { size := 1, bytes := 24, agg := false, zero := [.nil], elem := some 4 }),
  (37, { size := 2, bytes := 48, agg := true, zero := [.nil, .nil], fields := [(0, 1, 35), (1, 1, 28)] }),
  (38, { size := 1, bytes := 24, agg := false, zero := [.nil], elem := some 297 }),
  (39, { size := 1, bytes := 24, agg := false, zero := [.nil], elem := some 195 }),
  (41, { size := 3, bytes := 56, agg := true, zero := [.nil, .nil, .int .i64 0], fields := [(0, 1, 38), (1, 1, 39), (2, 1, 2)] }),
  (43, { size := 2, bytes := 48, agg := true, zero := [.nil, .nil], fields := [(0, 1, 28), (1, 1, 35)] }),
  (44, { size := 1, bytes := 24, agg := false, zero := [.nil], elem := some 202 }),
  (46, { size := 3, bytes := 72, agg := true, zero := [.nil, .nil, .nil], fields := [(0, 2, 43), (2, 1, 44)] }),
  (47, { size := 1, bytes := 24, agg := false, zero := [.nil], elem := some 61 }),
  (48, { size := 1, bytes := 24, agg := false, zero := [.nil], elem := some 59 }),
  (49, { size := 1, bytes := 24, agg := false, zero := [.nil], elem := some 135 }),
  (51, { size := 17, bytes := 376, agg := true, zero := [.int .i64 0, .nil, .nil, .nil, .nil, .nil, .nil, .nil, .int .i64 0, .nil, .nil, .nil, .nil, .nil, .nil, .nil, .nil], fields := [(0, 1, 2), (1, 1, 32), (2, 1, 33), (3, 1, 34), (4, 2, 37), (6, 3, 41), (9, 3, 46), (12, 1, 47), (13, 1, 48), (14, 1, 49), (15, 1, 28), (16, 1, 28)] }),
  (59, { size := 5, bytes := 56, agg := true, zero := [.int .i64 0, .int .i64 0, .int .i64 0, .nil, .int .i64 0], fields := [(0, 1, 2), (1, 1, 2), (2, 1, 2), (3, 1, 28), (4, 1, 2)] }),
  (60, { size := 9, bytes := 72, agg := true, zero := [.int .i64 0, .int .i64 0, .int .i64 0, .int .i64 0, .int .i64 0, .int .i64 0, .int .i64 0, .int .i64 0, .int .i64 0], fields := [(0, 1, 2), (1, 1, 2), (2, 1, 2), (3, 1, 2), (4, 1, 2), (5, 1, 2), (6, 1, 2), (7, 1, 2), (8, 1, 2)] }),
  (61, { size := 9, bytes := 72, agg := true, zero := [.int .i64 0, .int .i64 0, .int .i64 0, .int .i64 0, .int .i64 0, .int .i64 0, .int .i64 0, .int .i64 0, .int .i64 0], fields := [(0, 1, 2), (1, 1, 2), (2, 1, 2), (3, 1, 2), (4, 1, 2), (5, 1, 2), (6, 1, 2), (7, 1, 2), (8, 1, 2)] }),
  (63, { size := 4, bytes := 32, agg := true, zero := [.int .i64 0, .int .i64 0, .int .i64 0, .int .i64 0], fields := [(0, 1, 2), (1, 1, 2), (2, 1, 2), (3, 1, 2)] }),
  (67, { size := 1, bytes := 24, agg := false, zero := [.nil], elem := some 232 }),
  (68, { size := 1, bytes := 24, agg := false, zero := [.nil], elem := some 244 }),
  (69, { size := 1, bytes := 24, agg := false, zero := [.nil], elem := some 246 }),
  (70, { size := 2, bytes := 48, agg := true, zero := [.nil, .nil], fields := [(0, 1, 35), (1, 1, 28)] }),
  (71, { size := 1, bytes := 24, agg := false, zero := [.nil], elem := some 321 }),
  (72, { size := 1, bytes := 24, agg := false, zero := [.nil], elem := some 323 }),
  (74, { size := 3, bytes := 56, agg := true, zero := [.nil, .nil, .int .i64 0], fields := [(0, 1, 71), (1, 1, 72), (2, 1, 2)] }),
  (75, { size := 2, bytes := 48, agg := true, zero := [.nil, .nil], fields := [(0, 1, 28), (1, 1, 35)] }),
  (76, { size := 1, bytes := 24, agg := false, zero := [.nil], elem := some 327 }),
  (78, { size := 3, bytes := 72, agg := true, zero := [.nil, .nil, .nil], fields := [(0, 2, 75), (2, 1, 76)] }),
  (79, { size := 1, bytes := 24, agg := false, zero := [.nil], elem := some 253 }),
  (80, { size := 1, bytes := 24, agg := false, zero := [.nil], elem := some 239 }),
  (81, { size := 1, bytes := 24, agg := false, zero := [.nil], elem := some 256 }),
  (83, { size := 17, bytes := 376, agg := true, zero := [.int .i64 0, .nil, .nil, .nil, .nil, .nil, .nil, .nil, .int .i64 0, .nil, .nil, .nil, .nil, .nil, .nil, .nil, .nil], fields := [(0, 1, 2), (1, 1, 67), (2, 1, 68), (3, 1, 69), (4, 2, 70), (6, 3, 74), (9, 3, 78), (12, 1, 79), (13, 1, 80), (14, 1, 81), (15, 1, 28), (16, 1, 28)] }),
  (104, { size := 5, bytes := 40, agg := true, zero := [.int .i64 0, .int .i64 0, .int .i64 0, .int .i64 0, .int .i64 0], fields := [(0, 1, 2), (1, 1, 2), (2, 1, 2), (3, 1, 2), (4, 1, 2)] }),
  (114, { size := 1, bytes := 24, agg := false, zero := [.nil], elem := some 118 }),
  (118, { size := 2, bytes := 16, agg := true, zero := [.int .i64 0, .int .i64 0], fields := [(0, 1, 2), (1, 1, 2)] }),
  (135, { size := 4, bytes := 32, agg := true, zero := [.int .i64 0, .int .i64 0, .int .i64 0, .int .i64 0], fields := [(0, 1, 2), (1, 1, 2), (2, 1, 2), (3, 1, 2)] }),
  (174, { size := 1, bytes := 8, agg := false, zero := [.dead] }),
  (188, { size := 1, bytes := 8, agg := false, zero := [.dead] }),
  (191, { size := 1, bytes := 8, agg := false, zero := [.dead] }),
  (195, { size := 5, bytes := 40, agg := true, zero := [.int .i64 0, .int .i64 0, .int .i64 0, .int .i64 0, .bool false], fields := [(0, 1, 2), (1, 1, 2), (2, 1, 2), (3, 1, 2), (4, 1, 4)] }),
  (196, { size := 1, bytes := 8, agg := false, zero := [.dead] }),
  (200, { size := 2, bytes := 16, agg := true, zero := [.int .i64 0, .int .i64 0], fields := [(0, 1, 2), (1, 1, 2)] }),
  (202, { size := 5, bytes := 40, agg := true, zero := [.int .i64 0, .int .i64 0, .int .i64 0, .int .i64 0, .bool false], fields := [(0, 2, 200), (2, 1, 2), (3, 1, 2), (4, 1, 4)] }),
  (203, { size := 1, bytes := 8, agg := false, zero := [.dead] }),
  (206, { size := 1, bytes := 8, agg := false, zero := [.dead] }),
  (208, { size := 1, bytes := 8, agg := false, zero := [.dead] }),
  (210, { size := 1, bytes := 8, agg := false, zero := [.dead] }),
  (232, { size := 1, bytes := 24, agg := false, zero := [.nil], elem := some 319 }),
  (239, { size := 5, bytes := 56, agg := true, zero := [.int .i64 0, .int .i64 0, .int .i64 0, .nil, .int .i64 0], fields := [(0, 1, 2), (1, 1, 2), (2, 1, 2), (3, 1, 28), (4, 1, 2)] }),
  (240, { size := 1, bytes := 8, agg := false, zero := [.dead] }),
  (244, { size := 5, bytes := 40, agg := true, zero := [.int .i64 0, .int .i64 0, .int .i64 0, .int .i64 0, .int .i64 0], fields := [(0, 1, 2), (1, 1, 2), (2, 1, 2), (3, 1, 2), (4, 1, 2)] }),
  (246, { size := 4, bytes := 32, agg := true, zero := [.int .i64 0, .int .i64 0, .int .i64 0, .int .i64 0], fields := [(0, 1, 2), (1, 1, 2), (2, 1, 2), (3, 1, 2)] }),
  (253, { size := 9, bytes := 72, agg := true, zero := [.int .i64 0, .int .i64 0, .int .i64 0, .int .i64 0, .int .i64 0, .int .i64 0, .int .i64 0, .int .i64 0, .int .i64 0], fields := [(0, 1, 2), (1, 1, 2), (2, 1, 2), (3, 1, 2), (4, 1, 2), (5, 1, 2), (6, 1, 2), (7, 1, 2), (8, 1, 2)] }),
  (256, { size := 4, bytes := 32, agg := true, zero := [.int .i64 0, .int .i64 0, .int .i64 0, .int .i64 0], fields := [(0, 1, 2), (1, 1, 2), (2, 1, 2), (3, 1, 2)] }),
  (297, { size := 3, bytes := 24, agg := true, zero := [.int .i64 0, .int .i64 0, .int .i64 0], fields := [(0, 1, 2), (1, 1, 2), (2, 1, 2)] }),
  (299, { size := 1, bytes := 8, agg := false, zero := [.dead] }),
  (319, { size := 3, bytes := 24, agg := true, zero := [.int .i64 0, .int .i64 0, .int .i64 0], fields := [(0, 1, 2), (1, 1, 2), (2, 1, 2)] }),
  (321, { size := 3, bytes := 24, agg := true, zero := [.int .i64 0, .int .i64 0, .int .i64 0], fields := [(0, 1, 2), (1, 1, 2), (2, 1, 2)] }),
  (323, { size := 5, bytes := 40, agg := true, zero := [.int .i64 0, .int .i64 0, .int .i64 0, .int .i64 0, .bool false], fields := [(0, 1, 2), (1, 1, 2), (2, 1, 2), (3, 1, 2), (4, 1, 4)] }),
  (325, { size := 2, bytes := 16, agg := true, zero := [.int .i64 0, .int .i64 0], fields := [(0, 1, 2), (1, 1, 2)] }),
  (327, { size := 5, bytes := 40, agg := true, zero := [.int .i64 0, .int .i64 0, .int .i64 0, .int .i64 0, .bool false], fields := [(0, 2, 325), (2, 1, 2), (3, 1, 2), (4, 1, 4)] }),
  (387, { size := 1, bytes := 24, agg := false, zero := [.nil], elem := some 3 })]
def tyT (t : TypeId) : Option TyD := (tyL.find? fun p => p.1 == t).map (·.2)
def lvs : TypeId → Option (List Lf)
  | 63 => some [.i .i64, .i .i64, .i .i64, .i .i64]
  | 200 => some [.i .i64, .i .i64]
  | _ => none
def eqL (ls : Option (List Lf)) (xs ys : List AV) : Option Bool := match ls with | some ls => if xs.map lfOf = ls.map some ∧ ys.map lfOf = ls.map some then some (cellsEq xs ys) else none | none => none
def eqT : TypeId → AV → AV → Option Bool
  | 4, .bool a, .bool b => some (a == b)
  | t, .agg xs, .agg ys => eqL (lvs t) xs ys
  | _, _, _ => none
noncomputable def ctx0 : Ctx := { P := Go.Proofs.Tryz.prog, ty := tyT, eqA := fun _ _ _ => none }
noncomputable def ctx : Ctx := { P := Go.Proofs.Tryz.prog, ty := tyT, eqA := eqT }
theorem tys : ∀ t d, tyT t = some d → tyOk Go.Proofs.Tryz.prog t d = true := by
  have hall : (tyL.all fun p => tyOk Go.Proofs.Tryz.prog p.1 p.2) = true := by kernel_rfl
  intro t d h
  unfold tyT at h
  rw [Option.map_eq_some_iff] at h
  obtain ⟨p, h1, rfl⟩ := h
  have h2 := List.find?_some h1
  simp only [beq_iff_eq] at h2
  subst h2
  exact List.all_eq_true.1 hall p (List.mem_of_find?_eq_some h1)
theorem ok0 : ctx0.Ok where
  mix := by kernel_rfl
  tys := tys
  eqs := by intro t x y b h; cases h
@[simp] theorem ty1 : ctx.ty 1 = some { size := 1, bytes := 8, agg := false, zero := [.dead] } := by kernel_rfl
@[simp] theorem ty2 : ctx.ty 2 = some { size := 1, bytes := 8, agg := false, zero := [.int .i64 0], ik := some .i64 } := by kernel_rfl
@[simp] theorem ty3 : ctx.ty 3 = some { size := 1, bytes := 8, agg := false, zero := [.int .i64 0], ik := some .i64 } := by kernel_rfl
@[simp] theorem ty4 : ctx.ty 4 = some { size := 1, bytes := 1, agg := false, zero := [.bool false] } := by kernel_rfl
@[simp] theorem ty5 : ctx.ty 5 = some { size := 1, bytes := 1, agg := false, zero := [.int .u8 0], ik := some .u8 } := by kernel_rfl
@[simp] theorem ty7 : ctx.ty 7 = some { size := 4, bytes := 24, agg := true, zero := [.int .i64 0, .int .i64 0, .bool false, .int .u8 0], fields := [(0, 1, 2), (1, 1, 3), (2, 1, 4), (3, 1, 6)] } := by kernel_rfl
@[simp] theorem ty9 : ctx.ty 9 = some { size := 1, bytes := 16, agg := false, zero := [.str ⟨#[]⟩], isStr := true } := by kernel_rfl
@[simp] theorem ty12 : ctx.ty 12 = some { size := 1, bytes := 8, agg := false, zero := [.int .u64 0], ik := some .u64 } := by kernel_rfl
@[simp] theorem ty28 : ctx.ty 28 = some { size := 1, bytes := 24, agg := false, zero := [.nil], elem := some 2 } := by kernel_rfl
@[simp] theorem ty30 : ctx.ty 30 = some { size := 3, bytes := 24, agg := true, zero := [.int .i64 0, .int .i64 0, .int .i64 0], fields := [(0, 1, 2), (1, 1, 2), (2, 1, 2)] } := by kernel_rfl
@[simp] theorem ty31 : ctx.ty 31 = some { size := 1, bytes := 24, agg := false, zero := [.nil], elem := some 30 } := by kernel_rfl
@[simp] theorem ty32 : ctx.ty 32 = some { size := 1, bytes := 24, agg := false, zero := [.nil], elem := some 31 } := by kernel_rfl
@[simp] theorem ty33 : ctx.ty 33 = some { size := 1, bytes := 24, agg := false, zero := [.nil], elem := some 104 } := by kernel_rfl
@[simp] theorem ty34 : ctx.ty 34 = some { size := 1, bytes := 24, agg := false, zero := [.nil], elem := some 63 } := by kernel_rfl
@[simp] theorem ty35 : ctx.ty 35 = some { size := 1, bytes := 24, agg := false, zero := [.nil], elem := some 4 } := by kernel_rfl
@[simp] theorem ty37 : ctx.ty 37 = some { size := 2, bytes := 48, agg := true, zero := [.nil, .nil], fields := [(0, 1, 35), (1, 1, 28)] } := by kernel_rfl
@[simp] theorem ty38 : ctx.ty 38 = some { size := 1, bytes := 24, agg := false, zero := [.nil], elem := some 297 } := by kernel_rfl
@[simp] theorem ty39 : ctx.ty 39 = some { size := 1, bytes := 24, agg := false, zero := [.nil], elem := some 195 } := by kernel_rfl
@[simp] theorem ty41 : ctx.ty 41 = some { size := 3, bytes := 56, agg := true, zero := [.nil, .nil, .int .i64 0], fields := [(0, 1, 38), (1, 1, 39), (2, 1, 2)] } := by kernel_rfl
@[simp] theorem ty43 : ctx.ty 43 = some { size := 2, bytes := 48, agg := true, zero := [.nil, .nil], fields := [(0, 1, 28), (1, 1, 35)] } := by kernel_rfl
@[simp] theorem ty44 : ctx.ty 44 = some { size := 1, bytes := 24, agg := false, zero := [.nil], elem := some 202 } := by kernel_rfl
@[simp] theorem ty46 : ctx.ty 46 = some { size := 3, bytes := 72, agg := true, zero := [.nil, .nil, .nil], fields := [(0, 2, 43), (2, 1, 44)] } := by kernel_rfl
@[simp] theorem ty47 : ctx.ty 47 = some { size := 1, bytes := 24, agg := false, zero := [.nil], elem := some 61 } := by kernel_rfl
@[simp] theorem ty48 : ctx.ty 48 = some { size := 1, bytes := 24, agg := false, zero := [.nil], elem := some 59 } := by kernel_rfl
@[simp] theorem ty49 : ctx.ty 49 = some { size := 1, bytes := 24, agg := false, zero := [.nil], elem := some 135 } := by kernel_rfl
@[simp] theorem ty51 : ctx.ty 51 = some { size := 17, bytes := 376, agg := true, zero := [.int .i64 0, .nil, .nil, .nil, .nil, .nil, .nil, .nil, .int .i64 0, .nil, .nil, .nil, .nil, .nil, .nil, .nil, .nil], fields := [(0, 1, 2), (1, 1, 32), (2, 1, 33), (3, 1, 34), (4, 2, 37), (6, 3, 41), (9, 3, 46), (12, 1, 47), (13, 1, 48), (14, 1, 49), (15, 1, 28), (16, 1, 28)] } := by kernel_rfl
@[simp] theorem ty59 : ctx.ty 59 = some { size := 5, bytes := 56, agg := true, zero := [.int .i64 0, .int .i64 0, .int .i64 0, .nil, .int .i64 0], fields := [(0, 1, 2), (1, 1, 2), (2, 1, 2), (3, 1, 28), (4, 1, 2)] } := by kernel_rfl
@[simp] theorem ty60 : ctx.ty 60 = some { size := 9, bytes := 72, agg := true, zero := [.int .i64 0, .int .i64 0, .int .i64 0, .int .i64 0, .int .i64 0, .int .i64 0, .int .i64 0, .int .i64 0, .int .i64 0], fields := [(0, 1, 2), (1, 1, 2), (2, 1, 2), (3, 1, 2), (4, 1, 2), (5, 1, 2), (6, 1, 2), (7, 1, 2), (8, 1, 2)] } := by kernel_rfl
@[simp] theorem ty61 : ctx.ty 61 = some { size := 9, bytes := 72, agg := true, zero := [.int .i64 0, .int .i64 0, .int .i64 0, .int .i64 0, .int .i64 0, .int .i64 0, .int .i64 0, .int .i64 0, .int .i64 0], fields := [(0, 1, 2), (1, 1, 2), (2, 1, 2), (3, 1, 2), (4, 1, 2), (5, 1, 2), (6, 1, 2), (7, 1, 2), (8, 1, 2)] } := by kernel_rfl
@[simp] theorem ty63 : ctx.ty 63 = some { size := 4, bytes := 32, agg := true, zero := [.int .i64 0, .int .i64 0, .int .i64 0, .int .i64 0], fields := [(0, 1, 2), (1, 1, 2), (2, 1, 2), (3, 1, 2)] } := by kernel_rfl
@[simp] theorem ty67 : ctx.ty 67 = some { size := 1, bytes := 24, agg := false, zero := [.nil], elem := some 232 } := by kernel_rfl
@[simp] theorem ty68 : ctx.ty 68 = some { size := 1, bytes := 24, agg := false, zero := [.nil], elem := some 244 } := by kernel_rfl
@[simp] theorem ty69 : ctx.ty 69 = some { size := 1, bytes := 24, agg := false, zero := [.nil], elem := some 246 } := by kernel_rfl
@[simp] theorem ty70 : ctx.ty 70 = some { size := 2, bytes := 48, agg := true, zero := [.nil, .nil], fields := [(0, 1, 35), (1, 1, 28)] } := by kernel_rfl
@[simp] theorem ty71 : ctx.ty 71 = some { size := 1, bytes := 24, agg := false, zero := [.nil], elem := some 321 } := by kernel_rfl
@[simp] theorem ty72 : ctx.ty 72 = some { size := 1, bytes := 24, agg := false, zero := [.nil], elem := some 323 } := by kernel_rfl
@[simp] theorem ty74 : ctx.ty 74 = some { size := 3, bytes := 56, agg := true, zero := [.nil, .nil, .int .i64 0], fields := [(0, 1, 71), (1, 1, 72), (2, 1, 2)] } := by kernel_rfl
@[simp] theorem ty75 : ctx.ty 75 = some { size := 2, bytes := 48, agg := true, zero := [.nil, .nil], fields := [(0, 1, 28), (1, 1, 35)] } := by kernel_rfl
@[simp] theorem ty76 : ctx.ty 76 = some { size := 1, bytes := 24, agg := false, zero := [.nil], elem := some 327 } := by kernel_rfl
@[simp] theorem ty78 : ctx.ty 78 = some { size := 3, bytes := 72, agg := true, zero := [.nil, .nil, .nil], fields := [(0, 2, 75), (2, 1, 76)] } := by kernel_rfl
@[simp] theorem ty79 : ctx.ty 79 = some { size := 1, bytes := 24, agg := false, zero := [.nil], elem := some 253 } := by kernel_rfl
@[simp] theorem ty80 : ctx.ty 80 = some { size := 1, bytes := 24, agg := false, zero := [.nil], elem := some 239 } := by kernel_rfl
@[simp] theorem ty81 : ctx.ty 81 = some { size := 1, bytes := 24, agg := false, zero := [.nil], elem := some 256 } := by kernel_rfl
@[simp] theorem ty83 : ctx.ty 83 = some { size := 17, bytes := 376, agg := true, zero := [.int .i64 0, .nil, .nil, .nil, .nil, .nil, .nil, .nil, .int .i64 0, .nil, .nil, .nil, .nil, .nil, .nil, .nil, .nil], fields := [(0, 1, 2), (1, 1, 67), (2, 1, 68), (3, 1, 69), (4, 2, 70), (6, 3, 74), (9, 3, 78), (12, 1, 79), (13, 1, 80), (14, 1, 81), (15, 1, 28), (16, 1, 28)] } := by kernel_rfl
@[simp] theorem ty104 : ctx.ty 104 = some { size := 5, bytes := 40, agg := true, zero := [.int .i64 0, .int .i64 0, .int .i64 0, .int .i64 0, .int .i64 0], fields := [(0, 1, 2), (1, 1, 2), (2, 1, 2), (3, 1, 2), (4, 1, 2)] } := by kernel_rfl
@[simp] theorem ty114 : ctx.ty 114 = some { size := 1, bytes := 24, agg := false, zero := [.nil], elem := some 118 } := by kernel_rfl
@[simp] theorem ty118 : ctx.ty 118 = some { size := 2, bytes := 16, agg := true, zero := [.int .i64 0, .int .i64 0], fields := [(0, 1, 2), (1, 1, 2)] } := by kernel_rfl
@[simp] theorem ty135 : ctx.ty 135 = some { size := 4, bytes := 32, agg := true, zero := [.int .i64 0, .int .i64 0, .int .i64 0, .int .i64 0], fields := [(0, 1, 2), (1, 1, 2), (2, 1, 2), (3, 1, 2)] } := by kernel_rfl
@[simp] theorem ty174 : ctx.ty 174 = some { size := 1, bytes := 8, agg := false, zero := [.dead] } := by kernel_rfl
@[simp] theorem ty188 : ctx.ty 188 = some { size := 1, bytes := 8, agg := false, zero := [.dead] } := by kernel_rfl
@[simp] theorem ty191 : ctx.ty 191 = some { size := 1, bytes := 8, agg := false, zero := [.dead] } := by kernel_rfl
@[simp] theorem ty195 : ctx.ty 195 = some { size := 5, bytes := 40, agg := true, zero := [.int .i64 0, .int .i64 0, .int .i64 0, .int .i64 0, .bool false], fields := [(0, 1, 2), (1, 1, 2), (2, 1, 2), (3, 1, 2), (4, 1, 4)] } := by kernel_rfl
@[simp] theorem ty196 : ctx.ty 196 = some { size := 1, bytes := 8, agg := false, zero := [.dead] } := by kernel_rfl
@[simp] theorem ty200 : ctx.ty 200 = some { size := 2, bytes := 16, agg := true, zero := [.int .i64 0, .int .i64 0], fields := [(0, 1, 2), (1, 1, 2)] } := by kernel_rfl
@[simp] theorem ty202 : ctx.ty 202 = some { size := 5, bytes := 40, agg := true, zero := [.int .i64 0, .int .i64 0, .int .i64 0, .int .i64 0, .bool false], fields := [(0, 2, 200), (2, 1, 2), (3, 1, 2), (4, 1, 4)] } := by kernel_rfl
@[simp] theorem ty203 : ctx.ty 203 = some { size := 1, bytes := 8, agg := false, zero := [.dead] } := by kernel_rfl
@[simp] theorem ty206 : ctx.ty 206 = some { size := 1, bytes := 8, agg := false, zero := [.dead] } := by kernel_rfl
@[simp] theorem ty208 : ctx.ty 208 = some { size := 1, bytes := 8, agg := false, zero := [.dead] } := by kernel_rfl
@[simp] theorem ty210 : ctx.ty 210 = some { size := 1, bytes := 8, agg := false, zero := [.dead] } := by kernel_rfl
@[simp] theorem ty232 : ctx.ty 232 = some { size := 1, bytes := 24, agg := false, zero := [.nil], elem := some 319 } := by kernel_rfl
@[simp] theorem ty239 : ctx.ty 239 = some { size := 5, bytes := 56, agg := true, zero := [.int .i64 0, .int .i64 0, .int .i64 0, .nil, .int .i64 0], fields := [(0, 1, 2), (1, 1, 2), (2, 1, 2), (3, 1, 28), (4, 1, 2)] } := by kernel_rfl
@[simp] theorem ty240 : ctx.ty 240 = some { size := 1, bytes := 8, agg := false, zero := [.dead] } := by kernel_rfl
@[simp] theorem ty244 : ctx.ty 244 = some { size := 5, bytes := 40, agg := true, zero := [.int .i64 0, .int .i64 0, .int .i64 0, .int .i64 0, .int .i64 0], fields := [(0, 1, 2), (1, 1, 2), (2, 1, 2), (3, 1, 2), (4, 1, 2)] } := by kernel_rfl
@[simp] theorem ty246 : ctx.ty 246 = some { size := 4, bytes := 32, agg := true, zero := [.int .i64 0, .int .i64 0, .int .i64 0, .int .i64 0], fields := [(0, 1, 2), (1, 1, 2), (2, 1, 2), (3, 1, 2)] } := by kernel_rfl
@[simp] theorem ty253 : ctx.ty 253 = some { size := 9, bytes := 72, agg := true, zero := [.int .i64 0, .int .i64 0, .int .i64 0, .int .i64 0, .int .i64 0, .int .i64 0, .int .i64 0, .int .i64 0, .int .i64 0], fields := [(0, 1, 2), (1, 1, 2), (2, 1, 2), (3, 1, 2), (4, 1, 2), (5, 1, 2), (6, 1, 2), (7, 1, 2), (8, 1, 2)] } := by kernel_rfl
@[simp] theorem ty256 : ctx.ty 256 = some { size := 4, bytes := 32, agg := true, zero := [.int .i64 0, .int .i64 0, .int .i64 0, .int .i64 0], fields := [(0, 1, 2), (1, 1, 2), (2, 1, 2), (3, 1, 2)] } := by kernel_rfl
@[simp] theorem ty297 : ctx.ty 297 = some { size := 3, bytes := 24, agg := true, zero := [.int .i64 0, .int .i64 0, .int .i64 0], fields := [(0, 1, 2), (1, 1, 2), (2, 1, 2)] } := by kernel_rfl
@[simp] theorem ty299 : ctx.ty 299 = some { size := 1, bytes := 8, agg := false, zero := [.dead] } := by kernel_rfl
@[simp] theorem ty319 : ctx.ty 319 = some { size := 3, bytes := 24, agg := true, zero := [.int .i64 0, .int .i64 0, .int .i64 0], fields := [(0, 1, 2), (1, 1, 2), (2, 1, 2)] } := by kernel_rfl
@[simp] theorem ty321 : ctx.ty 321 = some { size := 3, bytes := 24, agg := true, zero := [.int .i64 0, .int .i64 0, .int .i64 0], fields := [(0, 1, 2), (1, 1, 2), (2, 1, 2)] } := by kernel_rfl
@[simp] theorem ty323 : ctx.ty 323 = some { size := 5, bytes := 40, agg := true, zero := [.int .i64 0, .int .i64 0, .int .i64 0, .int .i64 0, .bool false], fields := [(0, 1, 2), (1, 1, 2), (2, 1, 2), (3, 1, 2), (4, 1, 4)] } := by kernel_rfl
@[simp] theorem ty325 : ctx.ty 325 = some { size := 2, bytes := 16, agg := true, zero := [.int .i64 0, .int .i64 0], fields := [(0, 1, 2), (1, 1, 2)] } := by kernel_rfl
@[simp] theorem ty327 : ctx.ty 327 = some { size := 5, bytes := 40, agg := true, zero := [.int .i64 0, .int .i64 0, .int .i64 0, .int .i64 0, .bool false], fields := [(0, 2, 325), (2, 1, 2), (3, 1, 2), (4, 1, 4)] } := by kernel_rfl
@[simp] theorem ty387 : ctx.ty 387 = some { size := 1, bytes := 24, agg := false, zero := [.nil], elem := some 3 } := by kernel_rfl
@[simp] theorem el28 : elemOf ctx 28 = some { size := 1, bytes := 8, agg := false, zero := [.int .i64 0], ik := some .i64 } := by kernel_rfl
@[simp] theorem el31 : elemOf ctx 31 = some { size := 3, bytes := 24, agg := true, zero := [.int .i64 0, .int .i64 0, .int .i64 0], fields := [(0, 1, 2), (1, 1, 2), (2, 1, 2)] } := by kernel_rfl
@[simp] theorem el32 : elemOf ctx 32 = some { size := 1, bytes := 24, agg := false, zero := [.nil], elem := some 30 } := by kernel_rfl
@[simp] theorem el33 : elemOf ctx 33 = some { size := 5, bytes := 40, agg := true, zero := [.int .i64 0, .int .i64 0, .int .i64 0, .int .i64 0, .int .i64 0], fields := [(0, 1, 2), (1, 1, 2), (2, 1, 2), (3, 1, 2), (4, 1, 2)] } := by kernel_rfl
@[simp] theorem el34 : elemOf ctx 34 = some { size := 4, bytes := 32, agg := true, zero := [.int .i64 0, .int .i64 0, .int .i64 0, .int .i64 0], fields := [(0, 1, 2), (1, 1, 2), (2, 1, 2), (3, 1, 2)] } := by kernel_rfl
@[simp] theorem el35 : elemOf ctx 35 = some { size := 1, bytes := 1, agg := false, zero := [.bool false] } := by kernel_rfl
@[simp] theorem el38 : elemOf ctx 38 = some { size := 3, bytes := 24, agg := true, zero := [.int .i64 0, .int .i64 0, .int .i64 0], fields := [(0, 1, 2), (1, 1, 2), (2, 1, 2)] } := by kernel_rfl
@[simp] theorem el39 : elemOf ctx 39 = some { size := 5, bytes := 40, agg := true, zero := [.int .i64 0, .int .i64 0, .int .i64 0, .int .i64 0, .bool false], fields := [(0, 1, 2), (1, 1, 2), (2, 1, 2), (3, 1, 2), (4, 1, 4)] } := by kernel_rfl
@[simp] theorem el44 : elemOf ctx 44 = some { size := 5, bytes := 40, agg := true, zero := [.int .i64 0, .int .i64 0, .int .i64 0, .int .i64 0, .bool false], fields := [(0, 2, 200), (2, 1, 2), (3, 1, 2), (4, 1, 4)] } := by kernel_rfl
@[simp] theorem el47 : elemOf ctx 47 = some { size := 9, bytes := 72, agg := true, zero := [.int .i64 0, .int .i64 0, .int .i64 0, .int .i64 0, .int .i64 0, .int .i64 0, .int .i64 0, .int .i64 0, .int .i64 0], fields := [(0, 1, 2), (1, 1, 2), (2, 1, 2), (3, 1, 2), (4, 1, 2), (5, 1, 2), (6, 1, 2), (7, 1, 2), (8, 1, 2)] } := by kernel_rfl
@[simp] theorem el48 : elemOf ctx 48 = some { size := 5, bytes := 56, agg := true, zero := [.int .i64 0, .int .i64 0, .int .i64 0, .nil, .int .i64 0], fields := [(0, 1, 2), (1, 1, 2), (2, 1, 2), (3, 1, 28), (4, 1, 2)] } := by kernel_rfl
@[simp] theorem el49 : elemOf ctx 49 = some { size := 4, bytes := 32, agg := true, zero := [.int .i64 0, .int .i64 0, .int .i64 0, .int .i64 0], fields := [(0, 1, 2), (1, 1, 2), (2, 1, 2), (3, 1, 2)] } := by kernel_rfl
@[simp] theorem el67 : elemOf ctx 67 = some { size := 1, bytes := 24, agg := false, zero := [.nil], elem := some 319 } := by kernel_rfl
@[simp] theorem el68 : elemOf ctx 68 = some { size := 5, bytes := 40, agg := true, zero := [.int .i64 0, .int .i64 0, .int .i64 0, .int .i64 0, .int .i64 0], fields := [(0, 1, 2), (1, 1, 2), (2, 1, 2), (3, 1, 2), (4, 1, 2)] } := by kernel_rfl
@[simp] theorem el69 : elemOf ctx 69 = some { size := 4, bytes := 32, agg := true, zero := [.int .i64 0, .int .i64 0, .int .i64 0, .int .i64 0], fields := [(0, 1, 2), (1, 1, 2), (2, 1, 2), (3, 1, 2)] } := by kernel_rfl
@[simp] theorem el71 : elemOf ctx 71 = some { size := 3, bytes := 24, agg := true, zero := [.int .i64 0, .int .i64 0, .int .i64 0], fields := [(0, 1, 2), (1, 1, 2), (2, 1, 2)] } := by kernel_rfl
@[simp] theorem el72 : elemOf ctx 72 = some { size := 5, bytes := 40, agg := true, zero := [.int .i64 0, .int .i64 0, .int .i64 0, .int .i64 0, .bool false], fields := [(0, 1, 2), (1, 1, 2), (2, 1, 2), (3, 1, 2), (4, 1, 4)] } := by kernel_rfl
@[simp] theorem el76 : elemOf ctx 76 = some { size := 5, bytes := 40, agg := true, zero := [.int .i64 0, .int .i64 0, .int .i64 0, .int .i64 0, .bool false], fields := [(0, 2, 325), (2, 1, 2), (3, 1, 2), (4, 1, 4)] } := by kernel_rfl
@[simp] theorem el79 : elemOf ctx 79 = some { size := 9, bytes := 72, agg := true, zero := [.int .i64 0, .int .i64 0, .int .i64 0, .int .i64 0, .int .i64 0, .int .i64 0, .int .i64 0, .int .i64 0, .int .i64 0], fields := [(0, 1, 2), (1, 1, 2), (2, 1, 2), (3, 1, 2), (4, 1, 2), (5, 1, 2), (6, 1, 2), (7, 1, 2), (8, 1, 2)] } := by kernel_rfl
@[simp] theorem el80 : elemOf ctx 80 = some { size := 5, bytes := 56, agg := true, zero := [.int .i64 0, .int .i64 0, .int .i64 0, .nil, .int .i64 0], fields := [(0, 1, 2), (1, 1, 2), (2, 1, 2), (3, 1, 28), (4, 1, 2)] } := by kernel_rfl
@[simp] theorem el81 : elemOf ctx 81 = some { size := 4, bytes := 32, agg := true, zero := [.int .i64 0, .int .i64 0, .int .i64 0, .int .i64 0], fields := [(0, 1, 2), (1, 1, 2), (2, 1, 2), (3, 1, 2)] } := by kernel_rfl
@[simp] theorem el114 : elemOf ctx 114 = some { size := 2, bytes := 16, agg := true, zero := [.int .i64 0, .int .i64 0], fields := [(0, 1, 2), (1, 1, 2)] } := by kernel_rfl
@[simp] theorem el232 : elemOf ctx 232 = some { size := 3, bytes := 24, agg := true, zero := [.int .i64 0, .int .i64 0, .int .i64 0], fields := [(0, 1, 2), (1, 1, 2), (2, 1, 2)] } := by kernel_rfl
@[simp] theorem el387 : elemOf ctx 387 = some { size := 1, bytes := 8, agg := false, zero := [.int .i64 0], ik := some .i64 } := by kernel_rfl
@[simp] theorem eq4 (a b) : ctx.eqA 4 (.bool a) (.bool b) = some (a == b) := rfl
@[simp] theorem eq63 (xs ys) : ctx.eqA 63 (.agg xs) (.agg ys) = eqL (some [.i .i64, .i .i64, .i .i64, .i .i64]) xs ys := rfl
@[simp] theorem eq200 (xs ys) : ctx.eqA 200 (.agg xs) (.agg ys) = eqL (some [.i .i64, .i .i64]) xs ys := rfl
@[simp] theorem eqL_some (ls xs ys) : eqL (some ls) xs ys = if xs.map lfOf = ls.map some ∧ ys.map lfOf = ls.map some then some (cellsEq xs ys) else none := rfl
theorem okC : ctx.Ok where
  mix := by kernel_rfl
  tys := tys
  eqs := by
    intro t x y b h
    change eqT t x y = some b at h
    unfold eqT at h
    split at h
    · cases h; exact eq_bool (by kernel_rfl)
    · rename_i xs ys _
      unfold lvs at h
      split at h
      · rw [eqL_some] at h
        split at h
        · rename_i hk
          cases h; exact eq_struct ok0 (by kernel_rfl) (by kernel_rfl) (by kernel_rfl) hk.1 hk.2
        · cases h
      · rw [eqL_some] at h
        split at h
        · rename_i hk
          cases h; exact eq_struct ok0 (by kernel_rfl) (by kernel_rfl) (by kernel_rfl) hk.1 hk.2
        · cases h
      · cases h
    · cases h
end Go.AE.Tryz
end

section
/- Contracts of the smallest functions. -/
set_option maxRecDepth 8000
set_option maxHeartbeats 2000000
namespace Go.AE.Tryz
open Go.Proofs
open List (map_take map_drop map_tail)

theorem wrap_pred {n : Nat} (h : n ≤ LIM) : IntKind.i64.wrap ((n : Int) - 1) = (n : Int) - 1 := by
  simp only [LIM] at h
  rw [i64_ok (by omega)]
theorem wrap_succ {i n : Nat} (h : i < n) (hn : n ≤ LIM) : IntKind.i64.wrap ((i : Int) + 1) = ((i + 1 : Nat) : Int) := by
  simp only [LIM] at hn
  rw [i64_ok (by omega)]; omega
theorem c_within {x lo hi : Int} : PC ctx.P 46 [.int .i64 x, .int .i64 lo, .int .i64 hi] (.bool (inR x lo hi)) := by
  refine PC.o okC Tryz.func46 rfl (.bool _) fun h nx hnx => ?_
  try simp [-map_take, -map_drop, -map_tail, rgs, inR]
  repeat' first | done | ((with_reducible refine guardS_split ?_ ?_) <;> intro qb <;> (have qp := qb; try simp only [psq] at qp) <;> simp [-map_take, -map_drop, -map_tail, rgs, inR, qb])
end Go.AE.Tryz
end

section
/- Contracts of the laws' helpers: copies, comparisons, sizes. -/
set_option maxRecDepth 8000
set_option maxHeartbeats 2000000
namespace Go.AE.Tryz
open Go.Proofs
open List (map_take map_drop map_tail)
theorem c_toHandle {x : Han} : PC ctx.P 398 [.agg (hanC x)] (.agg (hanC x)) := by
  refine PC.o okC Tryz.func398 rfl (.agg _ (hanC_fz x)) fun h nx hnx => ?_
  try simp [-map_take, -map_drop, -map_tail, rgs, hanC]

theorem c_eqHandle {x y : Han} : PC ctx.P 399 [.agg (hanC x), .agg (hanC y)] (.bool (x == y)) := by
  rw [han_beq]
  refine PC.o okC Tryz.func399 rfl (.bool _) fun h nx hnx => ?_
  try simp [-map_take, -map_drop, -map_tail, rgs, hanC]
  repeat' first | done | ((with_reducible refine condS_split ?_ ?_) <;> intro qb <;> (have qp := qb; try simp only [psq] at qp) <;> simp [-map_take, -map_drop, -map_tail, rgs, hanC, qb])
  all_goals (try clear hnx)
  all_goals (simp_all []; done)




theorem c_toIns {x : Inn} : PC ctx.P 305 [.agg (innC x)] (.agg (innC x)) := by
  refine PC.o okC Tryz.func305 rfl (.agg _ (innC_fz x)) fun h nx hnx => ?_
  try simp [-map_take, -map_drop, -map_tail, rgs, innC]

theorem c_eqIns {x y : Inn} : PC ctx.P 309 [.agg (innC x), .agg (innC y)] (.bool (x == y)) := by
  rw [inn_beq]
  refine PC.o okC Tryz.func309 rfl (.bool _) fun h nx hnx => ?_
  try simp [-map_take, -map_drop, -map_tail, rgs, innC]
  repeat' first | done | ((with_reducible refine condS_split ?_ ?_) <;> intro qb <;> (have qp := qb; try simp only [psq] at qp) <;> simp [-map_take, -map_drop, -map_tail, rgs, innC, qb])
  all_goals (try clear hnx)
  all_goals (simp_all []; done)

theorem c_toInsS {p : Bool} {xs : List Inn} (hm : xs.length ≤ MLIM) : PC ctx.P 185 [.view p 3 (xs.map innC)] (.view true 3 (xs.map innC)) := by
  refine PC.lim (n := xs.length) (x := .view p 3 (xs.map innC)) (by simp) (.here (by simp)) ⟨_, Tryz.func185, by kernel_rfl, by kernel_rfl⟩ fun hlim => ?_
  refine PC.o okC Tryz.func185 rfl (.vmap innC_fz) fun h nx hnx => ?_
  try simp [-map_take, -map_drop, -map_tail, rgs, hm]
  repeat' first | done | (((with_reducible show lenS _ _ _ _ _ _); refine lenS_slice rfl fun _ => ?_) <;> simp [-map_take, -map_drop, -map_tail, rgs, hm]) | fail
  refine go_upP (h0 := h) (nx0 := nx) [4, 8, 9, 10, 11, 12, 13, 14, 15, 16, 17, 18, 19, 20, 21] (xs.length) (fun (i : Nat) a => [(4, .int .i64 i)]) (fun i (_ : Unit) h' n' => h' (nx + 3) = some (.row 3 (fillR innC [.int .i64 0, .int .i64 0, .int .i64 0] xs i)) ∧ nx + 4 ≤ n') (()) (by simp) ?_ keepA (by omega) ?_
  · simp [fillR_0]
  · intro i a tm h' n' hle hJ hE hn' next hnx
    try dsimp only at hJ
    have hK : KeepB nx h' h := KeepB.sub hE keepA (by omega)
    simp [-map_take, -map_drop, -map_tail]
    obtain ⟨hJ, hJn⟩ := hJ
    repeat' first | done | ((first | ((with_reducible show lenS _ _ _ _ _ _); refine lenS_slice rfl fun _ => ?_) | ((with_reducible show iaddrS _ _ _ _ _ _ _); refine iaddr_map rfl omA omA ?_) | ((with_reducible show doCall _ _ _ 305 _ _); refine call_pc (c_toIns) ?_) | ((with_reducible show iaddrS _ _ _ _ (.ref _ _ _ _) _ _); refine iaddr_ref rfl omA omA ?_) | ((with_reducible show storeE _ _ _ _ _ _ _ _ _); refine storeE_fill hJ (by first | rfl | (simp; done)) (by simp) (by rfl) (by rfl) (by rfl) (by omega) ?_)) <;> simp [-map_take, -map_drop, -map_tail, rgs, hJ]) | ((with_reducible refine condS_split ?_ ?_) <;> intro qb <;> (have qp := qb; try simp only [psq] at qp) <;> simp [-map_take, -map_drop, -map_tail, rgs, hJ, qb])
    all_goals first
      | (have hlt : i < xs.length := (by first | omega | (simp at *; omega)); refine hnx.go () (by omega) (by simp [wrap_succ hlt hlim]) (by simp) keepA (by first | omega | (simp; omega)) ?_; (try dsimp only); refine ⟨by simp, by first | omega | (simp; omega)⟩)
      | (refine ⟨?_, keepA⟩; rw [fillR_ge (by first | omega | (simp at *; omega))]; first | done | (simp; done) | (rw [List.take_of_length_le (by simp)]))

theorem c_eqInsS {p q : Bool} {xs ys : List Inn} : PC ctx.P 196 [.view p 3 (xs.map innC), .view q 3 (ys.map innC)] (.bool (xs == ys)) := by
  refine PC.lim (n := xs.length) (x := .view p 3 (xs.map innC)) (by simp) (.here (by simp)) ⟨_, Tryz.func196, by kernel_rfl, by kernel_rfl⟩ fun hlim => ?_
  by_cases hl : xs.length = ys.length
  · refine PC.o okC Tryz.func196 rfl (.bool _) fun h nx hnx => ?_
    try simp [-map_take, -map_drop, -map_tail, rgs, hl]
    repeat' first | done | (((with_reducible show lenS _ _ _ _ _ _); refine lenS_slice rfl fun _ => ?_) <;> simp [-map_take, -map_drop, -map_tail, rgs, hl]) | fail
    refine go_upP [4, 5, 11, 12, 13, 14, 15, 16, 17, 18, 19, 20, 21, 22, 23, 24, 25, 26] (ys.length) (fun (i : Nat) a => [(5, .int .i64 i)]) (fun i_ a_ h_ _ => (fun i (_ : Unit) _ => (xs.drop i == ys.drop i) = (xs == ys)) i_ a_ h_) (()) (by simp) ?_ keep_rfl (Nat.le_refl _) ?_
    · simp
    · intro i a tm h' n' hle hJ hE hn' next hnx
      try dsimp only at hJ
      have hK : KeepB nx h' h := KeepB.sub hE keepA (by omega)
      simp [-map_take, -map_drop, -map_tail]
      try simp [-map_take, -map_drop, -map_tail, rgs, hl, innC]
      repeat' first | done | ((first | ((with_reducible show lenS _ _ _ _ _ _); refine lenS_slice rfl fun _ => ?_) | ((with_reducible show iaddrS _ _ _ _ _ _ _); refine iaddr_map rfl omA omA ?_) | ((with_reducible show doCall _ _ _ 309 _ _); refine call_pc (c_eqIns) ?_) | (with_reducible refine go_draw (i := 6) [(0, [], []), (1, [], []), (2, [], []), (3, [], []), (4, [], []), (5, [], []), (6, [], []), (7, [], []), (8, [], []), (9, [], [])] (by kernel_rfl) ?_)) <;> simp [-map_take, -map_drop, -map_tail, rgs, hl, innC]) | ((with_reducible refine condS_split ?_ ?_) <;> intro qb <;> (have qp := qb; try simp only [psq] at qp) <;> simp [-map_take, -map_drop, -map_tail, rgs, hl, innC, qb])
      all_goals first
      | (have hlt : i < xs.length := (by first | omega | (simp at *; omega))
         rw [drop_gt hlt, drop_gt (xs := ys) (i := i) (by omega), List.cons_beq_cons] at hJ
         first
         | (refine hnx.go () ?_ ?_ ?_ ?_ ?_ ?_; omega; (simp [wrap_succ hlt hlim]); (simp); exact keepA; (first | omega | (simp; omega)); (try dsimp only); clear hnx; first | (simp_all; done) | grind)
         | (refine ⟨?_, keepA⟩; clear hnx; first | (simp_all; done) | grind)
         | (clear hnx; first | (simp_all; done) | grind))
      | (obtain rfl : i = xs.length := (by first | omega | (simp at *; omega))
         rw [List.drop_eq_nil_of_le (Nat.le_refl _), List.drop_eq_nil_of_le (by omega)] at hJ
         refine ⟨?_, keepA⟩; clear hnx; first | (simp_all; done) | grind)
  · refine PC.o okC Tryz.func196 rfl (.bool _) fun h nx hnx => ?_
    try simp [-map_take, -map_drop, -map_tail, rgs]
    repeat' first | done | (((with_reducible show lenS _ _ _ _ _ _); refine lenS_slice rfl fun _ => ?_) <;> simp [-map_take, -map_drop, -map_tail, rgs]) | ((with_reducible refine condS_split ?_ ?_) <;> intro qb <;> (have qp := qb; try simp only [psq] at qp) <;> simp [-map_take, -map_drop, -map_tail, rgs, qb])
    all_goals first | (exfalso; omega) | (symm; rw [beq_eq_false_iff_ne]; intro e; exact hl (by rw [e])) | (intro e; exact hl (by rw [e])) | skip

theorem c_szInsS {p : Bool} {xs : List Inn} {k : Int} (h0 : 0 ≤ k) (h1 : k ≤ 1048576) : PC ctx.P 169 [.view p 3 (xs.map innC), .int .i64 k] (.int .i64 (szR xs.length k)) := by
  refine PC.lim (n := xs.length) (x := .view p 3 (xs.map innC)) (by simp) (.here (by simp)) ⟨_, Tryz.func169, by kernel_rfl, by kernel_rfl⟩ fun hlim => ?_
  simp only [LIM] at hlim
  refine PC.o okC Tryz.func169 rfl (.int _ _) fun h nx hnx => ?_
  try simp [-map_take, -map_drop, -map_tail, rgs, i64_ok (x := k - (xs.length : Int)) (by omega)]
  repeat' first | done | (((with_reducible show lenS _ _ _ _ _ _); refine lenS_slice rfl fun _ => ?_) <;> simp [-map_take, -map_drop, -map_tail, rgs, i64_ok (x := k - (xs.length : Int)) (by omega)]) | ((with_reducible refine condS_split ?_ ?_) <;> intro qb <;> (have qp := qb; try simp only [psq] at qp) <;> simp [-map_take, -map_drop, -map_tail, rgs, i64_ok (x := k - (xs.length : Int)) (by omega), qb])
  all_goals (clear hnx; simp only [szR]; split <;> first | omega | (simp; omega))

theorem c_toNode {x : Nod} : PC ctx.P 186 [.agg (nodC x)] (.agg (nodC x)) := by
  refine PC.o okC Tryz.func186 rfl (.agg _ (nodC_fz x)) fun h nx hnx => ?_
  try simp [-map_take, -map_drop, -map_tail, rgs, nodC]

theorem c_eqNode {x y : Nod} : PC ctx.P 197 [.agg (nodC x), .agg (nodC y)] (.bool (x == y)) := by
  rw [nod_beq]
  refine PC.o okC Tryz.func197 rfl (.bool _) fun h nx hnx => ?_
  try simp [-map_take, -map_drop, -map_tail, rgs, nodC]
  repeat' first | done | ((with_reducible refine condS_split ?_ ?_) <;> intro qb <;> (have qp := qb; try simp only [psq] at qp) <;> simp [-map_take, -map_drop, -map_tail, rgs, nodC, qb])
  all_goals (try clear hnx)
  all_goals (simp_all []; done)

theorem c_toNodeS {p : Bool} {xs : List Nod} (hm : xs.length ≤ MLIM) : PC ctx.P 64 [.view p 5 (xs.map nodC)] (.view true 5 (xs.map nodC)) := by
  refine PC.lim (n := xs.length) (x := .view p 5 (xs.map nodC)) (by simp) (.here (by simp)) ⟨_, Tryz.func64, by kernel_rfl, by kernel_rfl⟩ fun hlim => ?_
  refine PC.o okC Tryz.func64 rfl (.vmap nodC_fz) fun h nx hnx => ?_
  try simp [-map_take, -map_drop, -map_tail, rgs, hm]
  repeat' first | done | (((with_reducible show lenS _ _ _ _ _ _); refine lenS_slice rfl fun _ => ?_) <;> simp [-map_take, -map_drop, -map_tail, rgs, hm]) | fail
  refine go_upP (h0 := h) (nx0 := nx) [4, 8, 9, 10, 11, 12, 13, 14, 15, 16, 17, 18, 19, 20, 21] (xs.length) (fun (i : Nat) a => [(4, .int .i64 i)]) (fun i (_ : Unit) h' n' => h' (nx + 3) = some (.row 5 (fillR nodC [.int .i64 0, .int .i64 0, .int .i64 0, .int .i64 0, .int .i64 0] xs i)) ∧ nx + 4 ≤ n') (()) (by simp) ?_ keepA (by omega) ?_
  · simp [fillR_0]
  · intro i a tm h' n' hle hJ hE hn' next hnx
    try dsimp only at hJ
    have hK : KeepB nx h' h := KeepB.sub hE keepA (by omega)
    simp [-map_take, -map_drop, -map_tail]
    obtain ⟨hJ, hJn⟩ := hJ
    repeat' first | done | ((first | ((with_reducible show lenS _ _ _ _ _ _); refine lenS_slice rfl fun _ => ?_) | ((with_reducible show iaddrS _ _ _ _ _ _ _); refine iaddr_map rfl omA omA ?_) | ((with_reducible show doCall _ _ _ 186 _ _); refine call_pc (c_toNode) ?_) | ((with_reducible show iaddrS _ _ _ _ (.ref _ _ _ _) _ _); refine iaddr_ref rfl omA omA ?_) | ((with_reducible show storeE _ _ _ _ _ _ _ _ _); refine storeE_fill hJ (by first | rfl | (simp; done)) (by simp) (by rfl) (by rfl) (by rfl) (by omega) ?_)) <;> simp [-map_take, -map_drop, -map_tail, rgs, hJ]) | ((with_reducible refine condS_split ?_ ?_) <;> intro qb <;> (have qp := qb; try simp only [psq] at qp) <;> simp [-map_take, -map_drop, -map_tail, rgs, hJ, qb])
    all_goals first
      | (have hlt : i < xs.length := (by first | omega | (simp at *; omega)); refine hnx.go () (by omega) (by simp [wrap_succ hlt hlim]) (by simp) keepA (by first | omega | (simp; omega)) ?_; (try dsimp only); refine ⟨by simp, by first | omega | (simp; omega)⟩)
      | (refine ⟨?_, keepA⟩; rw [fillR_ge (by first | omega | (simp at *; omega))]; first | done | (simp; done) | (rw [List.take_of_length_le (by simp)]))

theorem c_eqNodeS {p q : Bool} {xs ys : List Nod} : PC ctx.P 74 [.view p 5 (xs.map nodC), .view q 5 (ys.map nodC)] (.bool (xs == ys)) := by
  refine PC.lim (n := xs.length) (x := .view p 5 (xs.map nodC)) (by simp) (.here (by simp)) ⟨_, Tryz.func74, by kernel_rfl, by kernel_rfl⟩ fun hlim => ?_
  by_cases hl : xs.length = ys.length
  · refine PC.o okC Tryz.func74 rfl (.bool _) fun h nx hnx => ?_
    try simp [-map_take, -map_drop, -map_tail, rgs, hl]
    repeat' first | done | (((with_reducible show lenS _ _ _ _ _ _); refine lenS_slice rfl fun _ => ?_) <;> simp [-map_take, -map_drop, -map_tail, rgs, hl]) | fail
    refine go_upP [4, 5, 11, 12, 13, 14, 15, 16, 17, 18, 19, 20, 21, 22, 23, 24, 25, 26] (ys.length) (fun (i : Nat) a => [(5, .int .i64 i)]) (fun i_ a_ h_ _ => (fun i (_ : Unit) _ => (xs.drop i == ys.drop i) = (xs == ys)) i_ a_ h_) (()) (by simp) ?_ keep_rfl (Nat.le_refl _) ?_
    · simp
    · intro i a tm h' n' hle hJ hE hn' next hnx
      try dsimp only at hJ
      have hK : KeepB nx h' h := KeepB.sub hE keepA (by omega)
      simp [-map_take, -map_drop, -map_tail]
      try simp [-map_take, -map_drop, -map_tail, rgs, hl, nodC]
      repeat' first | done | ((first | ((with_reducible show lenS _ _ _ _ _ _); refine lenS_slice rfl fun _ => ?_) | ((with_reducible show iaddrS _ _ _ _ _ _ _); refine iaddr_map rfl omA omA ?_) | ((with_reducible show doCall _ _ _ 197 _ _); refine call_pc (c_eqNode) ?_) | (with_reducible refine go_draw (i := 6) [(0, [], []), (1, [], []), (2, [], []), (3, [], []), (4, [], []), (5, [], []), (6, [], []), (7, [], []), (8, [], []), (9, [], [])] (by kernel_rfl) ?_)) <;> simp [-map_take, -map_drop, -map_tail, rgs, hl, nodC]) | ((with_reducible refine condS_split ?_ ?_) <;> intro qb <;> (have qp := qb; try simp only [psq] at qp) <;> simp [-map_take, -map_drop, -map_tail, rgs, hl, nodC, qb])
      all_goals first
      | (have hlt : i < xs.length := (by first | omega | (simp at *; omega))
         rw [drop_gt hlt, drop_gt (xs := ys) (i := i) (by omega), List.cons_beq_cons] at hJ
         first
         | (refine hnx.go () ?_ ?_ ?_ ?_ ?_ ?_; omega; (simp [wrap_succ hlt hlim]); (simp); exact keepA; (first | omega | (simp; omega)); (try dsimp only); clear hnx; first | (simp_all; done) | grind)
         | (refine ⟨?_, keepA⟩; clear hnx; first | (simp_all; done) | grind)
         | (clear hnx; first | (simp_all; done) | grind))
      | (obtain rfl : i = xs.length := (by first | omega | (simp at *; omega))
         rw [List.drop_eq_nil_of_le (Nat.le_refl _), List.drop_eq_nil_of_le (by omega)] at hJ
         refine ⟨?_, keepA⟩; clear hnx; first | (simp_all; done) | grind)
  · refine PC.o okC Tryz.func74 rfl (.bool _) fun h nx hnx => ?_
    try simp [-map_take, -map_drop, -map_tail, rgs]
    repeat' first | done | (((with_reducible show lenS _ _ _ _ _ _); refine lenS_slice rfl fun _ => ?_) <;> simp [-map_take, -map_drop, -map_tail, rgs]) | ((with_reducible refine condS_split ?_ ?_) <;> intro qb <;> (have qp := qb; try simp only [psq] at qp) <;> simp [-map_take, -map_drop, -map_tail, rgs, qb])
    all_goals first | (exfalso; omega) | (symm; rw [beq_eq_false_iff_ne]; intro e; exact hl (by rw [e])) | (intro e; exact hl (by rw [e])) | skip

theorem c_szNodeS {p : Bool} {xs : List Nod} {k : Int} (h0 : 0 ≤ k) (h1 : k ≤ 1048576) : PC ctx.P 53 [.view p 5 (xs.map nodC), .int .i64 k] (.int .i64 (szR xs.length k)) := by
  refine PC.lim (n := xs.length) (x := .view p 5 (xs.map nodC)) (by simp) (.here (by simp)) ⟨_, Tryz.func53, by kernel_rfl, by kernel_rfl⟩ fun hlim => ?_
  simp only [LIM] at hlim
  refine PC.o okC Tryz.func53 rfl (.int _ _) fun h nx hnx => ?_
  try simp [-map_take, -map_drop, -map_tail, rgs, i64_ok (x := k - (xs.length : Int)) (by omega)]
  repeat' first | done | (((with_reducible show lenS _ _ _ _ _ _); refine lenS_slice rfl fun _ => ?_) <;> simp [-map_take, -map_drop, -map_tail, rgs, i64_ok (x := k - (xs.length : Int)) (by omega)]) | ((with_reducible refine condS_split ?_ ?_) <;> intro qb <;> (have qp := qb; try simp only [psq] at qp) <;> simp [-map_take, -map_drop, -map_tail, rgs, i64_ok (x := k - (xs.length : Int)) (by omega), qb])
  all_goals (clear hnx; simp only [szR]; split <;> first | omega | (simp; omega))

theorem c_toEvent {x : Evt} : PC ctx.P 187 [.agg (evtC x)] (.agg (evtC x)) := by
  refine PC.o okC Tryz.func187 rfl (.agg _ (evtC_fz x)) fun h nx hnx => ?_
  try simp [-map_take, -map_drop, -map_tail, rgs, evtC]

theorem c_eqEvent {x y : Evt} : PC ctx.P 198 [.agg (evtC x), .agg (evtC y)] (.bool (x == y)) := by
  rw [evt_beq]
  refine PC.o okC Tryz.func198 rfl (.bool _) fun h nx hnx => ?_
  try simp [-map_take, -map_drop, -map_tail, rgs, evtC]
  repeat' first | done | ((with_reducible refine condS_split ?_ ?_) <;> intro qb <;> (have qp := qb; try simp only [psq] at qp) <;> simp [-map_take, -map_drop, -map_tail, rgs, evtC, qb])
  all_goals (try clear hnx)
  all_goals (simp_all []; done)

theorem c_toEventS {p : Bool} {xs : List Evt} (hm : xs.length ≤ MLIM) : PC ctx.P 65 [.view p 4 (xs.map evtC)] (.view true 4 (xs.map evtC)) := by
  refine PC.lim (n := xs.length) (x := .view p 4 (xs.map evtC)) (by simp) (.here (by simp)) ⟨_, Tryz.func65, by kernel_rfl, by kernel_rfl⟩ fun hlim => ?_
  refine PC.o okC Tryz.func65 rfl (.vmap evtC_fz) fun h nx hnx => ?_
  try simp [-map_take, -map_drop, -map_tail, rgs, hm]
  repeat' first | done | (((with_reducible show lenS _ _ _ _ _ _); refine lenS_slice rfl fun _ => ?_) <;> simp [-map_take, -map_drop, -map_tail, rgs, hm]) | fail
  refine go_upP (h0 := h) (nx0 := nx) [4, 8, 9, 10, 11, 12, 13, 14, 15, 16, 17, 18, 19, 20, 21] (xs.length) (fun (i : Nat) a => [(4, .int .i64 i)]) (fun i (_ : Unit) h' n' => h' (nx + 3) = some (.row 4 (fillR evtC [.int .i64 0, .int .i64 0, .int .i64 0, .int .i64 0] xs i)) ∧ nx + 4 ≤ n') (()) (by simp) ?_ keepA (by omega) ?_
  · simp [fillR_0]
  · intro i a tm h' n' hle hJ hE hn' next hnx
    try dsimp only at hJ
    have hK : KeepB nx h' h := KeepB.sub hE keepA (by omega)
    simp [-map_take, -map_drop, -map_tail]
    obtain ⟨hJ, hJn⟩ := hJ
    repeat' first | done | ((first | ((with_reducible show lenS _ _ _ _ _ _); refine lenS_slice rfl fun _ => ?_) | ((with_reducible show iaddrS _ _ _ _ _ _ _); refine iaddr_map rfl omA omA ?_) | ((with_reducible show doCall _ _ _ 187 _ _); refine call_pc (c_toEvent) ?_) | ((with_reducible show iaddrS _ _ _ _ (.ref _ _ _ _) _ _); refine iaddr_ref rfl omA omA ?_) | ((with_reducible show storeE _ _ _ _ _ _ _ _ _); refine storeE_fill hJ (by first | rfl | (simp; done)) (by simp) (by rfl) (by rfl) (by rfl) (by omega) ?_)) <;> simp [-map_take, -map_drop, -map_tail, rgs, hJ]) | ((with_reducible refine condS_split ?_ ?_) <;> intro qb <;> (have qp := qb; try simp only [psq] at qp) <;> simp [-map_take, -map_drop, -map_tail, rgs, hJ, qb])
    all_goals first
      | (have hlt : i < xs.length := (by first | omega | (simp at *; omega)); refine hnx.go () (by omega) (by simp [wrap_succ hlt hlim]) (by simp) keepA (by first | omega | (simp; omega)) ?_; (try dsimp only); refine ⟨by simp, by first | omega | (simp; omega)⟩)
      | (refine ⟨?_, keepA⟩; rw [fillR_ge (by first | omega | (simp at *; omega))]; first | done | (simp; done) | (rw [List.take_of_length_le (by simp)]))

theorem c_eqEventS {p q : Bool} {xs ys : List Evt} : PC ctx.P 75 [.view p 4 (xs.map evtC), .view q 4 (ys.map evtC)] (.bool (xs == ys)) := by
  refine PC.lim (n := xs.length) (x := .view p 4 (xs.map evtC)) (by simp) (.here (by simp)) ⟨_, Tryz.func75, by kernel_rfl, by kernel_rfl⟩ fun hlim => ?_
  by_cases hl : xs.length = ys.length
  · refine PC.o okC Tryz.func75 rfl (.bool _) fun h nx hnx => ?_
    try simp [-map_take, -map_drop, -map_tail, rgs, hl]
    repeat' first | done | (((with_reducible show lenS _ _ _ _ _ _); refine lenS_slice rfl fun _ => ?_) <;> simp [-map_take, -map_drop, -map_tail, rgs, hl]) | fail
    refine go_upP [4, 5, 11, 12, 13, 14, 15, 16, 17, 18, 19, 20, 21, 22, 23, 24, 25, 26] (ys.length) (fun (i : Nat) a => [(5, .int .i64 i)]) (fun i_ a_ h_ _ => (fun i (_ : Unit) _ => (xs.drop i == ys.drop i) = (xs == ys)) i_ a_ h_) (()) (by simp) ?_ keep_rfl (Nat.le_refl _) ?_
    · simp
    · intro i a tm h' n' hle hJ hE hn' next hnx
      try dsimp only at hJ
      have hK : KeepB nx h' h := KeepB.sub hE keepA (by omega)
      simp [-map_take, -map_drop, -map_tail]
      try simp [-map_take, -map_drop, -map_tail, rgs, hl, evtC]
      repeat' first | done | ((first | ((with_reducible show lenS _ _ _ _ _ _); refine lenS_slice rfl fun _ => ?_) | ((with_reducible show iaddrS _ _ _ _ _ _ _); refine iaddr_map rfl omA omA ?_) | ((with_reducible show doCall _ _ _ 198 _ _); refine call_pc (c_eqEvent) ?_) | (with_reducible refine go_draw (i := 6) [(0, [], []), (1, [], []), (2, [], []), (3, [], []), (4, [], []), (5, [], []), (6, [], []), (7, [], []), (8, [], []), (9, [], [])] (by kernel_rfl) ?_)) <;> simp [-map_take, -map_drop, -map_tail, rgs, hl, evtC]) | ((with_reducible refine condS_split ?_ ?_) <;> intro qb <;> (have qp := qb; try simp only [psq] at qp) <;> simp [-map_take, -map_drop, -map_tail, rgs, hl, evtC, qb])
      all_goals first
      | (have hlt : i < xs.length := (by first | omega | (simp at *; omega))
         rw [drop_gt hlt, drop_gt (xs := ys) (i := i) (by omega), List.cons_beq_cons] at hJ
         first
         | (refine hnx.go () ?_ ?_ ?_ ?_ ?_ ?_; omega; (simp [wrap_succ hlt hlim]); (simp); exact keepA; (first | omega | (simp; omega)); (try dsimp only); clear hnx; first | (simp_all; done) | grind)
         | (refine ⟨?_, keepA⟩; clear hnx; first | (simp_all; done) | grind)
         | (clear hnx; first | (simp_all; done) | grind))
      | (obtain rfl : i = xs.length := (by first | omega | (simp at *; omega))
         rw [List.drop_eq_nil_of_le (Nat.le_refl _), List.drop_eq_nil_of_le (by omega)] at hJ
         refine ⟨?_, keepA⟩; clear hnx; first | (simp_all; done) | grind)
  · refine PC.o okC Tryz.func75 rfl (.bool _) fun h nx hnx => ?_
    try simp [-map_take, -map_drop, -map_tail, rgs]
    repeat' first | done | (((with_reducible show lenS _ _ _ _ _ _); refine lenS_slice rfl fun _ => ?_) <;> simp [-map_take, -map_drop, -map_tail, rgs]) | ((with_reducible refine condS_split ?_ ?_) <;> intro qb <;> (have qp := qb; try simp only [psq] at qp) <;> simp [-map_take, -map_drop, -map_tail, rgs, qb])
    all_goals first | (exfalso; omega) | (symm; rw [beq_eq_false_iff_ne]; intro e; exact hl (by rw [e])) | (intro e; exact hl (by rw [e])) | skip

theorem c_szEventS {p : Bool} {xs : List Evt} {k : Int} (h0 : 0 ≤ k) (h1 : k ≤ 1048576) : PC ctx.P 54 [.view p 4 (xs.map evtC), .int .i64 k] (.int .i64 (szR xs.length k)) := by
  refine PC.lim (n := xs.length) (x := .view p 4 (xs.map evtC)) (by simp) (.here (by simp)) ⟨_, Tryz.func54, by kernel_rfl, by kernel_rfl⟩ fun hlim => ?_
  simp only [LIM] at hlim
  refine PC.o okC Tryz.func54 rfl (.int _ _) fun h nx hnx => ?_
  try simp [-map_take, -map_drop, -map_tail, rgs, i64_ok (x := k - (xs.length : Int)) (by omega)]
  repeat' first | done | (((with_reducible show lenS _ _ _ _ _ _); refine lenS_slice rfl fun _ => ?_) <;> simp [-map_take, -map_drop, -map_tail, rgs, i64_ok (x := k - (xs.length : Int)) (by omega)]) | ((with_reducible refine condS_split ?_ ?_) <;> intro qb <;> (have qp := qb; try simp only [psq] at qp) <;> simp [-map_take, -map_drop, -map_tail, rgs, i64_ok (x := k - (xs.length : Int)) (by omega), qb])
  all_goals (clear hnx; simp only [szR]; split <;> first | omega | (simp; omega))

theorem c_toTwig {x : Twg} : PC ctx.P 306 [.agg (twgC x)] (.agg (twgC x)) := by
  refine PC.o okC Tryz.func306 rfl (.agg _ (twgC_fz x)) fun h nx hnx => ?_
  try simp [-map_take, -map_drop, -map_tail, rgs, twgC]

theorem c_eqTwig {x y : Twg} : PC ctx.P 310 [.agg (twgC x), .agg (twgC y)] (.bool (x == y)) := by
  rw [twg_beq]
  refine PC.o okC Tryz.func310 rfl (.bool _) fun h nx hnx => ?_
  try simp [-map_take, -map_drop, -map_tail, rgs, twgC]
  repeat' first | done | ((with_reducible refine condS_split ?_ ?_) <;> intro qb <;> (have qp := qb; try simp only [psq] at qp) <;> simp [-map_take, -map_drop, -map_tail, rgs, twgC, qb])
  all_goals (try clear hnx)
  all_goals (simp_all []; done)

theorem c_toTwigS {p : Bool} {xs : List Twg} (hm : xs.length ≤ MLIM) : PC ctx.P 189 [.view p 3 (xs.map twgC)] (.view true 3 (xs.map twgC)) := by
  refine PC.lim (n := xs.length) (x := .view p 3 (xs.map twgC)) (by simp) (.here (by simp)) ⟨_, Tryz.func189, by kernel_rfl, by kernel_rfl⟩ fun hlim => ?_
  refine PC.o okC Tryz.func189 rfl (.vmap twgC_fz) fun h nx hnx => ?_
  try simp [-map_take, -map_drop, -map_tail, rgs, hm]
  repeat' first | done | (((with_reducible show lenS _ _ _ _ _ _); refine lenS_slice rfl fun _ => ?_) <;> simp [-map_take, -map_drop, -map_tail, rgs, hm]) | fail
  refine go_upP (h0 := h) (nx0 := nx) [4, 8, 9, 10, 11, 12, 13, 14, 15, 16, 17, 18, 19, 20, 21] (xs.length) (fun (i : Nat) a => [(4, .int .i64 i)]) (fun i (_ : Unit) h' n' => h' (nx + 3) = some (.row 3 (fillR twgC [.int .i64 0, .int .i64 0, .int .i64 0] xs i)) ∧ nx + 4 ≤ n') (()) (by simp) ?_ keepA (by omega) ?_
  · simp [fillR_0]
  · intro i a tm h' n' hle hJ hE hn' next hnx
    try dsimp only at hJ
    have hK : KeepB nx h' h := KeepB.sub hE keepA (by omega)
    simp [-map_take, -map_drop, -map_tail]
    obtain ⟨hJ, hJn⟩ := hJ
    repeat' first | done | ((first | ((with_reducible show lenS _ _ _ _ _ _); refine lenS_slice rfl fun _ => ?_) | ((with_reducible show iaddrS _ _ _ _ _ _ _); refine iaddr_map rfl omA omA ?_) | ((with_reducible show doCall _ _ _ 306 _ _); refine call_pc (c_toTwig) ?_) | ((with_reducible show iaddrS _ _ _ _ (.ref _ _ _ _) _ _); refine iaddr_ref rfl omA omA ?_) | ((with_reducible show storeE _ _ _ _ _ _ _ _ _); refine storeE_fill hJ (by first | rfl | (simp; done)) (by simp) (by rfl) (by rfl) (by rfl) (by omega) ?_)) <;> simp [-map_take, -map_drop, -map_tail, rgs, hJ]) | ((with_reducible refine condS_split ?_ ?_) <;> intro qb <;> (have qp := qb; try simp only [psq] at qp) <;> simp [-map_take, -map_drop, -map_tail, rgs, hJ, qb])
    all_goals first
      | (have hlt : i < xs.length := (by first | omega | (simp at *; omega)); refine hnx.go () (by omega) (by simp [wrap_succ hlt hlim]) (by simp) keepA (by first | omega | (simp; omega)) ?_; (try dsimp only); refine ⟨by simp, by first | omega | (simp; omega)⟩)
      | (refine ⟨?_, keepA⟩; rw [fillR_ge (by first | omega | (simp at *; omega))]; first | done | (simp; done) | (rw [List.take_of_length_le (by simp)]))

theorem c_eqTwigS {p q : Bool} {xs ys : List Twg} : PC ctx.P 200 [.view p 3 (xs.map twgC), .view q 3 (ys.map twgC)] (.bool (xs == ys)) := by
  refine PC.lim (n := xs.length) (x := .view p 3 (xs.map twgC)) (by simp) (.here (by simp)) ⟨_, Tryz.func200, by kernel_rfl, by kernel_rfl⟩ fun hlim => ?_
  by_cases hl : xs.length = ys.length
  · refine PC.o okC Tryz.func200 rfl (.bool _) fun h nx hnx => ?_
    try simp [-map_take, -map_drop, -map_tail, rgs, hl]
    repeat' first | done | (((with_reducible show lenS _ _ _ _ _ _); refine lenS_slice rfl fun _ => ?_) <;> simp [-map_take, -map_drop, -map_tail, rgs, hl]) | fail
    refine go_upP [4, 5, 11, 12, 13, 14, 15, 16, 17, 18, 19, 20, 21, 22, 23, 24, 25, 26] (ys.length) (fun (i : Nat) a => [(5, .int .i64 i)]) (fun i_ a_ h_ _ => (fun i (_ : Unit) _ => (xs.drop i == ys.drop i) = (xs == ys)) i_ a_ h_) (()) (by simp) ?_ keep_rfl (Nat.le_refl _) ?_
    · simp
    · intro i a tm h' n' hle hJ hE hn' next hnx
      try dsimp only at hJ
      have hK : KeepB nx h' h := KeepB.sub hE keepA (by omega)
      simp [-map_take, -map_drop, -map_tail]
      try simp [-map_take, -map_drop, -map_tail, rgs, hl, twgC]
      repeat' first | done | ((first | ((with_reducible show lenS _ _ _ _ _ _); refine lenS_slice rfl fun _ => ?_) | ((with_reducible show iaddrS _ _ _ _ _ _ _); refine iaddr_map rfl omA omA ?_) | ((with_reducible show doCall _ _ _ 310 _ _); refine call_pc (c_eqTwig) ?_) | (with_reducible refine go_draw (i := 6) [(0, [], []), (1, [], []), (2, [], []), (3, [], []), (4, [], []), (5, [], []), (6, [], []), (7, [], []), (8, [], []), (9, [], [])] (by kernel_rfl) ?_)) <;> simp [-map_take, -map_drop, -map_tail, rgs, hl, twgC]) | ((with_reducible refine condS_split ?_ ?_) <;> intro qb <;> (have qp := qb; try simp only [psq] at qp) <;> simp [-map_take, -map_drop, -map_tail, rgs, hl, twgC, qb])
      all_goals first
      | (have hlt : i < xs.length := (by first | omega | (simp at *; omega))
         rw [drop_gt hlt, drop_gt (xs := ys) (i := i) (by omega), List.cons_beq_cons] at hJ
         first
         | (refine hnx.go () ?_ ?_ ?_ ?_ ?_ ?_; omega; (simp [wrap_succ hlt hlim]); (simp); exact keepA; (first | omega | (simp; omega)); (try dsimp only); clear hnx; first | (simp_all; done) | grind)
         | (refine ⟨?_, keepA⟩; clear hnx; first | (simp_all; done) | grind)
         | (clear hnx; first | (simp_all; done) | grind))
      | (obtain rfl : i = xs.length := (by first | omega | (simp at *; omega))
         rw [List.drop_eq_nil_of_le (Nat.le_refl _), List.drop_eq_nil_of_le (by omega)] at hJ
         refine ⟨?_, keepA⟩; clear hnx; first | (simp_all; done) | grind)
  · refine PC.o okC Tryz.func200 rfl (.bool _) fun h nx hnx => ?_
    try simp [-map_take, -map_drop, -map_tail, rgs]
    repeat' first | done | (((with_reducible show lenS _ _ _ _ _ _); refine lenS_slice rfl fun _ => ?_) <;> simp [-map_take, -map_drop, -map_tail, rgs]) | ((with_reducible refine condS_split ?_ ?_) <;> intro qb <;> (have qp := qb; try simp only [psq] at qp) <;> simp [-map_take, -map_drop, -map_tail, rgs, qb])
    all_goals first | (exfalso; omega) | (symm; rw [beq_eq_false_iff_ne]; intro e; exact hl (by rw [e])) | (intro e; exact hl (by rw [e])) | skip

theorem c_szTwigS {p : Bool} {xs : List Twg} {k : Int} (h0 : 0 ≤ k) (h1 : k ≤ 1048576) : PC ctx.P 171 [.view p 3 (xs.map twgC), .int .i64 k] (.int .i64 (szR xs.length k)) := by
  refine PC.lim (n := xs.length) (x := .view p 3 (xs.map twgC)) (by simp) (.here (by simp)) ⟨_, Tryz.func171, by kernel_rfl, by kernel_rfl⟩ fun hlim => ?_
  simp only [LIM] at hlim
  refine PC.o okC Tryz.func171 rfl (.int _ _) fun h nx hnx => ?_
  try simp [-map_take, -map_drop, -map_tail, rgs, i64_ok (x := k - (xs.length : Int)) (by omega)]
  repeat' first | done | (((with_reducible show lenS _ _ _ _ _ _); refine lenS_slice rfl fun _ => ?_) <;> simp [-map_take, -map_drop, -map_tail, rgs, i64_ok (x := k - (xs.length : Int)) (by omega)]) | ((with_reducible refine condS_split ?_ ?_) <;> intro qb <;> (have qp := qb; try simp only [psq] at qp) <;> simp [-map_take, -map_drop, -map_tail, rgs, i64_ok (x := k - (xs.length : Int)) (by omega), qb])
  all_goals (clear hnx; simp only [szR]; split <;> first | omega | (simp; omega))

theorem c_toTimer {x : Tmr} : PC ctx.P 307 [.agg (tmrC x)] (.agg (tmrC x)) := by
  refine PC.o okC Tryz.func307 rfl (.agg _ (tmrC_fz x)) fun h nx hnx => ?_
  try simp [-map_take, -map_drop, -map_tail, rgs, tmrC]

theorem c_eqTimer {x y : Tmr} : PC ctx.P 311 [.agg (tmrC x), .agg (tmrC y)] (.bool (x == y)) := by
  rw [tmr_beq]
  refine PC.o okC Tryz.func311 rfl (.bool _) fun h nx hnx => ?_
  try simp [-map_take, -map_drop, -map_tail, rgs, tmrC]
  repeat' first | done | ((with_reducible refine condS_split ?_ ?_) <;> intro qb <;> (have qp := qb; try simp only [psq] at qp) <;> simp [-map_take, -map_drop, -map_tail, rgs, tmrC, qb])
  all_goals (try clear hnx)
  all_goals (simp_all []; done)

theorem c_toTimerS {p : Bool} {xs : List Tmr} (hm : xs.length ≤ MLIM) : PC ctx.P 190 [.view p 5 (xs.map tmrC)] (.view true 5 (xs.map tmrC)) := by
  refine PC.lim (n := xs.length) (x := .view p 5 (xs.map tmrC)) (by simp) (.here (by simp)) ⟨_, Tryz.func190, by kernel_rfl, by kernel_rfl⟩ fun hlim => ?_
  refine PC.o okC Tryz.func190 rfl (.vmap tmrC_fz) fun h nx hnx => ?_
  try simp [-map_take, -map_drop, -map_tail, rgs, hm]
  repeat' first | done | (((with_reducible show lenS _ _ _ _ _ _); refine lenS_slice rfl fun _ => ?_) <;> simp [-map_take, -map_drop, -map_tail, rgs, hm]) | fail
  refine go_upP (h0 := h) (nx0 := nx) [4, 8, 9, 10, 11, 12, 13, 14, 15, 16, 17, 18, 19, 20, 21] (xs.length) (fun (i : Nat) a => [(4, .int .i64 i)]) (fun i (_ : Unit) h' n' => h' (nx + 3) = some (.row 5 (fillR tmrC [.int .i64 0, .int .i64 0, .int .i64 0, .int .i64 0, .bool false] xs i)) ∧ nx + 4 ≤ n') (()) (by simp) ?_ keepA (by omega) ?_
  · simp [fillR_0]
  · intro i a tm h' n' hle hJ hE hn' next hnx
    try dsimp only at hJ
    have hK : KeepB nx h' h := KeepB.sub hE keepA (by omega)
    simp [-map_take, -map_drop, -map_tail]
    obtain ⟨hJ, hJn⟩ := hJ
    repeat' first | done | ((first | ((with_reducible show lenS _ _ _ _ _ _); refine lenS_slice rfl fun _ => ?_) | ((with_reducible show iaddrS _ _ _ _ _ _ _); refine iaddr_map rfl omA omA ?_) | ((with_reducible show doCall _ _ _ 307 _ _); refine call_pc (c_toTimer) ?_) | ((with_reducible show iaddrS _ _ _ _ (.ref _ _ _ _) _ _); refine iaddr_ref rfl omA omA ?_) | ((with_reducible show storeE _ _ _ _ _ _ _ _ _); refine storeE_fill hJ (by first | rfl | (simp; done)) (by simp) (by rfl) (by rfl) (by rfl) (by omega) ?_)) <;> simp [-map_take, -map_drop, -map_tail, rgs, hJ]) | ((with_reducible refine condS_split ?_ ?_) <;> intro qb <;> (have qp := qb; try simp only [psq] at qp) <;> simp [-map_take, -map_drop, -map_tail, rgs, hJ, qb])
    all_goals first
      | (have hlt : i < xs.length := (by first | omega | (simp at *; omega)); refine hnx.go () (by omega) (by simp [wrap_succ hlt hlim]) (by simp) keepA (by first | omega | (simp; omega)) ?_; (try dsimp only); refine ⟨by simp, by first | omega | (simp; omega)⟩)
      | (refine ⟨?_, keepA⟩; rw [fillR_ge (by first | omega | (simp at *; omega))]; first | done | (simp; done) | (rw [List.take_of_length_le (by simp)]))

theorem c_eqTimerS {p q : Bool} {xs ys : List Tmr} : PC ctx.P 201 [.view p 5 (xs.map tmrC), .view q 5 (ys.map tmrC)] (.bool (xs == ys)) := by
  refine PC.lim (n := xs.length) (x := .view p 5 (xs.map tmrC)) (by simp) (.here (by simp)) ⟨_, Tryz.func201, by kernel_rfl, by kernel_rfl⟩ fun hlim => ?_
  by_cases hl : xs.length = ys.length
  · refine PC.o okC Tryz.func201 rfl (.bool _) fun h nx hnx => ?_
    try simp [-map_take, -map_drop, -map_tail, rgs, hl]
    repeat' first | done | (((with_reducible show lenS _ _ _ _ _ _); refine lenS_slice rfl fun _ => ?_) <;> simp [-map_take, -map_drop, -map_tail, rgs, hl]) | fail
    refine go_upP [4, 5, 11, 12, 13, 14, 15, 16, 17, 18, 19, 20, 21, 22, 23, 24, 25, 26] (ys.length) (fun (i : Nat) a => [(5, .int .i64 i)]) (fun i_ a_ h_ _ => (fun i (_ : Unit) _ => (xs.drop i == ys.drop i) = (xs == ys)) i_ a_ h_) (()) (by simp) ?_ keep_rfl (Nat.le_refl _) ?_
    · simp
    · intro i a tm h' n' hle hJ hE hn' next hnx
      try dsimp only at hJ
      have hK : KeepB nx h' h := KeepB.sub hE keepA (by omega)
      simp [-map_take, -map_drop, -map_tail]
      try simp [-map_take, -map_drop, -map_tail, rgs, hl, tmrC]
      repeat' first | done | ((first | ((with_reducible show lenS _ _ _ _ _ _); refine lenS_slice rfl fun _ => ?_) | ((with_reducible show iaddrS _ _ _ _ _ _ _); refine iaddr_map rfl omA omA ?_) | ((with_reducible show doCall _ _ _ 311 _ _); refine call_pc (c_eqTimer) ?_) | (with_reducible refine go_draw (i := 6) [(0, [], []), (1, [], []), (2, [], []), (3, [], []), (4, [], []), (5, [], []), (6, [], []), (7, [], []), (8, [], []), (9, [], [])] (by kernel_rfl) ?_)) <;> simp [-map_take, -map_drop, -map_tail, rgs, hl, tmrC]) | ((with_reducible refine condS_split ?_ ?_) <;> intro qb <;> (have qp := qb; try simp only [psq] at qp) <;> simp [-map_take, -map_drop, -map_tail, rgs, hl, tmrC, qb])
      all_goals first
      | (have hlt : i < xs.length := (by first | omega | (simp at *; omega))
         rw [drop_gt hlt, drop_gt (xs := ys) (i := i) (by omega), List.cons_beq_cons] at hJ
         first
         | (refine hnx.go () ?_ ?_ ?_ ?_ ?_ ?_; omega; (simp [wrap_succ hlt hlim]); (simp); exact keepA; (first | omega | (simp; omega)); (try dsimp only); clear hnx; first | (simp_all; done) | grind)
         | (refine ⟨?_, keepA⟩; clear hnx; first | (simp_all; done) | grind)
         | (clear hnx; first | (simp_all; done) | grind))
      | (obtain rfl : i = xs.length := (by first | omega | (simp at *; omega))
         rw [List.drop_eq_nil_of_le (Nat.le_refl _), List.drop_eq_nil_of_le (by omega)] at hJ
         refine ⟨?_, keepA⟩; clear hnx; first | (simp_all; done) | grind)
  · refine PC.o okC Tryz.func201 rfl (.bool _) fun h nx hnx => ?_
    try simp [-map_take, -map_drop, -map_tail, rgs]
    repeat' first | done | (((with_reducible show lenS _ _ _ _ _ _); refine lenS_slice rfl fun _ => ?_) <;> simp [-map_take, -map_drop, -map_tail, rgs]) | ((with_reducible refine condS_split ?_ ?_) <;> intro qb <;> (have qp := qb; try simp only [psq] at qp) <;> simp [-map_take, -map_drop, -map_tail, rgs, qb])
    all_goals first | (exfalso; omega) | (symm; rw [beq_eq_false_iff_ne]; intro e; exact hl (by rw [e])) | (intro e; exact hl (by rw [e])) | skip

theorem c_szTimerS {p : Bool} {xs : List Tmr} {k : Int} (h0 : 0 ≤ k) (h1 : k ≤ 1048576) : PC ctx.P 172 [.view p 5 (xs.map tmrC), .int .i64 k] (.int .i64 (szR xs.length k)) := by
  refine PC.lim (n := xs.length) (x := .view p 5 (xs.map tmrC)) (by simp) (.here (by simp)) ⟨_, Tryz.func172, by kernel_rfl, by kernel_rfl⟩ fun hlim => ?_
  simp only [LIM] at hlim
  refine PC.o okC Tryz.func172 rfl (.int _ _) fun h nx hnx => ?_
  try simp [-map_take, -map_drop, -map_tail, rgs, i64_ok (x := k - (xs.length : Int)) (by omega)]
  repeat' first | done | (((with_reducible show lenS _ _ _ _ _ _); refine lenS_slice rfl fun _ => ?_) <;> simp [-map_take, -map_drop, -map_tail, rgs, i64_ok (x := k - (xs.length : Int)) (by omega)]) | ((with_reducible refine condS_split ?_ ?_) <;> intro qb <;> (have qp := qb; try simp only [psq] at qp) <;> simp [-map_take, -map_drop, -map_tail, rgs, i64_ok (x := k - (xs.length : Int)) (by omega), qb])
  all_goals (clear hnx; simp only [szR]; split <;> first | omega | (simp; omega))

theorem c_toAfter {x : Afr} : PC ctx.P 308 [.agg (afrC x)] (.agg (afrC x)) := by
  refine PC.o okC Tryz.func308 rfl (.agg _ (afrC_fz x)) fun h nx hnx => ?_
  try simp [-map_take, -map_drop, -map_tail, rgs, afrC, hanC]
  repeat' first | done | (((with_reducible show doCall _ _ _ 398 _ _); refine call_pc (c_toHandle (x := x.han)) ?_) <;> simp [-map_take, -map_drop, -map_tail, rgs, afrC, hanC]) | fail

theorem c_eqAfter {x y : Afr} : PC ctx.P 312 [.agg (afrC x), .agg (afrC y)] (.bool (x == y)) := by
  rw [afr_beq]
  refine PC.o okC Tryz.func312 rfl (.bool _) fun h nx hnx => ?_
  try simp [-map_take, -map_drop, -map_tail, rgs, afrC, hanC]
  repeat' first | done | (((with_reducible show doCall _ _ _ 399 _ _); refine call_pc (c_eqHandle (x := x.han) (y := y.han)) ?_) <;> simp [-map_take, -map_drop, -map_tail, rgs, afrC, hanC]) | ((with_reducible refine condS_split ?_ ?_) <;> intro qb <;> (have qp := qb; try simp only [psq] at qp) <;> simp [-map_take, -map_drop, -map_tail, rgs, afrC, hanC, qb])
  all_goals (try clear hnx)
  all_goals (simp_all []; done)

theorem c_toAfterS {p : Bool} {xs : List Afr} (hm : xs.length ≤ MLIM) : PC ctx.P 192 [.view p 5 (xs.map afrC)] (.view true 5 (xs.map afrC)) := by
  refine PC.lim (n := xs.length) (x := .view p 5 (xs.map afrC)) (by simp) (.here (by simp)) ⟨_, Tryz.func192, by kernel_rfl, by kernel_rfl⟩ fun hlim => ?_
  refine PC.o okC Tryz.func192 rfl (.vmap afrC_fz) fun h nx hnx => ?_
  try simp [-map_take, -map_drop, -map_tail, rgs, hm]
  repeat' first | done | (((with_reducible show lenS _ _ _ _ _ _); refine lenS_slice rfl fun _ => ?_) <;> simp [-map_take, -map_drop, -map_tail, rgs, hm]) | fail
  refine go_upP (h0 := h) (nx0 := nx) [4, 8, 9, 10, 11, 12, 13, 14, 15, 16, 17, 18, 19, 20, 21] (xs.length) (fun (i : Nat) a => [(4, .int .i64 i)]) (fun i (_ : Unit) h' n' => h' (nx + 3) = some (.row 5 (fillR afrC [.int .i64 0, .int .i64 0, .int .i64 0, .int .i64 0, .bool false] xs i)) ∧ nx + 4 ≤ n') (()) (by simp) ?_ keepA (by omega) ?_
  · simp [fillR_0]
  · intro i a tm h' n' hle hJ hE hn' next hnx
    try dsimp only at hJ
    have hK : KeepB nx h' h := KeepB.sub hE keepA (by omega)
    simp [-map_take, -map_drop, -map_tail]
    obtain ⟨hJ, hJn⟩ := hJ
    repeat' first | done | ((first | ((with_reducible show lenS _ _ _ _ _ _); refine lenS_slice rfl fun _ => ?_) | ((with_reducible show iaddrS _ _ _ _ _ _ _); refine iaddr_map rfl omA omA ?_) | ((with_reducible show doCall _ _ _ 308 _ _); refine call_pc (c_toAfter) ?_) | ((with_reducible show iaddrS _ _ _ _ (.ref _ _ _ _) _ _); refine iaddr_ref rfl omA omA ?_) | ((with_reducible show storeE _ _ _ _ _ _ _ _ _); refine storeE_fill hJ (by first | rfl | (simp; done)) (by simp) (by rfl) (by rfl) (by rfl) (by omega) ?_)) <;> simp [-map_take, -map_drop, -map_tail, rgs, hJ]) | ((with_reducible refine condS_split ?_ ?_) <;> intro qb <;> (have qp := qb; try simp only [psq] at qp) <;> simp [-map_take, -map_drop, -map_tail, rgs, hJ, qb])
    all_goals first
      | (have hlt : i < xs.length := (by first | omega | (simp at *; omega)); refine hnx.go () (by omega) (by simp [wrap_succ hlt hlim]) (by simp) keepA (by first | omega | (simp; omega)) ?_; (try dsimp only); refine ⟨by simp, by first | omega | (simp; omega)⟩)
      | (refine ⟨?_, keepA⟩; rw [fillR_ge (by first | omega | (simp at *; omega))]; first | done | (simp; done) | (rw [List.take_of_length_le (by simp)]))

theorem c_eqAfterS {p q : Bool} {xs ys : List Afr} : PC ctx.P 203 [.view p 5 (xs.map afrC), .view q 5 (ys.map afrC)] (.bool (xs == ys)) := by
  refine PC.lim (n := xs.length) (x := .view p 5 (xs.map afrC)) (by simp) (.here (by simp)) ⟨_, Tryz.func203, by kernel_rfl, by kernel_rfl⟩ fun hlim => ?_
  by_cases hl : xs.length = ys.length
  · refine PC.o okC Tryz.func203 rfl (.bool _) fun h nx hnx => ?_
    try simp [-map_take, -map_drop, -map_tail, rgs, hl]
    repeat' first | done | (((with_reducible show lenS _ _ _ _ _ _); refine lenS_slice rfl fun _ => ?_) <;> simp [-map_take, -map_drop, -map_tail, rgs, hl]) | fail
    refine go_upP [4, 5, 11, 12, 13, 14, 15, 16, 17, 18, 19, 20, 21, 22, 23, 24, 25, 26] (ys.length) (fun (i : Nat) a => [(5, .int .i64 i)]) (fun i_ a_ h_ _ => (fun i (_ : Unit) _ => (xs.drop i == ys.drop i) = (xs == ys)) i_ a_ h_) (()) (by simp) ?_ keep_rfl (Nat.le_refl _) ?_
    · simp
    · intro i a tm h' n' hle hJ hE hn' next hnx
      try dsimp only at hJ
      have hK : KeepB nx h' h := KeepB.sub hE keepA (by omega)
      simp [-map_take, -map_drop, -map_tail]
      try simp [-map_take, -map_drop, -map_tail, rgs, hl, afrC]
      repeat' first | done | ((first | ((with_reducible show lenS _ _ _ _ _ _); refine lenS_slice rfl fun _ => ?_) | ((with_reducible show iaddrS _ _ _ _ _ _ _); refine iaddr_map rfl omA omA ?_) | ((with_reducible show doCall _ _ _ 312 _ _); refine call_pc (c_eqAfter) ?_) | (with_reducible refine go_draw (i := 6) [(0, [], []), (1, [], []), (2, [], []), (3, [], []), (4, [], []), (5, [], []), (6, [], []), (7, [], []), (8, [], []), (9, [], [])] (by kernel_rfl) ?_)) <;> simp [-map_take, -map_drop, -map_tail, rgs, hl, afrC]) | ((with_reducible refine condS_split ?_ ?_) <;> intro qb <;> (have qp := qb; try simp only [psq] at qp) <;> simp [-map_take, -map_drop, -map_tail, rgs, hl, afrC, qb])
      all_goals first
      | (have hlt : i < xs.length := (by first | omega | (simp at *; omega))
         rw [drop_gt hlt, drop_gt (xs := ys) (i := i) (by omega), List.cons_beq_cons] at hJ
         first
         | (refine hnx.go () ?_ ?_ ?_ ?_ ?_ ?_; omega; (simp [wrap_succ hlt hlim]); (simp); exact keepA; (first | omega | (simp; omega)); (try dsimp only); clear hnx; first | (simp_all; done) | grind)
         | (refine ⟨?_, keepA⟩; clear hnx; first | (simp_all; done) | grind)
         | (clear hnx; first | (simp_all; done) | grind))
      | (obtain rfl : i = xs.length := (by first | omega | (simp at *; omega))
         rw [List.drop_eq_nil_of_le (Nat.le_refl _), List.drop_eq_nil_of_le (by omega)] at hJ
         refine ⟨?_, keepA⟩; clear hnx; first | (simp_all; done) | grind)
  · refine PC.o okC Tryz.func203 rfl (.bool _) fun h nx hnx => ?_
    try simp [-map_take, -map_drop, -map_tail, rgs]
    repeat' first | done | (((with_reducible show lenS _ _ _ _ _ _); refine lenS_slice rfl fun _ => ?_) <;> simp [-map_take, -map_drop, -map_tail, rgs]) | ((with_reducible refine condS_split ?_ ?_) <;> intro qb <;> (have qp := qb; try simp only [psq] at qp) <;> simp [-map_take, -map_drop, -map_tail, rgs, qb])
    all_goals first | (exfalso; omega) | (symm; rw [beq_eq_false_iff_ne]; intro e; exact hl (by rw [e])) | (intro e; exact hl (by rw [e])) | skip

theorem c_szAfterS {p : Bool} {xs : List Afr} {k : Int} (h0 : 0 ≤ k) (h1 : k ≤ 1048576) : PC ctx.P 174 [.view p 5 (xs.map afrC), .int .i64 k] (.int .i64 (szR xs.length k)) := by
  refine PC.lim (n := xs.length) (x := .view p 5 (xs.map afrC)) (by simp) (.here (by simp)) ⟨_, Tryz.func174, by kernel_rfl, by kernel_rfl⟩ fun hlim => ?_
  simp only [LIM] at hlim
  refine PC.o okC Tryz.func174 rfl (.int _ _) fun h nx hnx => ?_
  try simp [-map_take, -map_drop, -map_tail, rgs, i64_ok (x := k - (xs.length : Int)) (by omega)]
  repeat' first | done | (((with_reducible show lenS _ _ _ _ _ _); refine lenS_slice rfl fun _ => ?_) <;> simp [-map_take, -map_drop, -map_tail, rgs, i64_ok (x := k - (xs.length : Int)) (by omega)]) | ((with_reducible refine condS_split ?_ ?_) <;> intro qb <;> (have qp := qb; try simp only [psq] at qp) <;> simp [-map_take, -map_drop, -map_tail, rgs, i64_ok (x := k - (xs.length : Int)) (by omega), qb])
  all_goals (clear hnx; simp only [szR]; split <;> first | omega | (simp; omega))

theorem c_toTask {x : Tsk} : PC ctx.P 193 [.agg (tskC x)] (.agg (tskC x)) := by
  refine PC.o okC Tryz.func193 rfl (.agg _ (tskC_fz x)) fun h nx hnx => ?_
  try simp [-map_take, -map_drop, -map_tail, rgs, tskC]

theorem c_eqTask {x y : Tsk} : PC ctx.P 204 [.agg (tskC x), .agg (tskC y)] (.bool (x == y)) := by
  rw [tsk_beq]
  refine PC.o okC Tryz.func204 rfl (.bool _) fun h nx hnx => ?_
  try simp [-map_take, -map_drop, -map_tail, rgs, tskC]
  repeat' first | done | ((with_reducible refine condS_split ?_ ?_) <;> intro qb <;> (have qp := qb; try simp only [psq] at qp) <;> simp [-map_take, -map_drop, -map_tail, rgs, tskC, qb])
  all_goals (try clear hnx)
  all_goals (simp_all []; done)

theorem c_toTaskS {p : Bool} {xs : List Tsk} (hm : xs.length ≤ MLIM) : PC ctx.P 69 [.view p 9 (xs.map tskC)] (.view true 9 (xs.map tskC)) := by
  refine PC.lim (n := xs.length) (x := .view p 9 (xs.map tskC)) (by simp) (.here (by simp)) ⟨_, Tryz.func69, by kernel_rfl, by kernel_rfl⟩ fun hlim => ?_
  refine PC.o okC Tryz.func69 rfl (.vmap tskC_fz) fun h nx hnx => ?_
  try simp [-map_take, -map_drop, -map_tail, rgs, hm]
  repeat' first | done | (((with_reducible show lenS _ _ _ _ _ _); refine lenS_slice rfl fun _ => ?_) <;> simp [-map_take, -map_drop, -map_tail, rgs, hm]) | fail
  refine go_upP (h0 := h) (nx0 := nx) [4, 8, 9, 10, 11, 12, 13, 14, 15, 16, 17, 18, 19, 20, 21] (xs.length) (fun (i : Nat) a => [(4, .int .i64 i)]) (fun i (_ : Unit) h' n' => h' (nx + 3) = some (.row 9 (fillR tskC [.int .i64 0, .int .i64 0, .int .i64 0, .int .i64 0, .int .i64 0, .int .i64 0, .int .i64 0, .int .i64 0, .int .i64 0] xs i)) ∧ nx + 4 ≤ n') (()) (by simp) ?_ keepA (by omega) ?_
  · simp [fillR_0]
  · intro i a tm h' n' hle hJ hE hn' next hnx
    try dsimp only at hJ
    have hK : KeepB nx h' h := KeepB.sub hE keepA (by omega)
    simp [-map_take, -map_drop, -map_tail]
    obtain ⟨hJ, hJn⟩ := hJ
    repeat' first | done | ((first | ((with_reducible show lenS _ _ _ _ _ _); refine lenS_slice rfl fun _ => ?_) | ((with_reducible show iaddrS _ _ _ _ _ _ _); refine iaddr_map rfl omA omA ?_) | ((with_reducible show doCall _ _ _ 193 _ _); refine call_pc (c_toTask) ?_) | ((with_reducible show iaddrS _ _ _ _ (.ref _ _ _ _) _ _); refine iaddr_ref rfl omA omA ?_) | ((with_reducible show storeE _ _ _ _ _ _ _ _ _); refine storeE_fill hJ (by first | rfl | (simp; done)) (by simp) (by rfl) (by rfl) (by rfl) (by omega) ?_)) <;> simp [-map_take, -map_drop, -map_tail, rgs, hJ]) | ((with_reducible refine condS_split ?_ ?_) <;> intro qb <;> (have qp := qb; try simp only [psq] at qp) <;> simp [-map_take, -map_drop, -map_tail, rgs, hJ, qb])
    all_goals first
      | (have hlt : i < xs.length := (by first | omega | (simp at *; omega)); refine hnx.go () (by omega) (by simp [wrap_succ hlt hlim]) (by simp) keepA (by first | omega | (simp; omega)) ?_; (try dsimp only); refine ⟨by simp, by first | omega | (simp; omega)⟩)
      | (refine ⟨?_, keepA⟩; rw [fillR_ge (by first | omega | (simp at *; omega))]; first | done | (simp; done) | (rw [List.take_of_length_le (by simp)]))

theorem c_eqTaskS {p q : Bool} {xs ys : List Tsk} : PC ctx.P 79 [.view p 9 (xs.map tskC), .view q 9 (ys.map tskC)] (.bool (xs == ys)) := by
  refine PC.lim (n := xs.length) (x := .view p 9 (xs.map tskC)) (by simp) (.here (by simp)) ⟨_, Tryz.func79, by kernel_rfl, by kernel_rfl⟩ fun hlim => ?_
  by_cases hl : xs.length = ys.length
  · refine PC.o okC Tryz.func79 rfl (.bool _) fun h nx hnx => ?_
    try simp [-map_take, -map_drop, -map_tail, rgs, hl]
    repeat' first | done | (((with_reducible show lenS _ _ _ _ _ _); refine lenS_slice rfl fun _ => ?_) <;> simp [-map_take, -map_drop, -map_tail, rgs, hl]) | fail
    refine go_upP [4, 5, 11, 12, 13, 14, 15, 16, 17, 18, 19, 20, 21, 22, 23, 24, 25, 26] (ys.length) (fun (i : Nat) a => [(5, .int .i64 i)]) (fun i_ a_ h_ _ => (fun i (_ : Unit) _ => (xs.drop i == ys.drop i) = (xs == ys)) i_ a_ h_) (()) (by simp) ?_ keep_rfl (Nat.le_refl _) ?_
    · simp
    · intro i a tm h' n' hle hJ hE hn' next hnx
      try dsimp only at hJ
      have hK : KeepB nx h' h := KeepB.sub hE keepA (by omega)
      simp [-map_take, -map_drop, -map_tail]
      try simp [-map_take, -map_drop, -map_tail, rgs, hl, tskC]
      repeat' first | done | ((first | ((with_reducible show lenS _ _ _ _ _ _); refine lenS_slice rfl fun _ => ?_) | ((with_reducible show iaddrS _ _ _ _ _ _ _); refine iaddr_map rfl omA omA ?_) | ((with_reducible show doCall _ _ _ 204 _ _); refine call_pc (c_eqTask) ?_) | (with_reducible refine go_draw (i := 6) [(0, [], []), (1, [], []), (2, [], []), (3, [], []), (4, [], []), (5, [], []), (6, [], []), (7, [], []), (8, [], []), (9, [], [])] (by kernel_rfl) ?_)) <;> simp [-map_take, -map_drop, -map_tail, rgs, hl, tskC]) | ((with_reducible refine condS_split ?_ ?_) <;> intro qb <;> (have qp := qb; try simp only [psq] at qp) <;> simp [-map_take, -map_drop, -map_tail, rgs, hl, tskC, qb])
      all_goals first
      | (have hlt : i < xs.length := (by first | omega | (simp at *; omega))
         rw [drop_gt hlt, drop_gt (xs := ys) (i := i) (by omega), List.cons_beq_cons] at hJ
         first
         | (refine hnx.go () ?_ ?_ ?_ ?_ ?_ ?_; omega; (simp [wrap_succ hlt hlim]); (simp); exact keepA; (first | omega | (simp; omega)); (try dsimp only); clear hnx; first | (simp_all; done) | grind)
         | (refine ⟨?_, keepA⟩; clear hnx; first | (simp_all; done) | grind)
         | (clear hnx; first | (simp_all; done) | grind))
      | (obtain rfl : i = xs.length := (by first | omega | (simp at *; omega))
         rw [List.drop_eq_nil_of_le (Nat.le_refl _), List.drop_eq_nil_of_le (by omega)] at hJ
         refine ⟨?_, keepA⟩; clear hnx; first | (simp_all; done) | grind)
  · refine PC.o okC Tryz.func79 rfl (.bool _) fun h nx hnx => ?_
    try simp [-map_take, -map_drop, -map_tail, rgs]
    repeat' first | done | (((with_reducible show lenS _ _ _ _ _ _); refine lenS_slice rfl fun _ => ?_) <;> simp [-map_take, -map_drop, -map_tail, rgs]) | ((with_reducible refine condS_split ?_ ?_) <;> intro qb <;> (have qp := qb; try simp only [psq] at qp) <;> simp [-map_take, -map_drop, -map_tail, rgs, qb])
    all_goals first | (exfalso; omega) | (symm; rw [beq_eq_false_iff_ne]; intro e; exact hl (by rw [e])) | (intro e; exact hl (by rw [e])) | skip

theorem c_szTaskS {p : Bool} {xs : List Tsk} {k : Int} (h0 : 0 ≤ k) (h1 : k ≤ 1048576) : PC ctx.P 58 [.view p 9 (xs.map tskC), .int .i64 k] (.int .i64 (szR xs.length k)) := by
  refine PC.lim (n := xs.length) (x := .view p 9 (xs.map tskC)) (by simp) (.here (by simp)) ⟨_, Tryz.func58, by kernel_rfl, by kernel_rfl⟩ fun hlim => ?_
  simp only [LIM] at hlim
  refine PC.o okC Tryz.func58 rfl (.int _ _) fun h nx hnx => ?_
  try simp [-map_take, -map_drop, -map_tail, rgs, i64_ok (x := k - (xs.length : Int)) (by omega)]
  repeat' first | done | (((with_reducible show lenS _ _ _ _ _ _); refine lenS_slice rfl fun _ => ?_) <;> simp [-map_take, -map_drop, -map_tail, rgs, i64_ok (x := k - (xs.length : Int)) (by omega)]) | ((with_reducible refine condS_split ?_ ?_) <;> intro qb <;> (have qp := qb; try simp only [psq] at qp) <;> simp [-map_take, -map_drop, -map_tail, rgs, i64_ok (x := k - (xs.length : Int)) (by omega), qb])
  all_goals (clear hnx; simp only [szR]; split <;> first | omega | (simp; omega))

theorem c_toSight {x : Sgt} : PC ctx.P 195 [.agg (sgtC x)] (.agg (sgtC x)) := by
  refine PC.o okC Tryz.func195 rfl (.agg _ (sgtC_fz x)) fun h nx hnx => ?_
  try simp [-map_take, -map_drop, -map_tail, rgs, sgtC]

theorem c_eqSight {x y : Sgt} : PC ctx.P 206 [.agg (sgtC x), .agg (sgtC y)] (.bool (x == y)) := by
  rw [sgt_beq]
  refine PC.o okC Tryz.func206 rfl (.bool _) fun h nx hnx => ?_
  try simp [-map_take, -map_drop, -map_tail, rgs, sgtC]
  repeat' first | done | ((with_reducible refine condS_split ?_ ?_) <;> intro qb <;> (have qp := qb; try simp only [psq] at qp) <;> simp [-map_take, -map_drop, -map_tail, rgs, sgtC, qb])
  all_goals (try clear hnx)
  all_goals (simp_all []; done)

theorem c_toSightS {p : Bool} {xs : List Sgt} (hm : xs.length ≤ MLIM) : PC ctx.P 71 [.view p 4 (xs.map sgtC)] (.view true 4 (xs.map sgtC)) := by
  refine PC.lim (n := xs.length) (x := .view p 4 (xs.map sgtC)) (by simp) (.here (by simp)) ⟨_, Tryz.func71, by kernel_rfl, by kernel_rfl⟩ fun hlim => ?_
  refine PC.o okC Tryz.func71 rfl (.vmap sgtC_fz) fun h nx hnx => ?_
  try simp [-map_take, -map_drop, -map_tail, rgs, hm]
  repeat' first | done | (((with_reducible show lenS _ _ _ _ _ _); refine lenS_slice rfl fun _ => ?_) <;> simp [-map_take, -map_drop, -map_tail, rgs, hm]) | fail
  refine go_upP (h0 := h) (nx0 := nx) [4, 8, 9, 10, 11, 12, 13, 14, 15, 16, 17, 18, 19, 20, 21] (xs.length) (fun (i : Nat) a => [(4, .int .i64 i)]) (fun i (_ : Unit) h' n' => h' (nx + 3) = some (.row 4 (fillR sgtC [.int .i64 0, .int .i64 0, .int .i64 0, .int .i64 0] xs i)) ∧ nx + 4 ≤ n') (()) (by simp) ?_ keepA (by omega) ?_
  · simp [fillR_0]
  · intro i a tm h' n' hle hJ hE hn' next hnx
    try dsimp only at hJ
    have hK : KeepB nx h' h := KeepB.sub hE keepA (by omega)
    simp [-map_take, -map_drop, -map_tail]
    obtain ⟨hJ, hJn⟩ := hJ
    repeat' first | done | ((first | ((with_reducible show lenS _ _ _ _ _ _); refine lenS_slice rfl fun _ => ?_) | ((with_reducible show iaddrS _ _ _ _ _ _ _); refine iaddr_map rfl omA omA ?_) | ((with_reducible show doCall _ _ _ 195 _ _); refine call_pc (c_toSight) ?_) | ((with_reducible show iaddrS _ _ _ _ (.ref _ _ _ _) _ _); refine iaddr_ref rfl omA omA ?_) | ((with_reducible show storeE _ _ _ _ _ _ _ _ _); refine storeE_fill hJ (by first | rfl | (simp; done)) (by simp) (by rfl) (by rfl) (by rfl) (by omega) ?_)) <;> simp [-map_take, -map_drop, -map_tail, rgs, hJ]) | ((with_reducible refine condS_split ?_ ?_) <;> intro qb <;> (have qp := qb; try simp only [psq] at qp) <;> simp [-map_take, -map_drop, -map_tail, rgs, hJ, qb])
    all_goals first
      | (have hlt : i < xs.length := (by first | omega | (simp at *; omega)); refine hnx.go () (by omega) (by simp [wrap_succ hlt hlim]) (by simp) keepA (by first | omega | (simp; omega)) ?_; (try dsimp only); refine ⟨by simp, by first | omega | (simp; omega)⟩)
      | (refine ⟨?_, keepA⟩; rw [fillR_ge (by first | omega | (simp at *; omega))]; first | done | (simp; done) | (rw [List.take_of_length_le (by simp)]))

theorem c_eqSightS {p q : Bool} {xs ys : List Sgt} : PC ctx.P 81 [.view p 4 (xs.map sgtC), .view q 4 (ys.map sgtC)] (.bool (xs == ys)) := by
  refine PC.lim (n := xs.length) (x := .view p 4 (xs.map sgtC)) (by simp) (.here (by simp)) ⟨_, Tryz.func81, by kernel_rfl, by kernel_rfl⟩ fun hlim => ?_
  by_cases hl : xs.length = ys.length
  · refine PC.o okC Tryz.func81 rfl (.bool _) fun h nx hnx => ?_
    try simp [-map_take, -map_drop, -map_tail, rgs, hl]
    repeat' first | done | (((with_reducible show lenS _ _ _ _ _ _); refine lenS_slice rfl fun _ => ?_) <;> simp [-map_take, -map_drop, -map_tail, rgs, hl]) | fail
    refine go_upP [4, 5, 11, 12, 13, 14, 15, 16, 17, 18, 19, 20, 21, 22, 23, 24, 25, 26] (ys.length) (fun (i : Nat) a => [(5, .int .i64 i)]) (fun i_ a_ h_ _ => (fun i (_ : Unit) _ => (xs.drop i == ys.drop i) = (xs == ys)) i_ a_ h_) (()) (by simp) ?_ keep_rfl (Nat.le_refl _) ?_
    · simp
    · intro i a tm h' n' hle hJ hE hn' next hnx
      try dsimp only at hJ
      have hK : KeepB nx h' h := KeepB.sub hE keepA (by omega)
      simp [-map_take, -map_drop, -map_tail]
      try simp [-map_take, -map_drop, -map_tail, rgs, hl, sgtC]
      repeat' first | done | ((first | ((with_reducible show lenS _ _ _ _ _ _); refine lenS_slice rfl fun _ => ?_) | ((with_reducible show iaddrS _ _ _ _ _ _ _); refine iaddr_map rfl omA omA ?_) | ((with_reducible show doCall _ _ _ 206 _ _); refine call_pc (c_eqSight) ?_) | (with_reducible refine go_draw (i := 6) [(0, [], []), (1, [], []), (2, [], []), (3, [], []), (4, [], []), (5, [], []), (6, [], []), (7, [], []), (8, [], []), (9, [], [])] (by kernel_rfl) ?_)) <;> simp [-map_take, -map_drop, -map_tail, rgs, hl, sgtC]) | ((with_reducible refine condS_split ?_ ?_) <;> intro qb <;> (have qp := qb; try simp only [psq] at qp) <;> simp [-map_take, -map_drop, -map_tail, rgs, hl, sgtC, qb])
      all_goals first
      | (have hlt : i < xs.length := (by first | omega | (simp at *; omega))
         rw [drop_gt hlt, drop_gt (xs := ys) (i := i) (by omega), List.cons_beq_cons] at hJ
         first
         | (refine hnx.go () ?_ ?_ ?_ ?_ ?_ ?_; omega; (simp [wrap_succ hlt hlim]); (simp); exact keepA; (first | omega | (simp; omega)); (try dsimp only); clear hnx; first | (simp_all; done) | grind)
         | (refine ⟨?_, keepA⟩; clear hnx; first | (simp_all; done) | grind)
         | (clear hnx; first | (simp_all; done) | grind))
      | (obtain rfl : i = xs.length := (by first | omega | (simp at *; omega))
         rw [List.drop_eq_nil_of_le (Nat.le_refl _), List.drop_eq_nil_of_le (by omega)] at hJ
         refine ⟨?_, keepA⟩; clear hnx; first | (simp_all; done) | grind)
  · refine PC.o okC Tryz.func81 rfl (.bool _) fun h nx hnx => ?_
    try simp [-map_take, -map_drop, -map_tail, rgs]
    repeat' first | done | (((with_reducible show lenS _ _ _ _ _ _); refine lenS_slice rfl fun _ => ?_) <;> simp [-map_take, -map_drop, -map_tail, rgs]) | ((with_reducible refine condS_split ?_ ?_) <;> intro qb <;> (have qp := qb; try simp only [psq] at qp) <;> simp [-map_take, -map_drop, -map_tail, rgs, qb])
    all_goals first | (exfalso; omega) | (symm; rw [beq_eq_false_iff_ne]; intro e; exact hl (by rw [e])) | (intro e; exact hl (by rw [e])) | skip

theorem c_szSightS {p : Bool} {xs : List Sgt} {k : Int} (h0 : 0 ≤ k) (h1 : k ≤ 1048576) : PC ctx.P 60 [.view p 4 (xs.map sgtC), .int .i64 k] (.int .i64 (szR xs.length k)) := by
  refine PC.lim (n := xs.length) (x := .view p 4 (xs.map sgtC)) (by simp) (.here (by simp)) ⟨_, Tryz.func60, by kernel_rfl, by kernel_rfl⟩ fun hlim => ?_
  simp only [LIM] at hlim
  refine PC.o okC Tryz.func60 rfl (.int _ _) fun h nx hnx => ?_
  try simp [-map_take, -map_drop, -map_tail, rgs, i64_ok (x := k - (xs.length : Int)) (by omega)]
  repeat' first | done | (((with_reducible show lenS _ _ _ _ _ _); refine lenS_slice rfl fun _ => ?_) <;> simp [-map_take, -map_drop, -map_tail, rgs, i64_ok (x := k - (xs.length : Int)) (by omega)]) | ((with_reducible refine condS_split ?_ ?_) <;> intro qb <;> (have qp := qb; try simp only [psq] at qp) <;> simp [-map_take, -map_drop, -map_tail, rgs, i64_ok (x := k - (xs.length : Int)) (by omega), qb])
  all_goals (clear hnx; simp only [szR]; split <;> first | omega | (simp; omega))











theorem c_toInt64S {p : Bool} {xs : List Int} (hm : xs.length ≤ MLIM) : PC ctx.P 72 [.view p 1 (xs.map iv)] (.view true 1 (xs.map iv)) := by
  refine PC.lim (n := xs.length) (x := .view p 1 (xs.map iv)) (by simp) (.here (by simp)) ⟨_, Tryz.func72, by kernel_rfl, by kernel_rfl⟩ fun hlim => ?_
  refine PC.o okC Tryz.func72 rfl (.vmap iv_fz) fun h nx hnx => ?_
  try simp [-map_take, -map_drop, -map_tail, rgs, hm]
  repeat' first | done | (((with_reducible show lenS _ _ _ _ _ _); refine lenS_slice rfl fun _ => ?_) <;> simp [-map_take, -map_drop, -map_tail, rgs, hm]) | fail
  refine go_upP (h0 := h) (nx0 := nx) [4, 8, 9, 10, 11, 12, 13, 14, 15, 16, 17, 18, 19, 20] (xs.length) (fun (i : Nat) a => [(4, .int .i64 i)]) (fun i (_ : Unit) h' n' => h' (nx + 3) = some (.row 1 (fillR iv [.int .i64 0] xs i)) ∧ nx + 4 ≤ n') (()) (by simp) ?_ keepA (by omega) ?_
  · simp [fillR_0]
  · intro i a tm h' n' hle hJ hE hn' next hnx
    try dsimp only at hJ
    have hK : KeepB nx h' h := KeepB.sub hE keepA (by omega)
    simp [-map_take, -map_drop, -map_tail]
    obtain ⟨hJ, hJn⟩ := hJ
    repeat' first | done | ((first | ((with_reducible show lenS _ _ _ _ _ _); refine lenS_slice rfl fun _ => ?_) | ((with_reducible show iaddrS _ _ _ _ _ _ _); refine iaddr_map rfl omA omA ?_) | ((with_reducible show iaddrS _ _ _ _ (.ref _ _ _ _) _ _); refine iaddr_ref rfl omA omA ?_) | ((with_reducible show storeE _ _ _ _ _ _ _ _ _); refine storeE_fill hJ (by first | rfl | (simp; done)) (by simp) (by rfl) (by rfl) (by rfl) (by omega) ?_)) <;> simp [-map_take, -map_drop, -map_tail, rgs, hJ, iv]) | ((with_reducible refine condS_split ?_ ?_) <;> intro qb <;> (have qp := qb; try simp only [psq] at qp) <;> simp [-map_take, -map_drop, -map_tail, rgs, hJ, iv, qb])
    all_goals first
      | (have hlt : i < xs.length := (by first | omega | (simp at *; omega)); refine hnx.go () (by omega) (by simp [wrap_succ hlt hlim]) (by simp) keepA (by first | omega | (simp; omega)) ?_; (try dsimp only); refine ⟨by simp, by first | omega | (simp; omega)⟩)
      | (refine ⟨?_, keepA⟩; rw [fillR_ge (by first | omega | (simp at *; omega))]; first | done | (simp; done) | (rw [List.take_of_length_le (by simp)]))

theorem c_eqInt64S {p q : Bool} {xs ys : List Int} : PC ctx.P 82 [.view p 1 (xs.map iv), .view q 1 (ys.map iv)] (.bool (xs == ys)) := by
  refine PC.lim (n := xs.length) (x := .view p 1 (xs.map iv)) (by simp) (.here (by simp)) ⟨_, Tryz.func82, by kernel_rfl, by kernel_rfl⟩ fun hlim => ?_
  by_cases hl : xs.length = ys.length
  · refine PC.o okC Tryz.func82 rfl (.bool _) fun h nx hnx => ?_
    try simp [-map_take, -map_drop, -map_tail, rgs, hl]
    repeat' first | done | (((with_reducible show lenS _ _ _ _ _ _); refine lenS_slice rfl fun _ => ?_) <;> simp [-map_take, -map_drop, -map_tail, rgs, hl]) | fail
    refine go_upP [4, 5, 11, 12, 13, 14, 15, 16, 17, 18, 19, 20, 21, 22, 23, 24, 25] (ys.length) (fun (i : Nat) a => [(5, .int .i64 i)]) (fun i_ a_ h_ _ => (fun i (_ : Unit) _ => (xs.drop i == ys.drop i) = (xs == ys)) i_ a_ h_) (()) (by simp) ?_ keep_rfl (Nat.le_refl _) ?_
    · simp
    · intro i a tm h' n' hle hJ hE hn' next hnx
      try dsimp only at hJ
      have hK : KeepB nx h' h := KeepB.sub hE keepA (by omega)
      simp [-map_take, -map_drop, -map_tail]
      try simp [-map_take, -map_drop, -map_tail, rgs, hl, iv]
      repeat' first | done | ((first | ((with_reducible show lenS _ _ _ _ _ _); refine lenS_slice rfl fun _ => ?_) | ((with_reducible show iaddrS _ _ _ _ _ _ _); refine iaddr_map rfl omA omA ?_) | (with_reducible refine go_draw (i := 6) [(0, [], []), (1, [], []), (2, [], []), (3, [], []), (4, [], []), (5, [], []), (6, [], []), (7, [], []), (8, [], [])] (by kernel_rfl) ?_)) <;> simp [-map_take, -map_drop, -map_tail, rgs, hl, iv]) | ((with_reducible refine condS_split ?_ ?_) <;> intro qb <;> (have qp := qb; try simp only [psq] at qp) <;> simp [-map_take, -map_drop, -map_tail, rgs, hl, iv, qb])
      all_goals first
      | (have hlt : i < xs.length := (by first | omega | (simp at *; omega))
         rw [drop_gt hlt, drop_gt (xs := ys) (i := i) (by omega), List.cons_beq_cons] at hJ
         first
         | (refine hnx.go () ?_ ?_ ?_ ?_ ?_ ?_; omega; (simp [wrap_succ hlt hlim]); (simp); exact keepA; (first | omega | (simp; omega)); (try dsimp only); clear hnx; first | (simp_all; done) | grind)
         | (refine ⟨?_, keepA⟩; clear hnx; first | (simp_all; done) | grind)
         | (clear hnx; first | (simp_all; done) | grind))
      | (obtain rfl : i = xs.length := (by first | omega | (simp at *; omega))
         rw [List.drop_eq_nil_of_le (Nat.le_refl _), List.drop_eq_nil_of_le (by omega)] at hJ
         refine ⟨?_, keepA⟩; clear hnx; first | (simp_all; done) | grind)
  · refine PC.o okC Tryz.func82 rfl (.bool _) fun h nx hnx => ?_
    try simp [-map_take, -map_drop, -map_tail, rgs]
    repeat' first | done | (((with_reducible show lenS _ _ _ _ _ _); refine lenS_slice rfl fun _ => ?_) <;> simp [-map_take, -map_drop, -map_tail, rgs]) | ((with_reducible refine condS_split ?_ ?_) <;> intro qb <;> (have qp := qb; try simp only [psq] at qp) <;> simp [-map_take, -map_drop, -map_tail, rgs, qb])
    all_goals first | (exfalso; omega) | (symm; rw [beq_eq_false_iff_ne]; intro e; exact hl (by rw [e])) | (intro e; exact hl (by rw [e])) | skip

theorem c_szInt64S {p : Bool} {xs : List Int} {k : Int} (h0 : 0 ≤ k) (h1 : k ≤ 1048576) : PC ctx.P 61 [.view p 1 (xs.map iv), .int .i64 k] (.int .i64 (szR xs.length k)) := by
  refine PC.lim (n := xs.length) (x := .view p 1 (xs.map iv)) (by simp) (.here (by simp)) ⟨_, Tryz.func61, by kernel_rfl, by kernel_rfl⟩ fun hlim => ?_
  simp only [LIM] at hlim
  refine PC.o okC Tryz.func61 rfl (.int _ _) fun h nx hnx => ?_
  try simp [-map_take, -map_drop, -map_tail, rgs, i64_ok (x := k - (xs.length : Int)) (by omega)]
  repeat' first | done | (((with_reducible show lenS _ _ _ _ _ _); refine lenS_slice rfl fun _ => ?_) <;> simp [-map_take, -map_drop, -map_tail, rgs, i64_ok (x := k - (xs.length : Int)) (by omega)]) | ((with_reducible refine condS_split ?_ ?_) <;> intro qb <;> (have qp := qb; try simp only [psq] at qp) <;> simp [-map_take, -map_drop, -map_tail, rgs, i64_ok (x := k - (xs.length : Int)) (by omega), qb])
  all_goals (clear hnx; simp only [szR]; split <;> first | omega | (simp; omega))

theorem c_toBoolS {p : Bool} {xs : List Bool} (hm : xs.length ≤ MLIM) : PC ctx.P 188 [.view p 1 (xs.map bv)] (.view true 1 (xs.map bv)) := by
  refine PC.lim (n := xs.length) (x := .view p 1 (xs.map bv)) (by simp) (.here (by simp)) ⟨_, Tryz.func188, by kernel_rfl, by kernel_rfl⟩ fun hlim => ?_
  refine PC.o okC Tryz.func188 rfl (.vmap bv_fz) fun h nx hnx => ?_
  try simp [-map_take, -map_drop, -map_tail, rgs, hm]
  repeat' first | done | (((with_reducible show lenS _ _ _ _ _ _); refine lenS_slice rfl fun _ => ?_) <;> simp [-map_take, -map_drop, -map_tail, rgs, hm]) | fail
  refine go_upP (h0 := h) (nx0 := nx) [4, 8, 9, 10, 11, 12, 13, 14, 15, 16, 17, 18, 19, 20] (xs.length) (fun (i : Nat) a => [(4, .int .i64 i)]) (fun i (_ : Unit) h' n' => h' (nx + 3) = some (.row 1 (fillR bv [.bool false] xs i)) ∧ nx + 4 ≤ n') (()) (by simp) ?_ keepA (by omega) ?_
  · simp [fillR_0]
  · intro i a tm h' n' hle hJ hE hn' next hnx
    try dsimp only at hJ
    have hK : KeepB nx h' h := KeepB.sub hE keepA (by omega)
    simp [-map_take, -map_drop, -map_tail]
    obtain ⟨hJ, hJn⟩ := hJ
    repeat' first | done | ((first | ((with_reducible show lenS _ _ _ _ _ _); refine lenS_slice rfl fun _ => ?_) | ((with_reducible show iaddrS _ _ _ _ _ _ _); refine iaddr_map rfl omA omA ?_) | ((with_reducible show iaddrS _ _ _ _ (.ref _ _ _ _) _ _); refine iaddr_ref rfl omA omA ?_) | ((with_reducible show storeE _ _ _ _ _ _ _ _ _); refine storeE_fill hJ (by first | rfl | (simp; done)) (by simp) (by rfl) (by rfl) (by rfl) (by omega) ?_)) <;> simp [-map_take, -map_drop, -map_tail, rgs, hJ, bv]) | ((with_reducible refine condS_split ?_ ?_) <;> intro qb <;> (have qp := qb; try simp only [psq] at qp) <;> simp [-map_take, -map_drop, -map_tail, rgs, hJ, bv, qb])
    all_goals first
      | (have hlt : i < xs.length := (by first | omega | (simp at *; omega)); refine hnx.go () (by omega) (by simp [wrap_succ hlt hlim]) (by simp) keepA (by first | omega | (simp; omega)) ?_; (try dsimp only); refine ⟨by simp, by first | omega | (simp; omega)⟩)
      | (refine ⟨?_, keepA⟩; rw [fillR_ge (by first | omega | (simp at *; omega))]; first | done | (simp; done) | (rw [List.take_of_length_le (by simp)]))

theorem c_eqBoolS {p q : Bool} {xs ys : List Bool} : PC ctx.P 199 [.view p 1 (xs.map bv), .view q 1 (ys.map bv)] (.bool (xs == ys)) := by
  refine PC.lim (n := xs.length) (x := .view p 1 (xs.map bv)) (by simp) (.here (by simp)) ⟨_, Tryz.func199, by kernel_rfl, by kernel_rfl⟩ fun hlim => ?_
  by_cases hl : xs.length = ys.length
  · refine PC.o okC Tryz.func199 rfl (.bool _) fun h nx hnx => ?_
    try simp [-map_take, -map_drop, -map_tail, rgs, hl]
    repeat' first | done | (((with_reducible show lenS _ _ _ _ _ _); refine lenS_slice rfl fun _ => ?_) <;> simp [-map_take, -map_drop, -map_tail, rgs, hl]) | fail
    refine go_upP [4, 5, 11, 12, 13, 14, 15, 16, 17, 18, 19, 20, 21, 22, 23, 24, 25] (ys.length) (fun (i : Nat) a => [(5, .int .i64 i)]) (fun i_ a_ h_ _ => (fun i (_ : Unit) _ => (xs.drop i == ys.drop i) = (xs == ys)) i_ a_ h_) (()) (by simp) ?_ keep_rfl (Nat.le_refl _) ?_
    · simp
    · intro i a tm h' n' hle hJ hE hn' next hnx
      try dsimp only at hJ
      have hK : KeepB nx h' h := KeepB.sub hE keepA (by omega)
      simp [-map_take, -map_drop, -map_tail]
      try simp [-map_take, -map_drop, -map_tail, rgs, hl, bv]
      repeat' first | done | ((first | ((with_reducible show lenS _ _ _ _ _ _); refine lenS_slice rfl fun _ => ?_) | ((with_reducible show iaddrS _ _ _ _ _ _ _); refine iaddr_map rfl omA omA ?_) | (with_reducible refine go_draw (i := 6) [(0, [], []), (1, [], []), (2, [], []), (3, [], []), (4, [], []), (5, [], []), (6, [], []), (7, [], []), (8, [], [])] (by kernel_rfl) ?_)) <;> simp [-map_take, -map_drop, -map_tail, rgs, hl, bv]) | ((with_reducible refine condS_split ?_ ?_) <;> intro qb <;> (have qp := qb; try simp only [psq] at qp) <;> simp [-map_take, -map_drop, -map_tail, rgs, hl, bv, qb])
      all_goals first
      | (have hlt : i < xs.length := (by first | omega | (simp at *; omega))
         rw [drop_gt hlt, drop_gt (xs := ys) (i := i) (by omega), List.cons_beq_cons] at hJ
         first
         | (refine hnx.go () ?_ ?_ ?_ ?_ ?_ ?_; omega; (simp [wrap_succ hlt hlim]); (simp); exact keepA; (first | omega | (simp; omega)); (try dsimp only); clear hnx; first | (simp_all; done) | grind)
         | (refine ⟨?_, keepA⟩; clear hnx; first | (simp_all; done) | grind)
         | (clear hnx; first | (simp_all; done) | grind))
      | (obtain rfl : i = xs.length := (by first | omega | (simp at *; omega))
         rw [List.drop_eq_nil_of_le (Nat.le_refl _), List.drop_eq_nil_of_le (by omega)] at hJ
         refine ⟨?_, keepA⟩; clear hnx; first | (simp_all; done) | grind)
  · refine PC.o okC Tryz.func199 rfl (.bool _) fun h nx hnx => ?_
    try simp [-map_take, -map_drop, -map_tail, rgs]
    repeat' first | done | (((with_reducible show lenS _ _ _ _ _ _); refine lenS_slice rfl fun _ => ?_) <;> simp [-map_take, -map_drop, -map_tail, rgs]) | ((with_reducible refine condS_split ?_ ?_) <;> intro qb <;> (have qp := qb; try simp only [psq] at qp) <;> simp [-map_take, -map_drop, -map_tail, rgs, qb])
    all_goals first | (exfalso; omega) | (symm; rw [beq_eq_false_iff_ne]; intro e; exact hl (by rw [e])) | (intro e; exact hl (by rw [e])) | skip

theorem c_szBoolS {p : Bool} {xs : List Bool} {k : Int} (h0 : 0 ≤ k) (h1 : k ≤ 1048576) : PC ctx.P 170 [.view p 1 (xs.map bv), .int .i64 k] (.int .i64 (szR xs.length k)) := by
  refine PC.lim (n := xs.length) (x := .view p 1 (xs.map bv)) (by simp) (.here (by simp)) ⟨_, Tryz.func170, by kernel_rfl, by kernel_rfl⟩ fun hlim => ?_
  simp only [LIM] at hlim
  refine PC.o okC Tryz.func170 rfl (.int _ _) fun h nx hnx => ?_
  try simp [-map_take, -map_drop, -map_tail, rgs, i64_ok (x := k - (xs.length : Int)) (by omega)]
  repeat' first | done | (((with_reducible show lenS _ _ _ _ _ _); refine lenS_slice rfl fun _ => ?_) <;> simp [-map_take, -map_drop, -map_tail, rgs, i64_ok (x := k - (xs.length : Int)) (by omega)]) | ((with_reducible refine condS_split ?_ ?_) <;> intro qb <;> (have qp := qb; try simp only [psq] at qp) <;> simp [-map_take, -map_drop, -map_tail, rgs, i64_ok (x := k - (xs.length : Int)) (by omega), qb])
  all_goals (clear hnx; simp only [szR]; split <;> first | omega | (simp; omega))

end Go.AE.Tryz
end

section
/- Contracts of the laws' helpers: worlds. -/
set_option maxRecDepth 8000
set_option maxHeartbeats 4000000
namespace Go.AE.Tryz
open Go.Proofs
open List (map_take map_drop map_tail)
theorem c_toInsSS {p r : Bool} {xs : List (List Inn)} (hm : xs.length ≤ MLIM) (hi : ∀ x ∈ xs, x.length ≤ MLIM) : PC ctx.P 63 [.view p 1 (xs.map (prgV r))] (.view true 1 (xs.map (prgV true))) := by
  refine PC.lim (n := xs.length) (x := .view p 1 (xs.map (prgV r))) (by simp) (.here (by simp)) ⟨_, Tryz.func63, by kernel_rfl, by kernel_rfl⟩ fun hlim => ?_
  refine PC.o okC Tryz.func63 rfl (.vmap prgV_fz) fun h nx hnx => ?_
  try simp [-map_take, -map_drop, -map_tail, rgs, hm]
  repeat' first | done | (((with_reducible show lenS _ _ _ _ _ _); refine lenS_slice rfl fun _ => ?_) <;> simp [-map_take, -map_drop, -map_tail, rgs, hm]) | fail
  refine go_upP (h0 := h) (nx0 := nx) [4, 8, 9, 10, 11, 12, 13, 14, 15, 16, 17, 18, 19, 20, 21] (xs.length) (fun (i : Nat) a => [(4, .int .i64 i)]) (fun i (_ : Unit) h' n' => h' (nx + 3) = some (.row 1 (fillR (prgV true) [.nil] xs i)) ∧ nx + 4 ≤ n') (()) (by simp) ?_ keepA (by omega) ?_
  · simp [fillR_0]
  · intro i a tm h' n' hle hJ hE hn' next hnx
    try dsimp only at hJ
    have hK : KeepB nx h' h := KeepB.sub hE keepA (by omega)
    simp [-map_take, -map_drop, -map_tail]
    obtain ⟨hJ, hJn⟩ := hJ
    repeat' first | done | ((first | ((with_reducible show lenS _ _ _ _ _ _); refine lenS_slice rfl fun _ => ?_) | ((with_reducible show iaddrS _ _ _ _ _ _ _); refine iaddr_map rfl omA omA ?_) | ((with_reducible show doCall _ _ _ 185 _ _); refine call_pc (c_toInsS (hi _ (gt_mem (by omega) (by omega)))) ?_) | ((with_reducible show iaddrS _ _ _ _ (.ref _ _ _ _) _ _); refine iaddr_ref rfl omA omA ?_) | ((with_reducible show storeE _ _ _ _ _ _ _ _ _); refine storeE_fill hJ (by first | rfl | (simp; done)) (by simp) (by rfl) (by rfl) (by rfl) (by omega) ?_)) <;> simp [-map_take, -map_drop, -map_tail, rgs, hJ, prgV]) | ((with_reducible refine condS_split ?_ ?_) <;> intro qb <;> (have qp := qb; try simp only [psq] at qp) <;> simp [-map_take, -map_drop, -map_tail, rgs, hJ, prgV, qb])
    all_goals first
      | (have hlt : i < xs.length := (by first | omega | (simp at *; omega)); refine hnx.go () (by omega) (by simp [wrap_succ hlt hlim]) (by simp) keepA (by first | omega | (simp; omega)) ?_; (try dsimp only); refine ⟨by simp, by first | omega | (simp; omega)⟩)
      | (refine ⟨?_, keepA⟩; rw [fillR_ge (by first | omega | (simp at *; omega))]; first | done | (simp; done) | (rw [List.take_of_length_le (by simp)]))
theorem c_eqInsSS {p q p2 q2 : Bool} {xs ys : List (List Inn)} : PC ctx.P 73 [.view p 1 (xs.map (prgV p2)), .view q 1 (ys.map (prgV q2))] (.bool (xs == ys)) := by
  refine PC.lim (n := xs.length) (x := .view p 1 (xs.map (prgV p2))) (by simp) (.here (by simp)) ⟨_, Tryz.func73, by kernel_rfl, by kernel_rfl⟩ fun hlim => ?_
  by_cases hl : xs.length = ys.length
  · refine PC.o okC Tryz.func73 rfl (.bool _) fun h nx hnx => ?_
    try simp [-map_take, -map_drop, -map_tail, rgs, hl]
    repeat' first | done | (((with_reducible show lenS _ _ _ _ _ _); refine lenS_slice rfl fun _ => ?_) <;> simp [-map_take, -map_drop, -map_tail, rgs, hl]) | fail
    refine go_upP [4, 5, 11, 12, 13, 14, 15, 16, 17, 18, 19, 20, 21, 22, 23, 24, 25, 26] (ys.length) (fun (i : Nat) a => [(5, .int .i64 i)]) (fun i_ a_ h_ _ => (fun i (_ : Unit) _ => (xs.drop i == ys.drop i) = (xs == ys)) i_ a_ h_) (()) (by simp) ?_ keep_rfl (Nat.le_refl _) ?_
    · simp
    · intro i a tm h' n' hle hJ hE hn' next hnx
      try dsimp only at hJ
      have hK : KeepB nx h' h := KeepB.sub hE keepA (by omega)
      simp [-map_take, -map_drop, -map_tail]
      try simp [-map_take, -map_drop, -map_tail, rgs, hl, prgV]
      repeat' first | done | ((first | ((with_reducible show lenS _ _ _ _ _ _); refine lenS_slice rfl fun _ => ?_) | ((with_reducible show iaddrS _ _ _ _ _ _ _); refine iaddr_map rfl omA omA ?_) | ((with_reducible show doCall _ _ _ 196 _ _); refine call_pc (c_eqInsS) ?_) | (with_reducible refine go_draw (i := 6) [(0, [], []), (1, [], []), (2, [], []), (3, [], []), (4, [], []), (5, [], []), (6, [], []), (7, [], []), (8, [], []), (9, [], [])] (by kernel_rfl) ?_)) <;> simp [-map_take, -map_drop, -map_tail, rgs, hl, prgV]) | ((with_reducible refine condS_split ?_ ?_) <;> intro qb <;> (have qp := qb; try simp only [psq] at qp) <;> simp [-map_take, -map_drop, -map_tail, rgs, hl, prgV, qb])
      all_goals first
      | (have hlt : i < xs.length := (by first | omega | (simp at *; omega))
         rw [drop_gt hlt, drop_gt (xs := ys) (i := i) (by omega), List.cons_beq_cons] at hJ
         first
         | (refine hnx.go () ?_ ?_ ?_ ?_ ?_ ?_; omega; (simp [wrap_succ hlt hlim]); (simp); exact keepA; (first | omega | (simp; omega)); (try dsimp only); clear hnx; first | (simp_all; done) | grind)
         | (refine ⟨?_, keepA⟩; clear hnx; first | (simp_all; done) | grind)
         | (clear hnx; first | (simp_all; done) | grind))
      | (obtain rfl : i = xs.length := (by first | omega | (simp at *; omega))
         rw [List.drop_eq_nil_of_le (Nat.le_refl _), List.drop_eq_nil_of_le (by omega)] at hJ
         refine ⟨?_, keepA⟩; clear hnx; first | (simp_all; done) | grind)
  · refine PC.o okC Tryz.func73 rfl (.bool _) fun h nx hnx => ?_
    try simp [-map_take, -map_drop, -map_tail, rgs]
    repeat' first | done | (((with_reducible show lenS _ _ _ _ _ _); refine lenS_slice rfl fun _ => ?_) <;> simp [-map_take, -map_drop, -map_tail, rgs]) | ((with_reducible refine condS_split ?_ ?_) <;> intro qb <;> (have qp := qb; try simp only [psq] at qp) <;> simp [-map_take, -map_drop, -map_tail, rgs, qb])
    all_goals first | (exfalso; omega) | (symm; rw [beq_eq_false_iff_ne]; intro e; exact hl (by rw [e])) | (intro e; exact hl (by rw [e])) | skip
theorem c_szInsSS {p r : Bool} {xs : List (List Inn)} {k : Int} (h0 : 0 ≤ k) (h1 : k ≤ 1048576) : PC ctx.P 52 [.view p 1 (xs.map (prgV r)), .int .i64 k] (.int .i64 (szR (xs.length + lsum (·.length) xs) k)) := by
  refine PC.lim (n := xs.length) (x := .view p 1 (xs.map (prgV r))) (by simp) (.here (by simp)) ⟨_, Tryz.func52, by kernel_rfl, by kernel_rfl⟩ fun hlim => ?_
  have hlim' := hlim
  simp only [LIM] at hlim
  refine PC.o okC Tryz.func52 rfl (.int _ _) fun h nx hnx => ?_
  try simp [-map_take, -map_drop, -map_tail, rgs, i64_ok (x := k - (xs.length : Int)) (by omega)]
  repeat' first | done | (((with_reducible show lenS _ _ _ _ _ _); refine lenS_slice rfl fun _ => ?_) <;> simp [-map_take, -map_drop, -map_tail, rgs, i64_ok (x := k - (xs.length : Int)) (by omega)]) | ((with_reducible refine condS_split ?_ ?_) <;> intro qb <;> (have qp := qb; try simp only [psq] at qp) <;> simp [-map_take, -map_drop, -map_tail, rgs, i64_ok (x := k - (xs.length : Int)) (by omega), qb])
  all_goals first | (clear hnx; rcases szR_or (xs.length + lsum (·.length) xs) k with q | q <;> omega) | skip
  refine go_upP [1, 4, 5, 12, 13, 14, 15, 16, 17, 18, 19, 20, 21, 22, 23, 24, 25] (xs.length) (fun (i : Nat) a => [(5, .int .i64 i), (1, .int .i64 a)]) (fun i_ a_ h_ _ => (fun i (a : Int) _ => 0 ≤ a ∧ a ≤ 1048576 ∧ szR (lsum (·.length) (xs.drop i)) a = szR (xs.length + lsum (·.length) xs) k) i_ a_ h_) (k - xs.length) (by simp) ?_ keep_rfl (Nat.le_refl _) ?_
  · rcases szR_or (xs.length + lsum (·.length) xs) k with q | q <;> rcases szR_or (lsum (·.length) xs) (k - xs.length) with q' | q' <;> simp <;> omega
  · intro i a tm h' n' hle hJ hE hn' next hnx
    try dsimp only at hJ
    have hK : KeepB nx h' h := KeepB.sub hE keepA (by omega)
    simp [-map_take, -map_drop, -map_tail]
    repeat' first | done | ((first | ((with_reducible show lenS _ _ _ _ _ _); refine lenS_slice rfl fun _ => ?_) | ((with_reducible show iaddrS _ _ _ _ _ _ _); refine iaddr_map rfl omA omA ?_) | ((with_reducible show doCall _ _ _ 169 _ _); refine call_pc (c_szInsS hJ.1 hJ.2.1) ?_)) <;> simp [-map_take, -map_drop, -map_tail, rgs, prgV]) | ((with_reducible refine condS_split ?_ ?_) <;> intro qb <;> (have qp := qb; try simp only [psq] at qp) <;> simp [-map_take, -map_drop, -map_tail, rgs, prgV, qb])
    · refine ⟨?_, keepA⟩
      obtain ⟨j0, j1, j2⟩ := hJ
      rw [drop_gt (by omega)] at j2
      rw [← j2]
      simp only [lsum]
      rcases szR_or ((gt xs (i : Int)).length) a with q | q <;> rcases szR_or ((gt xs (i : Int)).length + lsum (·.length) (xs.drop (i + 1))) a with q' | q' <;> omega
    · obtain ⟨j0, j1, j2⟩ := hJ
      rw [drop_gt (by omega)] at j2
      refine hnx.go (szR (gt xs (i : Int)).length a) ?_ ?_ ?_ ?_ ?_ ?_
      · omega
      · simp [wrap_succ (show i < xs.length by omega) hlim']
      · simp
      · exact keepA
      · first | omega | (simp; omega)
      dsimp only
      rcases szR_or ((gt xs (i : Int)).length) a with q | q
      · omega
      refine ⟨by omega, by omega, ?_⟩
      rw [← j2]
      simp only [lsum]
      rcases szR_or (lsum (·.length) (xs.drop (i + 1))) (szR ((gt xs (i : Int)).length) a) with q1 | q1 <;> rcases szR_or ((gt xs (i : Int)).length + lsum (·.length) (xs.drop (i + 1))) a with q' | q' <;> omega
    · refine ⟨?_, keepA⟩
      obtain ⟨j0, j1, j2⟩ := hJ
      rw [List.drop_eq_nil_of_le (by omega)] at j2
      rw [← j2]
      simp only [lsum]
      rcases szR_or 0 a with q | q <;> omega
theorem c_toGroup {p : Bool} {g : Grp} (hw : g.waits.length ≤ MLIM) : PC ctx.P 194 [.agg (grpV p g)] (.agg (grpV true g)) := by
  refine PC.o okC Tryz.func194 rfl (.agg _ (grpV_fz g)) fun h nx hnx => ?_
  try simp [-map_take, -map_drop, -map_tail, rgs, grpV]
  repeat' first | done | (((with_reducible show doCall _ _ _ 72 _ _); refine call_pc (c_toInt64S hw) ?_) <;> simp [-map_take, -map_drop, -map_tail, rgs, grpV]) | fail
theorem c_toGroupS {p r : Bool} {xs : List Grp} (hm : xs.length ≤ MLIM) (hi : ∀ x ∈ xs, x.waits.length ≤ MLIM) : PC ctx.P 70 [.view p 5 (xs.map (grpV r))] (.view true 5 (xs.map (grpV true))) := by
  refine PC.lim (n := xs.length) (x := .view p 5 (xs.map (grpV r))) (by simp) (.here (by simp)) ⟨_, Tryz.func70, by kernel_rfl, by kernel_rfl⟩ fun hlim => ?_
  refine PC.o okC Tryz.func70 rfl (.vmap grpV_fz) fun h nx hnx => ?_
  try simp [-map_take, -map_drop, -map_tail, rgs, hm]
  repeat' first | done | (((with_reducible show lenS _ _ _ _ _ _); refine lenS_slice rfl fun _ => ?_) <;> simp [-map_take, -map_drop, -map_tail, rgs, hm]) | fail
  refine go_upP (h0 := h) (nx0 := nx) [4, 8, 9, 10, 11, 12, 13, 14, 15, 16, 17, 18, 19, 20, 21] (xs.length) (fun (i : Nat) a => [(4, .int .i64 i)]) (fun i (_ : Unit) h' n' => h' (nx + 3) = some (.row 5 (fillR (grpV true) [.int .i64 0, .int .i64 0, .int .i64 0, .nil, .int .i64 0] xs i)) ∧ nx + 4 ≤ n') (()) (by simp) ?_ keepA (by omega) ?_
  · simp [fillR_0]
  · intro i a tm h' n' hle hJ hE hn' next hnx
    try dsimp only at hJ
    have hK : KeepB nx h' h := KeepB.sub hE keepA (by omega)
    simp [-map_take, -map_drop, -map_tail]
    obtain ⟨hJ, hJn⟩ := hJ
    repeat' first | done | ((first | ((with_reducible show lenS _ _ _ _ _ _); refine lenS_slice rfl fun _ => ?_) | ((with_reducible show iaddrS _ _ _ _ _ _ _); refine iaddr_map rfl omA omA ?_) | ((with_reducible show doCall _ _ _ 194 _ _); refine call_pc (c_toGroup (hi _ (gt_mem (by omega) (by omega)))) ?_) | ((with_reducible show iaddrS _ _ _ _ (.ref _ _ _ _) _ _); refine iaddr_ref rfl omA omA ?_) | ((with_reducible show storeE _ _ _ _ _ _ _ _ _); refine storeE_fill hJ (by first | rfl | (simp; done)) (by simp) (by rfl) (by rfl) (by rfl) (by omega) ?_)) <;> simp [-map_take, -map_drop, -map_tail, rgs, hJ]) | ((with_reducible refine condS_split ?_ ?_) <;> intro qb <;> (have qp := qb; try simp only [psq] at qp) <;> simp [-map_take, -map_drop, -map_tail, rgs, hJ, qb])
    all_goals first
      | (have hlt : i < xs.length := (by first | omega | (simp at *; omega)); refine hnx.go () (by omega) (by simp [wrap_succ hlt hlim]) (by simp) keepA (by first | omega | (simp; omega)) ?_; (try dsimp only); refine ⟨by simp, by first | omega | (simp; omega)⟩)
      | (refine ⟨?_, keepA⟩; rw [fillR_ge (by first | omega | (simp at *; omega))]; first | done | (simp; done) | (rw [List.take_of_length_le (by simp)]))
theorem c_eqGroup {p q : Bool} {x y : Grp} : PC ctx.P 205 [.agg (grpV p x), .agg (grpV q y)] (.bool (x == y)) := by
  rw [grp_beq]
  refine PC.o okC Tryz.func205 rfl (.bool _) fun h nx hnx => ?_
  try simp [-map_take, -map_drop, -map_tail, rgs, grpV]
  repeat' first | done | (((with_reducible show doCall _ _ _ 82 _ _); refine call_pc (c_eqInt64S) ?_) <;> simp [-map_take, -map_drop, -map_tail, rgs, grpV]) | ((with_reducible refine condS_split ?_ ?_) <;> intro qb <;> (have qp := qb; try simp only [psq] at qp) <;> simp [-map_take, -map_drop, -map_tail, rgs, grpV, qb])
  all_goals (try clear hnx)
  all_goals (simp_all []; done)
theorem c_eqGroupS {p q p2 q2 : Bool} {xs ys : List Grp} : PC ctx.P 80 [.view p 5 (xs.map (grpV p2)), .view q 5 (ys.map (grpV q2))] (.bool (xs == ys)) := by
  refine PC.lim (n := xs.length) (x := .view p 5 (xs.map (grpV p2))) (by simp) (.here (by simp)) ⟨_, Tryz.func80, by kernel_rfl, by kernel_rfl⟩ fun hlim => ?_
  by_cases hl : xs.length = ys.length
  · refine PC.o okC Tryz.func80 rfl (.bool _) fun h nx hnx => ?_
    try simp [-map_take, -map_drop, -map_tail, rgs, hl]
    repeat' first | done | (((with_reducible show lenS _ _ _ _ _ _); refine lenS_slice rfl fun _ => ?_) <;> simp [-map_take, -map_drop, -map_tail, rgs, hl]) | fail
    refine go_upP [4, 5, 11, 12, 13, 14, 15, 16, 17, 18, 19, 20, 21, 22, 23, 24, 25, 26] (ys.length) (fun (i : Nat) a => [(5, .int .i64 i)]) (fun i_ a_ h_ _ => (fun i (_ : Unit) _ => (xs.drop i == ys.drop i) = (xs == ys)) i_ a_ h_) (()) (by simp) ?_ keep_rfl (Nat.le_refl _) ?_
    · simp
    · intro i a tm h' n' hle hJ hE hn' next hnx
      try dsimp only at hJ
      have hK : KeepB nx h' h := KeepB.sub hE keepA (by omega)
      simp [-map_take, -map_drop, -map_tail]
      try simp [-map_take, -map_drop, -map_tail, rgs, hl]
      repeat' first | done | ((first | ((with_reducible show lenS _ _ _ _ _ _); refine lenS_slice rfl fun _ => ?_) | ((with_reducible show iaddrS _ _ _ _ _ _ _); refine iaddr_map rfl omA omA ?_) | ((with_reducible show doCall _ _ _ 205 _ _); refine call_pc (c_eqGroup) ?_) | (with_reducible refine go_draw (i := 6) [(0, [], []), (1, [], []), (2, [], []), (3, [], []), (4, [], []), (5, [], []), (6, [], []), (7, [], []), (8, [], []), (9, [], [])] (by kernel_rfl) ?_)) <;> simp [-map_take, -map_drop, -map_tail, rgs, hl]) | ((with_reducible refine condS_split ?_ ?_) <;> intro qb <;> (have qp := qb; try simp only [psq] at qp) <;> simp [-map_take, -map_drop, -map_tail, rgs, hl, qb])
      all_goals first
      | (have hlt : i < xs.length := (by first | omega | (simp at *; omega))
         rw [drop_gt hlt, drop_gt (xs := ys) (i := i) (by omega), List.cons_beq_cons] at hJ
         first
         | (refine hnx.go () ?_ ?_ ?_ ?_ ?_ ?_; omega; (simp [wrap_succ hlt hlim]); (simp); exact keepA; (first | omega | (simp; omega)); (try dsimp only); clear hnx; first | (simp_all; done) | grind)
         | (refine ⟨?_, keepA⟩; clear hnx; first | (simp_all; done) | grind)
         | (clear hnx; first | (simp_all; done) | grind))
      | (obtain rfl : i = xs.length := (by first | omega | (simp at *; omega))
         rw [List.drop_eq_nil_of_le (Nat.le_refl _), List.drop_eq_nil_of_le (by omega)] at hJ
         refine ⟨?_, keepA⟩; clear hnx; first | (simp_all; done) | grind)
  · refine PC.o okC Tryz.func80 rfl (.bool _) fun h nx hnx => ?_
    try simp [-map_take, -map_drop, -map_tail, rgs]
    repeat' first | done | (((with_reducible show lenS _ _ _ _ _ _); refine lenS_slice rfl fun _ => ?_) <;> simp [-map_take, -map_drop, -map_tail, rgs]) | ((with_reducible refine condS_split ?_ ?_) <;> intro qb <;> (have qp := qb; try simp only [psq] at qp) <;> simp [-map_take, -map_drop, -map_tail, rgs, qb])
    all_goals first | (exfalso; omega) | (symm; rw [beq_eq_false_iff_ne]; intro e; exact hl (by rw [e])) | (intro e; exact hl (by rw [e])) | skip
theorem c_szGroup {p : Bool} {x : Grp} {k : Int} (h0 : 0 ≤ k) (h1 : k ≤ 1048576) : PC ctx.P 175 [.agg (grpV p x), .int .i64 k] (.int .i64 (szR x.waits.length k)) := by
  refine PC.o okC Tryz.func175 rfl (.int _ _) fun h nx hnx => ?_
  try simp [-map_take, -map_drop, -map_tail, rgs, grpV]
  repeat' first | done | (((with_reducible show doCall _ _ _ 61 _ _); refine call_pc (c_szInt64S h0 h1) ?_) <;> simp [-map_take, -map_drop, -map_tail, rgs, grpV]) | ((with_reducible refine condS_split ?_ ?_) <;> intro qb <;> (have qp := qb; try simp only [psq] at qp) <;> simp [-map_take, -map_drop, -map_tail, rgs, grpV, qb])
  all_goals (clear hnx; rcases szR_or x.waits.length k with q | q <;> omega)
theorem c_szGroupS {p r : Bool} {xs : List Grp} {k : Int} (h0 : 0 ≤ k) (h1 : k ≤ 1048576) : PC ctx.P 59 [.view p 5 (xs.map (grpV r)), .int .i64 k] (.int .i64 (szR (xs.length + lsum (·.waits.length) xs) k)) := by
  refine PC.lim (n := xs.length) (x := .view p 5 (xs.map (grpV r))) (by simp) (.here (by simp)) ⟨_, Tryz.func59, by kernel_rfl, by kernel_rfl⟩ fun hlim => ?_
  have hlim' := hlim
  simp only [LIM] at hlim
  refine PC.o okC Tryz.func59 rfl (.int _ _) fun h nx hnx => ?_
  try simp [-map_take, -map_drop, -map_tail, rgs, i64_ok (x := k - (xs.length : Int)) (by omega)]
  repeat' first | done | (((with_reducible show lenS _ _ _ _ _ _); refine lenS_slice rfl fun _ => ?_) <;> simp [-map_take, -map_drop, -map_tail, rgs, i64_ok (x := k - (xs.length : Int)) (by omega)]) | ((with_reducible refine condS_split ?_ ?_) <;> intro qb <;> (have qp := qb; try simp only [psq] at qp) <;> simp [-map_take, -map_drop, -map_tail, rgs, i64_ok (x := k - (xs.length : Int)) (by omega), qb])
  all_goals first | (clear hnx; rcases szR_or (xs.length + lsum (·.waits.length) xs) k with q | q <;> omega) | skip
  refine go_upP [1, 4, 5, 12, 13, 14, 15, 16, 17, 18, 19, 20, 21, 22, 23, 24, 25] (xs.length) (fun (i : Nat) a => [(5, .int .i64 i), (1, .int .i64 a)]) (fun i_ a_ h_ _ => (fun i (a : Int) _ => 0 ≤ a ∧ a ≤ 1048576 ∧ szR (lsum (·.waits.length) (xs.drop i)) a = szR (xs.length + lsum (·.waits.length) xs) k) i_ a_ h_) (k - xs.length) (by simp) ?_ keep_rfl (Nat.le_refl _) ?_
  · rcases szR_or (xs.length + lsum (·.waits.length) xs) k with q | q <;> rcases szR_or (lsum (·.waits.length) xs) (k - xs.length) with q' | q' <;> simp <;> omega
  · intro i a tm h' n' hle hJ hE hn' next hnx
    try dsimp only at hJ
    have hK : KeepB nx h' h := KeepB.sub hE keepA (by omega)
    simp [-map_take, -map_drop, -map_tail]
    repeat' first | done | ((first | ((with_reducible show lenS _ _ _ _ _ _); refine lenS_slice rfl fun _ => ?_) | ((with_reducible show iaddrS _ _ _ _ _ _ _); refine iaddr_map rfl omA omA ?_) | ((with_reducible show doCall _ _ _ 175 _ _); refine call_pc (c_szGroup hJ.1 hJ.2.1) ?_)) <;> simp [-map_take, -map_drop, -map_tail, rgs]) | ((with_reducible refine condS_split ?_ ?_) <;> intro qb <;> (have qp := qb; try simp only [psq] at qp) <;> simp [-map_take, -map_drop, -map_tail, rgs, qb])
    · refine ⟨?_, keepA⟩
      obtain ⟨j0, j1, j2⟩ := hJ
      rw [drop_gt (by omega)] at j2
      rw [← j2]
      simp only [lsum]
      rcases szR_or ((gt xs (i : Int)).waits.length) a with q | q <;> rcases szR_or ((gt xs (i : Int)).waits.length + lsum (·.waits.length) (xs.drop (i + 1))) a with q' | q' <;> omega
    · obtain ⟨j0, j1, j2⟩ := hJ
      rw [drop_gt (by omega)] at j2
      refine hnx.go (szR (gt xs (i : Int)).waits.length a) ?_ ?_ ?_ ?_ ?_ ?_
      · omega
      · simp [wrap_succ (show i < xs.length by omega) hlim']
      · simp
      · exact keepA
      · first | omega | (simp; omega)
      dsimp only
      rcases szR_or ((gt xs (i : Int)).waits.length) a with q | q
      · omega
      refine ⟨by omega, by omega, ?_⟩
      rw [← j2]
      simp only [lsum]
      rcases szR_or (lsum (·.waits.length) (xs.drop (i + 1))) (szR ((gt xs (i : Int)).waits.length) a) with q1 | q1 <;> rcases szR_or ((gt xs (i : Int)).waits.length + lsum (·.waits.length) (xs.drop (i + 1))) a with q' | q' <;> omega
    · refine ⟨?_, keepA⟩
      obtain ⟨j0, j1, j2⟩ := hJ
      rw [List.drop_eq_nil_of_le (by omega)] at j2
      rw [← j2]
      simp only [lsum]
      rcases szR_or 0 a with q | q <;> omega

end Go.AE.Tryz
end

section
/- Contracts of the laws' helpers: worlds. -/
set_option maxRecDepth 8000
set_option maxHeartbeats 4000000
namespace Go.AE.Tryz
open Go.Proofs
open List (map_take map_drop map_tail)
theorem c_toSlots {F : Nat → Bool} {s : Slt} (hs : sltsz s ≤ 1048576) : PC ctx.P 191 [.agg (sltV F s)] (.agg (sltV (fun _ => true) s)) := by
  simp only [wldsz, afssz, tmssz, sprsz, sltsz] at hs
  refine PC.o okC Tryz.func191 rfl (.agg _ (sltV_fz s)) fun h nx hnx => ?_
  try simp [-map_take, -map_drop, -map_tail, rgs, sltV]
  repeat' first | done | ((first | ((with_reducible show doCall _ _ _ 72 _ _); refine call_pc (c_toInt64S (by simp only [MLIM]; omega)) ?_) | ((with_reducible show doCall _ _ _ 188 _ _); refine call_pc (c_toBoolS (by simp only [MLIM]; omega)) ?_)) <;> simp [-map_take, -map_drop, -map_tail, rgs, sltV]) | fail
theorem c_eqSlots {F1 F2 : Nat → Bool} {x y : Slt} : PC ctx.P 202 [.agg (sltV F1 x), .agg (sltV F2 y)] (.bool (x == y)) := by
  rw [slt_beq]
  refine PC.o okC Tryz.func202 rfl (.bool _) fun h nx hnx => ?_
  try simp [-map_take, -map_drop, -map_tail, rgs, sltV]
  repeat' first | done | ((first | ((with_reducible show doCall _ _ _ 82 _ _); refine call_pc (c_eqInt64S) ?_) | ((with_reducible show doCall _ _ _ 199 _ _); refine call_pc (c_eqBoolS) ?_)) <;> simp [-map_take, -map_drop, -map_tail, rgs, sltV]) | ((with_reducible refine condS_split ?_ ?_) <;> intro qb <;> (have qp := qb; try simp only [psq] at qp) <;> simp [-map_take, -map_drop, -map_tail, rgs, sltV, qb])
  all_goals (try clear hnx)
  all_goals (simp_all []; done)
theorem c_szSlots {F : Nat → Bool} {s : Slt} {k : Int} (h0 : 0 ≤ k) (h1 : k ≤ 1048576) : PC ctx.P 173 [.agg (sltV F s), .int .i64 k] (.int .i64 (szR (sltsz s) k)) := by
  rw [slt_szN s h0]
  refine PC.o okC Tryz.func173 rfl (.int _ _) fun h nx hnx => ?_
  try simp [-map_take, -map_drop, -map_tail, rgs, sltV]
  repeat' first | done | ((first | ((with_reducible show doCall _ _ _ 61 _ _); refine call_pc (c_szInt64S (by first | assumption | omega) (by repeat (first | assumption | apply szR_hi))) ?_) | ((with_reducible show doCall _ _ _ 170 _ _); refine call_pc (c_szBoolS (by first | assumption | omega) (by repeat (first | assumption | apply szR_hi))) ?_)) <;> simp [-map_take, -map_drop, -map_tail, rgs, sltV]) | ((with_reducible refine condS_split ?_ ?_) <;> intro qb <;> (have qp := qb; try simp only [psq] at qp) <;> simp [-map_take, -map_drop, -map_tail, rgs, sltV, qb])
  all_goals (clear hnx; simp only [szN]; repeat (first | rw [if_pos (by omega)] | rw [if_neg (by omega)]))

theorem c_toSpread {F : Nat → Bool} {s : Spr} (hs : sprsz s ≤ 1048576) : PC ctx.P 66 [.agg (sprV F s)] (.agg (sprV (fun _ => true) s)) := by
  simp only [wldsz, afssz, tmssz, sprsz, sltsz] at hs
  refine PC.o okC Tryz.func66 rfl (.agg _ (sprV_fz s)) fun h nx hnx => ?_
  try simp [-map_take, -map_drop, -map_tail, rgs, sprV]
  repeat' first | done | ((first | ((with_reducible show doCall _ _ _ 188 _ _); refine call_pc (c_toBoolS (by simp only [MLIM]; omega)) ?_) | ((with_reducible show doCall _ _ _ 72 _ _); refine call_pc (c_toInt64S (by simp only [MLIM]; omega)) ?_)) <;> simp [-map_take, -map_drop, -map_tail, rgs, sprV]) | fail
theorem c_eqSpread {F1 F2 : Nat → Bool} {x y : Spr} : PC ctx.P 76 [.agg (sprV F1 x), .agg (sprV F2 y)] (.bool (x == y)) := by
  rw [spr_beq]
  refine PC.o okC Tryz.func76 rfl (.bool _) fun h nx hnx => ?_
  try simp [-map_take, -map_drop, -map_tail, rgs, sprV]
  repeat' first | done | ((first | ((with_reducible show doCall _ _ _ 199 _ _); refine call_pc (c_eqBoolS) ?_) | ((with_reducible show doCall _ _ _ 82 _ _); refine call_pc (c_eqInt64S) ?_)) <;> simp [-map_take, -map_drop, -map_tail, rgs, sprV]) | ((with_reducible refine condS_split ?_ ?_) <;> intro qb <;> (have qp := qb; try simp only [psq] at qp) <;> simp [-map_take, -map_drop, -map_tail, rgs, sprV, qb])
  all_goals (try clear hnx)
  all_goals (simp_all []; done)
theorem c_szSpread {F : Nat → Bool} {s : Spr} {k : Int} (h0 : 0 ≤ k) (h1 : k ≤ 1048576) : PC ctx.P 55 [.agg (sprV F s), .int .i64 k] (.int .i64 (szR (sprsz s) k)) := by
  rw [spr_szN s h0]
  refine PC.o okC Tryz.func55 rfl (.int _ _) fun h nx hnx => ?_
  try simp [-map_take, -map_drop, -map_tail, rgs, sprV]
  repeat' first | done | ((first | ((with_reducible show doCall _ _ _ 170 _ _); refine call_pc (c_szBoolS (by first | assumption | omega) (by repeat (first | assumption | apply szR_hi))) ?_) | ((with_reducible show doCall _ _ _ 61 _ _); refine call_pc (c_szInt64S (by first | assumption | omega) (by repeat (first | assumption | apply szR_hi))) ?_)) <;> simp [-map_take, -map_drop, -map_tail, rgs, sprV]) | ((with_reducible refine condS_split ?_ ?_) <;> intro qb <;> (have qp := qb; try simp only [psq] at qp) <;> simp [-map_take, -map_drop, -map_tail, rgs, sprV, qb])
  all_goals (clear hnx; simp only [szN]; repeat (first | rw [if_pos (by omega)] | rw [if_neg (by omega)]))

theorem c_toTimers {F : Nat → Bool} {s : Tms} (hs : tmssz s ≤ 1048576) : PC ctx.P 67 [.agg (tmsV F s)] (.agg (tmsV (fun _ => true) s)) := by
  simp only [wldsz, afssz, tmssz, sprsz, sltsz] at hs
  refine PC.o okC Tryz.func67 rfl (.agg _ (tmsV_fz s)) fun h nx hnx => ?_
  try simp [-map_take, -map_drop, -map_tail, rgs, tmsV]
  repeat' first | done | ((first | ((with_reducible show doCall _ _ _ 189 _ _); refine call_pc (c_toTwigS (by simp only [MLIM]; omega)) ?_) | ((with_reducible show doCall _ _ _ 190 _ _); refine call_pc (c_toTimerS (by simp only [MLIM]; omega)) ?_)) <;> simp [-map_take, -map_drop, -map_tail, rgs, tmsV]) | fail
theorem c_eqTimers {F1 F2 : Nat → Bool} {x y : Tms} : PC ctx.P 77 [.agg (tmsV F1 x), .agg (tmsV F2 y)] (.bool (x == y)) := by
  rw [tms_beq]
  refine PC.o okC Tryz.func77 rfl (.bool _) fun h nx hnx => ?_
  try simp [-map_take, -map_drop, -map_tail, rgs, tmsV]
  repeat' first | done | ((first | ((with_reducible show doCall _ _ _ 200 _ _); refine call_pc (c_eqTwigS) ?_) | ((with_reducible show doCall _ _ _ 201 _ _); refine call_pc (c_eqTimerS) ?_)) <;> simp [-map_take, -map_drop, -map_tail, rgs, tmsV]) | ((with_reducible refine condS_split ?_ ?_) <;> intro qb <;> (have qp := qb; try simp only [psq] at qp) <;> simp [-map_take, -map_drop, -map_tail, rgs, tmsV, qb])
  all_goals (try clear hnx)
  all_goals (simp_all []; done)
theorem c_szTimers {F : Nat → Bool} {s : Tms} {k : Int} (h0 : 0 ≤ k) (h1 : k ≤ 1048576) : PC ctx.P 56 [.agg (tmsV F s), .int .i64 k] (.int .i64 (szR (tmssz s) k)) := by
  rw [tms_szN s h0]
  refine PC.o okC Tryz.func56 rfl (.int _ _) fun h nx hnx => ?_
  try simp [-map_take, -map_drop, -map_tail, rgs, tmsV]
  repeat' first | done | ((first | ((with_reducible show doCall _ _ _ 171 _ _); refine call_pc (c_szTwigS (by first | assumption | omega) (by repeat (first | assumption | apply szR_hi))) ?_) | ((with_reducible show doCall _ _ _ 172 _ _); refine call_pc (c_szTimerS (by first | assumption | omega) (by repeat (first | assumption | apply szR_hi))) ?_)) <;> simp [-map_take, -map_drop, -map_tail, rgs, tmsV]) | ((with_reducible refine condS_split ?_ ?_) <;> intro qb <;> (have qp := qb; try simp only [psq] at qp) <;> simp [-map_take, -map_drop, -map_tail, rgs, tmsV, qb])
  all_goals (clear hnx; simp only [szN]; repeat (first | rw [if_pos (by omega)] | rw [if_neg (by omega)]))

theorem c_toAfters {F : Nat → Bool} {s : Afs} (hs : afssz s ≤ 1048576) : PC ctx.P 68 [.agg (afsV F s)] (.agg (afsV (fun _ => true) s)) := by
  simp only [wldsz, afssz, tmssz, sprsz, sltsz] at hs
  refine PC.o okC Tryz.func68 rfl (.agg _ (afsV_fz s)) fun h nx hnx => ?_
  try simp [-map_take, -map_drop, -map_tail, rgs, afsV, sltV]
  repeat' first | done | ((first | ((with_reducible show doCall _ _ _ 191 _ _); refine call_pc (c_toSlots (s := s.slots) (F := F) (by simp only [afssz, tmssz, sprsz, sltsz]; omega)) ?_) | ((with_reducible show doCall _ _ _ 192 _ _); refine call_pc (c_toAfterS (by simp only [MLIM]; omega)) ?_)) <;> simp [-map_take, -map_drop, -map_tail, rgs, afsV, sltV]) | fail
theorem c_eqAfters {F1 F2 : Nat → Bool} {x y : Afs} : PC ctx.P 78 [.agg (afsV F1 x), .agg (afsV F2 y)] (.bool (x == y)) := by
  rw [afs_beq]
  refine PC.o okC Tryz.func78 rfl (.bool _) fun h nx hnx => ?_
  try simp [-map_take, -map_drop, -map_tail, rgs, afsV, sltV]
  repeat' first | done | ((first | ((with_reducible show doCall _ _ _ 202 _ _); refine call_pc (c_eqSlots (x := x.slots) (y := y.slots) (F1 := F1) (F2 := F2)) ?_) | ((with_reducible show doCall _ _ _ 203 _ _); refine call_pc (c_eqAfterS) ?_)) <;> simp [-map_take, -map_drop, -map_tail, rgs, afsV, sltV]) | ((with_reducible refine condS_split ?_ ?_) <;> intro qb <;> (have qp := qb; try simp only [psq] at qp) <;> simp [-map_take, -map_drop, -map_tail, rgs, afsV, sltV, qb])
  all_goals (try clear hnx)
  all_goals (simp_all []; done)
theorem c_szAfters {F : Nat → Bool} {s : Afs} {k : Int} (h0 : 0 ≤ k) (h1 : k ≤ 1048576) : PC ctx.P 57 [.agg (afsV F s), .int .i64 k] (.int .i64 (szR (afssz s) k)) := by
  rw [afs_szN s h0]
  refine PC.o okC Tryz.func57 rfl (.int _ _) fun h nx hnx => ?_
  try simp [-map_take, -map_drop, -map_tail, rgs, afsV, sltV]
  repeat' first | done | ((first | ((with_reducible show doCall _ _ _ 173 _ _); refine call_pc (c_szSlots (s := s.slots) (F := F) (by first | assumption | omega) (by repeat (first | assumption | apply szR_hi))) ?_) | ((with_reducible show doCall _ _ _ 174 _ _); refine call_pc (c_szAfterS (by first | assumption | omega) (by repeat (first | assumption | apply szR_hi))) ?_)) <;> simp [-map_take, -map_drop, -map_tail, rgs, afsV, sltV]) | ((with_reducible refine condS_split ?_ ?_) <;> intro qb <;> (have qp := qb; try simp only [psq] at qp) <;> simp [-map_take, -map_drop, -map_tail, rgs, afsV, sltV, qb])
  all_goals (clear hnx; simp only [szN]; repeat (first | rw [if_pos (by omega)] | rw [if_neg (by omega)]))

theorem c_toWorld {F : Nat → Bool} {s : Wld} (hs : wldsz s ≤ 1048576) : PC ctx.P 19 [.agg (wldV F s)] (.agg (wldV (fun _ => true) s)) := by
  simp only [wldsz, afssz, tmssz, sprsz, sltsz] at hs
  refine PC.o okC Tryz.func19 rfl (.agg _ (wldV_fz s)) fun h nx hnx => ?_
  try simp [-map_take, -map_drop, -map_tail, rgs, wldV, sltV, sprV, tmsV, afsV]
  repeat' first | done | ((first | ((with_reducible show doCall _ _ _ 63 _ _); refine call_pc (c_toInsSS (by simp only [MLIM]; omega) (fun x hx => by have := lsum_mem (·.length) hx; simp only [MLIM]; omega)) ?_) | ((with_reducible show doCall _ _ _ 64 _ _); refine call_pc (c_toNodeS (by simp only [MLIM]; omega)) ?_) | ((with_reducible show doCall _ _ _ 65 _ _); refine call_pc (c_toEventS (by simp only [MLIM]; omega)) ?_) | ((with_reducible show doCall _ _ _ 66 _ _); refine call_pc (c_toSpread (s := s.spread) (F := F) (by simp only [afssz, tmssz, sprsz, sltsz]; omega)) ?_) | ((with_reducible show doCall _ _ _ 67 _ _); refine call_pc (c_toTimers (s := s.timers) (F := F) (by simp only [afssz, tmssz, sprsz, sltsz]; omega)) ?_) | ((with_reducible show doCall _ _ _ 68 _ _); refine call_pc (c_toAfters (s := s.afters) (F := F) (by simp only [afssz, tmssz, sprsz, sltsz]; omega)) ?_) | ((with_reducible show doCall _ _ _ 69 _ _); refine call_pc (c_toTaskS (by simp only [MLIM]; omega)) ?_) | ((with_reducible show doCall _ _ _ 70 _ _); refine call_pc (c_toGroupS (by simp only [MLIM]; omega) (fun x hx => by have := lsum_mem (·.waits.length) hx; simp only [MLIM]; omega)) ?_) | ((with_reducible show doCall _ _ _ 71 _ _); refine call_pc (c_toSightS (by simp only [MLIM]; omega)) ?_) | ((with_reducible show doCall _ _ _ 72 _ _); refine call_pc (c_toInt64S (by simp only [MLIM]; omega)) ?_)) <;> simp [-map_take, -map_drop, -map_tail, rgs, wldV, sltV, sprV, tmsV, afsV]) | fail
theorem c_eqWorld {F1 F2 : Nat → Bool} {x y : Wld} : PC ctx.P 21 [.agg (wldV F1 x), .agg (wldV F2 y)] (.bool (x == y)) := by
  rw [wld_beq]
  refine PC.o okC Tryz.func21 rfl (.bool _) fun h nx hnx => ?_
  try simp [-map_take, -map_drop, -map_tail, rgs, wldV, sltV, sprV, tmsV, afsV]
  repeat' first | done | ((first | ((with_reducible show doCall _ _ _ 73 _ _); refine call_pc (c_eqInsSS) ?_) | ((with_reducible show doCall _ _ _ 74 _ _); refine call_pc (c_eqNodeS) ?_) | ((with_reducible show doCall _ _ _ 75 _ _); refine call_pc (c_eqEventS) ?_) | ((with_reducible show doCall _ _ _ 76 _ _); refine call_pc (c_eqSpread (x := x.spread) (y := y.spread) (F1 := F1) (F2 := F2)) ?_) | ((with_reducible show doCall _ _ _ 77 _ _); refine call_pc (c_eqTimers (x := x.timers) (y := y.timers) (F1 := F1) (F2 := F2)) ?_) | ((with_reducible show doCall _ _ _ 78 _ _); refine call_pc (c_eqAfters (x := x.afters) (y := y.afters) (F1 := F1) (F2 := F2)) ?_) | ((with_reducible show doCall _ _ _ 79 _ _); refine call_pc (c_eqTaskS) ?_) | ((with_reducible show doCall _ _ _ 80 _ _); refine call_pc (c_eqGroupS) ?_) | ((with_reducible show doCall _ _ _ 81 _ _); refine call_pc (c_eqSightS) ?_) | ((with_reducible show doCall _ _ _ 82 _ _); refine call_pc (c_eqInt64S) ?_)) <;> simp [-map_take, -map_drop, -map_tail, rgs, wldV, sltV, sprV, tmsV, afsV]) | ((with_reducible refine condS_split ?_ ?_) <;> intro qb <;> (have qp := qb; try simp only [psq] at qp) <;> simp [-map_take, -map_drop, -map_tail, rgs, wldV, sltV, sprV, tmsV, afsV, qb])
  all_goals (try clear hnx)
  all_goals (simp_all []; done)
theorem c_szWorld {F : Nat → Bool} {s : Wld} {k : Int} (h0 : 0 ≤ k) (h1 : k ≤ 1048576) : PC ctx.P 17 [.agg (wldV F s), .int .i64 k] (.int .i64 (szR (wldsz s) k)) := by
  rw [wld_szN s h0]
  refine PC.o okC Tryz.func17 rfl (.int _ _) fun h nx hnx => ?_
  try simp [-map_take, -map_drop, -map_tail, rgs, wldV, sltV, sprV, tmsV, afsV]
  repeat' first | done | ((first | ((with_reducible show doCall _ _ _ 52 _ _); refine call_pc (c_szInsSS (by first | assumption | omega) (by repeat (first | assumption | apply szR_hi))) ?_) | ((with_reducible show doCall _ _ _ 53 _ _); refine call_pc (c_szNodeS (by first | assumption | omega) (by repeat (first | assumption | apply szR_hi))) ?_) | ((with_reducible show doCall _ _ _ 54 _ _); refine call_pc (c_szEventS (by first | assumption | omega) (by repeat (first | assumption | apply szR_hi))) ?_) | ((with_reducible show doCall _ _ _ 55 _ _); refine call_pc (c_szSpread (s := s.spread) (F := F) (by first | assumption | omega) (by repeat (first | assumption | apply szR_hi))) ?_) | ((with_reducible show doCall _ _ _ 56 _ _); refine call_pc (c_szTimers (s := s.timers) (F := F) (by first | assumption | omega) (by repeat (first | assumption | apply szR_hi))) ?_) | ((with_reducible show doCall _ _ _ 57 _ _); refine call_pc (c_szAfters (s := s.afters) (F := F) (by first | assumption | omega) (by repeat (first | assumption | apply szR_hi))) ?_) | ((with_reducible show doCall _ _ _ 58 _ _); refine call_pc (c_szTaskS (by first | assumption | omega) (by repeat (first | assumption | apply szR_hi))) ?_) | ((with_reducible show doCall _ _ _ 59 _ _); refine call_pc (c_szGroupS (by first | assumption | omega) (by repeat (first | assumption | apply szR_hi))) ?_) | ((with_reducible show doCall _ _ _ 60 _ _); refine call_pc (c_szSightS (by first | assumption | omega) (by repeat (first | assumption | apply szR_hi))) ?_) | ((with_reducible show doCall _ _ _ 61 _ _); refine call_pc (c_szInt64S (by first | assumption | omega) (by repeat (first | assumption | apply szR_hi))) ?_)) <;> simp [-map_take, -map_drop, -map_tail, rgs, wldV, sltV, sprV, tmsV, afsV]) | ((with_reducible refine condS_split ?_ ?_) <;> intro qb <;> (have qp := qb; try simp only [psq] at qp) <;> simp [-map_take, -map_drop, -map_tail, rgs, wldV, sltV, sprV, tmsV, afsV, qb])
  all_goals (clear hnx; simp only [szN]; repeat (first | rw [if_pos (by omega)] | rw [if_neg (by omega)]))

end Go.AE.Tryz
end

section
/- Contracts of what is generic. -/
set_option maxRecDepth 8000
set_option maxHeartbeats 2000000
namespace Go.AE.Tryz
open Go.Proofs
open List (map_take map_drop map_tail)

theorem c_size_Ins {p : Bool} {xs : List Inn} : PC ctx.P 232 [.view p 3 (xs.map innC)] (.int .i64 xs.length) := by
  refine PC.o okC Tryz.func232 rfl (.int _ _) fun h nx hnx => ?_
  try simp [-map_take, -map_drop, -map_tail, rgs]
  repeat' first | done | (((with_reducible show lenS _ _ _ _ _ _); refine lenS_slice rfl fun _ => ?_) <;> simp [-map_take, -map_drop, -map_tail, rgs]) | fail

theorem c_IndexFunc_Ins {p : Bool} {xs : List Inn} {q : Inn → Bool} {fv : AV} (hq : ∀ x ∈ xs, FV ctx.P fv [.agg (innC x)] (.bool (q x))) :
    PC ctx.P 363 [.view p 3 (xs.map innC), fv] (.int .i64 (idxI q xs 0)) := by
  refine PC.lim (n := xs.length) (x := .view p 3 (xs.map innC)) (by simp) (.here (by simp)) ⟨_, Tryz.func363, by kernel_rfl, by kernel_rfl⟩ fun hlim => ?_
  refine PC.o okC Tryz.func363 rfl (.int _ _) fun h nx hnx => ?_
  try simp [-map_take, -map_drop, -map_tail, rgs]
  repeat' first | done | (((with_reducible show lenS _ _ _ _ _ _); refine lenS_slice rfl fun _ => ?_) <;> simp [-map_take, -map_drop, -map_tail, rgs]) | fail
  refine go_upP [4, 5, 8, 9, 10, 11, 12, 13, 14, 15, 16, 17, 18] (xs.length) (fun (i : Nat) a => [(8, .int .i64 i)]) (fun i_ a_ h_ _ => (fun i (_ : Unit) _ => idxI q (xs.drop i) i = idxI q xs 0) i_ a_ h_) (()) (by simp) ?_ keep_rfl (Nat.le_refl _) ?_
  · simp
  · intro i a tm h' n' hle hJ hE hn' next hnx
    try dsimp only at hJ
    have hK : KeepB nx h' h := KeepB.sub hE keepA (by omega)
    simp [-map_take, -map_drop, -map_tail]
    repeat' first | done | ((first | ((with_reducible show iaddrS _ _ _ _ _ _ _); refine iaddr_map rfl omA omA ?_) | (refine call_fv (hq _ (gt_mem (by omega) (by omega))) ?_)) <;> simp [-map_take, -map_drop, -map_tail, rgs, innC]) | ((with_reducible refine condS_split ?_ ?_) <;> intro qb <;> (have qp := qb; try simp only [psq] at qp) <;> simp [-map_take, -map_drop, -map_tail, rgs, innC, qb])
    all_goals
      first
      | (have hlt : i < xs.length := (by first | omega | (simp at *; omega))
         rw [drop_gt hlt] at hJ
         first
         | (refine hnx.go (()) ?_ ?_ ?_ ?_ ?_ ?_; omega; (simp [wrap_succ hlt hlim]); (simp); exact keepA; (first | omega | (simp; omega)); (try dsimp only); clear hnx; first | ((try simp only [List.drop_length, Int.toNat_natCast, idxI] at hJ ⊢); grind) | (simp_all [idxI]; done) | (simp_all; omega))
         | (refine ⟨?_, keepA⟩; clear hnx; first | ((try simp only [List.drop_length, Int.toNat_natCast, idxI] at hJ ⊢); grind) | (simp_all [idxI]; done) | (simp_all; omega)))
      | (obtain rfl : i = xs.length := (by first | omega | (simp at *; omega))
         refine ⟨?_, keepA⟩; clear hnx; first | ((try simp only [List.drop_length, Int.toNat_natCast, idxI] at hJ ⊢); grind) | (simp_all [idxI]; done) | (simp_all; omega))

theorem c_ContainsFunc_Ins {p : Bool} {xs : List Inn} {q : Inn → Bool} {fv : AV} (hq : ∀ x ∈ xs, FV ctx.P fv [.agg (innC x)] (.bool (q x))) :
    PC ctx.P 251 [.view p 3 (xs.map innC), fv] (.bool (xs.any q)) := by
  refine PC.o okC Tryz.func251 rfl (.bool _) fun h nx hnx => ?_
  try simp [-map_take, -map_drop, -map_tail, rgs, idxI_any q xs 0 (Int.le_refl 0)]
  repeat' first | done | (((with_reducible show doCall _ _ _ 363 _ _); refine call_pc (c_IndexFunc_Ins hq) ?_) <;> simp [-map_take, -map_drop, -map_tail, rgs, idxI_any q xs 0 (Int.le_refl 0)]) | fail


theorem c_size_Node {p : Bool} {xs : List Nod} : PC ctx.P 144 [.view p 5 (xs.map nodC)] (.int .i64 xs.length) := by
  refine PC.o okC Tryz.func144 rfl (.int _ _) fun h nx hnx => ?_
  try simp [-map_take, -map_drop, -map_tail, rgs]
  repeat' first | done | (((with_reducible show lenS _ _ _ _ _ _); refine lenS_slice rfl fun _ => ?_) <;> simp [-map_take, -map_drop, -map_tail, rgs]) | fail

theorem c_isIn_Node {p : Bool} {n : Int} {xs : List Nod} : PC ctx.P 48 [.int .i64 n, .view p 5 (xs.map nodC)] (.bool (isIn n xs)) := by
  refine PC.lim (n := xs.length) (x := .view p 5 (xs.map nodC)) (by simp) (.here (by simp)) ⟨_, Tryz.func48, by kernel_rfl, by kernel_rfl⟩ fun hlim => ?_
  refine PC.o okC Tryz.func48 rfl (.bool _) fun h nx hnx => ?_
  try simp [-map_take, -map_drop, -map_tail, rgs, wrap_pred hlim, isIn]
  repeat' first | done | ((first | ((with_reducible show doCall _ _ _ 144 _ _); refine call_pc (c_size_Node) ?_) | ((with_reducible show doCall _ _ _ 46 _ _); refine call_pc (c_within) ?_)) <;> simp [-map_take, -map_drop, -map_tail, rgs, wrap_pred hlim, isIn]) | fail




theorem c_size_Event {p : Bool} {xs : List Evt} : PC ctx.P 283 [.view p 4 (xs.map evtC)] (.int .i64 xs.length) := by
  refine PC.o okC Tryz.func283 rfl (.int _ _) fun h nx hnx => ?_
  try simp [-map_take, -map_drop, -map_tail, rgs]
  repeat' first | done | (((with_reducible show lenS _ _ _ _ _ _); refine lenS_slice rfl fun _ => ?_) <;> simp [-map_take, -map_drop, -map_tail, rgs]) | fail


theorem c_IndexFunc_Event {p : Bool} {xs : List Evt} {q : Evt → Bool} {fv : AV} (hq : ∀ x ∈ xs, FV ctx.P fv [.agg (evtC x)] (.bool (q x))) :
    PC ctx.P 366 [.view p 4 (xs.map evtC), fv] (.int .i64 (idxI q xs 0)) := by
  refine PC.lim (n := xs.length) (x := .view p 4 (xs.map evtC)) (by simp) (.here (by simp)) ⟨_, Tryz.func366, by kernel_rfl, by kernel_rfl⟩ fun hlim => ?_
  refine PC.o okC Tryz.func366 rfl (.int _ _) fun h nx hnx => ?_
  try simp [-map_take, -map_drop, -map_tail, rgs]
  repeat' first | done | (((with_reducible show lenS _ _ _ _ _ _); refine lenS_slice rfl fun _ => ?_) <;> simp [-map_take, -map_drop, -map_tail, rgs]) | fail
  refine go_upP [4, 5, 8, 9, 10, 11, 12, 13, 14, 15, 16, 17, 18] (xs.length) (fun (i : Nat) a => [(8, .int .i64 i)]) (fun i_ a_ h_ _ => (fun i (_ : Unit) _ => idxI q (xs.drop i) i = idxI q xs 0) i_ a_ h_) (()) (by simp) ?_ keep_rfl (Nat.le_refl _) ?_
  · simp
  · intro i a tm h' n' hle hJ hE hn' next hnx
    try dsimp only at hJ
    have hK : KeepB nx h' h := KeepB.sub hE keepA (by omega)
    simp [-map_take, -map_drop, -map_tail]
    repeat' first | done | ((first | ((with_reducible show iaddrS _ _ _ _ _ _ _); refine iaddr_map rfl omA omA ?_) | (refine call_fv (hq _ (gt_mem (by omega) (by omega))) ?_)) <;> simp [-map_take, -map_drop, -map_tail, rgs, evtC]) | ((with_reducible refine condS_split ?_ ?_) <;> intro qb <;> (have qp := qb; try simp only [psq] at qp) <;> simp [-map_take, -map_drop, -map_tail, rgs, evtC, qb])
    all_goals
      first
      | (have hlt : i < xs.length := (by first | omega | (simp at *; omega))
         rw [drop_gt hlt] at hJ
         first
         | (refine hnx.go (()) ?_ ?_ ?_ ?_ ?_ ?_; omega; (simp [wrap_succ hlt hlim]); (simp); exact keepA; (first | omega | (simp; omega)); (try dsimp only); clear hnx; first | ((try simp only [List.drop_length, Int.toNat_natCast, idxI] at hJ ⊢); grind) | (simp_all [idxI]; done) | (simp_all; omega))
         | (refine ⟨?_, keepA⟩; clear hnx; first | ((try simp only [List.drop_length, Int.toNat_natCast, idxI] at hJ ⊢); grind) | (simp_all [idxI]; done) | (simp_all; omega)))
      | (obtain rfl : i = xs.length := (by first | omega | (simp at *; omega))
         refine ⟨?_, keepA⟩; clear hnx; first | ((try simp only [List.drop_length, Int.toNat_natCast, idxI] at hJ ⊢); grind) | (simp_all [idxI]; done) | (simp_all; omega))

theorem c_ContainsFunc_Event {p : Bool} {xs : List Evt} {q : Evt → Bool} {fv : AV} (hq : ∀ x ∈ xs, FV ctx.P fv [.agg (evtC x)] (.bool (q x))) :
    PC ctx.P 256 [.view p 4 (xs.map evtC), fv] (.bool (xs.any q)) := by
  refine PC.o okC Tryz.func256 rfl (.bool _) fun h nx hnx => ?_
  try simp [-map_take, -map_drop, -map_tail, rgs, idxI_any q xs 0 (Int.le_refl 0)]
  repeat' first | done | (((with_reducible show doCall _ _ _ 366 _ _); refine call_pc (c_IndexFunc_Event hq) ?_) <;> simp [-map_take, -map_drop, -map_tail, rgs, idxI_any q xs 0 (Int.le_refl 0)]) | fail

theorem c_allf_Event {x : Evt} {q : Evt → Bool} {fv : AV} (hq : FV ctx.P fv [.agg (evtC x)] (.bool (q x))) : PC ctx.P 257 [.agg (evtC x), .vptr [fv]] (.bool (!q x)) := by
  refine PC.o okC Tryz.func257 rfl (.bool _) fun h nx hnx => ?_
  try simp [-map_take, -map_drop, -map_tail, rgs]
  repeat' first | done | ((refine call_fv (hq) ?_) <;> simp [-map_take, -map_drop, -map_tail, rgs]) | fail
theorem c_all_Event {p : Bool} {xs : List Evt} {q : Evt → Bool} {fv : AV} (hf : IsF fv) (hq : ∀ x ∈ xs, FV ctx.P fv [.agg (evtC x)] (.bool (q x))) :
    PC ctx.P 124 [.view p 4 (xs.map evtC), fv] (.bool (xs.all q)) := by
  refine PC.o okC Tryz.func124 rfl (.bool _) fun h nx hnx => ?_
  have hc := c_ContainsFunc_Event (p := p) (q := fun x => !q x) (xs := xs) (fv := .fn 257 [.vptr [fv]]) fun x hx => c_allf_Event (hq x hx)
  cases hf
  all_goals simp
  · refine call_pcB (hc) (by exact .bool _) (by repeat' first | exact Bors.nil | refine Bors.cons ?_ ?_ | exact Bor.same _ | refine Bor.fn1 ?_ | refine Bor.ptr0 (by (simp; rfl)) ?_) ?_
    simp [resultsA, resA, List.all_eq_not_any_not]
  · refine call_pcB (hc) (by exact .bool _) (by repeat' first | exact Bors.nil | refine Bors.cons ?_ ?_ | exact Bor.same _ | refine Bor.fn1 ?_ | refine Bor.ptr0 (by (simp; rfl)) ?_) ?_
    simp [resultsA, resA, List.all_eq_not_any_not]

theorem c_size_Twig {p : Bool} {xs : List Twg} : PC ctx.P 430 [.view p 3 (xs.map twgC)] (.int .i64 xs.length) := by
  refine PC.o okC Tryz.func430 rfl (.int _ _) fun h nx hnx => ?_
  try simp [-map_take, -map_drop, -map_tail, rgs]
  repeat' first | done | (((with_reducible show lenS _ _ _ _ _ _); refine lenS_slice rfl fun _ => ?_) <;> simp [-map_take, -map_drop, -map_tail, rgs]) | fail


theorem c_IndexFunc_Twig {p : Bool} {xs : List Twg} {q : Twg → Bool} {fv : AV} (hq : ∀ x ∈ xs, FV ctx.P fv [.agg (twgC x)] (.bool (q x))) :
    PC ctx.P 369 [.view p 3 (xs.map twgC), fv] (.int .i64 (idxI q xs 0)) := by
  refine PC.lim (n := xs.length) (x := .view p 3 (xs.map twgC)) (by simp) (.here (by simp)) ⟨_, Tryz.func369, by kernel_rfl, by kernel_rfl⟩ fun hlim => ?_
  refine PC.o okC Tryz.func369 rfl (.int _ _) fun h nx hnx => ?_
  try simp [-map_take, -map_drop, -map_tail, rgs]
  repeat' first | done | (((with_reducible show lenS _ _ _ _ _ _); refine lenS_slice rfl fun _ => ?_) <;> simp [-map_take, -map_drop, -map_tail, rgs]) | fail
  refine go_upP [4, 5, 8, 9, 10, 11, 12, 13, 14, 15, 16, 17, 18] (xs.length) (fun (i : Nat) a => [(8, .int .i64 i)]) (fun i_ a_ h_ _ => (fun i (_ : Unit) _ => idxI q (xs.drop i) i = idxI q xs 0) i_ a_ h_) (()) (by simp) ?_ keep_rfl (Nat.le_refl _) ?_
  · simp
  · intro i a tm h' n' hle hJ hE hn' next hnx
    try dsimp only at hJ
    have hK : KeepB nx h' h := KeepB.sub hE keepA (by omega)
    simp [-map_take, -map_drop, -map_tail]
    repeat' first | done | ((first | ((with_reducible show iaddrS _ _ _ _ _ _ _); refine iaddr_map rfl omA omA ?_) | (refine call_fv (hq _ (gt_mem (by omega) (by omega))) ?_)) <;> simp [-map_take, -map_drop, -map_tail, rgs, twgC]) | ((with_reducible refine condS_split ?_ ?_) <;> intro qb <;> (have qp := qb; try simp only [psq] at qp) <;> simp [-map_take, -map_drop, -map_tail, rgs, twgC, qb])
    all_goals
      first
      | (have hlt : i < xs.length := (by first | omega | (simp at *; omega))
         rw [drop_gt hlt] at hJ
         first
         | (refine hnx.go (()) ?_ ?_ ?_ ?_ ?_ ?_; omega; (simp [wrap_succ hlt hlim]); (simp); exact keepA; (first | omega | (simp; omega)); (try dsimp only); clear hnx; first | ((try simp only [List.drop_length, Int.toNat_natCast, idxI] at hJ ⊢); grind) | (simp_all [idxI]; done) | (simp_all; omega))
         | (refine ⟨?_, keepA⟩; clear hnx; first | ((try simp only [List.drop_length, Int.toNat_natCast, idxI] at hJ ⊢); grind) | (simp_all [idxI]; done) | (simp_all; omega)))
      | (obtain rfl : i = xs.length := (by first | omega | (simp at *; omega))
         refine ⟨?_, keepA⟩; clear hnx; first | ((try simp only [List.drop_length, Int.toNat_natCast, idxI] at hJ ⊢); grind) | (simp_all [idxI]; done) | (simp_all; omega))

theorem c_ContainsFunc_Twig {p : Bool} {xs : List Twg} {q : Twg → Bool} {fv : AV} (hq : ∀ x ∈ xs, FV ctx.P fv [.agg (twgC x)] (.bool (q x))) :
    PC ctx.P 259 [.view p 3 (xs.map twgC), fv] (.bool (xs.any q)) := by
  refine PC.o okC Tryz.func259 rfl (.bool _) fun h nx hnx => ?_
  try simp [-map_take, -map_drop, -map_tail, rgs, idxI_any q xs 0 (Int.le_refl 0)]
  repeat' first | done | (((with_reducible show doCall _ _ _ 369 _ _); refine call_pc (c_IndexFunc_Twig hq) ?_) <;> simp [-map_take, -map_drop, -map_tail, rgs, idxI_any q xs 0 (Int.le_refl 0)]) | fail




theorem c_IndexFunc_Timer {p : Bool} {xs : List Tmr} {q : Tmr → Bool} {fv : AV} (hq : ∀ x ∈ xs, FV ctx.P fv [.agg (tmrC x)] (.bool (q x))) :
    PC ctx.P 370 [.view p 5 (xs.map tmrC), fv] (.int .i64 (idxI q xs 0)) := by
  refine PC.lim (n := xs.length) (x := .view p 5 (xs.map tmrC)) (by simp) (.here (by simp)) ⟨_, Tryz.func370, by kernel_rfl, by kernel_rfl⟩ fun hlim => ?_
  refine PC.o okC Tryz.func370 rfl (.int _ _) fun h nx hnx => ?_
  try simp [-map_take, -map_drop, -map_tail, rgs]
  repeat' first | done | (((with_reducible show lenS _ _ _ _ _ _); refine lenS_slice rfl fun _ => ?_) <;> simp [-map_take, -map_drop, -map_tail, rgs]) | fail
  refine go_upP [4, 5, 8, 9, 10, 11, 12, 13, 14, 15, 16, 17, 18] (xs.length) (fun (i : Nat) a => [(8, .int .i64 i)]) (fun i_ a_ h_ _ => (fun i (_ : Unit) _ => idxI q (xs.drop i) i = idxI q xs 0) i_ a_ h_) (()) (by simp) ?_ keep_rfl (Nat.le_refl _) ?_
  · simp
  · intro i a tm h' n' hle hJ hE hn' next hnx
    try dsimp only at hJ
    have hK : KeepB nx h' h := KeepB.sub hE keepA (by omega)
    simp [-map_take, -map_drop, -map_tail]
    repeat' first | done | ((first | ((with_reducible show iaddrS _ _ _ _ _ _ _); refine iaddr_map rfl omA omA ?_) | (refine call_fv (hq _ (gt_mem (by omega) (by omega))) ?_)) <;> simp [-map_take, -map_drop, -map_tail, rgs, tmrC]) | ((with_reducible refine condS_split ?_ ?_) <;> intro qb <;> (have qp := qb; try simp only [psq] at qp) <;> simp [-map_take, -map_drop, -map_tail, rgs, tmrC, qb])
    all_goals
      first
      | (have hlt : i < xs.length := (by first | omega | (simp at *; omega))
         rw [drop_gt hlt] at hJ
         first
         | (refine hnx.go (()) ?_ ?_ ?_ ?_ ?_ ?_; omega; (simp [wrap_succ hlt hlim]); (simp); exact keepA; (first | omega | (simp; omega)); (try dsimp only); clear hnx; first | ((try simp only [List.drop_length, Int.toNat_natCast, idxI] at hJ ⊢); grind) | (simp_all [idxI]; done) | (simp_all; omega))
         | (refine ⟨?_, keepA⟩; clear hnx; first | ((try simp only [List.drop_length, Int.toNat_natCast, idxI] at hJ ⊢); grind) | (simp_all [idxI]; done) | (simp_all; omega)))
      | (obtain rfl : i = xs.length := (by first | omega | (simp at *; omega))
         refine ⟨?_, keepA⟩; clear hnx; first | ((try simp only [List.drop_length, Int.toNat_natCast, idxI] at hJ ⊢); grind) | (simp_all [idxI]; done) | (simp_all; omega))

theorem c_ContainsFunc_Timer {p : Bool} {xs : List Tmr} {q : Tmr → Bool} {fv : AV} (hq : ∀ x ∈ xs, FV ctx.P fv [.agg (tmrC x)] (.bool (q x))) :
    PC ctx.P 262 [.view p 5 (xs.map tmrC), fv] (.bool (xs.any q)) := by
  refine PC.o okC Tryz.func262 rfl (.bool _) fun h nx hnx => ?_
  try simp [-map_take, -map_drop, -map_tail, rgs, idxI_any q xs 0 (Int.le_refl 0)]
  repeat' first | done | (((with_reducible show doCall _ _ _ 370 _ _); refine call_pc (c_IndexFunc_Timer hq) ?_) <;> simp [-map_take, -map_drop, -map_tail, rgs, idxI_any q xs 0 (Int.le_refl 0)]) | fail

theorem c_allf_Timer {x : Tmr} {q : Tmr → Bool} {fv : AV} (hq : FV ctx.P fv [.agg (tmrC x)] (.bool (q x))) : PC ctx.P 263 [.agg (tmrC x), .vptr [fv]] (.bool (!q x)) := by
  refine PC.o okC Tryz.func263 rfl (.bool _) fun h nx hnx => ?_
  try simp [-map_take, -map_drop, -map_tail, rgs]
  repeat' first | done | ((refine call_fv (hq) ?_) <;> simp [-map_take, -map_drop, -map_tail, rgs]) | fail
theorem c_all_Timer {p : Bool} {xs : List Tmr} {q : Tmr → Bool} {fv : AV} (hf : IsF fv) (hq : ∀ x ∈ xs, FV ctx.P fv [.agg (tmrC x)] (.bool (q x))) :
    PC ctx.P 127 [.view p 5 (xs.map tmrC), fv] (.bool (xs.all q)) := by
  refine PC.o okC Tryz.func127 rfl (.bool _) fun h nx hnx => ?_
  have hc := c_ContainsFunc_Timer (p := p) (q := fun x => !q x) (xs := xs) (fv := .fn 263 [.vptr [fv]]) fun x hx => c_allf_Timer (hq x hx)
  cases hf
  all_goals simp
  · refine call_pcB (hc) (by exact .bool _) (by repeat' first | exact Bors.nil | refine Bors.cons ?_ ?_ | exact Bor.same _ | refine Bor.fn1 ?_ | refine Bor.ptr0 (by (simp; rfl)) ?_) ?_
    simp [resultsA, resA, List.all_eq_not_any_not]
  · refine call_pcB (hc) (by exact .bool _) (by repeat' first | exact Bors.nil | refine Bors.cons ?_ ?_ | exact Bor.same _ | refine Bor.fn1 ?_ | refine Bor.ptr0 (by (simp; rfl)) ?_) ?_
    simp [resultsA, resA, List.all_eq_not_any_not]

theorem c_size_After {p : Bool} {xs : List Afr} : PC ctx.P 265 [.view p 5 (xs.map afrC)] (.int .i64 xs.length) := by
  refine PC.o okC Tryz.func265 rfl (.int _ _) fun h nx hnx => ?_
  try simp [-map_take, -map_drop, -map_tail, rgs]
  repeat' first | done | (((with_reducible show lenS _ _ _ _ _ _); refine lenS_slice rfl fun _ => ?_) <;> simp [-map_take, -map_drop, -map_tail, rgs]) | fail


theorem c_IndexFunc_After {p : Bool} {xs : List Afr} {q : Afr → Bool} {fv : AV} (hq : ∀ x ∈ xs, FV ctx.P fv [.agg (afrC x)] (.bool (q x))) :
    PC ctx.P 292 [.view p 5 (xs.map afrC), fv] (.int .i64 (idxI q xs 0)) := by
  refine PC.lim (n := xs.length) (x := .view p 5 (xs.map afrC)) (by simp) (.here (by simp)) ⟨_, Tryz.func292, by kernel_rfl, by kernel_rfl⟩ fun hlim => ?_
  refine PC.o okC Tryz.func292 rfl (.int _ _) fun h nx hnx => ?_
  try simp [-map_take, -map_drop, -map_tail, rgs]
  repeat' first | done | (((with_reducible show lenS _ _ _ _ _ _); refine lenS_slice rfl fun _ => ?_) <;> simp [-map_take, -map_drop, -map_tail, rgs]) | fail
  refine go_upP [4, 5, 8, 9, 10, 11, 12, 13, 14, 15, 16, 17, 18] (xs.length) (fun (i : Nat) a => [(8, .int .i64 i)]) (fun i_ a_ h_ _ => (fun i (_ : Unit) _ => idxI q (xs.drop i) i = idxI q xs 0) i_ a_ h_) (()) (by simp) ?_ keep_rfl (Nat.le_refl _) ?_
  · simp
  · intro i a tm h' n' hle hJ hE hn' next hnx
    try dsimp only at hJ
    have hK : KeepB nx h' h := KeepB.sub hE keepA (by omega)
    simp [-map_take, -map_drop, -map_tail]
    repeat' first | done | ((first | ((with_reducible show iaddrS _ _ _ _ _ _ _); refine iaddr_map rfl omA omA ?_) | (refine call_fv (hq _ (gt_mem (by omega) (by omega))) ?_)) <;> simp [-map_take, -map_drop, -map_tail, rgs, afrC]) | ((with_reducible refine condS_split ?_ ?_) <;> intro qb <;> (have qp := qb; try simp only [psq] at qp) <;> simp [-map_take, -map_drop, -map_tail, rgs, afrC, qb])
    all_goals
      first
      | (have hlt : i < xs.length := (by first | omega | (simp at *; omega))
         rw [drop_gt hlt] at hJ
         first
         | (refine hnx.go (()) ?_ ?_ ?_ ?_ ?_ ?_; omega; (simp [wrap_succ hlt hlim]); (simp); exact keepA; (first | omega | (simp; omega)); (try dsimp only); clear hnx; first | ((try simp only [List.drop_length, Int.toNat_natCast, idxI] at hJ ⊢); grind) | (simp_all [idxI]; done) | (simp_all; omega))
         | (refine ⟨?_, keepA⟩; clear hnx; first | ((try simp only [List.drop_length, Int.toNat_natCast, idxI] at hJ ⊢); grind) | (simp_all [idxI]; done) | (simp_all; omega)))
      | (obtain rfl : i = xs.length := (by first | omega | (simp at *; omega))
         refine ⟨?_, keepA⟩; clear hnx; first | ((try simp only [List.drop_length, Int.toNat_natCast, idxI] at hJ ⊢); grind) | (simp_all [idxI]; done) | (simp_all; omega))

theorem c_ContainsFunc_After {p : Bool} {xs : List Afr} {q : Afr → Bool} {fv : AV} (hq : ∀ x ∈ xs, FV ctx.P fv [.agg (afrC x)] (.bool (q x))) :
    PC ctx.P 161 [.view p 5 (xs.map afrC), fv] (.bool (xs.any q)) := by
  refine PC.o okC Tryz.func161 rfl (.bool _) fun h nx hnx => ?_
  try simp [-map_take, -map_drop, -map_tail, rgs, idxI_any q xs 0 (Int.le_refl 0)]
  repeat' first | done | (((with_reducible show doCall _ _ _ 292 _ _); refine call_pc (c_IndexFunc_After hq) ?_) <;> simp [-map_take, -map_drop, -map_tail, rgs, idxI_any q xs 0 (Int.le_refl 0)]) | fail

theorem c_allf_After {x : Afr} {q : Afr → Bool} {fv : AV} (hq : FV ctx.P fv [.agg (afrC x)] (.bool (q x))) : PC ctx.P 270 [.agg (afrC x), .vptr [fv]] (.bool (!q x)) := by
  refine PC.o okC Tryz.func270 rfl (.bool _) fun h nx hnx => ?_
  try simp [-map_take, -map_drop, -map_tail, rgs]
  repeat' first | done | ((refine call_fv (hq) ?_) <;> simp [-map_take, -map_drop, -map_tail, rgs]) | fail
theorem c_all_After {p : Bool} {xs : List Afr} {q : Afr → Bool} {fv : AV} (hf : IsF fv) (hq : ∀ x ∈ xs, FV ctx.P fv [.agg (afrC x)] (.bool (q x))) :
    PC ctx.P 130 [.view p 5 (xs.map afrC), fv] (.bool (xs.all q)) := by
  refine PC.o okC Tryz.func130 rfl (.bool _) fun h nx hnx => ?_
  have hc := c_ContainsFunc_After (p := p) (q := fun x => !q x) (xs := xs) (fv := .fn 270 [.vptr [fv]]) fun x hx => c_allf_After (hq x hx)
  cases hf
  all_goals simp
  · refine call_pcB (hc) (by exact .bool _) (by repeat' first | exact Bors.nil | refine Bors.cons ?_ ?_ | exact Bor.same _ | refine Bor.fn1 ?_ | refine Bor.ptr0 (by (simp; rfl)) ?_) ?_
    simp [resultsA, resA, List.all_eq_not_any_not]
  · refine call_pcB (hc) (by exact .bool _) (by repeat' first | exact Bors.nil | refine Bors.cons ?_ ?_ | exact Bor.same _ | refine Bor.fn1 ?_ | refine Bor.ptr0 (by (simp; rfl)) ?_) ?_
    simp [resultsA, resA, List.all_eq_not_any_not]

theorem c_size_Task {p : Bool} {xs : List Tsk} : PC ctx.P 41 [.view p 9 (xs.map tskC)] (.int .i64 xs.length) := by
  refine PC.o okC Tryz.func41 rfl (.int _ _) fun h nx hnx => ?_
  try simp [-map_take, -map_drop, -map_tail, rgs]
  repeat' first | done | (((with_reducible show lenS _ _ _ _ _ _); refine lenS_slice rfl fun _ => ?_) <;> simp [-map_take, -map_drop, -map_tail, rgs]) | fail

theorem c_isIn_Task {p : Bool} {n : Int} {xs : List Tsk} : PC ctx.P 231 [.int .i64 n, .view p 9 (xs.map tskC)] (.bool (isIn n xs)) := by
  refine PC.lim (n := xs.length) (x := .view p 9 (xs.map tskC)) (by simp) (.here (by simp)) ⟨_, Tryz.func231, by kernel_rfl, by kernel_rfl⟩ fun hlim => ?_
  refine PC.o okC Tryz.func231 rfl (.bool _) fun h nx hnx => ?_
  try simp [-map_take, -map_drop, -map_tail, rgs, wrap_pred hlim, isIn]
  repeat' first | done | ((first | ((with_reducible show doCall _ _ _ 41 _ _); refine call_pc (c_size_Task) ?_) | ((with_reducible show doCall _ _ _ 46 _ _); refine call_pc (c_within) ?_)) <;> simp [-map_take, -map_drop, -map_tail, rgs, wrap_pred hlim, isIn]) | fail

theorem c_IndexFunc_Task {p : Bool} {xs : List Tsk} {q : Tsk → Bool} {fv : AV} (hq : ∀ x ∈ xs, FV ctx.P fv [.agg (tskC x)] (.bool (q x))) :
    PC ctx.P 376 [.view p 9 (xs.map tskC), fv] (.int .i64 (idxI q xs 0)) := by
  refine PC.lim (n := xs.length) (x := .view p 9 (xs.map tskC)) (by simp) (.here (by simp)) ⟨_, Tryz.func376, by kernel_rfl, by kernel_rfl⟩ fun hlim => ?_
  refine PC.o okC Tryz.func376 rfl (.int _ _) fun h nx hnx => ?_
  try simp [-map_take, -map_drop, -map_tail, rgs]
  repeat' first | done | (((with_reducible show lenS _ _ _ _ _ _); refine lenS_slice rfl fun _ => ?_) <;> simp [-map_take, -map_drop, -map_tail, rgs]) | fail
  refine go_upP [4, 5, 8, 9, 10, 11, 12, 13, 14, 15, 16, 17, 18] (xs.length) (fun (i : Nat) a => [(8, .int .i64 i)]) (fun i_ a_ h_ _ => (fun i (_ : Unit) _ => idxI q (xs.drop i) i = idxI q xs 0) i_ a_ h_) (()) (by simp) ?_ keep_rfl (Nat.le_refl _) ?_
  · simp
  · intro i a tm h' n' hle hJ hE hn' next hnx
    try dsimp only at hJ
    have hK : KeepB nx h' h := KeepB.sub hE keepA (by omega)
    simp [-map_take, -map_drop, -map_tail]
    repeat' first | done | ((first | ((with_reducible show iaddrS _ _ _ _ _ _ _); refine iaddr_map rfl omA omA ?_) | (refine call_fv (hq _ (gt_mem (by omega) (by omega))) ?_)) <;> simp [-map_take, -map_drop, -map_tail, rgs, tskC]) | ((with_reducible refine condS_split ?_ ?_) <;> intro qb <;> (have qp := qb; try simp only [psq] at qp) <;> simp [-map_take, -map_drop, -map_tail, rgs, tskC, qb])
    all_goals
      first
      | (have hlt : i < xs.length := (by first | omega | (simp at *; omega))
         rw [drop_gt hlt] at hJ
         first
         | (refine hnx.go (()) ?_ ?_ ?_ ?_ ?_ ?_; omega; (simp [wrap_succ hlt hlim]); (simp); exact keepA; (first | omega | (simp; omega)); (try dsimp only); clear hnx; first | ((try simp only [List.drop_length, Int.toNat_natCast, idxI] at hJ ⊢); grind) | (simp_all [idxI]; done) | (simp_all; omega))
         | (refine ⟨?_, keepA⟩; clear hnx; first | ((try simp only [List.drop_length, Int.toNat_natCast, idxI] at hJ ⊢); grind) | (simp_all [idxI]; done) | (simp_all; omega)))
      | (obtain rfl : i = xs.length := (by first | omega | (simp at *; omega))
         refine ⟨?_, keepA⟩; clear hnx; first | ((try simp only [List.drop_length, Int.toNat_natCast, idxI] at hJ ⊢); grind) | (simp_all [idxI]; done) | (simp_all; omega))

theorem c_ContainsFunc_Task {p : Bool} {xs : List Tsk} {q : Tsk → Bool} {fv : AV} (hq : ∀ x ∈ xs, FV ctx.P fv [.agg (tskC x)] (.bool (q x))) :
    PC ctx.P 271 [.view p 9 (xs.map tskC), fv] (.bool (xs.any q)) := by
  refine PC.o okC Tryz.func271 rfl (.bool _) fun h nx hnx => ?_
  try simp [-map_take, -map_drop, -map_tail, rgs, idxI_any q xs 0 (Int.le_refl 0)]
  repeat' first | done | (((with_reducible show doCall _ _ _ 376 _ _); refine call_pc (c_IndexFunc_Task hq) ?_) <;> simp [-map_take, -map_drop, -map_tail, rgs, idxI_any q xs 0 (Int.le_refl 0)]) | fail

theorem c_allf_Task {x : Tsk} {q : Tsk → Bool} {fv : AV} (hq : FV ctx.P fv [.agg (tskC x)] (.bool (q x))) : PC ctx.P 274 [.agg (tskC x), .vptr [fv]] (.bool (!q x)) := by
  refine PC.o okC Tryz.func274 rfl (.bool _) fun h nx hnx => ?_
  try simp [-map_take, -map_drop, -map_tail, rgs]
  repeat' first | done | ((refine call_fv (hq) ?_) <;> simp [-map_take, -map_drop, -map_tail, rgs]) | fail
theorem c_all_Task {p : Bool} {xs : List Tsk} {q : Tsk → Bool} {fv : AV} (hf : IsF fv) (hq : ∀ x ∈ xs, FV ctx.P fv [.agg (tskC x)] (.bool (q x))) :
    PC ctx.P 133 [.view p 9 (xs.map tskC), fv] (.bool (xs.all q)) := by
  refine PC.o okC Tryz.func133 rfl (.bool _) fun h nx hnx => ?_
  have hc := c_ContainsFunc_Task (p := p) (q := fun x => !q x) (xs := xs) (fv := .fn 274 [.vptr [fv]]) fun x hx => c_allf_Task (hq x hx)
  cases hf
  all_goals simp
  · refine call_pcB (hc) (by exact .bool _) (by repeat' first | exact Bors.nil | refine Bors.cons ?_ ?_ | exact Bor.same _ | refine Bor.fn1 ?_ | refine Bor.ptr0 (by (simp; rfl)) ?_) ?_
    simp [resultsA, resA, List.all_eq_not_any_not]
  · refine call_pcB (hc) (by exact .bool _) (by repeat' first | exact Bors.nil | refine Bors.cons ?_ ?_ | exact Bor.same _ | refine Bor.fn1 ?_ | refine Bor.ptr0 (by (simp; rfl)) ?_) ?_
    simp [resultsA, resA, List.all_eq_not_any_not]

theorem c_size_Group {p : Bool} {pg : Bool} {xs : List Grp} : PC ctx.P 38 [.view p 5 (xs.map (grpV pg))] (.int .i64 xs.length) := by
  refine PC.o okC Tryz.func38 rfl (.int _ _) fun h nx hnx => ?_
  try simp [-map_take, -map_drop, -map_tail, rgs]
  repeat' first | done | (((with_reducible show lenS _ _ _ _ _ _); refine lenS_slice rfl fun _ => ?_) <;> simp [-map_take, -map_drop, -map_tail, rgs]) | fail

theorem c_isIn_Group {p : Bool} {pg : Bool} {n : Int} {xs : List Grp} : PC ctx.P 276 [.int .i64 n, .view p 5 (xs.map (grpV pg))] (.bool (isIn n xs)) := by
  refine PC.lim (n := xs.length) (x := .view p 5 (xs.map (grpV pg))) (by simp) (.here (by simp)) ⟨_, Tryz.func276, by kernel_rfl, by kernel_rfl⟩ fun hlim => ?_
  refine PC.o okC Tryz.func276 rfl (.bool _) fun h nx hnx => ?_
  try simp [-map_take, -map_drop, -map_tail, rgs, wrap_pred hlim, isIn]
  repeat' first | done | ((first | ((with_reducible show doCall _ _ _ 38 _ _); refine call_pc (c_size_Group) ?_) | ((with_reducible show doCall _ _ _ 46 _ _); refine call_pc (c_within) ?_)) <;> simp [-map_take, -map_drop, -map_tail, rgs, wrap_pred hlim, isIn]) | fail

theorem c_IndexFunc_Group {p : Bool} {pg : Bool} {xs : List Grp} {q : Grp → Bool} {fv : AV} (hq : ∀ x ∈ xs, FV ctx.P fv [.agg (grpV pg x)] (.bool (q x))) :
    PC ctx.P 378 [.view p 5 (xs.map (grpV pg)), fv] (.int .i64 (idxI q xs 0)) := by
  refine PC.lim (n := xs.length) (x := .view p 5 (xs.map (grpV pg))) (by simp) (.here (by simp)) ⟨_, Tryz.func378, by kernel_rfl, by kernel_rfl⟩ fun hlim => ?_
  refine PC.o okC Tryz.func378 rfl (.int _ _) fun h nx hnx => ?_
  try simp [-map_take, -map_drop, -map_tail, rgs]
  repeat' first | done | (((with_reducible show lenS _ _ _ _ _ _); refine lenS_slice rfl fun _ => ?_) <;> simp [-map_take, -map_drop, -map_tail, rgs]) | fail
  refine go_upP [4, 5, 8, 9, 10, 11, 12, 13, 14, 15, 16, 17, 18] (xs.length) (fun (i : Nat) a => [(8, .int .i64 i)]) (fun i_ a_ h_ _ => (fun i (_ : Unit) _ => idxI q (xs.drop i) i = idxI q xs 0) i_ a_ h_) (()) (by simp) ?_ keep_rfl (Nat.le_refl _) ?_
  · simp
  · intro i a tm h' n' hle hJ hE hn' next hnx
    try dsimp only at hJ
    have hK : KeepB nx h' h := KeepB.sub hE keepA (by omega)
    simp [-map_take, -map_drop, -map_tail]
    repeat' first | done | ((first | ((with_reducible show iaddrS _ _ _ _ _ _ _); refine iaddr_map rfl omA omA ?_) | (refine call_fv (hq _ (gt_mem (by omega) (by omega))) ?_)) <;> simp [-map_take, -map_drop, -map_tail, rgs, grpV]) | ((with_reducible refine condS_split ?_ ?_) <;> intro qb <;> (have qp := qb; try simp only [psq] at qp) <;> simp [-map_take, -map_drop, -map_tail, rgs, grpV, qb])
    all_goals
      first
      | (have hlt : i < xs.length := (by first | omega | (simp at *; omega))
         rw [drop_gt hlt] at hJ
         first
         | (refine hnx.go (()) ?_ ?_ ?_ ?_ ?_ ?_; omega; (simp [wrap_succ hlt hlim]); (simp); exact keepA; (first | omega | (simp; omega)); (try dsimp only); clear hnx; first | ((try simp only [List.drop_length, Int.toNat_natCast, idxI] at hJ ⊢); grind) | (simp_all [idxI]; done) | (simp_all; omega))
         | (refine ⟨?_, keepA⟩; clear hnx; first | ((try simp only [List.drop_length, Int.toNat_natCast, idxI] at hJ ⊢); grind) | (simp_all [idxI]; done) | (simp_all; omega)))
      | (obtain rfl : i = xs.length := (by first | omega | (simp at *; omega))
         refine ⟨?_, keepA⟩; clear hnx; first | ((try simp only [List.drop_length, Int.toNat_natCast, idxI] at hJ ⊢); grind) | (simp_all [idxI]; done) | (simp_all; omega))

theorem c_ContainsFunc_Group {p : Bool} {pg : Bool} {xs : List Grp} {q : Grp → Bool} {fv : AV} (hq : ∀ x ∈ xs, FV ctx.P fv [.agg (grpV pg x)] (.bool (q x))) :
    PC ctx.P 277 [.view p 5 (xs.map (grpV pg)), fv] (.bool (xs.any q)) := by
  refine PC.o okC Tryz.func277 rfl (.bool _) fun h nx hnx => ?_
  try simp [-map_take, -map_drop, -map_tail, rgs, idxI_any q xs 0 (Int.le_refl 0)]
  repeat' first | done | (((with_reducible show doCall _ _ _ 378 _ _); refine call_pc (c_IndexFunc_Group hq) ?_) <;> simp [-map_take, -map_drop, -map_tail, rgs, idxI_any q xs 0 (Int.le_refl 0)]) | fail

theorem c_allf_Group {pg : Bool} {x : Grp} {q : Grp → Bool} {fv : AV} (hq : FV ctx.P fv [.agg (grpV pg x)] (.bool (q x))) : PC ctx.P 278 [.agg (grpV pg x), .vptr [fv]] (.bool (!q x)) := by
  refine PC.o okC Tryz.func278 rfl (.bool _) fun h nx hnx => ?_
  try simp [-map_take, -map_drop, -map_tail, rgs]
  repeat' first | done | ((refine call_fv (hq) ?_) <;> simp [-map_take, -map_drop, -map_tail, rgs]) | fail
theorem c_all_Group {p : Bool} {pg : Bool} {xs : List Grp} {q : Grp → Bool} {fv : AV} (hf : IsF fv) (hq : ∀ x ∈ xs, FV ctx.P fv [.agg (grpV pg x)] (.bool (q x))) :
    PC ctx.P 135 [.view p 5 (xs.map (grpV pg)), fv] (.bool (xs.all q)) := by
  refine PC.o okC Tryz.func135 rfl (.bool _) fun h nx hnx => ?_
  have hc := c_ContainsFunc_Group (p := p) (q := fun x => !q x) (xs := xs) (fv := .fn 278 [.vptr [fv]]) fun x hx => c_allf_Group (hq x hx)
  cases hf
  all_goals simp
  · refine call_pcB (hc) (by exact .bool _) (by repeat' first | exact Bors.nil | refine Bors.cons ?_ ?_ | exact Bor.same _ | refine Bor.fn1 ?_ | refine Bor.ptr0 (by (simp; rfl)) ?_) ?_
    simp [resultsA, resA, List.all_eq_not_any_not]
  · refine call_pcB (hc) (by exact .bool _) (by repeat' first | exact Bors.nil | refine Bors.cons ?_ ?_ | exact Bor.same _ | refine Bor.fn1 ?_ | refine Bor.ptr0 (by (simp; rfl)) ?_) ?_
    simp [resultsA, resA, List.all_eq_not_any_not]



theorem c_IndexFunc_Sight {p : Bool} {xs : List Sgt} {q : Sgt → Bool} {fv : AV} (hq : ∀ x ∈ xs, FV ctx.P fv [.agg (sgtC x)] (.bool (q x))) :
    PC ctx.P 379 [.view p 4 (xs.map sgtC), fv] (.int .i64 (idxI q xs 0)) := by
  refine PC.lim (n := xs.length) (x := .view p 4 (xs.map sgtC)) (by simp) (.here (by simp)) ⟨_, Tryz.func379, by kernel_rfl, by kernel_rfl⟩ fun hlim => ?_
  refine PC.o okC Tryz.func379 rfl (.int _ _) fun h nx hnx => ?_
  try simp [-map_take, -map_drop, -map_tail, rgs]
  repeat' first | done | (((with_reducible show lenS _ _ _ _ _ _); refine lenS_slice rfl fun _ => ?_) <;> simp [-map_take, -map_drop, -map_tail, rgs]) | fail
  refine go_upP [4, 5, 8, 9, 10, 11, 12, 13, 14, 15, 16, 17, 18] (xs.length) (fun (i : Nat) a => [(8, .int .i64 i)]) (fun i_ a_ h_ _ => (fun i (_ : Unit) _ => idxI q (xs.drop i) i = idxI q xs 0) i_ a_ h_) (()) (by simp) ?_ keep_rfl (Nat.le_refl _) ?_
  · simp
  · intro i a tm h' n' hle hJ hE hn' next hnx
    try dsimp only at hJ
    have hK : KeepB nx h' h := KeepB.sub hE keepA (by omega)
    simp [-map_take, -map_drop, -map_tail]
    repeat' first | done | ((first | ((with_reducible show iaddrS _ _ _ _ _ _ _); refine iaddr_map rfl omA omA ?_) | (refine call_fv (hq _ (gt_mem (by omega) (by omega))) ?_)) <;> simp [-map_take, -map_drop, -map_tail, rgs, sgtC]) | ((with_reducible refine condS_split ?_ ?_) <;> intro qb <;> (have qp := qb; try simp only [psq] at qp) <;> simp [-map_take, -map_drop, -map_tail, rgs, sgtC, qb])
    all_goals
      first
      | (have hlt : i < xs.length := (by first | omega | (simp at *; omega))
         rw [drop_gt hlt] at hJ
         first
         | (refine hnx.go (()) ?_ ?_ ?_ ?_ ?_ ?_; omega; (simp [wrap_succ hlt hlim]); (simp); exact keepA; (first | omega | (simp; omega)); (try dsimp only); clear hnx; first | ((try simp only [List.drop_length, Int.toNat_natCast, idxI] at hJ ⊢); grind) | (simp_all [idxI]; done) | (simp_all; omega))
         | (refine ⟨?_, keepA⟩; clear hnx; first | ((try simp only [List.drop_length, Int.toNat_natCast, idxI] at hJ ⊢); grind) | (simp_all [idxI]; done) | (simp_all; omega)))
      | (obtain rfl : i = xs.length := (by first | omega | (simp at *; omega))
         refine ⟨?_, keepA⟩; clear hnx; first | ((try simp only [List.drop_length, Int.toNat_natCast, idxI] at hJ ⊢); grind) | (simp_all [idxI]; done) | (simp_all; omega))

theorem c_ContainsFunc_Sight {p : Bool} {xs : List Sgt} {q : Sgt → Bool} {fv : AV} (hq : ∀ x ∈ xs, FV ctx.P fv [.agg (sgtC x)] (.bool (q x))) :
    PC ctx.P 281 [.view p 4 (xs.map sgtC), fv] (.bool (xs.any q)) := by
  refine PC.o okC Tryz.func281 rfl (.bool _) fun h nx hnx => ?_
  try simp [-map_take, -map_drop, -map_tail, rgs, idxI_any q xs 0 (Int.le_refl 0)]
  repeat' first | done | (((with_reducible show doCall _ _ _ 379 _ _); refine call_pc (c_IndexFunc_Sight hq) ?_) <;> simp [-map_take, -map_drop, -map_tail, rgs, idxI_any q xs 0 (Int.le_refl 0)]) | fail

theorem c_allf_Sight {x : Sgt} {q : Sgt → Bool} {fv : AV} (hq : FV ctx.P fv [.agg (sgtC x)] (.bool (q x))) : PC ctx.P 282 [.agg (sgtC x), .vptr [fv]] (.bool (!q x)) := by
  refine PC.o okC Tryz.func282 rfl (.bool _) fun h nx hnx => ?_
  try simp [-map_take, -map_drop, -map_tail, rgs]
  repeat' first | done | ((refine call_fv (hq) ?_) <;> simp [-map_take, -map_drop, -map_tail, rgs]) | fail
theorem c_all_Sight {p : Bool} {xs : List Sgt} {q : Sgt → Bool} {fv : AV} (hf : IsF fv) (hq : ∀ x ∈ xs, FV ctx.P fv [.agg (sgtC x)] (.bool (q x))) :
    PC ctx.P 137 [.view p 4 (xs.map sgtC), fv] (.bool (xs.all q)) := by
  refine PC.o okC Tryz.func137 rfl (.bool _) fun h nx hnx => ?_
  have hc := c_ContainsFunc_Sight (p := p) (q := fun x => !q x) (xs := xs) (fv := .fn 282 [.vptr [fv]]) fun x hx => c_allf_Sight (hq x hx)
  cases hf
  all_goals simp
  · refine call_pcB (hc) (by exact .bool _) (by repeat' first | exact Bors.nil | refine Bors.cons ?_ ?_ | exact Bor.same _ | refine Bor.fn1 ?_ | refine Bor.ptr0 (by (simp; rfl)) ?_) ?_
    simp [resultsA, resA, List.all_eq_not_any_not]
  · refine call_pcB (hc) (by exact .bool _) (by repeat' first | exact Bors.nil | refine Bors.cons ?_ ?_ | exact Bor.same _ | refine Bor.fn1 ?_ | refine Bor.ptr0 (by (simp; rfl)) ?_) ?_
    simp [resultsA, resA, List.all_eq_not_any_not]

theorem c_size_int64 {p : Bool} {xs : List Int} : PC ctx.P 372 [.view p 1 (xs.map iv)] (.int .i64 xs.length) := by
  refine PC.o okC Tryz.func372 rfl (.int _ _) fun h nx hnx => ?_
  try simp [-map_take, -map_drop, -map_tail, rgs]
  repeat' first | done | (((with_reducible show lenS _ _ _ _ _ _); refine lenS_slice rfl fun _ => ?_) <;> simp [-map_take, -map_drop, -map_tail, rgs]) | fail

theorem c_isIn_int64 {p : Bool} {n : Int} {xs : List Int} : PC ctx.P 374 [.int .i64 n, .view p 1 (xs.map iv)] (.bool (isIn n xs)) := by
  refine PC.lim (n := xs.length) (x := .view p 1 (xs.map iv)) (by simp) (.here (by simp)) ⟨_, Tryz.func374, by kernel_rfl, by kernel_rfl⟩ fun hlim => ?_
  refine PC.o okC Tryz.func374 rfl (.bool _) fun h nx hnx => ?_
  try simp [-map_take, -map_drop, -map_tail, rgs, wrap_pred hlim, isIn]
  repeat' first | done | ((first | ((with_reducible show doCall _ _ _ 372 _ _); refine call_pc (c_size_int64) ?_) | ((with_reducible show doCall _ _ _ 46 _ _); refine call_pc (c_within) ?_)) <;> simp [-map_take, -map_drop, -map_tail, rgs, wrap_pred hlim, isIn]) | fail

theorem c_IndexFunc_int64 {p : Bool} {xs : List Int} {q : Int → Bool} {fv : AV} (hq : ∀ x ∈ xs, FV ctx.P fv [.int .i64 x] (.bool (q x))) :
    PC ctx.P 365 [.view p 1 (xs.map iv), fv] (.int .i64 (idxI q xs 0)) := by
  refine PC.lim (n := xs.length) (x := .view p 1 (xs.map iv)) (by simp) (.here (by simp)) ⟨_, Tryz.func365, by kernel_rfl, by kernel_rfl⟩ fun hlim => ?_
  refine PC.o okC Tryz.func365 rfl (.int _ _) fun h nx hnx => ?_
  try simp [-map_take, -map_drop, -map_tail, rgs]
  repeat' first | done | (((with_reducible show lenS _ _ _ _ _ _); refine lenS_slice rfl fun _ => ?_) <;> simp [-map_take, -map_drop, -map_tail, rgs]) | fail
  refine go_upP [4, 5, 8, 9, 10, 11, 12, 13, 14, 15, 16, 17, 18] (xs.length) (fun (i : Nat) a => [(8, .int .i64 i)]) (fun i_ a_ h_ _ => (fun i (_ : Unit) _ => idxI q (xs.drop i) i = idxI q xs 0) i_ a_ h_) (()) (by simp) ?_ keep_rfl (Nat.le_refl _) ?_
  · simp
  · intro i a tm h' n' hle hJ hE hn' next hnx
    try dsimp only at hJ
    have hK : KeepB nx h' h := KeepB.sub hE keepA (by omega)
    simp [-map_take, -map_drop, -map_tail]
    repeat' first | done | ((first | ((with_reducible show iaddrS _ _ _ _ _ _ _); refine iaddr_map rfl omA omA ?_) | (refine call_fv (hq _ (gt_mem (by omega) (by omega))) ?_)) <;> simp [-map_take, -map_drop, -map_tail, rgs, iv]) | ((with_reducible refine condS_split ?_ ?_) <;> intro qb <;> (have qp := qb; try simp only [psq] at qp) <;> simp [-map_take, -map_drop, -map_tail, rgs, iv, qb])
    all_goals
      first
      | (have hlt : i < xs.length := (by first | omega | (simp at *; omega))
         rw [drop_gt hlt] at hJ
         first
         | (refine hnx.go (()) ?_ ?_ ?_ ?_ ?_ ?_; omega; (simp [wrap_succ hlt hlim]); (simp); exact keepA; (first | omega | (simp; omega)); (try dsimp only); clear hnx; first | ((try simp only [List.drop_length, Int.toNat_natCast, idxI] at hJ ⊢); grind) | (simp_all [idxI]; done) | (simp_all; omega))
         | (refine ⟨?_, keepA⟩; clear hnx; first | ((try simp only [List.drop_length, Int.toNat_natCast, idxI] at hJ ⊢); grind) | (simp_all [idxI]; done) | (simp_all; omega)))
      | (obtain rfl : i = xs.length := (by first | omega | (simp at *; omega))
         refine ⟨?_, keepA⟩; clear hnx; first | ((try simp only [List.drop_length, Int.toNat_natCast, idxI] at hJ ⊢); grind) | (simp_all [idxI]; done) | (simp_all; omega))

theorem c_ContainsFunc_int64 {p : Bool} {xs : List Int} {q : Int → Bool} {fv : AV} (hq : ∀ x ∈ xs, FV ctx.P fv [.int .i64 x] (.bool (q x))) :
    PC ctx.P 254 [.view p 1 (xs.map iv), fv] (.bool (xs.any q)) := by
  refine PC.o okC Tryz.func254 rfl (.bool _) fun h nx hnx => ?_
  try simp [-map_take, -map_drop, -map_tail, rgs, idxI_any q xs 0 (Int.le_refl 0)]
  repeat' first | done | (((with_reducible show doCall _ _ _ 365 _ _); refine call_pc (c_IndexFunc_int64 hq) ?_) <;> simp [-map_take, -map_drop, -map_tail, rgs, idxI_any q xs 0 (Int.le_refl 0)]) | fail

theorem c_allf_int64 {x : Int} {q : Int → Bool} {fv : AV} (hq : FV ctx.P fv [.int .i64 x] (.bool (q x))) : PC ctx.P 284 [.int .i64 x, .vptr [fv]] (.bool (!q x)) := by
  refine PC.o okC Tryz.func284 rfl (.bool _) fun h nx hnx => ?_
  try simp [-map_take, -map_drop, -map_tail, rgs]
  repeat' first | done | ((refine call_fv (hq) ?_) <;> simp [-map_take, -map_drop, -map_tail, rgs]) | fail
theorem c_all_int64 {p : Bool} {xs : List Int} {q : Int → Bool} {fv : AV} (hf : IsF fv) (hq : ∀ x ∈ xs, FV ctx.P fv [.int .i64 x] (.bool (q x))) :
    PC ctx.P 139 [.view p 1 (xs.map iv), fv] (.bool (xs.all q)) := by
  refine PC.o okC Tryz.func139 rfl (.bool _) fun h nx hnx => ?_
  have hc := c_ContainsFunc_int64 (p := p) (q := fun x => !q x) (xs := xs) (fv := .fn 284 [.vptr [fv]]) fun x hx => c_allf_int64 (hq x hx)
  cases hf
  all_goals simp
  · refine call_pcB (hc) (by exact .bool _) (by repeat' first | exact Bors.nil | refine Bors.cons ?_ ?_ | exact Bor.same _ | refine Bor.fn1 ?_ | refine Bor.ptr0 (by (simp; rfl)) ?_) ?_
    simp [resultsA, resA, List.all_eq_not_any_not]
  · refine call_pcB (hc) (by exact .bool _) (by repeat' first | exact Bors.nil | refine Bors.cons ?_ ?_ | exact Bor.same _ | refine Bor.fn1 ?_ | refine Bor.ptr0 (by (simp; rfl)) ?_) ?_
    simp [resultsA, resA, List.all_eq_not_any_not]

theorem c_size_Prog {p : Bool} {pg : Bool} {xs : List (List Inn)} : PC ctx.P 377 [.view p 1 (xs.map (prgV pg))] (.int .i64 xs.length) := by
  refine PC.o okC Tryz.func377 rfl (.int _ _) fun h nx hnx => ?_
  try simp [-map_take, -map_drop, -map_tail, rgs]
  repeat' first | done | (((with_reducible show lenS _ _ _ _ _ _); refine lenS_slice rfl fun _ => ?_) <;> simp [-map_take, -map_drop, -map_tail, rgs]) | fail

theorem c_isIn_Prog {p : Bool} {pg : Bool} {n : Int} {xs : List (List Inn)} : PC ctx.P 275 [.int .i64 n, .view p 1 (xs.map (prgV pg))] (.bool (isIn n xs)) := by
  refine PC.lim (n := xs.length) (x := .view p 1 (xs.map (prgV pg))) (by simp) (.here (by simp)) ⟨_, Tryz.func275, by kernel_rfl, by kernel_rfl⟩ fun hlim => ?_
  refine PC.o okC Tryz.func275 rfl (.bool _) fun h nx hnx => ?_
  try simp [-map_take, -map_drop, -map_tail, rgs, wrap_pred hlim, isIn]
  repeat' first | done | ((first | ((with_reducible show doCall _ _ _ 377 _ _); refine call_pc (c_size_Prog) ?_) | ((with_reducible show doCall _ _ _ 46 _ _); refine call_pc (c_within) ?_)) <;> simp [-map_take, -map_drop, -map_tail, rgs, wrap_pred hlim, isIn]) | fail

theorem c_IndexFunc_Prog {p : Bool} {pg : Bool} {xs : List (List Inn)} {q : (List Inn) → Bool} {fv : AV} (hq : ∀ x ∈ xs, FV ctx.P fv [.view pg 3 (x.map innC)] (.bool (q x))) :
    PC ctx.P 362 [.view p 1 (xs.map (prgV pg)), fv] (.int .i64 (idxI q xs 0)) := by
  refine PC.lim (n := xs.length) (x := .view p 1 (xs.map (prgV pg))) (by simp) (.here (by simp)) ⟨_, Tryz.func362, by kernel_rfl, by kernel_rfl⟩ fun hlim => ?_
  refine PC.o okC Tryz.func362 rfl (.int _ _) fun h nx hnx => ?_
  try simp [-map_take, -map_drop, -map_tail, rgs]
  repeat' first | done | (((with_reducible show lenS _ _ _ _ _ _); refine lenS_slice rfl fun _ => ?_) <;> simp [-map_take, -map_drop, -map_tail, rgs]) | fail
  refine go_upP [4, 5, 8, 9, 10, 11, 12, 13, 14, 15, 16, 17, 18] (xs.length) (fun (i : Nat) a => [(8, .int .i64 i)]) (fun i_ a_ h_ _ => (fun i (_ : Unit) _ => idxI q (xs.drop i) i = idxI q xs 0) i_ a_ h_) (()) (by simp) ?_ keep_rfl (Nat.le_refl _) ?_
  · simp
  · intro i a tm h' n' hle hJ hE hn' next hnx
    try dsimp only at hJ
    have hK : KeepB nx h' h := KeepB.sub hE keepA (by omega)
    simp [-map_take, -map_drop, -map_tail]
    repeat' first | done | ((first | ((with_reducible show iaddrS _ _ _ _ _ _ _); refine iaddr_map rfl omA omA ?_) | (refine call_fv (hq _ (gt_mem (by omega) (by omega))) ?_)) <;> simp [-map_take, -map_drop, -map_tail, rgs, prgV]) | ((with_reducible refine condS_split ?_ ?_) <;> intro qb <;> (have qp := qb; try simp only [psq] at qp) <;> simp [-map_take, -map_drop, -map_tail, rgs, prgV, qb])
    all_goals
      first
      | (have hlt : i < xs.length := (by first | omega | (simp at *; omega))
         rw [drop_gt hlt] at hJ
         first
         | (refine hnx.go (()) ?_ ?_ ?_ ?_ ?_ ?_; omega; (simp [wrap_succ hlt hlim]); (simp); exact keepA; (first | omega | (simp; omega)); (try dsimp only); clear hnx; first | ((try simp only [List.drop_length, Int.toNat_natCast, idxI] at hJ ⊢); grind) | (simp_all [idxI]; done) | (simp_all; omega))
         | (refine ⟨?_, keepA⟩; clear hnx; first | ((try simp only [List.drop_length, Int.toNat_natCast, idxI] at hJ ⊢); grind) | (simp_all [idxI]; done) | (simp_all; omega)))
      | (obtain rfl : i = xs.length := (by first | omega | (simp at *; omega))
         refine ⟨?_, keepA⟩; clear hnx; first | ((try simp only [List.drop_length, Int.toNat_natCast, idxI] at hJ ⊢); grind) | (simp_all [idxI]; done) | (simp_all; omega))

theorem c_ContainsFunc_Prog {p : Bool} {pg : Bool} {xs : List (List Inn)} {q : (List Inn) → Bool} {fv : AV} (hq : ∀ x ∈ xs, FV ctx.P fv [.view pg 3 (x.map innC)] (.bool (q x))) :
    PC ctx.P 249 [.view p 1 (xs.map (prgV pg)), fv] (.bool (xs.any q)) := by
  refine PC.o okC Tryz.func249 rfl (.bool _) fun h nx hnx => ?_
  try simp [-map_take, -map_drop, -map_tail, rgs, idxI_any q xs 0 (Int.le_refl 0)]
  repeat' first | done | (((with_reducible show doCall _ _ _ 362 _ _); refine call_pc (c_IndexFunc_Prog hq) ?_) <;> simp [-map_take, -map_drop, -map_tail, rgs, idxI_any q xs 0 (Int.le_refl 0)]) | fail

theorem c_allf_Prog {pg : Bool} {x : (List Inn)} {q : (List Inn) → Bool} {fv : AV} (hq : FV ctx.P fv [.view pg 3 (x.map innC)] (.bool (q x))) : PC ctx.P 250 [.view pg 3 (x.map innC), .vptr [fv]] (.bool (!q x)) := by
  refine PC.o okC Tryz.func250 rfl (.bool _) fun h nx hnx => ?_
  try simp [-map_take, -map_drop, -map_tail, rgs]
  repeat' first | done | ((refine call_fv (hq) ?_) <;> simp [-map_take, -map_drop, -map_tail, rgs]) | fail
theorem c_all_Prog {p : Bool} {pg : Bool} {xs : List (List Inn)} {q : (List Inn) → Bool} {fv : AV} (hf : IsF fv) (hq : ∀ x ∈ xs, FV ctx.P fv [.view pg 3 (x.map innC)] (.bool (q x))) :
    PC ctx.P 121 [.view p 1 (xs.map (prgV pg)), fv] (.bool (xs.all q)) := by
  refine PC.o okC Tryz.func121 rfl (.bool _) fun h nx hnx => ?_
  have hc := c_ContainsFunc_Prog (p := p) (q := fun x => !q x) (xs := xs) (fv := .fn 250 [.vptr [fv]]) fun x hx => c_allf_Prog (hq x hx)
  cases hf
  all_goals simp
  · refine call_pcB (hc) (by exact .bool _) (by repeat' first | exact Bors.nil | refine Bors.cons ?_ ?_ | exact Bor.same _ | refine Bor.fn1 ?_ | refine Bor.ptr0 (by (simp; rfl)) ?_) ?_
    simp [resultsA, resA, List.all_eq_not_any_not]
  · refine call_pcB (hc) (by exact .bool _) (by repeat' first | exact Bors.nil | refine Bors.cons ?_ ?_ | exact Bor.same _ | refine Bor.fn1 ?_ | refine Bor.ptr0 (by (simp; rfl)) ?_) ?_
    simp [resultsA, resA, List.all_eq_not_any_not]

end Go.AE.Tryz
end

section
/- Contracts of the program's readers: slots, times, heaps, timers. -/
set_option maxRecDepth 8000
set_option maxHeartbeats 2000000
namespace Go.AE.Tryz
open Go.Proofs
open List (map_take map_drop map_tail)

theorem c_SlotsOk1 {x : Int} : PC ctx.P 373 [.int .i64 x] (.bool (!inR x 0 1000000)) := by
  refine PC.o okC Tryz.func373 rfl (.bool _) fun h nx hnx => ?_
  try simp [-map_take, -map_drop, -map_tail, rgs]
  repeat' first | done | (((with_reducible show doCall _ _ _ 46 _ _); refine call_pc (c_within) ?_) <;> simp [-map_take, -map_drop, -map_tail, rgs]) | fail
theorem c_SlotsOk {F : Nat → Bool} {s : Slt} : PC ctx.P 264 [.agg (sltV F s)] (.bool (sltOk s)) := by
  refine PC.o okC Tryz.func264 rfl (.bool _) fun h nx hnx => ?_
  try simp [-map_take, -map_drop, -map_tail, rgs, sltV, sltOk]
  repeat' first | done | ((first | ((with_reducible show lenS _ _ _ _ _ _); refine lenS_slice rfl fun _ => ?_) | ((with_reducible show doCall _ _ _ 372 _ _); refine call_pc (c_size_int64) ?_) | ((with_reducible show doCall _ _ _ 46 _ _); refine call_pc (c_within) ?_) | ((with_reducible show doCall _ _ _ 254 _ _); refine call_pc (c_ContainsFunc_int64 (q := fun a => !inR a 0 1000000) (fun x _ => c_SlotsOk1)) ?_)) <;> simp [-map_take, -map_drop, -map_tail, rgs, sltV, sltOk]) | ((with_reducible refine guardS_split ?_ ?_) <;> intro qb <;> (have qp := qb; try simp only [psq] at qp) <;> simp [-map_take, -map_drop, -map_tail, rgs, sltV, sltOk, qb])

theorem c_used {F : Nat → Bool} {s : Slt} : PC ctx.P 266 [.agg (sltV F s)] (.int .i64 (cntB id s.used)) := by
  refine PC.lim (n := s.used.length) (x := .agg (sltV F s)) (by simp) (.agg (x := .view (F 9) 1 (s.used.map bv)) (by simp [sltV]) (.here (by simp))) ⟨_, Tryz.func266, by kernel_rfl, by kernel_rfl⟩ fun hlim => ?_
  refine PC.o okC Tryz.func266 rfl (.int _ _) fun h nx hnx => ?_
  try simp [-map_take, -map_drop, -map_tail, rgs, sltV]
  repeat' first | done | (((with_reducible show lenS _ _ _ _ _ _); refine lenS_slice rfl fun _ => ?_) <;> simp [-map_take, -map_drop, -map_tail, rgs, sltV]) | fail
  refine go_upP [3, 5, 9, 10, 11, 12, 13, 14, 15, 16] (s.used.length) (fun (i : Nat) a => [(9, .int .i64 i), (3, .int .i64 a)]) (fun i_ a_ h_ _ => (fun i (a : Int) _ => a + cntB id (s.used.drop i) = cntB id s.used ∧ 0 ≤ a ∧ a ≤ i) i_ a_ h_) (0) (by simp) ?_ keep_rfl (Nat.le_refl _) ?_
  · simp
  · intro i a tm h' n' hle hJ hE hn' next hnx
    try dsimp only at hJ
    have hK : KeepB nx h' h := KeepB.sub hE keepA (by omega)
    simp [-map_take, -map_drop, -map_tail]
    repeat' first | done | (((with_reducible show iaddrS _ _ _ _ _ _ _); refine iaddr_map rfl omA omA ?_) <;> simp [-map_take, -map_drop, -map_tail, rgs, bv]) | ((with_reducible refine condS_split ?_ ?_) <;> intro qb <;> (have qp := qb; try simp only [psq] at qp) <;> simp [-map_take, -map_drop, -map_tail, rgs, bv, qb])
    · rw [drop_gt (by omega)] at hJ
      refine hnx.go (a + 1) (by omega) (by simp [wrap_succ (i := i) (n := s.used.length) (by omega) hlim, i64_ok (x := a + 1) (by simp only [LIM] at hlim; omega)]) (by simp) keepA (by first | omega | (simp; omega)) ?_
      try dsimp only
      simp [cntB, qb] at hJ ⊢
      omega
    · rw [drop_gt (by omega)] at hJ
      refine hnx.go (a) (by omega) (by simp [wrap_succ (i := i) (n := s.used.length) (by omega) hlim]) (by simp) keepA (by first | omega | (simp; omega)) ?_
      try dsimp only
      simp [cntB, qb] at hJ ⊢
      omega
    · refine ⟨?_, by simp [hK]⟩
      rw [List.drop_eq_nil_of_le (by omega)] at hJ
      simp [cntB] at hJ ⊢
      omega

theorem c_holds {F : Nat → Bool} {s : Slt} {x : Han} (hl : s.used.length = s.ages.length) : PC ctx.P 268 [.agg (sltV F s), .agg (hanC x)] (.bool (sltHolds s x)) := by
  refine PC.o okC Tryz.func268 rfl (.bool _) fun h nx hnx => ?_
  try simp [-map_take, -map_drop, -map_tail, rgs, sltV, hanC, iv, bv, sltHolds]
  repeat' first | done | ((first | ((with_reducible show iaddrS _ _ _ _ _ _ _); refine iaddr_map rfl omA omA ?_) | ((with_reducible show doCall _ _ _ 374 _ _); refine call_pc (c_isIn_int64) ?_) | (with_reducible refine go_draw (i := 1) [(0, [], []), (1, [], []), (2, [], []), (3, [], []), (4, [], []), (5, [], []), (6, [], []), (7, [], []), (8, [], []), (9, [], []), (10, [], []), (11, [], []), (12, [], []), (13, [], []), (14, [], []), (15, [], []), (16, [], []), (17, [], []), (18, [], []), (19, [], []), (20, [], []), (21, [], []), (22, [], []), (23, [], []), (24, [], [])] (by kernel_rfl) ?_)) <;> simp [-map_take, -map_drop, -map_tail, rgs, sltV, hanC, iv, bv, sltHolds]) | ((with_reducible refine guardD_split ?_ ?_) <;> intro qb <;> (have qp := qb; try simp only [psq] at qp) <;> simp [-map_take, -map_drop, -map_tail, rgs, sltV, hanC, iv, bv, sltHolds, qb])

theorem c_IsDue {a b : Int} : PC ctx.P 146 [.int .i64 a, .int .i64 b] (.bool (isDue a b)) := by
  refine PC.o okC Tryz.func146 rfl (.bool _) fun h nx hnx => ?_
  try simp [-map_take, -map_drop, -map_tail, rgs, isDue, never]
  repeat' first | done | ((with_reducible refine guardS_split ?_ ?_) <;> intro qb <;> (have qp := qb; try simp only [psq] at qp) <;> simp [-map_take, -map_drop, -map_tail, rgs, isDue, never, qb])

theorem c_isNaN {a : Int} : PC ctx.P 473 [.int .i64 a] (.bool false) := by
  refine PC.o okC Tryz.func473 rfl (.bool _) fun h nx hnx => ?_
  try simp [-map_take, -map_drop, -map_tail, rgs]
theorem c_Compare {a b : Int} : PC ctx.P 458 [.int .i64 a, .int .i64 b] (.int .i64 (cmp2 a b)) := by
  refine PC.o okC Tryz.func458 rfl (.int _ _) fun h nx hnx => ?_
  try simp [-map_take, -map_drop, -map_tail, rgs, cmp2]
  repeat' first | done | (((with_reducible show doCall _ _ _ 473 _ _); refine call_pc (c_isNaN) ?_) <;> simp [-map_take, -map_drop, -map_tail, rgs, cmp2]) | ((with_reducible refine condS_split ?_ ?_) <;> intro qb <;> (have qp := qb; try simp only [psq] at qp) <;> simp [-map_take, -map_drop, -map_tail, rgs, cmp2, qb])
  all_goals omega
theorem c_Or {p : Bool} {xs : List Int} : PC ctx.P 457 [.view p 1 (xs.map iv)] (.int .i64 (orI xs)) := by
  refine PC.lim (n := xs.length) (x := .view p 1 (xs.map iv)) (by simp) (.here (by simp)) ⟨_, Tryz.func457, by kernel_rfl, by kernel_rfl⟩ fun hlim => ?_
  refine PC.o okC Tryz.func457 rfl (.int _ _) fun h nx hnx => ?_
  try simp [-map_take, -map_drop, -map_tail, rgs]
  repeat' first | done | (((with_reducible show lenS _ _ _ _ _ _); refine lenS_slice rfl fun _ => ?_) <;> simp [-map_take, -map_drop, -map_tail, rgs]) | fail
  refine go_upP [2, 5, 8, 9, 10, 11, 12, 13, 14, 15, 16] (xs.length) (fun (i : Nat) a => [(8, .int .i64 i)]) (fun i_ a_ h_ _ => (fun i (_ : Unit) _ => orI (xs.drop i) = orI xs) i_ a_ h_) (()) (by simp) ?_ keep_rfl (Nat.le_refl _) ?_
  · simp
  · intro i a tm h' n' hle hJ hE hn' next hnx
    try dsimp only at hJ
    have hK : KeepB nx h' h := KeepB.sub hE keepA (by omega)
    simp [-map_take, -map_drop, -map_tail]
    repeat' first | done | (((with_reducible show iaddrS _ _ _ _ _ _ _); refine iaddr_map rfl omA omA ?_) <;> simp [-map_take, -map_drop, -map_tail, rgs, iv]) | ((with_reducible refine condS_split ?_ ?_) <;> intro qb <;> (have qp := qb; try simp only [psq] at qp) <;> simp [-map_take, -map_drop, -map_tail, rgs, iv, qb])
    all_goals
      first
      | (have hlt : i < xs.length := (by first | omega | (simp at *; omega))
         rw [drop_gt hlt] at hJ
         first
         | (refine hnx.go (()) ?_ ?_ ?_ ?_ ?_ ?_; omega; (simp [wrap_succ hlt hlim]); (simp); exact keepA; (first | omega | (simp; omega)); (try dsimp only); clear hnx; first | ((try simp only [List.drop_length, Int.toNat_natCast, orI] at hJ ⊢); grind) | (simp_all [orI]; done) | (simp_all; omega))
         | (refine ⟨?_, keepA⟩; clear hnx; first | ((try simp only [List.drop_length, Int.toNat_natCast, orI] at hJ ⊢); grind) | (simp_all [orI]; done) | (simp_all; omega)))
      | (obtain rfl : i = xs.length := (by first | omega | (simp at *; omega))
         refine ⟨?_, keepA⟩; clear hnx; first | ((try simp only [List.drop_length, Int.toNat_natCast, orI] at hJ ⊢); grind) | (simp_all [orI]; done) | (simp_all; omega))
end Go.AE.Tryz
end

section
/- Contracts of the program's readers: heaps, timers, trees. -/
set_option maxRecDepth 8000
set_option maxHeartbeats 2000000
namespace Go.AE.Tryz
open Go.Proofs
open List (map_take map_drop map_tail)

theorem c_compare {a b : Twg} : PC ctx.P 433 [.agg (twgC a), .agg (twgC b)] (.int .i64 (twgCmp a b)) := by
  refine PC.o okC Tryz.func433 rfl (.int _ _) fun h nx hnx => ?_
  try simp [-map_take, -map_drop, -map_tail, rgs, twgC]
  repeat' first | done | ((first | ((with_reducible show doCall _ _ _ 458 _ _); refine call_pc (c_Compare) ?_) | ((with_reducible show doCall _ _ _ 457 _ _); refine call_pcB (c_Or (p := false) (xs := [cmp2 a.due b.due, cmp2 a.seq b.seq])) (by exact .int _ _) (by repeat' first | exact Bors.nil | refine Bors.cons ?_ ?_ | refine Bor.ref0 (by (simp [iv, bv]; done)) (by simp) (by simp)) ?_) | (with_reducible refine go_draw (i := 1) [(0, [], []), (1, [], []), (2, [], []), (3, [], []), (5, [], []), (6, [], []), (7, [], []), (8, [], []), (4, [.tmp 10, .tmp 12], []), (9, [], []), (10, [], []), (11, [], []), (12, [], [])] (by kernel_rfl) ?_)) <;> simp [-map_take, -map_drop, -map_tail, rgs, twgC]) | fail
  all_goals (try clear hnx)
  all_goals (simp_all [twgCmp]; done)
theorem c_parts {p : Bool} {l : List Twg} (hp : 0 < l.length) (h0 : 0 ≤ (gt l 0).lefts) (h1 : (gt l 0).lefts < l.length) :
    PC ctx.P 431 [.view p 3 (l.map twgC)] (.tup [.view p 3 ((l.tail.take (gt l 0).lefts.toNat).map twgC), .view p 3 ((l.drop ((gt l 0).lefts.toNat + 1)).map twgC)]) := by
  refine PC.lim (n := l.length) (x := .view p 3 (l.map twgC)) (by simp) (.here (by simp)) ⟨_, Tryz.func431, by kernel_rfl, by kernel_rfl⟩ fun hlim => ?_
  simp only [LIM] at hlim
  have q1 : (1 + (gt l 0).lefts).toNat = (gt l 0).lefts.toNat + 1 := by omega
  refine PC.o okC Tryz.func431 rfl (.tup _ (by simp [-List.map_take, -List.map_drop]; exact ⟨.vmap twgC_fz, .vmap twgC_fz⟩)) fun h nx hnx => ?_
  try simp [-map_take, -map_drop, -map_tail, rgs, twgC, i64_ok (x := 1 + (gt l 0).lefts) (by omega), q1]
  repeat' first | done | ((first | ((with_reducible show iaddrS _ _ _ _ _ _ _); refine iaddr_map rfl omA omA ?_) | ((with_reducible show sliceI _ _ _ _ _ _ _ _ _ _ _); refine sliceI_from rfl omA omA ?_) | ((with_reducible show sliceI _ _ _ _ _ _ _ _ _ _ _); refine sliceI_mid rfl omA omA omA ?_) | (with_reducible refine go_draw (i := 2) [(0, [], []), (1, [], []), (2, [], []), (3, [], []), (4, [], []), (5, [], []), (6, [], []), (7, [], [])] (by kernel_rfl) ?_)) <;> simp [-map_take, -map_drop, -map_tail, rgs, twgC, i64_ok (x := 1 + (gt l 0).lefts) (by omega), q1]) | fail
theorem c_seqAt1 {x : Twg} {s : Int} : PC ctx.P 429 [.agg (twgC x), .vptr [.int .i64 s]] (.bool (x.seq == s)) := by
  refine PC.o okC Tryz.func429 rfl (.bool _) fun h nx hnx => ?_
  try simp [-map_take, -map_drop, -map_tail, rgs, twgC]
theorem c_seqAt {p : Bool} {h : List Twg} {s : Int} : PC ctx.P 367 [.view p 3 (h.map twgC), .int .i64 s] (.int .i64 (seqAt h s)) := by
  refine PC.o okC Tryz.func367 rfl (.int _ _) fun h nx hnx => ?_
  try simp [-map_take, -map_drop, -map_tail, rgs, seqAt]
  repeat' first | done | (((with_reducible show doCall _ _ _ 369 _ _); refine call_pcB (c_IndexFunc_Twig (q := fun x => x.seq == s) (fv := .fn 429 [.vptr [.int .i64 s]]) (fun x _ => c_seqAt1)) (by exact .int _ _) (by repeat' first | exact Bors.nil | refine Bors.cons ?_ ?_ | exact Bor.same _ | refine Bor.fn1 ?_ | refine Bor.ptr0 (by (simp; rfl)) ?_) ?_) <;> simp [-map_take, -map_drop, -map_tail, rgs, seqAt]) | fail
theorem c_tmsAt1 {x : Tmr} {s : Int} : PC ctx.P 371 [.agg (tmrC x), .vptr [.int .i64 s]] (.bool (x.seq == s)) := by
  refine PC.o okC Tryz.func371 rfl (.bool _) fun h nx hnx => ?_
  try simp [-map_take, -map_drop, -map_tail, rgs, tmrC]
theorem c_tmsAt {F : Nat → Bool} {t : Tms} {s : Int} : PC ctx.P 261 [.agg (tmsV F t), .int .i64 s] (.int .i64 (tmsAt t.list s)) := by
  refine PC.o okC Tryz.func261 rfl (.int _ _) fun h nx hnx => ?_
  try simp [-map_take, -map_drop, -map_tail, rgs, tmsV, tmsAt]
  repeat' first | done | (((with_reducible show doCall _ _ _ 370 _ _); refine call_pcB (c_IndexFunc_Timer (q := fun x => x.seq == s) (fv := .fn 371 [.vptr [.int .i64 s]]) (fun x _ => c_tmsAt1)) (by exact .int _ _) (by repeat' first | exact Bors.nil | refine Bors.cons ?_ ?_ | exact Bor.same _ | refine Bor.fn1 ?_ | refine Bor.ptr0 (by (simp; rfl)) ?_) ?_) <;> simp [-map_take, -map_drop, -map_tail, rgs, tmsV, tmsAt]) | fail
theorem c_TimersOk1 {F : Nat → Bool} {t : Tms} {x : Twg} : PC ctx.P 260 [.agg (twgC x), .vptr (tmsV F t)] (.bool (decide (tmsAt t.list x.seq < 0) || (!(gt t.list (tmsAt t.list x.seq)).armed || (gt t.list (tmsAt t.list x.seq)).due != x.due))) := by
  have hat := tmsAt_lt t.list x.seq
  refine PC.o okC Tryz.func260 rfl (.bool _) fun h nx hnx => ?_
  try simp [-map_take, -map_drop, -map_tail, rgs, twgC, tmsV, tmrC]
  repeat' first | done | ((first | ((with_reducible show iaddrS _ _ _ _ _ _ _); refine iaddr_map rfl omA omA ?_) | ((with_reducible show doCall _ _ _ 261 _ _); refine call_pc (c_tmsAt (F := F) (t := t)) ?_) | (with_reducible refine go_draw (i := 2) [(0, [], []), (1, [], []), (2, [], []), (3, [], []), (4, [], []), (5, [], []), (6, [], []), (7, [], []), (8, [], []), (9, [], []), (10, [], []), (11, [], []), (12, [], []), (13, [], []), (14, [], []), (15, [], []), (16, [], []), (17, [], []), (18, [], []), (19, [], []), (20, [], []), (21, [], []), (22, [], [])] (by kernel_rfl) ?_)) <;> simp [-map_take, -map_drop, -map_tail, rgs, twgC, tmsV, tmrC]) | ((with_reducible refine guardD_split ?_ ?_) <;> intro qb <;> (have qp := qb; try simp only [psq] at qp) <;> simp [-map_take, -map_drop, -map_tail, rgs, twgC, tmsV, tmrC, qb])

theorem c_rank {p : Bool} {h0 : List Twg} {r : Nat} (hr : rk h0 = some r) : PC ctx.P 432 [.view p 3 (h0.map twgC)] (.int .i64 r) := by
  refine PC.lim (n := h0.length) (x := .view p 3 (h0.map twgC)) (by simp) (.here (by simp)) ⟨_, Tryz.func432, by kernel_rfl, by kernel_rfl⟩ fun hlim => ?_
  have hrl := rk_le hr
  simp only [LIM] at hlim
  refine PC.o okC Tryz.func432 rfl (.int _ _) fun h nx hnx => ?_
  try simp [-map_take, -map_drop, -map_tail, rgs]
  refine go_dnP [0, 3, 4, 5, 6, 7, 8, 9, 10, 11, 12, 13] (fun a => [(0, .view p 3 (a.1.map twgC)), (3, .int .i64 a.2)]) (fun a => a.1.length) (fun a_ h_ _ => (fun (a : List Twg × Int) _ => ∃ k : Nat, rk a.1 = some k ∧ a.2 + k = r ∧ 0 ≤ a.2) a_ h_) ((h0, 0)) (by simp) ?_ keep_rfl (Nat.le_refl _) ?_
  · exact ⟨r, hr, by simp, by simp⟩
  · intro a tm h' n' hJ hE hn' next hnx
    try dsimp only at hJ
    have hK : KeepB nx h' h := KeepB.sub hE keepA (by omega)
    obtain ⟨l, n⟩ := a
    obtain ⟨k, hk, hn, h0⟩ := hJ
    dsimp only at hk hn h0 ⊢
    rcases rk_cases hk with ⟨rfl, rfl⟩ | ⟨hp, hx0, hx1, b, hb, rfl⟩
    · try simp [-map_take, -map_drop, -map_tail, rgs]
      repeat' first | done | (((with_reducible show lenS _ _ _ _ _ _); refine lenS_slice rfl fun _ => ?_) <;> simp [-map_take, -map_drop, -map_tail, rgs]) | fail
      all_goals (first | exact ⟨by simpa using hn, hK⟩ | (simp at *; omega))
    · simp at hn h0
      try simp [-map_take, -map_drop, -map_tail, rgs]
      repeat' first | done | ((first | ((with_reducible show lenS _ _ _ _ _ _); refine lenS_slice rfl fun _ => ?_) | ((with_reducible show doCall _ _ _ 431 _ _); refine call_pc (c_parts hp hx0 hx1) ?_)) <;> simp [-map_take, -map_drop, -map_tail, rgs]) | ((with_reducible refine condS_split ?_ ?_) <;> intro qb <;> (have qp := qb; try simp only [psq] at qp) <;> simp [-map_take, -map_drop, -map_tail, rgs, qb])
      · refine hnx.go (l.drop ((gt l 0).lefts.toNat + 1), n + 1) (by simp; omega) (by simp [i64_ok (x := n + 1) (by omega)]) (by simp) keepA (by first | omega | (simp; omega)) ⟨b, hb, by simp; omega, by simp; omega⟩
      · omega
theorem c_isHeapN {p : Bool} : ∀ (n : Nat) (l : List Twg), l.length ≤ n → PC ctx.P 368 [.view p 3 (l.map twgC)] (.bool (rk l).isSome) := by
  intro n
  induction n with
  | zero =>
    intro l hl
    obtain rfl : l = [] := by simpa using hl
    refine PC.o okC Tryz.func368 rfl (.bool _) fun h nx hnx => ?_
    try simp [-map_take, -map_drop, -map_tail, rgs, rk_nil]
    repeat' first | done | (((with_reducible show lenS _ _ _ _ _ _); refine lenS_slice rfl fun _ => ?_) <;> simp [-map_take, -map_drop, -map_tail, rgs, rk_nil]) | fail
  | succ n ih =>
    intro l hl
    refine PC.lim (n := l.length) (x := .view p 3 (l.map twgC)) (by simp) (.here (by simp)) ⟨_, Tryz.func368, by kernel_rfl, by kernel_rfl⟩ fun hlim => ?_
    simp only [LIM] at hlim
    by_cases hp : 0 < l.length
    · have i1 := ih (l.tail.take (gt l 0).lefts.toNat) (by simp; omega)
      have i2 := ih (l.drop ((gt l 0).lefts.toNat + 1)) (by simp; omega)
      rw [rk_tail hp]
      cases ha : rk (l.tail.take (gt l 0).lefts.toNat) with
      | none =>
        rw [ha] at i1
        refine PC.o okC Tryz.func368 rfl (.bool _) fun h nx hnx => ?_
        try simp [-map_take, -map_drop, -map_tail, rgs, twgC, i64_ok (x := (l.length : Int) - 1) (by omega)]
        repeat' first | done | ((first | ((with_reducible show lenS _ _ _ _ _ _); refine lenS_slice rfl fun _ => ?_) | ((with_reducible show iaddrS _ _ _ _ _ _ _); refine iaddr_map rfl omA omA ?_) | ((with_reducible show doCall _ _ _ 430 _ _); refine call_pc (c_size_Twig) ?_) | ((with_reducible show doCall _ _ _ 46 _ _); refine call_pc (c_within) ?_) | ((with_reducible show doCall _ _ _ 431 _ _); refine call_pc (c_parts hp (by omega) (by omega)) ?_) | (refine call_pc (i1) ?_) | (with_reducible refine go_draw (i := 3) [(0, [], []), (1, [], []), (2, [], []), (3, [], []), (4, [], []), (5, [.tmp 10], []), (6, [], []), (7, [], []), (8, [], [])] (by kernel_rfl) ?_)) <;> simp [-map_take, -map_drop, -map_tail, rgs, twgC, i64_ok (x := (l.length : Int) - 1) (by omega)]) | ((with_reducible refine condS_split ?_ ?_) <;> intro qb <;> (have qp := qb; try simp only [psq] at qp) <;> simp [-map_take, -map_drop, -map_tail, rgs, twgC, i64_ok (x := (l.length : Int) - 1) (by omega), qb])
        all_goals (clear ih i1 i2 hnx; simp_all)
      | some a =>
        rw [ha] at i1
        cases hb : rk (l.drop ((gt l 0).lefts.toNat + 1)) with
        | none =>
          rw [hb] at i2
          refine PC.o okC Tryz.func368 rfl (.bool _) fun h nx hnx => ?_
          try simp [-map_take, -map_drop, -map_tail, rgs, twgC, i64_ok (x := (l.length : Int) - 1) (by omega)]
          repeat' first | done | ((first | ((with_reducible show lenS _ _ _ _ _ _); refine lenS_slice rfl fun _ => ?_) | ((with_reducible show iaddrS _ _ _ _ _ _ _); refine iaddr_map rfl omA omA ?_) | ((with_reducible show doCall _ _ _ 430 _ _); refine call_pc (c_size_Twig) ?_) | ((with_reducible show doCall _ _ _ 46 _ _); refine call_pc (c_within) ?_) | ((with_reducible show doCall _ _ _ 431 _ _); refine call_pc (c_parts hp (by omega) (by omega)) ?_) | (refine call_pc (i1) ?_) | (refine call_pc (i2) ?_) | (with_reducible refine go_draw (i := 3) [(0, [], []), (1, [], []), (2, [], []), (3, [], []), (4, [], []), (5, [.tmp 10], []), (6, [], []), (7, [], []), (8, [], [])] (by kernel_rfl) ?_)) <;> simp [-map_take, -map_drop, -map_tail, rgs, twgC, i64_ok (x := (l.length : Int) - 1) (by omega)]) | ((with_reducible refine condS_split ?_ ?_) <;> intro qb <;> (have qp := qb; try simp only [psq] at qp) <;> simp [-map_take, -map_drop, -map_tail, rgs, twgC, i64_ok (x := (l.length : Int) - 1) (by omega), qb])
          all_goals (clear ih i1 i2 hnx; simp_all)
        | some b =>
          rw [hb] at i2
          simp only [head_all]
          refine PC.o okC Tryz.func368 rfl (.bool _) fun h nx hnx => ?_
          try simp [-map_take, -map_drop, -map_tail, rgs, twgC, i64_ok (x := (l.length : Int) - 1) (by omega)]
          repeat' first | done | ((first | ((with_reducible show lenS _ _ _ _ _ _); refine lenS_slice rfl fun _ => ?_) | ((with_reducible show iaddrS _ _ _ _ _ _ _); refine iaddr_map rfl omA omA ?_) | ((with_reducible show doCall _ _ _ 430 _ _); refine call_pc (c_size_Twig) ?_) | ((with_reducible show doCall _ _ _ 46 _ _); refine call_pc (c_within) ?_) | ((with_reducible show doCall _ _ _ 431 _ _); refine call_pc (c_parts hp (by omega) (by omega)) ?_) | (refine call_pc (i1) ?_) | (refine call_pc (i2) ?_) | ((with_reducible show doCall _ _ _ 432 _ _); refine call_pc (c_rank ha) ?_) | ((with_reducible show doCall _ _ _ 432 _ _); refine call_pc (c_rank hb) ?_) | ((with_reducible show doCall _ _ _ 433 _ _); refine call_pc (c_compare (a := gt l 0)) ?_) | (with_reducible refine go_draw (i := 3) [(0, [], []), (1, [], []), (2, [], []), (3, [], []), (4, [], []), (5, [.tmp 10], []), (6, [], []), (7, [], []), (8, [], [])] (by kernel_rfl) ?_) | (with_reducible refine go_draw (i := 8) [(0, [], []), (1, [], []), (2, [], []), (3, [], []), (4, [], []), (5, [], []), (6, [], []), (7, [], []), (8, [], []), (9, [], []), (10, [], []), (11, [], []), (12, [], []), (13, [], []), (14, [], []), (15, [], []), (16, [], []), (17, [], []), (18, [], []), (19, [], []), (20, [], []), (21, [], []), (22, [], []), (23, [], []), (24, [], []), (25, [], []), (26, [], []), (27, [], []), (28, [], [])] (by kernel_rfl) ?_)) <;> simp [-map_take, -map_drop, -map_tail, rgs, twgC, i64_ok (x := (l.length : Int) - 1) (by omega)]) | ((first | (with_reducible refine guardD_split ?_ ?_) | (with_reducible refine condS_split ?_ ?_)) <;> intro qb <;> (have qp := qb; try simp only [psq] at qp) <;> simp [-map_take, -map_drop, -map_tail, rgs, twgC, i64_ok (x := (l.length : Int) - 1) (by omega), qb])
          all_goals clear ih i1 i2 hnx
          all_goals first | (simp_all; done) | (simp_all; omega) | grind | trace_state
    · obtain rfl : l = [] := by cases l <;> simp at hp ⊢
      refine PC.o okC Tryz.func368 rfl (.bool _) fun h nx hnx => ?_
      try simp [-map_take, -map_drop, -map_tail, rgs, rk_nil]
      repeat' first | done | (((with_reducible show lenS _ _ _ _ _ _); refine lenS_slice rfl fun _ => ?_) <;> simp [-map_take, -map_drop, -map_tail, rgs, rk_nil]) | fail
theorem c_isHeap {p : Bool} {l : List Twg} : PC ctx.P 368 [.view p 3 (l.map twgC)] (.bool (rk l).isSome) := c_isHeapN _ _ (Nat.le_refl _)
theorem c_HeapOk {p : Bool} {l : List Twg} : PC ctx.P 258 [.view p 3 (l.map twgC)] (.bool (heapOk l)) := by
  refine PC.lim (n := l.length) (x := .view p 3 (l.map twgC)) (by simp) (.here (by simp)) ⟨_, Tryz.func258, by kernel_rfl, by kernel_rfl⟩ fun hlim => ?_
  refine PC.o okC Tryz.func258 rfl (.bool _) fun h nx hnx => ?_
  try simp [-map_take, -map_drop, -map_tail, rgs]
  repeat' first | done | (((with_reducible show lenS _ _ _ _ _ _); refine lenS_slice rfl fun _ => ?_) <;> simp [-map_take, -map_drop, -map_tail, rgs]) | ((with_reducible refine condS_split ?_ ?_) <;> intro qb <;> (have qp := qb; try simp only [psq] at qp) <;> simp [-map_take, -map_drop, -map_tail, rgs, qb])
  · all_goals (try clear hnx)
    all_goals (simp_all [heapOk]; omega)
  · refine go_upP [2, 3, 4, 10, 11, 12, 13, 14, 15, 16, 17, 18, 19, 20, 21, 22] (l.length) (fun (i : Nat) a => [(10, .int .i64 i)]) (fun i_ a_ h_ _ => (fun i (_ : Unit) _ => allI (fun i x => !(decide (0 ≤ seqAt (l.take i.toNat) x.seq))) (l.drop i) i = allI (fun i x => !(decide (0 ≤ seqAt (l.take i.toNat) x.seq))) l 0) i_ a_ h_) (()) (by simp) ?_ keep_rfl (Nat.le_refl _) ?_
    · simp
    · intro i a tm h' n' hle hJ hE hn' next hnx
      try dsimp only at hJ
      have hK : KeepB nx h' h := KeepB.sub hE keepA (by omega)
      simp [-map_take, -map_drop, -map_tail]
      repeat' first | done | ((first | ((with_reducible show iaddrS _ _ _ _ _ _ _); refine iaddr_map rfl omA omA ?_) | ((with_reducible show sliceI _ _ _ _ _ _ _ _ _ _ _); refine sliceI_to rfl omA omA ?_) | ((with_reducible show doCall _ _ _ 367 _ _); refine call_pc (c_seqAt) ?_) | ((with_reducible show doCall _ _ _ 368 _ _); refine call_pc (c_isHeap) ?_) | (with_reducible refine go_draw (i := 6) [(0, [], []), (1, [], []), (2, [], []), (3, [], []), (4, [], []), (5, [], []), (6, [], [])] (by kernel_rfl) ?_)) <;> simp [-map_take, -map_drop, -map_tail, rgs, twgC]) | ((with_reducible refine condS_split ?_ ?_) <;> intro qb <;> (have qp := qb; try simp only [psq] at qp) <;> simp [-map_take, -map_drop, -map_tail, rgs, twgC, qb])
      all_goals
        first
        | (have hlt : i < l.length := (by first | omega | (simp at *; omega))
           rw [drop_gt hlt] at hJ
           first
           | (refine hnx.go (()) ?_ ?_ ?_ ?_ ?_ ?_; omega; (simp [wrap_succ hlt hlim]); (simp); exact keepA; (first | omega | (simp; omega)); (try dsimp only); clear hnx; first | ((try simp only [List.drop_length, Int.toNat_natCast, allI, heapOk] at hJ ⊢); grind) | (simp_all [allI, heapOk]; done) | (simp_all; omega))
           | (refine ⟨?_, keepA⟩; clear hnx; first | ((try simp only [List.drop_length, Int.toNat_natCast, allI, heapOk] at hJ ⊢); grind) | (simp_all [allI, heapOk]; done) | (simp_all; omega)))
        | (obtain rfl : i = l.length := (by first | omega | (simp at *; omega))
           refine ⟨?_, keepA⟩; clear hnx; first | ((try simp only [List.drop_length, Int.toNat_natCast, allI, heapOk] at hJ ⊢); grind) | (simp_all [allI, heapOk]; done) | (simp_all; omega))

theorem c_isNode {n : Nod} {i : Int} (h0 : 0 ≤ i) (h1 : i ≤ LIM) : PC ctx.P 143 [.agg (nodC n), .int .i64 i] (.bool (isNode n i)) := by
  simp only [LIM] at h1
  refine PC.o okC Tryz.func143 rfl (.bool _) fun h nx hnx => ?_
  try simp [-map_take, -map_drop, -map_tail, rgs, nodC, i64_ok (x := i) (by omega), i64_ok (x := i - 1) (by omega)]
  repeat' first | done | (((with_reducible show doCall _ _ _ 46 _ _); refine call_pc (c_within) ?_) <;> simp [-map_take, -map_drop, -map_tail, rgs, nodC, i64_ok (x := i) (by omega), i64_ok (x := i - 1) (by omega)]) | ((first | (with_reducible refine guardS_split ?_ ?_) | (with_reducible refine condS_split ?_ ?_)) <;> intro qb <;> (have qp := qb; try simp only [psq] at qp) <;> simp [-map_take, -map_drop, -map_tail, rgs, nodC, i64_ok (x := i) (by omega), i64_ok (x := i - 1) (by omega), qb])
  all_goals (try clear hnx)
  all_goals (simp_all [isNode, never]; done)
theorem c_TreeOk {p : Bool} {t : List Nod} : PC ctx.P 165 [.view p 5 (t.map nodC)] (.bool (treeOk t)) := by
  refine PC.lim (n := t.length) (x := .view p 5 (t.map nodC)) (by simp) (.here (by simp)) ⟨_, Tryz.func165, by kernel_rfl, by kernel_rfl⟩ fun hlim => ?_
  refine PC.o okC Tryz.func165 rfl (.bool _) fun h nx hnx => ?_
  try simp [-map_take, -map_drop, -map_tail, rgs]
  repeat' first | done | (((with_reducible show lenS _ _ _ _ _ _); refine lenS_slice rfl fun _ => ?_) <;> simp [-map_take, -map_drop, -map_tail, rgs]) | fail
  refine go_upP [2, 3, 4, 7, 8, 9, 10, 11, 12, 13, 14, 15, 16, 17, 18, 19, 20] (t.length) (fun (i : Nat) a => [(7, .int .i64 i)]) (fun i_ a_ h_ _ => (fun i (_ : Unit) _ => allI (fun i n => i != 60 && isNode n i) (t.drop i) i = treeOk t) i_ a_ h_) (()) (by simp) ?_ keep_rfl (Nat.le_refl _) ?_
  · simp [treeOk]
  · intro i a tm h' n' hle hJ hE hn' next hnx
    try dsimp only at hJ
    have hK : KeepB nx h' h := KeepB.sub hE keepA (by omega)
    simp [-map_take, -map_drop, -map_tail]
    repeat' first | done | ((first | ((with_reducible show iaddrS _ _ _ _ _ _ _); refine iaddr_map rfl omA omA ?_) | ((with_reducible show doCall _ _ _ 143 _ _); refine call_pc (c_isNode (by omega) (by omega)) ?_)) <;> simp [-map_take, -map_drop, -map_tail, rgs]) | ((first | (with_reducible refine guardS_split ?_ ?_) | (with_reducible refine condS_split ?_ ?_)) <;> intro qb <;> (have qp := qb; try simp only [psq] at qp) <;> simp [-map_take, -map_drop, -map_tail, rgs, qb])
    all_goals
      first
      | (have hlt : i < t.length := (by first | omega | (simp at *; omega))
         rw [drop_gt hlt] at hJ
         first
         | (refine hnx.go (()) ?_ ?_ ?_ ?_ ?_ ?_; omega; (simp [wrap_succ hlt hlim]); (simp); exact keepA; (first | omega | (simp; omega)); (try dsimp only); clear hnx; first | ((try simp only [List.drop_length, Int.toNat_natCast, allI] at hJ ⊢); grind) | (simp_all [allI]; done) | (simp_all; omega))
         | (refine ⟨?_, keepA⟩; clear hnx; first | ((try simp only [List.drop_length, Int.toNat_natCast, allI] at hJ ⊢); grind) | (simp_all [allI]; done) | (simp_all; omega)))
      | (obtain rfl : i = t.length := (by first | omega | (simp at *; omega))
         refine ⟨?_, keepA⟩; clear hnx; first | ((try simp only [List.drop_length, Int.toNat_natCast, allI] at hJ ⊢); grind) | (simp_all [allI]; done) | (simp_all; omega))
theorem c_Index {p : Bool} {xs : List Int} {n : Int} : PC ctx.P 297 [.view p 1 (xs.map iv), .int .i64 n] (.int .i64 (idxI (fun x => n == x) xs 0)) := by
  refine PC.lim (n := xs.length) (x := .view p 1 (xs.map iv)) (by simp) (.here (by simp)) ⟨_, Tryz.func297, by kernel_rfl, by kernel_rfl⟩ fun hlim => ?_
  refine PC.o okC Tryz.func297 rfl (.int _ _) fun h nx hnx => ?_
  try simp [-map_take, -map_drop, -map_tail, rgs]
  repeat' first | done | (((with_reducible show lenS _ _ _ _ _ _); refine lenS_slice rfl fun _ => ?_) <;> simp [-map_take, -map_drop, -map_tail, rgs]) | fail
  refine go_upP [4, 5, 8, 9, 10, 11, 12, 13, 14, 15, 16, 17, 18] (xs.length) (fun (i : Nat) a => [(8, .int .i64 i)]) (fun i_ a_ h_ _ => (fun i (_ : Unit) _ => idxI (fun x => n == x) (xs.drop i) i = idxI (fun x => n == x) xs 0) i_ a_ h_) (()) (by simp) ?_ keep_rfl (Nat.le_refl _) ?_
  · simp
  · intro i a tm h' n' hle hJ hE hn' next hnx
    try dsimp only at hJ
    have hK : KeepB nx h' h := KeepB.sub hE keepA (by omega)
    simp [-map_take, -map_drop, -map_tail]
    repeat' first | done | (((with_reducible show iaddrS _ _ _ _ _ _ _); refine iaddr_map rfl omA omA ?_) <;> simp [-map_take, -map_drop, -map_tail, rgs, iv]) | ((with_reducible refine condS_split ?_ ?_) <;> intro qb <;> (have qp := qb; try simp only [psq] at qp) <;> simp [-map_take, -map_drop, -map_tail, rgs, iv, qb])
    all_goals
      first
      | (have hlt : i < xs.length := (by first | omega | (simp at *; omega))
         rw [drop_gt hlt] at hJ
         first
         | (refine hnx.go (()) ?_ ?_ ?_ ?_ ?_ ?_; omega; (simp [wrap_succ hlt hlim]); (simp); exact keepA; (first | omega | (simp; omega)); (try dsimp only); clear hnx; first | ((try simp only [List.drop_length, Int.toNat_natCast, idxI] at hJ ⊢); grind) | (simp_all [idxI]; done) | (simp_all; omega))
         | (refine ⟨?_, keepA⟩; clear hnx; first | ((try simp only [List.drop_length, Int.toNat_natCast, idxI] at hJ ⊢); grind) | (simp_all [idxI]; done) | (simp_all; omega)))
      | (obtain rfl : i = xs.length := (by first | omega | (simp at *; omega))
         refine ⟨?_, keepA⟩; clear hnx; first | ((try simp only [List.drop_length, Int.toNat_natCast, idxI] at hJ ⊢); grind) | (simp_all [idxI]; done) | (simp_all; omega))
theorem c_Contains {p : Bool} {xs : List Int} {n : Int} : PC ctx.P 168 [.view p 1 (xs.map iv), .int .i64 n] (.bool (xs.contains n)) := by
  have e : decide (0 ≤ idxI (fun x => n == x) xs 0) = xs.contains n := by rw [idxI_any _ _ 0 (Int.le_refl 0), any_contains]
  refine PC.o okC Tryz.func168 rfl (.bool _) fun h nx hnx => ?_
  try simp [-map_take, -map_drop, -map_tail, rgs, e]
  repeat' first | done | (((with_reducible show doCall _ _ _ 297 _ _); refine call_pc (c_Index) ?_) <;> simp [-map_take, -map_drop, -map_tail, rgs, e]) | fail
theorem c_isEvent {p : Bool} {t : List Nod} {e : Evt} : PC ctx.P 296 [.agg (evtC e), .view p 5 (t.map nodC)] (.bool (isEvent t e)) := by
  refine PC.o okC Tryz.func296 rfl (.bool _) fun h nx hnx => ?_
  try simp [-map_take, -map_drop, -map_tail, rgs, evtC, nodC]
  repeat' first | done | ((first | ((with_reducible show iaddrS _ _ _ _ _ _ _); refine iaddr_map rfl omA omA ?_) | ((with_reducible show doCall _ _ _ 48 _ _); refine call_pc (c_isIn_Node) ?_) | ((with_reducible show doCall _ _ _ 46 _ _); refine call_pc (c_within) ?_) | ((with_reducible show doCall _ _ _ 146 _ _); refine call_pc (c_IsDue) ?_) | (with_reducible refine go_draw (i := 8) [(0, [], []), (1, [], []), (2, [], []), (3, [], []), (4, [], []), (5, [], []), (6, [], []), (7, [], []), (8, [], []), (9, [], []), (10, [], []), (11, [], []), (12, [], []), (13, [], []), (14, [], []), (15, [], []), (16, [], []), (17, [], []), (18, [], [])] (by kernel_rfl) ?_)) <;> simp [-map_take, -map_drop, -map_tail, rgs, evtC, nodC]) | ((first | (with_reducible refine guardD_split ?_ ?_) | (with_reducible refine guardS_split ?_ ?_) | (with_reducible refine condS_split ?_ ?_)) <;> intro qb <;> (have qp := qb; try simp only [psq] at qp) <;> simp [-map_take, -map_drop, -map_tail, rgs, evtC, nodC, qb])
  all_goals (try clear hnx)
  all_goals (simp_all [isEvent]; done)
theorem c_isSpread1 {p : Bool} {t : List Nod} {n : Int} : PC ctx.P 255 [.int .i64 n, .vptr [.view p 5 (t.map nodC)]] (.bool (!isIn n t)) := by
  refine PC.o okC Tryz.func255 rfl (.bool _) fun h nx hnx => ?_
  try simp [-map_take, -map_drop, -map_tail, rgs]
  repeat' first | done | (((with_reducible show doCall _ _ _ 48 _ _); refine call_pc (c_isIn_Node) ?_) <;> simp [-map_take, -map_drop, -map_tail, rgs]) | fail
theorem c_isSpread {F : Nat → Bool} {p : Bool} {t : List Nod} {s : Spr} : PC ctx.P 123 [.agg (sprV F s), .view p 5 (t.map nodC)] (.bool (isSpread s t)) := by
  refine PC.o okC Tryz.func123 rfl (.bool _) fun h nx hnx => ?_
  try simp [-map_take, -map_drop, -map_tail, rgs, sprV]
  repeat' first | done | ((first | ((with_reducible show lenS _ _ _ _ _ _); refine lenS_slice rfl fun _ => ?_) | ((with_reducible show doCall _ _ _ 254 _ _); refine call_pcB (c_ContainsFunc_int64 (q := fun n => !isIn n t) (fv := .fn 255 [.vptr [.view p 5 (t.map nodC)]]) (fun x _ => c_isSpread1)) (by exact .bool _) (by repeat' first | exact Bors.nil | refine Bors.cons ?_ ?_ | exact Bor.same _ | refine Bor.fn1 ?_ | refine Bor.ptr0 (by (simp; rfl)) ?_) ?_)) <;> simp [-map_take, -map_drop, -map_tail, rgs, sprV]) | ((with_reducible refine guardS_split ?_ ?_) <;> intro qb <;> (have qp := qb; try simp only [psq] at qp) <;> simp [-map_take, -map_drop, -map_tail, rgs, sprV, qb])
  all_goals (try clear hnx)
  all_goals first | (simp_all [isSpread]; done) | (simp_all [isSpread]; omega)
end Go.AE.Tryz
end

section
/- Contracts of the program's readers: tasks, groups, worlds. -/
set_option maxRecDepth 8000
set_option maxHeartbeats 2000000
namespace Go.AE.Tryz
open Go.Proofs
open List (map_take map_drop map_tail)

theorem c_hasNode {n : Int} : PC ctx.P 234 [.int .i64 n] (.bool (hasNode n)) := by
  refine PC.o okC Tryz.func234 rfl (.bool _) fun h nx hnx => ?_
  try simp [-map_take, -map_drop, -map_tail, rgs]
  repeat' first | done | (((with_reducible show doCall _ _ _ 46 _ _); refine call_pc (c_within) ?_) <;> simp [-map_take, -map_drop, -map_tail, rgs]) | ((with_reducible refine guardS_split ?_ ?_) <;> intro qb <;> (have qp := qb; try simp only [psq] at qp) <;> simp [-map_take, -map_drop, -map_tail, rgs, qb])
  all_goals (try clear hnx)
  all_goals (simp_all [hasNode]; done)
theorem c_hasB {n : Int} : PC ctx.P 364 [.int .i64 n] (.bool (hasB n)) := by
  refine PC.o okC Tryz.func364 rfl (.bool _) fun h nx hnx => ?_
  try simp [-map_take, -map_drop, -map_tail, rgs]
  repeat' first | done | ((with_reducible refine guardS_split ?_ ?_) <;> intro qb <;> (have qp := qb; try simp only [psq] at qp) <;> simp [-map_take, -map_drop, -map_tail, rgs, qb])
  all_goals (try clear hnx)
  all_goals first | (simp_all [hasB]; done) | (rw [Bool.eq_iff_iff]; simp_all [hasB]; done)
theorem c_InsOk {x : Inn} : PC ctx.P 253 [.agg (innC x)] (.bool (innOk x)) := by
  refine PC.o okC Tryz.func253 rfl (.bool _) fun h nx hnx => ?_
  try simp [-map_take, -map_drop, -map_tail, rgs, innC]
  repeat' first | done | ((first | ((with_reducible show doCall _ _ _ 234 _ _); refine call_pc (c_hasNode) ?_) | ((with_reducible show doCall _ _ _ 364 _ _); refine call_pc (c_hasB) ?_) | ((with_reducible show doCall _ _ _ 46 _ _); refine call_pc (c_within) ?_)) <;> simp [-map_take, -map_drop, -map_tail, rgs, innC]) | ((first | (with_reducible refine guardS_split ?_ ?_) | (with_reducible refine condS_split ?_ ?_)) <;> intro qb <;> (have qp := qb; try simp only [psq] at qp) <;> simp [-map_take, -map_drop, -map_tail, rgs, innC, qb])
  all_goals (try clear hnx)
  all_goals (simp_all [innOk]; done)
theorem c_ProgOk1 {x : Inn} : PC ctx.P 252 [.agg (innC x)] (.bool (!innOk x)) := by
  refine PC.o okC Tryz.func252 rfl (.bool _) fun h nx hnx => ?_
  try simp [-map_take, -map_drop, -map_tail, rgs]
  repeat' first | done | (((with_reducible show doCall _ _ _ 253 _ _); refine call_pc (c_InsOk) ?_) <;> simp [-map_take, -map_drop, -map_tail, rgs]) | fail
theorem c_ProgOk {p : Bool} {l : List Inn} : PC ctx.P 122 [.view p 3 (l.map innC)] (.bool (progOk l)) := by
  refine PC.o okC Tryz.func122 rfl (.bool _) fun h nx hnx => ?_
  try simp [-map_take, -map_drop, -map_tail, rgs]
  repeat' first | done | ((first | ((with_reducible show lenS _ _ _ _ _ _); refine lenS_slice rfl fun _ => ?_) | ((with_reducible show doCall _ _ _ 251 _ _); refine call_pc (c_ContainsFunc_Ins (q := fun x => !innOk x) (fun x _ => c_ProgOk1)) ?_)) <;> simp [-map_take, -map_drop, -map_tail, rgs]) | ((with_reducible refine guardS_split ?_ ?_) <;> intro qb <;> (have qp := qb; try simp only [psq] at qp) <;> simp [-map_take, -map_drop, -map_tail, rgs, qb])
  all_goals (try clear hnx)
  all_goals (simp_all [progOk]; omega)
theorem c_TaskOk {t : Tsk} : PC ctx.P 273 [.agg (tskC t)] (.bool (tskOk t)) := by
  refine PC.o okC Tryz.func273 rfl (.bool _) fun h nx hnx => ?_
  try simp [-map_take, -map_drop, -map_tail, rgs, tskC]
  repeat' first | done | ((first | ((with_reducible show doCall _ _ _ 46 _ _); refine call_pc (c_within) ?_) | (with_reducible refine go_draw (i := 3) [(0, [], []), (1, [], []), (2, [], []), (3, [], []), (4, [], []), (5, [.tmp 34], []), (6, [], []), (7, [], []), (8, [], []), (9, [], []), (10, [], []), (11, [], []), (12, [], []), (13, [], []), (14, [], []), (15, [], []), (16, [], [])] (by kernel_rfl) ?_)) <;> simp [-map_take, -map_drop, -map_tail, rgs, tskC]) | ((first | (with_reducible refine guardD_split ?_ ?_) | (with_reducible refine guardS_split ?_ ?_) | (with_reducible refine condS_split ?_ ?_)) <;> intro qb <;> (have qp := qb; try simp only [psq] at qp) <;> simp [-map_take, -map_drop, -map_tail, rgs, tskC, qb])
  all_goals (try clear hnx)
  all_goals first | (simp_all [tskOk]; done) | (simp only [tskOk]; grind)
theorem c_TasksOk1 {t : Tsk} : PC ctx.P 272 [.agg (tskC t)] (.bool (!tskOk t)) := by
  refine PC.o okC Tryz.func272 rfl (.bool _) fun h nx hnx => ?_
  try simp [-map_take, -map_drop, -map_tail, rgs]
  repeat' first | done | (((with_reducible show doCall _ _ _ 273 _ _); refine call_pc (c_TaskOk) ?_) <;> simp [-map_take, -map_drop, -map_tail, rgs]) | fail
theorem c_TasksOk {p : Bool} {l : List Tsk} : PC ctx.P 132 [.view p 9 (l.map tskC)] (.bool (tasksOk l)) := by
  refine PC.o okC Tryz.func132 rfl (.bool _) fun h nx hnx => ?_
  try simp [-map_take, -map_drop, -map_tail, rgs]
  repeat' first | done | ((first | ((with_reducible show lenS _ _ _ _ _ _); refine lenS_slice rfl fun _ => ?_) | ((with_reducible show doCall _ _ _ 271 _ _); refine call_pc (c_ContainsFunc_Task (q := fun x => !tskOk x) (fun x _ => c_TasksOk1)) ?_)) <;> simp [-map_take, -map_drop, -map_tail, rgs]) | ((with_reducible refine guardS_split ?_ ?_) <;> intro qb <;> (have qp := qb; try simp only [psq] at qp) <;> simp [-map_take, -map_drop, -map_tail, rgs, qb])
  all_goals (try clear hnx)
  all_goals (simp_all [tasksOk]; omega)
theorem c_isAfter {a b : Int} : PC ctx.P 267 [.int .i64 a, .int .i64 b] (.bool (isAfter a b)) := by
  refine PC.o okC Tryz.func267 rfl (.bool _) fun h nx hnx => ?_
  try simp [-map_take, -map_drop, -map_tail, rgs]
  repeat' first | done | (((with_reducible show doCall _ _ _ 46 _ _); refine call_pc (c_within) ?_) <;> simp [-map_take, -map_drop, -map_tail, rgs]) | ((with_reducible refine guardS_split ?_ ?_) <;> intro qb <;> (have qp := qb; try simp only [psq] at qp) <;> simp [-map_take, -map_drop, -map_tail, rgs, qb])
  all_goals (try clear hnx)
  all_goals (simp_all [isAfter]; done)
theorem c_afsAt1 {x : Afr} {h : Han} : PC ctx.P 375 [.agg (afrC x), .vptr (hanC h)] (.bool (x.han == h)) := by
  refine PC.o okC Tryz.func375 rfl (.bool _) fun h nx hnx => ?_
  try simp [-map_take, -map_drop, -map_tail, rgs, afrC, hanC, han_eq, lfOf, cellsEq, cellEq]
theorem c_afsAt {F : Nat → Bool} {a : Afs} {x : Han} : PC ctx.P 269 [.agg (afsV F a), .agg (hanC x)] (.int .i64 (afsAt a.list x)) := by
  refine PC.o okC Tryz.func269 rfl (.int _ _) fun h nx hnx => ?_
  try simp [-map_take, -map_drop, -map_tail, rgs, afsV, afsAt]
  repeat' first | done | (((with_reducible show doCall _ _ _ 292 _ _); refine call_pcB (c_IndexFunc_After (q := fun y => y.han == x) (fv := .fn 375 [.vptr (hanC x)]) (fun x _ => c_afsAt1)) (by exact .int _ _) (by repeat' first | exact Bors.nil | refine Bors.cons ?_ ?_ | exact Bor.same _ | refine Bor.fn1 ?_ | refine Bor.ptr0 (by (simp; rfl)) ?_) ?_) <;> simp [-map_take, -map_drop, -map_tail, rgs, afsV, afsAt]) | fail
theorem c_isTimer {F : Nat → Bool} {w : Wld} {t : Tmr} : PC ctx.P 128 [.agg (wldV F w), .agg (tmrC t)] (.bool (isTimer w t)) := by
  refine PC.o okC Tryz.func128 rfl (.bool _) fun h nx hnx => ?_
  try simp [-map_take, -map_drop, -map_tail, rgs, wldV, tmrC]
  repeat' first | done | ((first | ((with_reducible show doCall _ _ _ 48 _ _); refine call_pc (c_isIn_Node) ?_) | ((with_reducible show doCall _ _ _ 231 _ _); refine call_pc (c_isIn_Task) ?_)) <;> simp [-map_take, -map_drop, -map_tail, rgs, wldV, tmrC]) | ((with_reducible refine condS_split ?_ ?_) <;> intro qb <;> (have qp := qb; try simp only [psq] at qp) <;> simp [-map_take, -map_drop, -map_tail, rgs, wldV, tmrC, qb])
  all_goals (try clear hnx)
  all_goals (simp_all [isTimer]; done)
theorem c_isSight {F : Nat → Bool} {w : Wld} {s : Sgt} : PC ctx.P 138 [.agg (wldV F w), .agg (sgtC s)] (.bool (isSight w s)) := by
  refine PC.o okC Tryz.func138 rfl (.bool _) fun h nx hnx => ?_
  try simp [-map_take, -map_drop, -map_tail, rgs, wldV, sgtC]
  repeat' first | done | ((first | ((with_reducible show doCall _ _ _ 48 _ _); refine call_pc (c_isIn_Node) ?_) | ((with_reducible show doCall _ _ _ 46 _ _); refine call_pc (c_within) ?_) | ((with_reducible show doCall _ _ _ 283 _ _); refine call_pc (c_size_Event) ?_) | (with_reducible refine go_draw (i := 1) [(0, [], []), (1, [], []), (2, [], []), (3, [], []), (4, [], []), (5, [], []), (6, [], []), (7, [], []), (8, [], []), (9, [], []), (10, [], []), (11, [.tmp 12], []), (12, [], []), (13, [], []), (14, [], [])] (by kernel_rfl) ?_)) <;> simp [-map_take, -map_drop, -map_tail, rgs, wldV, sgtC]) | ((first | (with_reducible refine guardD_split ?_ ?_) | (with_reducible refine guardS_split ?_ ?_) | (with_reducible refine condS_split ?_ ?_)) <;> intro qb <;> (have qp := qb; try simp only [psq] at qp) <;> simp [-map_take, -map_drop, -map_tail, rgs, wldV, sgtC, qb])
  all_goals (try clear hnx)
  all_goals (simp_all [isSight]; done)
theorem c_isTask {F : Nat → Bool} {w : Wld} {t : Tsk} : PC ctx.P 134 [.agg (wldV F w), .agg (tskC t)] (.bool (isTask w t)) := by
  refine PC.lim (n := w.groups.length) (x := .agg (wldV F w)) (by simp) (.agg (x := .view (F 12) 5 (w.groups.map (grpV (F 13)))) (by simp [wldV]) (.here (by simp))) ⟨_, Tryz.func134, by kernel_rfl, by kernel_rfl⟩ fun hlim => ?_
  refine PC.o okC Tryz.func134 rfl (.bool _) fun h nx hnx => ?_
  try simp [-map_take, -map_drop, -map_tail, rgs, wldV, tskC, prgV, wrap_pred hlim]
  repeat' first | done | ((first | ((with_reducible show iaddrS _ _ _ _ _ _ _); refine iaddr_map rfl omA omA ?_) | ((with_reducible show doCall _ _ _ 275 _ _); refine call_pc (c_isIn_Prog) ?_) | ((with_reducible show doCall _ _ _ 232 _ _); refine call_pc (c_size_Ins) ?_) | ((with_reducible show doCall _ _ _ 38 _ _); refine call_pc (c_size_Group) ?_) | ((with_reducible show doCall _ _ _ 46 _ _); refine call_pc (c_within) ?_) | ((with_reducible show doCall _ _ _ 48 _ _); refine call_pc (c_isIn_Node) ?_) | ((with_reducible show doCall _ _ _ 276 _ _); refine call_pc (c_isIn_Group) ?_) | (with_reducible refine go_draw (i := 1) [(0, [], []), (1, [], []), (2, [], []), (3, [], []), (4, [], []), (5, [], []), (6, [], []), (7, [], []), (8, [], []), (9, [], []), (10, [], []), (11, [], []), (12, [], []), (13, [], []), (14, [], []), (15, [.tmp 12], []), (16, [], []), (17, [], []), (18, [], []), (19, [], []), (20, [], []), (21, [], []), (22, [], []), (23, [.tmp 24], []), (24, [], []), (25, [], []), (26, [], []), (27, [], [])] (by kernel_rfl) ?_)) <;> simp [-map_take, -map_drop, -map_tail, rgs, wldV, tskC, prgV, wrap_pred hlim]) | ((first | (with_reducible refine guardD_split ?_ ?_) | (with_reducible refine condS_split ?_ ?_)) <;> intro qb <;> (have qp := qb; try simp only [psq] at qp) <;> simp [-map_take, -map_drop, -map_tail, rgs, wldV, tskC, prgV, wrap_pred hlim, qb])
  all_goals (try clear hnx)
  all_goals (simp_all [isTask]; done)
theorem c_isGroup1 {F : Nat → Bool} {w : Wld} {n : Int} : PC ctx.P 280 [.int .i64 n, .vptr (wldV F w)] (.bool (!isIn n w.tasks)) := by
  refine PC.o okC Tryz.func280 rfl (.bool _) fun h nx hnx => ?_
  try simp [-map_take, -map_drop, -map_tail, rgs, wldV]
  repeat' first | done | (((with_reducible show doCall _ _ _ 231 _ _); refine call_pc (c_isIn_Task) ?_) <;> simp [-map_take, -map_drop, -map_tail, rgs, wldV]) | fail
theorem c_WorldOk1 {F : Nat → Bool} {w : Wld} {e : Evt} : PC ctx.P 125 [.agg (evtC e), .vptr (wldV F w)] (.bool (inR e.time 0 w.now)) := by
  refine PC.o okC Tryz.func125 rfl (.bool _) fun h nx hnx => ?_
  try simp [-map_take, -map_drop, -map_tail, rgs, wldV, evtC]
  repeat' first | done | (((with_reducible show doCall _ _ _ 46 _ _); refine call_pc (c_within) ?_) <;> simp [-map_take, -map_drop, -map_tail, rgs, wldV, evtC]) | fail
theorem c_WorldOk2 {F : Nat → Bool} {w : Wld} {x : Afr} : PC ctx.P 131 [.agg (afrC x), .vptr (wldV F w)] (.bool (isIn x.node w.tree)) := by
  refine PC.o okC Tryz.func131 rfl (.bool _) fun h nx hnx => ?_
  try simp [-map_take, -map_drop, -map_tail, rgs, wldV, afrC]
  repeat' first | done | (((with_reducible show doCall _ _ _ 48 _ _); refine call_pc (c_isIn_Node) ?_) <;> simp [-map_take, -map_drop, -map_tail, rgs, wldV, afrC]) | fail
theorem c_WorldOk3 {n : Int} : PC ctx.P 140 [.int .i64 n] (.bool (inR n 0 99)) := by
  refine PC.o okC Tryz.func140 rfl (.bool _) fun h nx hnx => ?_
  try simp [-map_take, -map_drop, -map_tail, rgs]
  repeat' first | done | (((with_reducible show doCall _ _ _ 46 _ _); refine call_pc (c_within) ?_) <;> simp [-map_take, -map_drop, -map_tail, rgs]) | fail
theorem c_WorldOk4 {n : Int} : PC ctx.P 141 [.int .i64 n] (.bool (inR n 0 99)) := by
  refine PC.o okC Tryz.func141 rfl (.bool _) fun h nx hnx => ?_
  try simp [-map_take, -map_drop, -map_tail, rgs]
  repeat' first | done | (((with_reducible show doCall _ _ _ 46 _ _); refine call_pc (c_within) ?_) <;> simp [-map_take, -map_drop, -map_tail, rgs]) | fail
end Go.AE.Tryz
end

section
/- Contracts of the program's readers: timers, chains, events. -/
set_option maxRecDepth 8000
set_option maxHeartbeats 2000000
namespace Go.AE.Tryz
open Go.Proofs
open List (map_take map_drop map_tail)

theorem c_TimersOk {F : Nat → Bool} {t : Tms} : PC ctx.P 126 [.agg (tmsV F t)] (.bool (tmsOk t)) := by
  refine PC.lim (n := t.list.length) (x := .agg (tmsV F t)) (by simp) (.agg (x := .view (F 7) 5 (t.list.map tmrC)) (by simp [tmsV]) (.here (by simp))) ⟨_, Tryz.func126, by kernel_rfl, by kernel_rfl⟩ fun hlim => ?_
  refine PC.o okC Tryz.func126 rfl (.bool _) fun h nx hnx => ?_
  try simp [-map_take, -map_drop, -map_tail, rgs, tmsV]
  repeat' first | done | ((first | ((with_reducible show lenS _ _ _ _ _ _); refine lenS_slice rfl fun _ => ?_) | ((with_reducible show doCall _ _ _ 46 _ _); refine call_pc (c_within) ?_) | ((with_reducible show doCall _ _ _ 258 _ _); refine call_pc (c_HeapOk) ?_)) <;> simp [-map_take, -map_drop, -map_tail, rgs, tmsV]) | ((first | (with_reducible refine guardS_split ?_ ?_) | (with_reducible refine condS_split ?_ ?_)) <;> intro qb <;> (have qp := qb; try simp only [psq] at qp) <;> simp [-map_take, -map_drop, -map_tail, rgs, tmsV, qb])
  · all_goals (try clear hnx)
    all_goals (simp_all [tmsOk]; done)
  · all_goals (try clear hnx)
    all_goals (simp_all [tmsOk]; omega)
  · all_goals (try clear hnx)
    all_goals (simp_all [tmsOk]; done)
  · refine go_upP [2, 3, 4, 6, 26, 27, 28, 29, 30, 31, 32, 33, 34, 35, 36, 37, 38, 39, 40, 41, 42, 43, 44, 45, 46, 47, 48, 49, 50, 51, 52, 53, 54, 55, 56, 57, 58, 59] (t.list.length) (fun (i : Nat) a => [(26, .int .i64 i), (3, .int .i64 a.1), (4, .int .i64 a.2)]) (fun i_ a_ h_ _ => (fun i (a : Int × Int) _ => tmsRise t.next (t.list.drop i) a.1 = tmsRise t.next t.list (-1) ∧ a.2 + cntB (·.armed) (t.list.drop i) = cntB (·.armed) t.list ∧ 0 ≤ a.2 ∧ a.2 ≤ i) i_ a_ h_) ((-1, 0)) (by simp) ?_ keep_rfl (Nat.le_refl _) ?_
    · simp
    · intro i a tm h' n' hle hJ hE hn' next hnx
      try dsimp only at hJ
      have hK : KeepB nx h' h := KeepB.sub hE keepA (by omega)
      simp [-map_take, -map_drop, -map_tail]
      have e1 : h' (nx) = some (.obj (tmsV F t)) := by have := hE (nx) (by omega); simpa [tmsV] using this
      have e1n : ∀ k, ((nx) = n' + k) = False := fun k => by simp only [eq_iff_iff, iff_false]; omega
      have e1m : ((nx) = n') = False := by simp only [eq_iff_iff, iff_false]; omega
      repeat' first | done | ((first | ((with_reducible show lenS _ _ _ _ _ _); refine lenS_slice rfl fun _ => ?_) | ((with_reducible show iaddrS _ _ _ _ _ _ _); refine iaddr_map rfl omA omA ?_) | ((with_reducible show doCall _ _ _ 46 _ _); refine call_pc (c_within) ?_) | ((with_reducible show doCall _ _ _ 259 _ _); refine call_pcB (c_ContainsFunc_Twig (q := fun h => decide (tmsAt t.list h.seq < 0) || (!(gt t.list (tmsAt t.list h.seq)).armed || (gt t.list (tmsAt t.list h.seq)).due != h.due)) (fv := .fn 260 [.vptr (tmsV F t)]) (fun x _ => c_TimersOk1)) (by exact .bool _) (by repeat' first | exact Bors.nil | refine Bors.cons ?_ ?_ | exact Bor.same _ | refine Bor.fn1 ?_ | refine Bor.ptr0 (by assumption) ?_) ?_)) <;> simp [-map_take, -map_drop, -map_tail, rgs, tmsV, tmrC, e1, e1n, e1m]) | ((first | (with_reducible refine guardS_split ?_ ?_) | (with_reducible refine condS_split ?_ ?_)) <;> intro qb <;> (have qp := qb; try simp only [psq] at qp) <;> simp [-map_take, -map_drop, -map_tail, rgs, tmsV, tmrC, e1, e1n, e1m, qb])
      all_goals
        first
        | (have hlt : i < t.list.length := (by omega)
           rw [drop_gt hlt] at hJ
           first
           | (refine ⟨?_, keepA⟩; clear hnx; (try simp only [tmsRise, tmsOk, cntB_cons, cntB_nil] at hJ ⊢); grind)
           | skip)
        | skip
      · simp only [LIM] at hlim
        refine hnx.go ((gt t.list (i : Int)).seq, a.2 + 1) ?_ ?_ ?_ ?_ ?_ ?_
        · omega
        · simp [i64_ok (x := (i : Int) + 1) (by omega), i64_ok (x := a.2 + 1) (by omega)]
        · simp
        · exact keepA
        · first | omega | (simp; omega)
        dsimp only
        simp only [tmsRise, cntB_cons] at hJ
        grind
      · simp only [LIM] at hlim
        refine hnx.go ((gt t.list (i : Int)).seq, a.2) ?_ ?_ ?_ ?_ ?_ ?_
        · omega
        · simp [i64_ok (x := (i : Int) + 1) (by omega)]
        · simp
        · exact keepA
        · first | omega | (simp; omega)
        dsimp only
        simp only [tmsRise, cntB_cons] at hJ
        grind
      all_goals
        obtain rfl : i = t.list.length := (by omega)
        refine ⟨?_, keepA⟩
        simp only [List.drop_length, tmsRise, tmsOk, cntB_nil] at hJ ⊢
        grind
theorem c_chain {p : Bool} {t : List Nod} {n : Int} (ht : treeOk t = true) (h0 : 0 ≤ n) (h1 : n < t.length) : PC ctx.P 167 [.view p 5 (t.map nodC), .int .i64 n] (.view true 1 ((chain t n).map iv)) := by
  have hl60 := treeOk_len ht
  refine PC.o okC Tryz.func167 rfl (.vmap iv_fz) fun h nx hnx => ?_
  try simp [-map_take, -map_drop, -map_tail, rgs]
  refine go_dnP (h0 := h) (nx0 := nx) [1, 5, 8, 9, 10, 11, 12, 13, 14, 15, 16, 17, 18, 19, 20, 21, 22, 23, 24, 25, 26, 27, 28, 29, 30] (fun a => [(1, .int .i64 a.1), (5, .ref a.2.2 1 0 (a.2.1.length + 1))]) (fun a => a.1.toNat) (fun (a : Int × List Int × Nat) h' n' => 0 ≤ a.1 ∧ a.1 < t.length ∧ nx ≤ a.2.2 ∧ h' a.2.2 = some (.row 1 ((a.2.1 ++ [a.1]).map iv)) ∧ a.2.1 ++ chain t a.1 = chain t n ∧ (a.2.1.length : Int) + a.1 ≤ n ∧ a.2.2 < n') ((n, [], nx + 2)) (by simp) ?_ keepA (by omega) ?_
  · simp [h0, h1, iv]
  · intro a tm h' n' hJ hE hn' next hnx
    try dsimp only at hJ
    have hK : KeepB nx h' h := KeepB.sub hE keepA (by omega)
    obtain ⟨m, pre, id⟩ := a
    obtain ⟨g0, g1, g2, g3, g4, g5, g6⟩ := hJ
    dsimp only at g0 g1 g2 g3 g4 g5 g6 ⊢
    have hs := chain_step ht g0 g1
    have hu := treeOk_up ht g0 g1
    have k1 : ∀ k, (id = n' + k) = False := fun k => by simp only [eq_iff_iff, iff_false]; omega
    try simp [-map_take, -map_drop, -map_tail, rgs, nodC, g3, k1, iv]
    repeat' first | done | ((first | ((with_reducible show iaddrS _ _ _ _ _ _ _); refine iaddr_map rfl omA omA ?_) | ((with_reducible show appS _ _ _ _ _ _ _ _); refine app_end rfl rfl (by decide) (by decide) (by (simp [-map_take, -map_drop, -map_tail, rgs, nodC, g3, k1, iv]; rfl)) (by (simp [-map_take, -map_drop, -map_tail, rgs, nodC, g3, k1, iv]; rfl)) (by (simp; done)) (by (simp only [MLIM, LIM] at *; simp; omega)) (by simp [iv, bv]) ?_)) <;> simp [-map_take, -map_drop, -map_tail, rgs, nodC, g3, k1, iv]) | ((first | (with_reducible refine guardS_split ?_ ?_) | (with_reducible refine condS_split ?_ ?_)) <;> intro qb <;> (have qp := qb; try simp only [psq] at qp) <;> simp [-map_take, -map_drop, -map_tail, rgs, nodC, g3, k1, iv, qb])
    · have hk : (gt t m).kind ≠ 0 := by omega
      have hu' := hu hk
      refine hnx.go ((gt t m).up, pre ++ [m], n' + 23) ?_ ?_ ?_ ?_ ?_ ?_
      · simp; omega
      · simp
      · simp
      · exact keepA
      · first | omega | (simp; omega)
      dsimp only
      refine ⟨by omega, by omega, by omega, by simp [iv], ?_, by simp; omega, by simp⟩
      rw [if_neg (by simp; omega)] at hs
      rw [← g4, hs]; simp
    all_goals
      refine ⟨?_, keepA⟩
      rw [if_pos (by simp; omega)] at hs
      rw [← g4, hs, List.take_of_length_le (by simp)]; simp [iv]

theorem c_firstOf {p q : Bool} {t : List Nod} {l : List Evt} {n : Int} (ht : treeOk t = true) (h0 : 0 ≤ n) (h1 : n < t.length) :
    PC ctx.P 49 [.view p 5 (t.map nodC), .view q 4 (l.map evtC), .int .i64 n] (.tup [.agg (evtC ((firstOf t l n).getD ⟨0, 0, 0, 0⟩)), .bool (firstOf t l n).isSome]) := by
  refine PC.lim (n := l.length) (x := .view q 4 (l.map evtC)) (by simp) (.here (by simp)) ⟨_, Tryz.func49, by kernel_rfl, by kernel_rfl⟩ fun hlim => ?_
  refine PC.o okC Tryz.func49 rfl (.tup _ (by simp; exact .agg _ (evtC_fz _))) fun h nx hnx => ?_
  try simp [-map_take, -map_drop, -map_tail, rgs]
  repeat' first | done | ((first | ((with_reducible show lenS _ _ _ _ _ _); refine lenS_slice rfl fun _ => ?_) | ((with_reducible show doCall _ _ _ 167 _ _); refine call_pc (c_chain ht h0 h1) ?_)) <;> simp [-map_take, -map_drop, -map_tail, rgs]) | fail
  refine go_upP [7, 10, 16, 17, 18, 19, 20, 21, 22, 23, 24, 25] (l.length) (fun (i : Nat) a => [(16, .int .i64 i)]) (fun i_ a_ h_ _ => (fun i (_ : Unit) _ => (l.drop i).find? (fun e => (chain t n).contains e.node) = firstOf t l n) i_ a_ h_) (()) (by simp) ?_ keep_rfl (Nat.le_refl _) ?_
  · simp [firstOf]
  · intro i a tm h' n' hle hJ hE hn' next hnx
    try dsimp only at hJ
    have hK : KeepB nx h' h := KeepB.sub hE keepA (by omega)
    simp [-map_take, -map_drop, -map_tail]
    have e1 : h' (nx) = some (.obj [.int .i64 0, .int .i64 0, .int .i64 0, .int .i64 0]) := by have := hE (nx) (by omega); simpa using this
    have e1n : ∀ k, ((nx) = n' + k) = False := fun k => by simp only [eq_iff_iff, iff_false]; omega
    have e1m : ((nx) = n') = False := by simp only [eq_iff_iff, iff_false]; omega
    try simp [-map_take, -map_drop, -map_tail, rgs, evtC, e1, e1n, e1m]
    repeat' first | done | ((first | ((with_reducible show iaddrS _ _ _ _ _ _ _); refine iaddr_map rfl omA omA ?_) | ((with_reducible show doCall _ _ _ 168 _ _); refine call_pc (c_Contains) ?_)) <;> simp [-map_take, -map_drop, -map_tail, rgs, evtC, e1, e1n, e1m]) | ((with_reducible refine condS_split ?_ ?_) <;> intro qb <;> (have qp := qb; try simp only [psq] at qp) <;> simp [-map_take, -map_drop, -map_tail, rgs, evtC, e1, e1n, e1m, qb])
    · have hf : firstOf t l n = some (gt l i) := by rw [drop_gt (xs := l) (i := i) (by omega), List.find?_cons] at hJ; simpa [qp] using hJ.symm
      refine ⟨by simp [hf], keepA⟩
    · have hf : (l.drop (i + 1)).find? (fun e => (chain t n).contains e.node) = firstOf t l n := by rw [drop_gt (xs := l) (i := i) (by omega), List.find?_cons] at hJ; simpa [qp] using hJ
      refine hnx.go () ?_ ?_ ?_ ?_ ?_ ?_
      · omega
      · simp [wrap_succ (show i < l.length by omega) hlim]
      · simp
      · exact keepA
      · first | omega | (simp; omega)
      exact hf
    · have hf : firstOf t l n = none := by rw [← hJ, List.drop_eq_nil_of_le (by omega)]; rfl
      refine ⟨by simp [hf], keepA⟩

theorem c_fits {p q : Bool} {t : List Nod} {l : List Evt} {e : Evt} (ht : treeOk t = true) : PC ctx.P 166 [.agg (evtC e), .view p 5 (t.map nodC), .view q 4 (l.map evtC)] (.bool (fits t l e)) := by
  refine PC.lim (n := l.length) (x := .view q 4 (l.map evtC)) (by simp) (.here (by simp)) ⟨_, Tryz.func166, by kernel_rfl, by kernel_rfl⟩ fun hlim => ?_
  by_cases hev : isEvent t e = true
  · have hb : 0 ≤ e.node ∧ e.node < t.length := by
      unfold isEvent at hev; split at hev
      · cases hev
      · rename_i h2; simpa [isIn_true] using h2
    refine PC.o okC Tryz.func166 rfl (.bool _) fun h nx hnx => ?_
    try simp [-map_take, -map_drop, -map_tail, rgs, evtC, wrap_pred hlim, hev]
    repeat' first | done | ((first | ((with_reducible show iaddrS _ _ _ _ _ _ _); refine iaddr_map rfl omA omA ?_) | ((with_reducible show doCall _ _ _ 296 _ _); refine call_pc (c_isEvent (e := e)) ?_) | ((with_reducible show doCall _ _ _ 49 _ _); refine call_pc (c_firstOf ht hb.1 hb.2) ?_) | (with_reducible refine go_draw (i := 1) [(0, [], []), (1, [], []), (2, [], []), (3, [], []), (4, [], []), (5, [], []), (6, [], []), (7, [], []), (8, [], []), (9, [], []), (10, [], []), (11, [], []), (12, [], []), (13, [], []), (14, [], []), (15, [], []), (16, [], []), (17, [], []), (18, [], []), (19, [], []), (20, [], [])] (by kernel_rfl) ?_)) <;> simp [-map_take, -map_drop, -map_tail, rgs, evtC, wrap_pred hlim, hev]) | ((first | (with_reducible refine guardD_split ?_ ?_) | (with_reducible refine condS_split ?_ ?_)) <;> intro qb <;> (have qp := qb; try simp only [psq] at qp) <;> simp [-map_take, -map_drop, -map_tail, rgs, evtC, wrap_pred hlim, hev, qb])
    all_goals (try clear hnx)
    all_goals (simp_all [fits]; done)
  · refine PC.o okC Tryz.func166 rfl (.bool _) fun h nx hnx => ?_
    try simp [-map_take, -map_drop, -map_tail, rgs, evtC, hev]
    repeat' first | done | ((first | ((with_reducible show doCall _ _ _ 296 _ _); refine call_pc (c_isEvent (e := e)) ?_) | (with_reducible refine go_draw (i := 1) [(0, [], []), (1, [], []), (2, [], []), (3, [], []), (4, [], []), (5, [], []), (6, [], []), (7, [], []), (8, [], []), (9, [], []), (10, [], []), (11, [], []), (12, [], []), (13, [], []), (14, [], []), (15, [], []), (16, [], []), (17, [], []), (18, [], []), (19, [], []), (20, [], [])] (by kernel_rfl) ?_)) <;> simp [-map_take, -map_drop, -map_tail, rgs, evtC, hev]) | fail
    all_goals (try clear hnx)
    all_goals (simp_all [fits]; done)
end Go.AE.Tryz
end

section
/- Contracts of the program's readers: events, worlds. -/
set_option maxRecDepth 8000
set_option maxHeartbeats 2000000
namespace Go.AE.Tryz
open Go.Proofs
open List (map_take map_drop map_tail)

theorem c_EventsOk {p q : Bool} {t : List Nod} {l : List Evt} : PC ctx.P 47 [.view p 5 (t.map nodC), .view q 4 (l.map evtC)] (.bool (eventsOk t l)) := by
  refine PC.lim (n := l.length) (x := .view q 4 (l.map evtC)) (by simp) (.here (by simp)) ⟨_, Tryz.func47, by kernel_rfl, by kernel_rfl⟩ fun hlim => ?_
  by_cases ht : treeOk t = true
  · refine PC.o okC Tryz.func47 rfl (.bool _) fun h nx hnx => ?_
    try simp [-map_take, -map_drop, -map_tail, rgs, ht]
    repeat' first | done | ((first | ((with_reducible show lenS _ _ _ _ _ _); refine lenS_slice rfl fun _ => ?_) | ((with_reducible show doCall _ _ _ 165 _ _); refine call_pc (c_TreeOk) ?_)) <;> simp [-map_take, -map_drop, -map_tail, rgs, ht]) | fail
    refine go_upP [4, 5, 6, 12, 13, 14, 15, 16, 17, 18, 19, 20, 21, 22, 23, 24] (l.length) (fun (i : Nat) a => [(12, .int .i64 i)]) (fun i_ a_ h_ _ => (fun i (_ : Unit) _ => allI (fun i e => fits t (l.take i.toNat) e) (l.drop i) i = allI (fun i e => fits t (l.take i.toNat) e) l 0) i_ a_ h_) (()) (by simp) ?_ keep_rfl (Nat.le_refl _) ?_
    · simp
    · intro i a tm h' n' hle hJ hE hn' next hnx
      try dsimp only at hJ
      have hK : KeepB nx h' h := KeepB.sub hE keepA (by omega)
      simp [-map_take, -map_drop, -map_tail]
      repeat' first | done | ((first | ((with_reducible show iaddrS _ _ _ _ _ _ _); refine iaddr_map rfl omA omA ?_) | ((with_reducible show sliceI _ _ _ _ _ _ _ _ _ _ _); refine sliceI_to rfl omA omA ?_) | ((with_reducible show doCall _ _ _ 166 _ _); refine call_pc (c_fits ht) ?_) | (with_reducible refine go_draw (i := 6) [(0, [], []), (1, [], []), (2, [], []), (3, [], []), (4, [], []), (5, [], []), (6, [], [])] (by kernel_rfl) ?_)) <;> simp [-map_take, -map_drop, -map_tail, rgs]) | ((with_reducible refine condS_split ?_ ?_) <;> intro qb <;> (have qp := qb; try simp only [psq] at qp) <;> simp [-map_take, -map_drop, -map_tail, rgs, qb])
      all_goals
        first
        | (have hlt : i < l.length := (by first | omega | (simp at *; omega))
           rw [drop_gt hlt] at hJ
           first
           | (refine hnx.go (()) ?_ ?_ ?_ ?_ ?_ ?_; omega; (simp [wrap_succ hlt hlim]); (simp); exact keepA; (first | omega | (simp; omega)); (try dsimp only); clear hnx; first | ((try simp only [List.drop_length, Int.toNat_natCast, allI, eventsOk] at hJ ⊢); grind) | (simp_all [allI, eventsOk]; done) | (simp_all; omega))
           | (refine ⟨?_, keepA⟩; clear hnx; first | ((try simp only [List.drop_length, Int.toNat_natCast, allI, eventsOk] at hJ ⊢); grind) | (simp_all [allI, eventsOk]; done) | (simp_all; omega)))
        | (obtain rfl : i = l.length := (by first | omega | (simp at *; omega))
           refine ⟨?_, keepA⟩; clear hnx; first | ((try simp only [List.drop_length, Int.toNat_natCast, allI, eventsOk] at hJ ⊢); grind) | (simp_all [allI, eventsOk]; done) | (simp_all; omega))
  · refine PC.o okC Tryz.func47 rfl (.bool _) fun h nx hnx => ?_
    try simp [-map_take, -map_drop, -map_tail, rgs, ht]
    repeat' first | done | (((with_reducible show doCall _ _ _ 165 _ _); refine call_pc (c_TreeOk) ?_) <;> simp [-map_take, -map_drop, -map_tail, rgs, ht]) | fail
    all_goals (try clear hnx)
    all_goals (simp_all [eventsOk]; done)
theorem c_AftersOk {F : Nat → Bool} {x : Afs} : PC ctx.P 129 [.agg (afsV F x)] (.bool (afsOk x)) := by
  refine PC.lim (n := x.list.length) (x := .agg (afsV F x)) (by simp) (.agg (x := .view (F 10) 5 (x.list.map afrC)) (by simp [afsV]) (.here (by simp))) ⟨_, Tryz.func129, by kernel_rfl, by kernel_rfl⟩ fun hlim => ?_
  by_cases hs : sltOk x.slots = true
  · have hl : x.slots.used.length = x.slots.ages.length := by simp [sltOk] at hs; omega
    refine PC.o okC Tryz.func129 rfl (.bool _) fun h nx hnx => ?_
    try simp [-map_take, -map_drop, -map_tail, rgs, afsV, hs]
    repeat' first | done | ((first | ((with_reducible show lenS _ _ _ _ _ _); refine lenS_slice rfl fun _ => ?_) | ((with_reducible show doCall _ _ _ 264 _ _); refine call_pc (c_SlotsOk (s := x.slots) (F := F)) ?_) | ((with_reducible show doCall _ _ _ 265 _ _); refine call_pc (c_size_After) ?_) | ((with_reducible show doCall _ _ _ 266 _ _); refine call_pc (c_used (s := x.slots) (F := F)) ?_) | (with_reducible refine go_draw (i := 1) [(0, [], []), (1, [], []), (2, [], []), (3, [], []), (4, [], []), (5, [], []), (6, [], []), (8, [], []), (9, [], []), (7, [.tmp 13], []), (10, [], []), (11, [], []), (12, [], [])] (by kernel_rfl) ?_)) <;> simp [-map_take, -map_drop, -map_tail, rgs, afsV, hs]) | ((with_reducible refine condS_split ?_ ?_) <;> intro qb <;> (have qp := qb; try simp only [psq] at qp) <;> simp [-map_take, -map_drop, -map_tail, rgs, afsV, hs, qb])
    · simp only [afsOk]; grind
    · refine go_upP [2, 3, 4, 21, 22, 23, 24, 25, 26, 27, 28, 29, 30, 31, 32, 33, 34, 35, 36, 37, 38, 39, 40, 41, 42, 43, 44, 45, 46, 47, 48] (x.list.length) (fun (i : Nat) a => [(21, .int .i64 i)]) (fun i_ a_ h_ _ => (fun i (_ : Unit) _ => allI (fun i y => isAfter y.node y.fn && (sltHolds x.slots y.han && afsAt x.list y.han == i)) (x.list.drop i) i = allI (fun i y => isAfter y.node y.fn && (sltHolds x.slots y.han && afsAt x.list y.han == i)) x.list 0) i_ a_ h_) (()) (by simp) ?_ keep_rfl (Nat.le_refl _) ?_
      · simp
      · intro i a tm h' n' hle hJ hE hn' next hnx
        try dsimp only at hJ
        have hK : KeepB nx h' h := KeepB.sub hE keepA (by omega)
        simp [-map_take, -map_drop, -map_tail]
        have e1 : h' (nx) = some (.obj (afsV F x)) := by have := hE (nx) (by omega); simpa [afsV] using this
        have e1n : ∀ k, ((nx) = n' + k) = False := fun k => by simp only [eq_iff_iff, iff_false]; omega
        have e1m : ((nx) = n') = False := by simp only [eq_iff_iff, iff_false]; omega
        repeat' first | done | ((first | ((with_reducible show iaddrS _ _ _ _ _ _ _); refine iaddr_map rfl omA omA ?_) | ((with_reducible show doCall _ _ _ 267 _ _); refine call_pc (c_isAfter) ?_) | ((with_reducible show doCall _ _ _ 268 _ _); refine call_pc (c_holds (s := x.slots) (F := F) (x := (gt x.list (i : Int)).han) hl) ?_) | ((with_reducible show doCall _ _ _ 269 _ _); refine call_pc (c_afsAt (a := x) (F := F) (x := (gt x.list (i : Int)).han)) ?_)) <;> simp [-map_take, -map_drop, -map_tail, rgs, afsV, afrC, e1, e1n, e1m]) | ((first | (with_reducible refine guardS_split ?_ ?_) | (with_reducible refine condS_split ?_ ?_)) <;> intro qb <;> (have qp := qb; try simp only [psq] at qp) <;> simp [-map_take, -map_drop, -map_tail, rgs, afsV, afrC, e1, e1n, e1m, qb])
        all_goals
          first
          | (have hlt : i < x.list.length := (by first | omega | (simp at *; omega))
             rw [drop_gt hlt] at hJ
             first
             | (refine hnx.go (()) ?_ ?_ ?_ ?_ ?_ ?_; omega; (simp [wrap_succ hlt hlim]); (simp); exact keepA; (first | omega | (simp; omega)); (try dsimp only); clear hnx; first | ((try simp only [List.drop_length, Int.toNat_natCast, allI, afsOk] at hJ ⊢); grind) | (simp_all [allI, afsOk]; done) | (simp_all; omega))
             | (refine ⟨?_, keepA⟩; clear hnx; first | ((try simp only [List.drop_length, Int.toNat_natCast, allI, afsOk] at hJ ⊢); grind) | (simp_all [allI, afsOk]; done) | (simp_all; omega)))
          | (obtain rfl : i = x.list.length := (by first | omega | (simp at *; omega))
             refine ⟨?_, keepA⟩; clear hnx; first | ((try simp only [List.drop_length, Int.toNat_natCast, allI, afsOk] at hJ ⊢); grind) | (simp_all [allI, afsOk]; done) | (simp_all; omega))
  · refine PC.o okC Tryz.func129 rfl (.bool _) fun h nx hnx => ?_
    try simp [-map_take, -map_drop, -map_tail, rgs, afsV, hs]
    repeat' first | done | ((first | ((with_reducible show doCall _ _ _ 264 _ _); refine call_pc (c_SlotsOk (s := x.slots) (F := F)) ?_) | (with_reducible refine go_draw (i := 1) [(0, [], []), (1, [], []), (2, [], []), (3, [], []), (4, [], []), (5, [], []), (6, [], []), (8, [], []), (9, [], []), (7, [.tmp 13], []), (10, [], []), (11, [], []), (12, [], [])] (by kernel_rfl) ?_)) <;> simp [-map_take, -map_drop, -map_tail, rgs, afsV, hs]) | fail
    all_goals (try clear hnx)
    all_goals (simp_all [afsOk]; done)
theorem c_GroupOk {p : Bool} {g : Grp} : PC ctx.P 279 [.agg (grpV p g)] (.bool (grpOk g)) := by
  refine PC.lim (n := g.waits.length) (x := .agg (grpV p g)) (by simp) (.agg (x := .view p 1 (g.waits.map iv)) (by simp [grpV]) (.here (by simp))) ⟨_, Tryz.func279, by kernel_rfl, by kernel_rfl⟩ fun hlim => ?_
  refine PC.o okC Tryz.func279 rfl (.bool _) fun h nx hnx => ?_
  try simp [-map_take, -map_drop, -map_tail, rgs, grpV]
  repeat' first | done | ((first | ((with_reducible show lenS _ _ _ _ _ _); refine lenS_slice rfl fun _ => ?_) | ((with_reducible show doCall _ _ _ 46 _ _); refine call_pc (c_within) ?_)) <;> simp [-map_take, -map_drop, -map_tail, rgs, grpV]) | ((first | (with_reducible refine guardS_split ?_ ?_) | (with_reducible refine condS_split ?_ ?_)) <;> intro qb <;> (have qp := qb; try simp only [psq] at qp) <;> simp [-map_take, -map_drop, -map_tail, rgs, grpV, qb])
  all_goals first | (clear hnx; simp only [grpOk]; grind) | skip
  all_goals
    refine go_upP [2, 3, 4, 58, 59, 60, 61, 62, 63, 64, 65, 66, 67, 68, 69, 70, 71, 72, 73, 74] (g.waits.length) (fun (i : Nat) a => [(58, .int .i64 i)]) (fun i_ a_ h_ _ => (fun i (_ : Unit) _ => allI (fun i n => inR n 0 59 && !(g.waits.take i.toNat).contains n) (g.waits.drop i) i = allI (fun i n => inR n 0 59 && !(g.waits.take i.toNat).contains n) g.waits 0) i_ a_ h_) (()) (by simp) ?_ keep_rfl (Nat.le_refl _) ?_
    · simp
    · intro i a tm h' n' hle hJ hE hn' next hnx
      try dsimp only at hJ
      have hK : KeepB nx h' h := KeepB.sub hE keepA (by omega)
      simp [-map_take, -map_drop, -map_tail]
      have e1 : h' (nx) = some (.obj (grpV p g)) := by have := hE (nx) (by omega); simpa [grpV] using this
      have e1n : ∀ k, ((nx) = n' + k) = False := fun k => by simp only [eq_iff_iff, iff_false]; omega
      have e1m : ((nx) = n') = False := by simp only [eq_iff_iff, iff_false]; omega
      repeat' first | done | ((first | ((with_reducible show iaddrS _ _ _ _ _ _ _); refine iaddr_map rfl omA omA ?_) | ((with_reducible show sliceS _ _ _ _ _ _ _ _); refine slice_to rfl omA omA ?_) | ((with_reducible show doCall _ _ _ 46 _ _); refine call_pc (c_within) ?_) | ((with_reducible show doCall _ _ _ 168 _ _); refine call_pc (c_Contains) ?_)) <;> simp [-map_take, -map_drop, -map_tail, rgs, grpV, iv, e1, e1n, e1m]) | ((first | (with_reducible refine guardS_split ?_ ?_) | (with_reducible refine condS_split ?_ ?_)) <;> intro qb <;> (have qp := qb; try simp only [psq] at qp) <;> simp [-map_take, -map_drop, -map_tail, rgs, grpV, iv, e1, e1n, e1m, qb])
      all_goals
        first
        | (have hlt : i < g.waits.length := (by first | omega | (simp at *; omega))
           rw [drop_gt hlt] at hJ
           first
           | (refine hnx.go (()) ?_ ?_ ?_ ?_ ?_ ?_; omega; (simp [wrap_succ hlt hlim]); (simp); exact keepA; (first | omega | (simp; omega)); (try dsimp only); clear hnx; first | ((try simp only [List.drop_length, Int.toNat_natCast, allI, grpOk] at hJ ⊢); grind) | (simp_all [allI, grpOk]; done) | (simp_all; omega))
           | (refine ⟨?_, keepA⟩; clear hnx; first | ((try simp only [List.drop_length, Int.toNat_natCast, allI, grpOk] at hJ ⊢); grind) | (simp_all [allI, grpOk]; done) | (simp_all; omega)))
        | (obtain rfl : i = g.waits.length := (by first | omega | (simp at *; omega))
           refine ⟨?_, keepA⟩; clear hnx; first | ((try simp only [List.drop_length, Int.toNat_natCast, allI, grpOk] at hJ ⊢); grind) | (simp_all [allI, grpOk]; done) | (simp_all; omega))
end Go.AE.Tryz
end

section
/- Contracts of the program's readers: worlds. -/
set_option maxRecDepth 8000
set_option maxHeartbeats 4000000
namespace Go.AE.Tryz
open Go.Proofs
open List (map_take map_drop map_tail)

theorem c_isGroup {F : Nat → Bool} {p : Bool} {w : Wld} {g : Grp} : PC ctx.P 136 [.agg (wldV F w), .agg (grpV p g)] (.bool (isGroup w g)) := by
  refine PC.o okC Tryz.func136 rfl (.bool _) fun h nx hnx => ?_
  try simp [-map_take, -map_drop, -map_tail, rgs, wldV, nodC]
  repeat' first | done | ((first | ((with_reducible show iaddrS _ _ _ _ _ _ _); refine iaddr_map rfl omA omA ?_) | ((with_reducible show doCall _ _ _ 279 _ _); refine call_pc (c_GroupOk (g := g) (p := p)) ?_) | ((with_reducible show doCall _ _ _ 48 _ _); refine call_pc (c_isIn_Node) ?_) | ((with_reducible show doCall _ _ _ 254 _ _); refine call_pcB (c_ContainsFunc_int64 (q := fun i => !isIn i w.tasks) (fv := .fn 280 [.vptr (wldV F w)]) (fun x _ => c_isGroup1)) (by exact .bool _) (by repeat' first | exact Bors.nil | refine Bors.cons ?_ ?_ | exact Bor.same _ | refine Bor.fn1 ?_ | refine Bor.ptr0 (by (simp; rfl)) ?_) ?_)) <;> simp [-map_take, -map_drop, -map_tail, rgs, wldV, nodC]) | ((with_reducible refine guardS_split ?_ ?_) <;> intro qb <;> (have qp := qb; try simp only [psq] at qp) <;> simp [-map_take, -map_drop, -map_tail, rgs, wldV, nodC, qb])
  all_goals (try clear hnx)
  all_goals (simp_all [isGroup]; done)
theorem c_WorldOk {F : Nat → Bool} {w : Wld} : PC ctx.P 34 [.agg (wldV F w)] (.bool (wldOk w)) := by
  refine PC.o okC Tryz.func34 rfl (.bool _) fun h nx hnx => ?_
  try simp [-map_take, -map_drop, -map_tail, rgs, wldV]
  repeat' first | done | ((first | ((with_reducible show lenS _ _ _ _ _ _); refine lenS_slice rfl fun _ => ?_) | ((with_reducible show doCall _ _ _ 121 _ _); refine call_pc (c_all_Prog (q := progOk) (.fn _ _) (fun x _ => c_ProgOk)) ?_) | ((with_reducible show doCall _ _ _ 47 _ _); refine call_pc (c_EventsOk) ?_) | ((with_reducible show doCall _ _ _ 123 _ _); refine call_pc (c_isSpread (s := w.spread) (F := F)) ?_) | ((with_reducible show doCall _ _ _ 124 _ _); refine call_pcB (c_all_Event (q := fun e => inR e.time 0 w.now) (fv := .fn 125 [.vptr (wldV F w)]) (.fn _ _) (fun x _ => c_WorldOk1)) (by exact .bool _) (by repeat' first | exact Bors.nil | refine Bors.cons ?_ ?_ | exact Bor.same _ | refine Bor.fn1 ?_ | refine Bor.ptr0 (by (simp; rfl)) ?_) ?_) | ((with_reducible show doCall _ _ _ 126 _ _); refine call_pc (c_TimersOk (t := w.timers) (F := F)) ?_) | ((with_reducible show doCall _ _ _ 127 _ _); refine call_pc (c_all_Timer (q := isTimer w) (.bnd _ _) (fun x _ => c_isTimer (F := F))) ?_) | ((with_reducible show doCall _ _ _ 129 _ _); refine call_pc (c_AftersOk (x := w.afters) (F := F)) ?_) | ((with_reducible show doCall _ _ _ 130 _ _); refine call_pcB (c_all_After (q := fun a => isIn a.node w.tree) (fv := .fn 131 [.vptr (wldV F w)]) (.fn _ _) (fun x _ => c_WorldOk2)) (by exact .bool _) (by repeat' first | exact Bors.nil | refine Bors.cons ?_ ?_ | exact Bor.same _ | refine Bor.fn1 ?_ | refine Bor.ptr0 (by (simp; rfl)) ?_) ?_) | ((with_reducible show doCall _ _ _ 132 _ _); refine call_pc (c_TasksOk) ?_) | ((with_reducible show doCall _ _ _ 133 _ _); refine call_pc (c_all_Task (q := isTask w) (.bnd _ _) (fun x _ => c_isTask (F := F))) ?_) | ((with_reducible show doCall _ _ _ 135 _ _); refine call_pc (c_all_Group (q := isGroup w) (.bnd _ _) (fun x _ => c_isGroup (F := F))) ?_) | ((with_reducible show doCall _ _ _ 137 _ _); refine call_pc (c_all_Sight (q := isSight w) (.bnd _ _) (fun x _ => c_isSight (F := F))) ?_) | ((with_reducible show doCall _ _ _ 139 _ _); refine call_pc (c_all_int64 (q := fun n => inR n 0 99) (.fn _ _) (fun x _ => c_WorldOk3)) ?_) | ((with_reducible show doCall _ _ _ 139 _ _); refine call_pc (c_all_int64 (q := fun n => inR n 0 99) (.fn _ _) (fun x _ => c_WorldOk4)) ?_)) <;> simp [-map_take, -map_drop, -map_tail, rgs, wldV]) | ((first | (with_reducible refine guardS_split ?_ ?_) | (with_reducible refine condS_split ?_ ?_)) <;> intro qb <;> (have qp := qb; try simp only [psq] at qp) <;> simp [-map_take, -map_drop, -map_tail, rgs, wldV, qb])
  all_goals (try clear hnx)
  all_goals first | (simp_all [wldOk]; done) | (simp_all [wldOk]; omega) | (simp only [wldOk]; grind)
end Go.AE.Tryz
end
