/- Contracts of the seat's functions: what each answers, for all arguments. -/
import Derived.Test.YtokkkniepbkapaaGreatA3
import Derived.Test.YtokkkniepbkapaaGreatA2
import Derived.Test.YtokkkniepbkapaaGreatA1
import Derived.Test.YtokkkniepbkapaaGreatProg
import Derived.KernelRfl
set_option linter.unusedVariables false
set_option linter.unusedSimpArgs false
set_option linter.deprecated false
section
/- The seat's types, for the abstract machine. -/
namespace Go.AE.Tryz
open Go.Proofs
def tyL : List (TypeId × TyD) := [
  (1, { size := 1, bytes := 8, agg := false, zero := [.dead] }),
  (2, { size := 1, bytes := 8, agg := false, zero := [.int .i64 0], ik := some .i64 }),
  (3, { size := 1, bytes := 8, agg := false, zero := [.int .i64 0], ik := some .i64 }),
  (4, { size := 1, bytes := 1, agg := false, zero := [.bool false] }),
  (5, { size := 1, bytes := 1, agg := false, zero := [.int .u8 0], ik := some .u8 }),
  (7, { size := 4, bytes := 24, agg := true, zero := [.int .i64 0, .int .i64 0, .bool false, .int .u8 0], fields := [(0, 1, 2), (1, 1, 3), (2, 1, 4), (3, 1, 6)] }),
  (9, { size := 1, bytes := 16, agg := false, zero := [.str ⟨#[]⟩], isStr := true }),
  (12, { size := 1, bytes := 8, agg := false, zero := [.int .u64 0], ik := some .u64 }),
  (22, { size := 1, bytes := 24, agg := false, zero := [.nil], elem := some 146 }),
  (23, { size := 1, bytes := 24, agg := false, zero := [.nil], elem := some 172 }),
  (24, { size := 1, bytes := 24, agg := false, zero := [.nil], elem := some 176 }),
  (25, { size := 1, bytes := 24, agg := false, zero := [.nil], elem := some 4 }),
  (26, { size := 1, bytes := 24, agg := false, zero := [.nil], elem := some 2 }),
  (28, { size := 2, bytes := 48, agg := true, zero := [.nil, .nil], fields := [(0, 1, 25), (1, 1, 26)] }),
  (29, { size := 1, bytes := 24, agg := false, zero := [.nil], elem := some 264 }),
  (30, { size := 1, bytes := 24, agg := false, zero := [.nil], elem := some 266 }),
  (32, { size := 3, bytes := 56, agg := true, zero := [.nil, .nil, .int .i64 0], fields := [(0, 1, 29), (1, 1, 30), (2, 1, 2)] }),
  (34, { size := 2, bytes := 48, agg := true, zero := [.nil, .nil], fields := [(0, 1, 26), (1, 1, 25)] }),
  (35, { size := 1, bytes := 24, agg := false, zero := [.nil], elem := some 270 }),
  (37, { size := 3, bytes := 72, agg := true, zero := [.nil, .nil, .nil], fields := [(0, 2, 34), (2, 1, 35)] }),
  (38, { size := 1, bytes := 24, agg := false, zero := [.nil], elem := some 183 }),
  (39, { size := 1, bytes := 24, agg := false, zero := [.nil], elem := some 153 }),
  (40, { size := 1, bytes := 24, agg := false, zero := [.nil], elem := some 188 }),
  (42, { size := 17, bytes := 376, agg := true, zero := [.int .i64 0, .nil, .nil, .nil, .nil, .nil, .nil, .nil, .int .i64 0, .nil, .nil, .nil, .nil, .nil, .nil, .nil, .nil], fields := [(0, 1, 2), (1, 1, 22), (2, 1, 23), (3, 1, 24), (4, 2, 28), (6, 3, 32), (9, 3, 37), (12, 1, 38), (13, 1, 39), (14, 1, 40), (15, 1, 26), (16, 1, 26)] }),
  (44, { size := 1, bytes := 24, agg := false, zero := [.nil], elem := some 169 }),
  (45, { size := 1, bytes := 24, agg := false, zero := [.nil], elem := some 124 }),
  (46, { size := 1, bytes := 24, agg := false, zero := [.nil], elem := some 174 }),
  (47, { size := 2, bytes := 48, agg := true, zero := [.nil, .nil], fields := [(0, 1, 25), (1, 1, 26)] }),
  (48, { size := 1, bytes := 24, agg := false, zero := [.nil], elem := some 225 }),
  (49, { size := 1, bytes := 24, agg := false, zero := [.nil], elem := some 133 }),
  (51, { size := 3, bytes := 56, agg := true, zero := [.nil, .nil, .int .i64 0], fields := [(0, 1, 48), (1, 1, 49), (2, 1, 2)] }),
  (52, { size := 2, bytes := 48, agg := true, zero := [.nil, .nil], fields := [(0, 1, 26), (1, 1, 25)] }),
  (53, { size := 1, bytes := 24, agg := false, zero := [.nil], elem := some 249 }),
  (55, { size := 3, bytes := 72, agg := true, zero := [.nil, .nil, .nil], fields := [(0, 2, 52), (2, 1, 53)] }),
  (56, { size := 1, bytes := 24, agg := false, zero := [.nil], elem := some 139 }),
  (57, { size := 1, bytes := 24, agg := false, zero := [.nil], elem := some 130 }),
  (58, { size := 1, bytes := 24, agg := false, zero := [.nil], elem := some 186 }),
  (60, { size := 17, bytes := 376, agg := true, zero := [.int .i64 0, .nil, .nil, .nil, .nil, .nil, .nil, .nil, .int .i64 0, .nil, .nil, .nil, .nil, .nil, .nil, .nil, .nil], fields := [(0, 1, 2), (1, 1, 44), (2, 1, 45), (3, 1, 46), (4, 2, 47), (6, 3, 51), (9, 3, 55), (12, 1, 56), (13, 1, 57), (14, 1, 58), (15, 1, 26), (16, 1, 26)] }),
  (64, { size := 1, bytes := 8, agg := false, zero := [.dead] }),
  (97, { size := 1, bytes := 8, agg := false, zero := [.dead] }),
  (98, { size := 1, bytes := 8, agg := false, zero := [.dead] }),
  (99, { size := 1, bytes := 8, agg := false, zero := [.dead] }),
  (101, { size := 1, bytes := 8, agg := false, zero := [.dead] }),
  (102, { size := 1, bytes := 8, agg := false, zero := [.dead] }),
  (103, { size := 1, bytes := 8, agg := false, zero := [.dead] }),
  (105, { size := 1, bytes := 8, agg := false, zero := [.dead] }),
  (108, { size := 1, bytes := 8, agg := false, zero := [.dead] }),
  (110, { size := 1, bytes := 8, agg := false, zero := [.dead] }),
  (111, { size := 1, bytes := 8, agg := false, zero := [.dead] }),
  (114, { size := 1, bytes := 8, agg := false, zero := [.dead] }),
  (116, { size := 1, bytes := 8, agg := false, zero := [.dead] }),
  (117, { size := 1, bytes := 8, agg := false, zero := [.dead] }),
  (118, { size := 1, bytes := 8, agg := false, zero := [.dead] }),
  (124, { size := 5, bytes := 40, agg := true, zero := [.int .i64 0, .int .i64 0, .int .i64 0, .int .i64 0, .int .i64 0], fields := [(0, 1, 2), (1, 1, 2), (2, 1, 2), (3, 1, 2), (4, 1, 2)] }),
  (130, { size := 5, bytes := 56, agg := true, zero := [.int .i64 0, .int .i64 0, .int .i64 0, .nil, .int .i64 0], fields := [(0, 1, 2), (1, 1, 2), (2, 1, 2), (3, 1, 26), (4, 1, 2)] }),
  (133, { size := 5, bytes := 40, agg := true, zero := [.int .i64 0, .int .i64 0, .int .i64 0, .int .i64 0, .bool false], fields := [(0, 1, 2), (1, 1, 2), (2, 1, 2), (3, 1, 2), (4, 1, 4)] }),
  (139, { size := 9, bytes := 72, agg := true, zero := [.int .i64 0, .int .i64 0, .int .i64 0, .int .i64 0, .int .i64 0, .int .i64 0, .int .i64 0, .int .i64 0, .int .i64 0], fields := [(0, 1, 2), (1, 1, 2), (2, 1, 2), (3, 1, 2), (4, 1, 2), (5, 1, 2), (6, 1, 2), (7, 1, 2), (8, 1, 2)] }),
  (146, { size := 1, bytes := 24, agg := false, zero := [.nil], elem := some 262 }),
  (153, { size := 5, bytes := 56, agg := true, zero := [.int .i64 0, .int .i64 0, .int .i64 0, .nil, .int .i64 0], fields := [(0, 1, 2), (1, 1, 2), (2, 1, 2), (3, 1, 26), (4, 1, 2)] }),
  (169, { size := 1, bytes := 24, agg := false, zero := [.nil], elem := some 260 }),
  (172, { size := 5, bytes := 40, agg := true, zero := [.int .i64 0, .int .i64 0, .int .i64 0, .int .i64 0, .int .i64 0], fields := [(0, 1, 2), (1, 1, 2), (2, 1, 2), (3, 1, 2), (4, 1, 2)] }),
  (174, { size := 4, bytes := 32, agg := true, zero := [.int .i64 0, .int .i64 0, .int .i64 0, .int .i64 0], fields := [(0, 1, 2), (1, 1, 2), (2, 1, 2), (3, 1, 2)] }),
  (176, { size := 4, bytes := 32, agg := true, zero := [.int .i64 0, .int .i64 0, .int .i64 0, .int .i64 0], fields := [(0, 1, 2), (1, 1, 2), (2, 1, 2), (3, 1, 2)] }),
  (183, { size := 9, bytes := 72, agg := true, zero := [.int .i64 0, .int .i64 0, .int .i64 0, .int .i64 0, .int .i64 0, .int .i64 0, .int .i64 0, .int .i64 0, .int .i64 0], fields := [(0, 1, 2), (1, 1, 2), (2, 1, 2), (3, 1, 2), (4, 1, 2), (5, 1, 2), (6, 1, 2), (7, 1, 2), (8, 1, 2)] }),
  (186, { size := 4, bytes := 32, agg := true, zero := [.int .i64 0, .int .i64 0, .int .i64 0, .int .i64 0], fields := [(0, 1, 2), (1, 1, 2), (2, 1, 2), (3, 1, 2)] }),
  (188, { size := 4, bytes := 32, agg := true, zero := [.int .i64 0, .int .i64 0, .int .i64 0, .int .i64 0], fields := [(0, 1, 2), (1, 1, 2), (2, 1, 2), (3, 1, 2)] }),
  (225, { size := 3, bytes := 24, agg := true, zero := [.int .i64 0, .int .i64 0, .int .i64 0], fields := [(0, 1, 2), (1, 1, 2), (2, 1, 2)] }),
  (230, { size := 1, bytes := 8, agg := false, zero := [.dead] }),
  (240, { size := 1, bytes := 8, agg := false, zero := [.dead] }),
  (241, { size := 1, bytes := 8, agg := false, zero := [.dead] }),
  (243, { size := 1, bytes := 8, agg := false, zero := [.dead] }),
  (247, { size := 2, bytes := 16, agg := true, zero := [.int .i64 0, .int .i64 0], fields := [(0, 1, 2), (1, 1, 2)] }),
  (249, { size := 5, bytes := 40, agg := true, zero := [.int .i64 0, .int .i64 0, .int .i64 0, .int .i64 0, .bool false], fields := [(0, 2, 247), (2, 1, 2), (3, 1, 2), (4, 1, 4)] }),
  (252, { size := 1, bytes := 8, agg := false, zero := [.dead] }),
  (260, { size := 3, bytes := 24, agg := true, zero := [.int .i64 0, .int .i64 0, .int .i64 0], fields := [(0, 1, 2), (1, 1, 2), (2, 1, 2)] }),
  (262, { size := 3, bytes := 24, agg := true, zero := [.int .i64 0, .int .i64 0, .int .i64 0], fields := [(0, 1, 2), (1, 1, 2), (2, 1, 2)] }),
  (264, { size := 3, bytes := 24, agg := true, zero := [.int .i64 0, .int .i64 0, .int .i64 0], fields := [(0, 1, 2), (1, 1, 2), (2, 1, 2)] }),
  (266, { size := 5, bytes := 40, agg := true, zero := [.int .i64 0, .int .i64 0, .int .i64 0, .int .i64 0, .bool false], fields := [(0, 1, 2), (1, 1, 2), (2, 1, 2), (3, 1, 2), (4, 1, 4)] }),
  (268, { size := 2, bytes := 16, agg := true, zero := [.int .i64 0, .int .i64 0], fields := [(0, 1, 2), (1, 1, 2)] }),
  (270, { size := 5, bytes := 40, agg := true, zero := [.int .i64 0, .int .i64 0, .int .i64 0, .int .i64 0, .bool false], fields := [(0, 2, 268), (2, 1, 2), (3, 1, 2), (4, 1, 4)] }),
  (273, { size := 1, bytes := 8, agg := false, zero := [.dead] }),
  (277, { size := 1, bytes := 8, agg := false, zero := [.dead] }),
  (281, { size := 1, bytes := 8, agg := false, zero := [.dead] }),
  (314, { size := 1, bytes := 8, agg := false, zero := [.dead] }),
  (351, { size := 1, bytes := 24, agg := false, zero := [.nil], elem := some 48 }),
  (353, { size := 1, bytes := 24, agg := false, zero := [.nil], elem := some 3 })]
def tyT (t : TypeId) : Option TyD := (tyL.find? fun p => p.1 == t).map (·.2)
def lvs : TypeId → Option (List Lf)
  | 247 => some [.i .i64, .i .i64]
  | _ => none
def eqL (ls : Option (List Lf)) (xs ys : List AV) : Option Bool := match ls with | some ls => if xs.map lfOf = ls.map some ∧ ys.map lfOf = ls.map some then some (uQ xs ys) else none | none => none
def eqT : TypeId → AV → AV → Option Bool
  | 4, .bool a, .bool b => some (a == b)
  | t, .agg xs, .agg ys => eqL (lvs t) xs ys
  | _, _, _ => none
noncomputable def ctx0 : Ctx := { P := Go.Proofs.Tryz.prog, ty := tyT, eqA := fun _ _ _ => none }
noncomputable def ctx : Ctx := { P := Go.Proofs.Tryz.prog, ty := tyT, eqA := eqT }
theorem tys : ∀ t d, tyT t = some d → tyOk Go.Proofs.Tryz.prog t d = true := by
  have hall : (tyL.all fun p => tyOk Go.Proofs.Tryz.prog p.1 p.2) = true := by kernel_rfl
  intro t d h
  unfold tyT at h
  rw [Option.map_eq_some_iff] at h
  obtain ⟨p, h1, rfl⟩ := h
  have h2 := List.find?_some h1
  simp only [beq_iff_eq] at h2
  subst h2
  exact List.all_eq_true.1 hall p (List.mem_of_find?_eq_some h1)
theorem ok0 : ctx0.Ok where
  mix := by kernel_rfl
  tys := tys
  eqs := by intro t x y b h; cases h
@[simp] theorem ty1 : ctx.ty 1 = some { size := 1, bytes := 8, agg := false, zero := [.dead] } := by kernel_rfl
@[simp] theorem ty2 : ctx.ty 2 = some { size := 1, bytes := 8, agg := false, zero := [.int .i64 0], ik := some .i64 } := by kernel_rfl
@[simp] theorem ty3 : ctx.ty 3 = some { size := 1, bytes := 8, agg := false, zero := [.int .i64 0], ik := some .i64 } := by kernel_rfl
@[simp] theorem ty4 : ctx.ty 4 = some { size := 1, bytes := 1, agg := false, zero := [.bool false] } := by kernel_rfl
@[simp] theorem ty5 : ctx.ty 5 = some { size := 1, bytes := 1, agg := false, zero := [.int .u8 0], ik := some .u8 } := by kernel_rfl
@[simp] theorem ty7 : ctx.ty 7 = some { size := 4, bytes := 24, agg := true, zero := [.int .i64 0, .int .i64 0, .bool false, .int .u8 0], fields := [(0, 1, 2), (1, 1, 3), (2, 1, 4), (3, 1, 6)] } := by kernel_rfl
@[simp] theorem ty9 : ctx.ty 9 = some { size := 1, bytes := 16, agg := false, zero := [.str ⟨#[]⟩], isStr := true } := by kernel_rfl
@[simp] theorem ty12 : ctx.ty 12 = some { size := 1, bytes := 8, agg := false, zero := [.int .u64 0], ik := some .u64 } := by kernel_rfl
@[simp] theorem ty22 : ctx.ty 22 = some { size := 1, bytes := 24, agg := false, zero := [.nil], elem := some 146 } := by kernel_rfl
@[simp] theorem ty23 : ctx.ty 23 = some { size := 1, bytes := 24, agg := false, zero := [.nil], elem := some 172 } := by kernel_rfl
@[simp] theorem ty24 : ctx.ty 24 = some { size := 1, bytes := 24, agg := false, zero := [.nil], elem := some 176 } := by kernel_rfl
@[simp] theorem ty25 : ctx.ty 25 = some { size := 1, bytes := 24, agg := false, zero := [.nil], elem := some 4 } := by kernel_rfl
@[simp] theorem ty26 : ctx.ty 26 = some { size := 1, bytes := 24, agg := false, zero := [.nil], elem := some 2 } := by kernel_rfl
@[simp] theorem ty28 : ctx.ty 28 = some { size := 2, bytes := 48, agg := true, zero := [.nil, .nil], fields := [(0, 1, 25), (1, 1, 26)] } := by kernel_rfl
@[simp] theorem ty29 : ctx.ty 29 = some { size := 1, bytes := 24, agg := false, zero := [.nil], elem := some 264 } := by kernel_rfl
@[simp] theorem ty30 : ctx.ty 30 = some { size := 1, bytes := 24, agg := false, zero := [.nil], elem := some 266 } := by kernel_rfl
@[simp] theorem ty32 : ctx.ty 32 = some { size := 3, bytes := 56, agg := true, zero := [.nil, .nil, .int .i64 0], fields := [(0, 1, 29), (1, 1, 30), (2, 1, 2)] } := by kernel_rfl
@[simp] theorem ty34 : ctx.ty 34 = some { size := 2, bytes := 48, agg := true, zero := [.nil, .nil], fields := [(0, 1, 26), (1, 1, 25)] } := by kernel_rfl
@[simp] theorem ty35 : ctx.ty 35 = some { size := 1, bytes := 24, agg := false, zero := [.nil], elem := some 270 } := by kernel_rfl
@[simp] theorem ty37 : ctx.ty 37 = some { size := 3, bytes := 72, agg := true, zero := [.nil, .nil, .nil], fields := [(0, 2, 34), (2, 1, 35)] } := by kernel_rfl
@[simp] theorem ty38 : ctx.ty 38 = some { size := 1, bytes := 24, agg := false, zero := [.nil], elem := some 183 } := by kernel_rfl
@[simp] theorem ty39 : ctx.ty 39 = some { size := 1, bytes := 24, agg := false, zero := [.nil], elem := some 153 } := by kernel_rfl
@[simp] theorem ty40 : ctx.ty 40 = some { size := 1, bytes := 24, agg := false, zero := [.nil], elem := some 188 } := by kernel_rfl
@[simp] theorem ty42 : ctx.ty 42 = some { size := 17, bytes := 376, agg := true, zero := [.int .i64 0, .nil, .nil, .nil, .nil, .nil, .nil, .nil, .int .i64 0, .nil, .nil, .nil, .nil, .nil, .nil, .nil, .nil], fields := [(0, 1, 2), (1, 1, 22), (2, 1, 23), (3, 1, 24), (4, 2, 28), (6, 3, 32), (9, 3, 37), (12, 1, 38), (13, 1, 39), (14, 1, 40), (15, 1, 26), (16, 1, 26)] } := by kernel_rfl
@[simp] theorem ty44 : ctx.ty 44 = some { size := 1, bytes := 24, agg := false, zero := [.nil], elem := some 169 } := by kernel_rfl
@[simp] theorem ty45 : ctx.ty 45 = some { size := 1, bytes := 24, agg := false, zero := [.nil], elem := some 124 } := by kernel_rfl
@[simp] theorem ty46 : ctx.ty 46 = some { size := 1, bytes := 24, agg := false, zero := [.nil], elem := some 174 } := by kernel_rfl
@[simp] theorem ty47 : ctx.ty 47 = some { size := 2, bytes := 48, agg := true, zero := [.nil, .nil], fields := [(0, 1, 25), (1, 1, 26)] } := by kernel_rfl
@[simp] theorem ty48 : ctx.ty 48 = some { size := 1, bytes := 24, agg := false, zero := [.nil], elem := some 225 } := by kernel_rfl
@[simp] theorem ty49 : ctx.ty 49 = some { size := 1, bytes := 24, agg := false, zero := [.nil], elem := some 133 } := by kernel_rfl
@[simp] theorem ty51 : ctx.ty 51 = some { size := 3, bytes := 56, agg := true, zero := [.nil, .nil, .int .i64 0], fields := [(0, 1, 48), (1, 1, 49), (2, 1, 2)] } := by kernel_rfl
@[simp] theorem ty52 : ctx.ty 52 = some { size := 2, bytes := 48, agg := true, zero := [.nil, .nil], fields := [(0, 1, 26), (1, 1, 25)] } := by kernel_rfl
@[simp] theorem ty53 : ctx.ty 53 = some { size := 1, bytes := 24, agg := false, zero := [.nil], elem := some 249 } := by kernel_rfl
@[simp] theorem ty55 : ctx.ty 55 = some { size := 3, bytes := 72, agg := true, zero := [.nil, .nil, .nil], fields := [(0, 2, 52), (2, 1, 53)] } := by kernel_rfl
@[simp] theorem ty56 : ctx.ty 56 = some { size := 1, bytes := 24, agg := false, zero := [.nil], elem := some 139 } := by kernel_rfl
@[simp] theorem ty57 : ctx.ty 57 = some { size := 1, bytes := 24, agg := false, zero := [.nil], elem := some 130 } := by kernel_rfl
@[simp] theorem ty58 : ctx.ty 58 = some { size := 1, bytes := 24, agg := false, zero := [.nil], elem := some 186 } := by kernel_rfl
@[simp] theorem ty60 : ctx.ty 60 = some { size := 17, bytes := 376, agg := true, zero := [.int .i64 0, .nil, .nil, .nil, .nil, .nil, .nil, .nil, .int .i64 0, .nil, .nil, .nil, .nil, .nil, .nil, .nil, .nil], fields := [(0, 1, 2), (1, 1, 44), (2, 1, 45), (3, 1, 46), (4, 2, 47), (6, 3, 51), (9, 3, 55), (12, 1, 56), (13, 1, 57), (14, 1, 58), (15, 1, 26), (16, 1, 26)] } := by kernel_rfl
@[simp] theorem ty64 : ctx.ty 64 = some { size := 1, bytes := 8, agg := false, zero := [.dead] } := by kernel_rfl
@[simp] theorem ty97 : ctx.ty 97 = some { size := 1, bytes := 8, agg := false, zero := [.dead] } := by kernel_rfl
@[simp] theorem ty98 : ctx.ty 98 = some { size := 1, bytes := 8, agg := false, zero := [.dead] } := by kernel_rfl
@[simp] theorem ty99 : ctx.ty 99 = some { size := 1, bytes := 8, agg := false, zero := [.dead] } := by kernel_rfl
@[simp] theorem ty101 : ctx.ty 101 = some { size := 1, bytes := 8, agg := false, zero := [.dead] } := by kernel_rfl
@[simp] theorem ty102 : ctx.ty 102 = some { size := 1, bytes := 8, agg := false, zero := [.dead] } := by kernel_rfl
@[simp] theorem ty103 : ctx.ty 103 = some { size := 1, bytes := 8, agg := false, zero := [.dead] } := by kernel_rfl
@[simp] theorem ty105 : ctx.ty 105 = some { size := 1, bytes := 8, agg := false, zero := [.dead] } := by kernel_rfl
@[simp] theorem ty108 : ctx.ty 108 = some { size := 1, bytes := 8, agg := false, zero := [.dead] } := by kernel_rfl
@[simp] theorem ty110 : ctx.ty 110 = some { size := 1, bytes := 8, agg := false, zero := [.dead] } := by kernel_rfl
@[simp] theorem ty111 : ctx.ty 111 = some { size := 1, bytes := 8, agg := false, zero := [.dead] } := by kernel_rfl
@[simp] theorem ty114 : ctx.ty 114 = some { size := 1, bytes := 8, agg := false, zero := [.dead] } := by kernel_rfl
@[simp] theorem ty116 : ctx.ty 116 = some { size := 1, bytes := 8, agg := false, zero := [.dead] } := by kernel_rfl
@[simp] theorem ty117 : ctx.ty 117 = some { size := 1, bytes := 8, agg := false, zero := [.dead] } := by kernel_rfl
@[simp] theorem ty118 : ctx.ty 118 = some { size := 1, bytes := 8, agg := false, zero := [.dead] } := by kernel_rfl
@[simp] theorem ty124 : ctx.ty 124 = some { size := 5, bytes := 40, agg := true, zero := [.int .i64 0, .int .i64 0, .int .i64 0, .int .i64 0, .int .i64 0], fields := [(0, 1, 2), (1, 1, 2), (2, 1, 2), (3, 1, 2), (4, 1, 2)] } := by kernel_rfl
@[simp] theorem ty130 : ctx.ty 130 = some { size := 5, bytes := 56, agg := true, zero := [.int .i64 0, .int .i64 0, .int .i64 0, .nil, .int .i64 0], fields := [(0, 1, 2), (1, 1, 2), (2, 1, 2), (3, 1, 26), (4, 1, 2)] } := by kernel_rfl
@[simp] theorem ty133 : ctx.ty 133 = some { size := 5, bytes := 40, agg := true, zero := [.int .i64 0, .int .i64 0, .int .i64 0, .int .i64 0, .bool false], fields := [(0, 1, 2), (1, 1, 2), (2, 1, 2), (3, 1, 2), (4, 1, 4)] } := by kernel_rfl
@[simp] theorem ty139 : ctx.ty 139 = some { size := 9, bytes := 72, agg := true, zero := [.int .i64 0, .int .i64 0, .int .i64 0, .int .i64 0, .int .i64 0, .int .i64 0, .int .i64 0, .int .i64 0, .int .i64 0], fields := [(0, 1, 2), (1, 1, 2), (2, 1, 2), (3, 1, 2), (4, 1, 2), (5, 1, 2), (6, 1, 2), (7, 1, 2), (8, 1, 2)] } := by kernel_rfl
@[simp] theorem ty146 : ctx.ty 146 = some { size := 1, bytes := 24, agg := false, zero := [.nil], elem := some 262 } := by kernel_rfl
@[simp] theorem ty153 : ctx.ty 153 = some { size := 5, bytes := 56, agg := true, zero := [.int .i64 0, .int .i64 0, .int .i64 0, .nil, .int .i64 0], fields := [(0, 1, 2), (1, 1, 2), (2, 1, 2), (3, 1, 26), (4, 1, 2)] } := by kernel_rfl
@[simp] theorem ty169 : ctx.ty 169 = some { size := 1, bytes := 24, agg := false, zero := [.nil], elem := some 260 } := by kernel_rfl
@[simp] theorem ty172 : ctx.ty 172 = some { size := 5, bytes := 40, agg := true, zero := [.int .i64 0, .int .i64 0, .int .i64 0, .int .i64 0, .int .i64 0], fields := [(0, 1, 2), (1, 1, 2), (2, 1, 2), (3, 1, 2), (4, 1, 2)] } := by kernel_rfl
@[simp] theorem ty174 : ctx.ty 174 = some { size := 4, bytes := 32, agg := true, zero := [.int .i64 0, .int .i64 0, .int .i64 0, .int .i64 0], fields := [(0, 1, 2), (1, 1, 2), (2, 1, 2), (3, 1, 2)] } := by kernel_rfl
@[simp] theorem ty176 : ctx.ty 176 = some { size := 4, bytes := 32, agg := true, zero := [.int .i64 0, .int .i64 0, .int .i64 0, .int .i64 0], fields := [(0, 1, 2), (1, 1, 2), (2, 1, 2), (3, 1, 2)] } := by kernel_rfl
@[simp] theorem ty183 : ctx.ty 183 = some { size := 9, bytes := 72, agg := true, zero := [.int .i64 0, .int .i64 0, .int .i64 0, .int .i64 0, .int .i64 0, .int .i64 0, .int .i64 0, .int .i64 0, .int .i64 0], fields := [(0, 1, 2), (1, 1, 2), (2, 1, 2), (3, 1, 2), (4, 1, 2), (5, 1, 2), (6, 1, 2), (7, 1, 2), (8, 1, 2)] } := by kernel_rfl
@[simp] theorem ty186 : ctx.ty 186 = some { size := 4, bytes := 32, agg := true, zero := [.int .i64 0, .int .i64 0, .int .i64 0, .int .i64 0], fields := [(0, 1, 2), (1, 1, 2), (2, 1, 2), (3, 1, 2)] } := by kernel_rfl
@[simp] theorem ty188 : ctx.ty 188 = some { size := 4, bytes := 32, agg := true, zero := [.int .i64 0, .int .i64 0, .int .i64 0, .int .i64 0], fields := [(0, 1, 2), (1, 1, 2), (2, 1, 2), (3, 1, 2)] } := by kernel_rfl
@[simp] theorem ty225 : ctx.ty 225 = some { size := 3, bytes := 24, agg := true, zero := [.int .i64 0, .int .i64 0, .int .i64 0], fields := [(0, 1, 2), (1, 1, 2), (2, 1, 2)] } := by kernel_rfl
@[simp] theorem ty230 : ctx.ty 230 = some { size := 1, bytes := 8, agg := false, zero := [.dead] } := by kernel_rfl
@[simp] theorem ty240 : ctx.ty 240 = some { size := 1, bytes := 8, agg := false, zero := [.dead] } := by kernel_rfl
@[simp] theorem ty241 : ctx.ty 241 = some { size := 1, bytes := 8, agg := false, zero := [.dead] } := by kernel_rfl
@[simp] theorem ty243 : ctx.ty 243 = some { size := 1, bytes := 8, agg := false, zero := [.dead] } := by kernel_rfl
@[simp] theorem ty247 : ctx.ty 247 = some { size := 2, bytes := 16, agg := true, zero := [.int .i64 0, .int .i64 0], fields := [(0, 1, 2), (1, 1, 2)] } := by kernel_rfl
@[simp] theorem ty249 : ctx.ty 249 = some { size := 5, bytes := 40, agg := true, zero := [.int .i64 0, .int .i64 0, .int .i64 0, .int .i64 0, .bool false], fields := [(0, 2, 247), (2, 1, 2), (3, 1, 2), (4, 1, 4)] } := by kernel_rfl
@[simp] theorem ty252 : ctx.ty 252 = some { size := 1, bytes := 8, agg := false, zero := [.dead] } := by kernel_rfl
@[simp] theorem ty260 : ctx.ty 260 = some { size := 3, bytes := 24, agg := true, zero := [.int .i64 0, .int .i64 0, .int .i64 0], fields := [(0, 1, 2), (1, 1, 2), (2, 1, 2)] } := by kernel_rfl
@[simp] theorem ty262 : ctx.ty 262 = some { size := 3, bytes := 24, agg := true, zero := [.int .i64 0, .int .i64 0, .int .i64 0], fields := [(0, 1, 2), (1, 1, 2), (2, 1, 2)] } := by kernel_rfl
@[simp] theorem ty264 : ctx.ty 264 = some { size := 3, bytes := 24, agg := true, zero := [.int .i64 0, .int .i64 0, .int .i64 0], fields := [(0, 1, 2), (1, 1, 2), (2, 1, 2)] } := by kernel_rfl
@[simp] theorem ty266 : ctx.ty 266 = some { size := 5, bytes := 40, agg := true, zero := [.int .i64 0, .int .i64 0, .int .i64 0, .int .i64 0, .bool false], fields := [(0, 1, 2), (1, 1, 2), (2, 1, 2), (3, 1, 2), (4, 1, 4)] } := by kernel_rfl
@[simp] theorem ty268 : ctx.ty 268 = some { size := 2, bytes := 16, agg := true, zero := [.int .i64 0, .int .i64 0], fields := [(0, 1, 2), (1, 1, 2)] } := by kernel_rfl
@[simp] theorem ty270 : ctx.ty 270 = some { size := 5, bytes := 40, agg := true, zero := [.int .i64 0, .int .i64 0, .int .i64 0, .int .i64 0, .bool false], fields := [(0, 2, 268), (2, 1, 2), (3, 1, 2), (4, 1, 4)] } := by kernel_rfl
@[simp] theorem ty273 : ctx.ty 273 = some { size := 1, bytes := 8, agg := false, zero := [.dead] } := by kernel_rfl
@[simp] theorem ty277 : ctx.ty 277 = some { size := 1, bytes := 8, agg := false, zero := [.dead] } := by kernel_rfl
@[simp] theorem ty281 : ctx.ty 281 = some { size := 1, bytes := 8, agg := false, zero := [.dead] } := by kernel_rfl
@[simp] theorem ty314 : ctx.ty 314 = some { size := 1, bytes := 8, agg := false, zero := [.dead] } := by kernel_rfl
@[simp] theorem ty351 : ctx.ty 351 = some { size := 1, bytes := 24, agg := false, zero := [.nil], elem := some 48 } := by kernel_rfl
@[simp] theorem ty353 : ctx.ty 353 = some { size := 1, bytes := 24, agg := false, zero := [.nil], elem := some 3 } := by kernel_rfl
@[simp] theorem el22 : yT ctx 22 = some { size := 1, bytes := 24, agg := false, zero := [.nil], elem := some 262 } := by kernel_rfl
@[simp] theorem el23 : yT ctx 23 = some { size := 5, bytes := 40, agg := true, zero := [.int .i64 0, .int .i64 0, .int .i64 0, .int .i64 0, .int .i64 0], fields := [(0, 1, 2), (1, 1, 2), (2, 1, 2), (3, 1, 2), (4, 1, 2)] } := by kernel_rfl
@[simp] theorem el24 : yT ctx 24 = some { size := 4, bytes := 32, agg := true, zero := [.int .i64 0, .int .i64 0, .int .i64 0, .int .i64 0], fields := [(0, 1, 2), (1, 1, 2), (2, 1, 2), (3, 1, 2)] } := by kernel_rfl
@[simp] theorem el25 : yT ctx 25 = some { size := 1, bytes := 1, agg := false, zero := [.bool false] } := by kernel_rfl
@[simp] theorem el26 : yT ctx 26 = some { size := 1, bytes := 8, agg := false, zero := [.int .i64 0], ik := some .i64 } := by kernel_rfl
@[simp] theorem el29 : yT ctx 29 = some { size := 3, bytes := 24, agg := true, zero := [.int .i64 0, .int .i64 0, .int .i64 0], fields := [(0, 1, 2), (1, 1, 2), (2, 1, 2)] } := by kernel_rfl
@[simp] theorem el30 : yT ctx 30 = some { size := 5, bytes := 40, agg := true, zero := [.int .i64 0, .int .i64 0, .int .i64 0, .int .i64 0, .bool false], fields := [(0, 1, 2), (1, 1, 2), (2, 1, 2), (3, 1, 2), (4, 1, 4)] } := by kernel_rfl
@[simp] theorem el35 : yT ctx 35 = some { size := 5, bytes := 40, agg := true, zero := [.int .i64 0, .int .i64 0, .int .i64 0, .int .i64 0, .bool false], fields := [(0, 2, 268), (2, 1, 2), (3, 1, 2), (4, 1, 4)] } := by kernel_rfl
@[simp] theorem el38 : yT ctx 38 = some { size := 9, bytes := 72, agg := true, zero := [.int .i64 0, .int .i64 0, .int .i64 0, .int .i64 0, .int .i64 0, .int .i64 0, .int .i64 0, .int .i64 0, .int .i64 0], fields := [(0, 1, 2), (1, 1, 2), (2, 1, 2), (3, 1, 2), (4, 1, 2), (5, 1, 2), (6, 1, 2), (7, 1, 2), (8, 1, 2)] } := by kernel_rfl
@[simp] theorem el39 : yT ctx 39 = some { size := 5, bytes := 56, agg := true, zero := [.int .i64 0, .int .i64 0, .int .i64 0, .nil, .int .i64 0], fields := [(0, 1, 2), (1, 1, 2), (2, 1, 2), (3, 1, 26), (4, 1, 2)] } := by kernel_rfl
@[simp] theorem el40 : yT ctx 40 = some { size := 4, bytes := 32, agg := true, zero := [.int .i64 0, .int .i64 0, .int .i64 0, .int .i64 0], fields := [(0, 1, 2), (1, 1, 2), (2, 1, 2), (3, 1, 2)] } := by kernel_rfl
@[simp] theorem el44 : yT ctx 44 = some { size := 1, bytes := 24, agg := false, zero := [.nil], elem := some 260 } := by kernel_rfl
@[simp] theorem el45 : yT ctx 45 = some { size := 5, bytes := 40, agg := true, zero := [.int .i64 0, .int .i64 0, .int .i64 0, .int .i64 0, .int .i64 0], fields := [(0, 1, 2), (1, 1, 2), (2, 1, 2), (3, 1, 2), (4, 1, 2)] } := by kernel_rfl
@[simp] theorem el46 : yT ctx 46 = some { size := 4, bytes := 32, agg := true, zero := [.int .i64 0, .int .i64 0, .int .i64 0, .int .i64 0], fields := [(0, 1, 2), (1, 1, 2), (2, 1, 2), (3, 1, 2)] } := by kernel_rfl
@[simp] theorem el48 : yT ctx 48 = some { size := 3, bytes := 24, agg := true, zero := [.int .i64 0, .int .i64 0, .int .i64 0], fields := [(0, 1, 2), (1, 1, 2), (2, 1, 2)] } := by kernel_rfl
@[simp] theorem el49 : yT ctx 49 = some { size := 5, bytes := 40, agg := true, zero := [.int .i64 0, .int .i64 0, .int .i64 0, .int .i64 0, .bool false], fields := [(0, 1, 2), (1, 1, 2), (2, 1, 2), (3, 1, 2), (4, 1, 4)] } := by kernel_rfl
@[simp] theorem el53 : yT ctx 53 = some { size := 5, bytes := 40, agg := true, zero := [.int .i64 0, .int .i64 0, .int .i64 0, .int .i64 0, .bool false], fields := [(0, 2, 247), (2, 1, 2), (3, 1, 2), (4, 1, 4)] } := by kernel_rfl
@[simp] theorem el56 : yT ctx 56 = some { size := 9, bytes := 72, agg := true, zero := [.int .i64 0, .int .i64 0, .int .i64 0, .int .i64 0, .int .i64 0, .int .i64 0, .int .i64 0, .int .i64 0, .int .i64 0], fields := [(0, 1, 2), (1, 1, 2), (2, 1, 2), (3, 1, 2), (4, 1, 2), (5, 1, 2), (6, 1, 2), (7, 1, 2), (8, 1, 2)] } := by kernel_rfl
@[simp] theorem el57 : yT ctx 57 = some { size := 5, bytes := 56, agg := true, zero := [.int .i64 0, .int .i64 0, .int .i64 0, .nil, .int .i64 0], fields := [(0, 1, 2), (1, 1, 2), (2, 1, 2), (3, 1, 26), (4, 1, 2)] } := by kernel_rfl
@[simp] theorem el58 : yT ctx 58 = some { size := 4, bytes := 32, agg := true, zero := [.int .i64 0, .int .i64 0, .int .i64 0, .int .i64 0], fields := [(0, 1, 2), (1, 1, 2), (2, 1, 2), (3, 1, 2)] } := by kernel_rfl
@[simp] theorem el146 : yT ctx 146 = some { size := 3, bytes := 24, agg := true, zero := [.int .i64 0, .int .i64 0, .int .i64 0], fields := [(0, 1, 2), (1, 1, 2), (2, 1, 2)] } := by kernel_rfl
@[simp] theorem el169 : yT ctx 169 = some { size := 3, bytes := 24, agg := true, zero := [.int .i64 0, .int .i64 0, .int .i64 0], fields := [(0, 1, 2), (1, 1, 2), (2, 1, 2)] } := by kernel_rfl
@[simp] theorem el351 : yT ctx 351 = some { size := 1, bytes := 24, agg := false, zero := [.nil], elem := some 225 } := by kernel_rfl
@[simp] theorem el353 : yT ctx 353 = some { size := 1, bytes := 8, agg := false, zero := [.int .i64 0], ik := some .i64 } := by kernel_rfl
@[simp] theorem eq4 (a b) : ctx.eqA 4 (.bool a) (.bool b) = some (a == b) := rfl
@[simp] theorem eq247 (xs ys) : ctx.eqA 247 (.agg xs) (.agg ys) = eqL (some [.i .i64, .i .i64]) xs ys := rfl
@[simp] theorem eqL_some (ls xs ys) : eqL (some ls) xs ys = if xs.map lfOf = ls.map some ∧ ys.map lfOf = ls.map some then some (uQ xs ys) else none := rfl
theorem okC : ctx.Ok where
  mix := by kernel_rfl
  tys := tys
  eqs := by
    intro t x y b h
    change eqT t x y = some b at h
    unfold eqT at h
    split at h
    · cases h; exact eq_bool (by kernel_rfl)
    · rename_i xs ys _
      unfold lvs at h
      split at h
      · rw [eqL_some] at h
        split at h
        · rename_i hk
          cases h; exact eq_struct ok0 (by kernel_rfl) (by kernel_rfl) (by kernel_rfl) hk.1 hk.2
        · cases h
      · cases h
    · cases h
end Go.AE.Tryz
end

section
/- Contracts of the smallest functions. -/
set_option maxRecDepth 8000
set_option maxHeartbeats 2000000
namespace Go.AE.Tryz
open Go.Proofs
open List renaming map_take → qt, map_drop → qd, map_tail → ql

theorem yD {n : Nat} (h : n ≤ LIM) : IntKind.i64.wrap ((n : Int) - 1) = (n : Int) - 1 := by
  simp only [LIM] at h
  rw [zF (by omega)]
theorem zM {i n : Nat} (h : i < n) (hn : n ≤ LIM) : IntKind.i64.wrap ((i : Int) + 1) = ((i + 1 : Nat) : Int) := by
  simp only [LIM] at hn
  rw [zF (by omega)]; omega
theorem vC {x lo hi : Int} : PC ctx.P 222 [.int .i64 x, .int .i64 lo, .int .i64 hi] (.bool (inR x lo hi)) := by
  refine PC.o okC Tryz.func222 rfl (.bool _) fun h nx hnx => ?_
  try simp [-qt, -qd, -ql, rgs, inR]
  repeat' first | done | ((first | (with_reducible refine zH ?_ ?_)) <;> intro qb <;> (have qp := qb; try simp only [psq] at qp) <;> simp [-qt, -qd, -ql, rgs, inR, qb])
end Go.AE.Tryz
end

section
/- Contracts of the laws' helpers: copies, comparisons, sizes. -/
set_option maxRecDepth 8000
set_option maxHeartbeats 2000000
namespace Go.AE.Tryz
open Go.Proofs
open List renaming map_take → qt, map_drop → qd, map_tail → ql
theorem c_toHandle {x : Han} : PC ctx.P 283 [.agg (zF6 x)] (.agg (zF6 x)) := by
  refine PC.o okC Tryz.func283 rfl (.agg _ (hanC_fz x)) fun h nx hnx => ?_
  try simp [-qt, -qd, -ql, rgs, zF6]

theorem c_eqHandle {x y : Han} : PC ctx.P 331 [.agg (zF6 x), .agg (zF6 y)] (.bool (x == y)) := by
  rw [han_beq]
  refine PC.o okC Tryz.func331 rfl (.bool _) fun h nx hnx => ?_
  try simp [-qt, -qd, -ql, rgs, zF6]
  repeat' first | done | ((first | (with_reducible refine zA ?_ ?_)) <;> intro qb <;> (have qp := qb; try simp only [psq] at qp) <;> simp [-qt, -qd, -ql, rgs, zF6, qb])
  all_goals (try clear hnx)
  all_goals first | (simp_all []; done) | (simp_all []; omega) | (rw [Bool.eq_iff_iff]; simp_all []; done) | (rw [Bool.eq_iff_iff]; simp_all []; omega) | omega | (simp only []; grind) | grind




theorem c_toIns {x : Inn} : PC ctx.P 212 [.agg (vV x)] (.agg (vV x)) := by
  refine PC.o okC Tryz.func212 rfl (.agg _ (innC_fz x)) fun h nx hnx => ?_
  try simp [-qt, -qd, -ql, rgs, vV]

theorem c_eqIns {x y : Inn} : PC ctx.P 254 [.agg (vV x), .agg (vV y)] (.bool (x == y)) := by
  rw [inn_beq]
  refine PC.o okC Tryz.func254 rfl (.bool _) fun h nx hnx => ?_
  try simp [-qt, -qd, -ql, rgs, vV]
  repeat' first | done | ((first | (with_reducible refine zA ?_ ?_)) <;> intro qb <;> (have qp := qb; try simp only [psq] at qp) <;> simp [-qt, -qd, -ql, rgs, vV, qb])
  all_goals (try clear hnx)
  all_goals first | (simp_all []; done) | (simp_all []; omega) | (rw [Bool.eq_iff_iff]; simp_all []; done) | (rw [Bool.eq_iff_iff]; simp_all []; omega) | omega | (simp only []; grind) | grind

theorem c_eqInsS {p q : Bool} {xs ys : List Inn} : PC ctx.P 142 [.view p 3 (xs.map vV), .view q 3 (ys.map vV)] (.bool (xs == ys)) := by
  refine PC.lim (n := xs.length) (x := .view p 3 (xs.map vV)) (by simp) (.here (by simp)) ⟨_, Tryz.func142, by kernel_rfl, by kernel_rfl⟩ fun hlim => ?_
  by_cases hl : xs.length = ys.length
  · refine PC.o okC Tryz.func142 rfl (.bool _) fun h nx hnx => ?_
    try simp [-qt, -qd, -ql, rgs, hl]
    repeat' first | done | ((first | ((with_reducible show zT _ _ _ _ _ _); refine zB rfl fun _ => ?_) | ((with_reducible show zG _ _ _ _ _ _ _); refine zC rfl omA omA ?_) | (with_reducible refine zI (i := 6) [(0, [], []), (1, [], []), (2, [], []), (3, [], []), (4, [], []), (5, [], []), (6, [], []), (7, [], []), (8, [], []), (9, [], [])] (by kernel_rfl) ?_)) <;> simp [-qt, -qd, -ql, rgs, hl]) | ((first | (with_reducible refine zA ?_ ?_)) <;> intro qb <;> (have qp := qb; try simp only [psq] at qp) <;> simp [-qt, -qd, -ql, rgs, hl, qb])
    refine zV [4, 5, 11, 12, 13, 14, 15, 16, 17, 18, 19, 20, 21, 22, 23, 24, 25, 26] (ys.length) (fun (i : Nat) a => [(5, .int .i64 i)]) (fun i_ a_ h_ _ => (fun i (_ : Unit) _ => (xs.drop i == ys.drop i) = (xs == ys)) i_ a_ h_) (()) (by simp) ?_ zR (Nat.le_refl _) ?_
    · simp
    · intro i a tm h' n' hle hJ hE hn' next hnx
      try dsimp only at hJ
      have hK : KeepB nx h' h := KeepB.sub hE zJ (by omega)
      simp [-qt, -qd, -ql]
      try simp [-qt, -qd, -ql, rgs, hl, vV]
      repeat' first | done | ((first | ((with_reducible show zT _ _ _ _ _ _); refine zB rfl fun _ => ?_) | ((with_reducible show zG _ _ _ _ _ _ _); refine zC rfl omA omA ?_) | ((with_reducible show zE _ _ _ 254 _ _); refine zD (c_eqIns) ?_) | (with_reducible refine zI (i := 6) [(0, [], []), (1, [], []), (2, [], []), (3, [], []), (4, [], []), (5, [], []), (6, [], []), (7, [], []), (8, [], []), (9, [], [])] (by kernel_rfl) ?_)) <;> simp [-qt, -qd, -ql, rgs, hl, vV]) | ((first | (with_reducible refine zA ?_ ?_)) <;> intro qb <;> (have qp := qb; try simp only [psq] at qp) <;> simp [-qt, -qd, -ql, rgs, hl, vV, qb])
      all_goals first
      | (have hlt : i < xs.length := (by first | omega | (simp at *; omega))
         rw [zS hlt, zS (xs := ys) (i := i) (by omega), List.cons_beq_cons] at hJ
         first
         | (refine hnx.go () ?_ ?_ ?_ ?_ ?_ ?_; omega; (simp [zM hlt hlim]); (simp); exact zJ; (first | omega | (simp; omega)); (try dsimp only); clear hnx; first | (simp_all; done) | grind)
         | (refine ⟨?_, zJ⟩; clear hnx; first | (simp_all; done) | grind)
         | (clear hnx; first | (simp_all; done) | grind))
      | (obtain rfl : i = xs.length := (by first | omega | (simp at *; omega))
         rw [List.drop_eq_nil_of_le (Nat.le_refl _), List.drop_eq_nil_of_le (by omega)] at hJ
         refine ⟨?_, zJ⟩; clear hnx; first | (simp_all; done) | grind)
  · refine PC.o okC Tryz.func142 rfl (.bool _) fun h nx hnx => ?_
    try simp [-qt, -qd, -ql, rgs]
    repeat' first | done | ((first | ((with_reducible show zT _ _ _ _ _ _); refine zB rfl fun _ => ?_) | ((with_reducible show zG _ _ _ _ _ _ _); refine zC rfl omA omA ?_) | (with_reducible refine zI (i := 6) [(0, [], []), (1, [], []), (2, [], []), (3, [], []), (4, [], []), (5, [], []), (6, [], []), (7, [], []), (8, [], []), (9, [], [])] (by kernel_rfl) ?_)) <;> simp [-qt, -qd, -ql, rgs]) | ((first | (with_reducible refine zA ?_ ?_)) <;> intro qb <;> (have qp := qb; try simp only [psq] at qp) <;> simp [-qt, -qd, -ql, rgs, qb])
    all_goals first | (exfalso; omega) | (symm; rw [beq_eq_false_iff_ne]; intro e; exact hl (by rw [e])) | (intro e; exact hl (by rw [e])) | skip

theorem c_szInsS {p : Bool} {xs : List Inn} {k : Int} (h0 : 0 ≤ k) (h1 : k ≤ 1048576) : PC ctx.P 97 [.view p 3 (xs.map vV), .int .i64 k] (.int .i64 (szR xs.length k)) := by
  refine PC.lim (n := xs.length) (x := .view p 3 (xs.map vV)) (by simp) (.here (by simp)) ⟨_, Tryz.func97, by kernel_rfl, by kernel_rfl⟩ fun hlim => ?_
  simp only [LIM] at hlim
  refine PC.o okC Tryz.func97 rfl (.int _ _) fun h nx hnx => ?_
  try simp [-qt, -qd, -ql, rgs, zF (x := k - (xs.length : Int)) (by omega)]
  repeat' first | done | ((first | ((with_reducible show zT _ _ _ _ _ _); refine zB rfl fun _ => ?_)) <;> simp [-qt, -qd, -ql, rgs, zF (x := k - (xs.length : Int)) (by omega)]) | ((first | (with_reducible refine zA ?_ ?_)) <;> intro qb <;> (have qp := qb; try simp only [psq] at qp) <;> simp [-qt, -qd, -ql, rgs, zF (x := k - (xs.length : Int)) (by omega), qb])
  all_goals (clear hnx; simp only [szR]; split <;> first | omega | (simp; omega))

theorem c_toNode {x : Nod} : PC ctx.P 127 [.agg (yZ x)] (.agg (yZ x)) := by
  refine PC.o okC Tryz.func127 rfl (.agg _ (nodC_fz x)) fun h nx hnx => ?_
  try simp [-qt, -qd, -ql, rgs, yZ]

theorem c_eqNode {x y : Nod} : PC ctx.P 143 [.agg (yZ x), .agg (yZ y)] (.bool (x == y)) := by
  rw [nod_beq]
  refine PC.o okC Tryz.func143 rfl (.bool _) fun h nx hnx => ?_
  try simp [-qt, -qd, -ql, rgs, yZ]
  repeat' first | done | ((first | (with_reducible refine zA ?_ ?_)) <;> intro qb <;> (have qp := qb; try simp only [psq] at qp) <;> simp [-qt, -qd, -ql, rgs, yZ, qb])
  all_goals (try clear hnx)
  all_goals first | (simp_all []; done) | (simp_all []; omega) | (rw [Bool.eq_iff_iff]; simp_all []; done) | (rw [Bool.eq_iff_iff]; simp_all []; omega) | omega | (simp only []; grind) | grind

theorem c_eqNodeS {p q : Bool} {xs ys : List Nod} : PC ctx.P 54 [.view p 5 (xs.map yZ), .view q 5 (ys.map yZ)] (.bool (xs == ys)) := by
  refine PC.lim (n := xs.length) (x := .view p 5 (xs.map yZ)) (by simp) (.here (by simp)) ⟨_, Tryz.func54, by kernel_rfl, by kernel_rfl⟩ fun hlim => ?_
  by_cases hl : xs.length = ys.length
  · refine PC.o okC Tryz.func54 rfl (.bool _) fun h nx hnx => ?_
    try simp [-qt, -qd, -ql, rgs, hl]
    repeat' first | done | ((first | ((with_reducible show zT _ _ _ _ _ _); refine zB rfl fun _ => ?_) | ((with_reducible show zG _ _ _ _ _ _ _); refine zC rfl omA omA ?_) | (with_reducible refine zI (i := 6) [(0, [], []), (1, [], []), (2, [], []), (3, [], []), (4, [], []), (5, [], []), (6, [], []), (7, [], []), (8, [], []), (9, [], [])] (by kernel_rfl) ?_)) <;> simp [-qt, -qd, -ql, rgs, hl]) | ((first | (with_reducible refine zA ?_ ?_)) <;> intro qb <;> (have qp := qb; try simp only [psq] at qp) <;> simp [-qt, -qd, -ql, rgs, hl, qb])
    refine zV [4, 5, 11, 12, 13, 14, 15, 16, 17, 18, 19, 20, 21, 22, 23, 24, 25, 26] (ys.length) (fun (i : Nat) a => [(5, .int .i64 i)]) (fun i_ a_ h_ _ => (fun i (_ : Unit) _ => (xs.drop i == ys.drop i) = (xs == ys)) i_ a_ h_) (()) (by simp) ?_ zR (Nat.le_refl _) ?_
    · simp
    · intro i a tm h' n' hle hJ hE hn' next hnx
      try dsimp only at hJ
      have hK : KeepB nx h' h := KeepB.sub hE zJ (by omega)
      simp [-qt, -qd, -ql]
      try simp [-qt, -qd, -ql, rgs, hl, yZ]
      repeat' first | done | ((first | ((with_reducible show zT _ _ _ _ _ _); refine zB rfl fun _ => ?_) | ((with_reducible show zG _ _ _ _ _ _ _); refine zC rfl omA omA ?_) | ((with_reducible show zE _ _ _ 143 _ _); refine zD (c_eqNode) ?_) | (with_reducible refine zI (i := 6) [(0, [], []), (1, [], []), (2, [], []), (3, [], []), (4, [], []), (5, [], []), (6, [], []), (7, [], []), (8, [], []), (9, [], [])] (by kernel_rfl) ?_)) <;> simp [-qt, -qd, -ql, rgs, hl, yZ]) | ((first | (with_reducible refine zA ?_ ?_)) <;> intro qb <;> (have qp := qb; try simp only [psq] at qp) <;> simp [-qt, -qd, -ql, rgs, hl, yZ, qb])
      all_goals first
      | (have hlt : i < xs.length := (by first | omega | (simp at *; omega))
         rw [zS hlt, zS (xs := ys) (i := i) (by omega), List.cons_beq_cons] at hJ
         first
         | (refine hnx.go () ?_ ?_ ?_ ?_ ?_ ?_; omega; (simp [zM hlt hlim]); (simp); exact zJ; (first | omega | (simp; omega)); (try dsimp only); clear hnx; first | (simp_all; done) | grind)
         | (refine ⟨?_, zJ⟩; clear hnx; first | (simp_all; done) | grind)
         | (clear hnx; first | (simp_all; done) | grind))
      | (obtain rfl : i = xs.length := (by first | omega | (simp at *; omega))
         rw [List.drop_eq_nil_of_le (Nat.le_refl _), List.drop_eq_nil_of_le (by omega)] at hJ
         refine ⟨?_, zJ⟩; clear hnx; first | (simp_all; done) | grind)
  · refine PC.o okC Tryz.func54 rfl (.bool _) fun h nx hnx => ?_
    try simp [-qt, -qd, -ql, rgs]
    repeat' first | done | ((first | ((with_reducible show zT _ _ _ _ _ _); refine zB rfl fun _ => ?_) | ((with_reducible show zG _ _ _ _ _ _ _); refine zC rfl omA omA ?_) | (with_reducible refine zI (i := 6) [(0, [], []), (1, [], []), (2, [], []), (3, [], []), (4, [], []), (5, [], []), (6, [], []), (7, [], []), (8, [], []), (9, [], [])] (by kernel_rfl) ?_)) <;> simp [-qt, -qd, -ql, rgs]) | ((first | (with_reducible refine zA ?_ ?_)) <;> intro qb <;> (have qp := qb; try simp only [psq] at qp) <;> simp [-qt, -qd, -ql, rgs, qb])
    all_goals first | (exfalso; omega) | (symm; rw [beq_eq_false_iff_ne]; intro e; exact hl (by rw [e])) | (intro e; exact hl (by rw [e])) | skip

theorem c_szNodeS {p : Bool} {xs : List Nod} {k : Int} (h0 : 0 ≤ k) (h1 : k ≤ 1048576) : PC ctx.P 24 [.view p 5 (xs.map yZ), .int .i64 k] (.int .i64 (szR xs.length k)) := by
  refine PC.lim (n := xs.length) (x := .view p 5 (xs.map yZ)) (by simp) (.here (by simp)) ⟨_, Tryz.func24, by kernel_rfl, by kernel_rfl⟩ fun hlim => ?_
  simp only [LIM] at hlim
  refine PC.o okC Tryz.func24 rfl (.int _ _) fun h nx hnx => ?_
  try simp [-qt, -qd, -ql, rgs, zF (x := k - (xs.length : Int)) (by omega)]
  repeat' first | done | ((first | ((with_reducible show zT _ _ _ _ _ _); refine zB rfl fun _ => ?_)) <;> simp [-qt, -qd, -ql, rgs, zF (x := k - (xs.length : Int)) (by omega)]) | ((first | (with_reducible refine zA ?_ ?_)) <;> intro qb <;> (have qp := qb; try simp only [psq] at qp) <;> simp [-qt, -qd, -ql, rgs, zF (x := k - (xs.length : Int)) (by omega), qb])
  all_goals (clear hnx; simp only [szR]; split <;> first | omega | (simp; omega))

theorem c_toEvent {x : Evt} : PC ctx.P 128 [.agg (vF x)] (.agg (vF x)) := by
  refine PC.o okC Tryz.func128 rfl (.agg _ (zN5 x)) fun h nx hnx => ?_
  try simp [-qt, -qd, -ql, rgs, vF]

theorem c_eqEvent {x y : Evt} : PC ctx.P 144 [.agg (vF x), .agg (vF y)] (.bool (x == y)) := by
  rw [evt_beq]
  refine PC.o okC Tryz.func144 rfl (.bool _) fun h nx hnx => ?_
  try simp [-qt, -qd, -ql, rgs, vF]
  repeat' first | done | ((first | (with_reducible refine zA ?_ ?_)) <;> intro qb <;> (have qp := qb; try simp only [psq] at qp) <;> simp [-qt, -qd, -ql, rgs, vF, qb])
  all_goals (try clear hnx)
  all_goals first | (simp_all []; done) | (simp_all []; omega) | (rw [Bool.eq_iff_iff]; simp_all []; done) | (rw [Bool.eq_iff_iff]; simp_all []; omega) | omega | (simp only []; grind) | grind

theorem c_eqEventS {p q : Bool} {xs ys : List Evt} : PC ctx.P 55 [.view p 4 (xs.map vF), .view q 4 (ys.map vF)] (.bool (xs == ys)) := by
  refine PC.lim (n := xs.length) (x := .view p 4 (xs.map vF)) (by simp) (.here (by simp)) ⟨_, Tryz.func55, by kernel_rfl, by kernel_rfl⟩ fun hlim => ?_
  by_cases hl : xs.length = ys.length
  · refine PC.o okC Tryz.func55 rfl (.bool _) fun h nx hnx => ?_
    try simp [-qt, -qd, -ql, rgs, hl]
    repeat' first | done | ((first | ((with_reducible show zT _ _ _ _ _ _); refine zB rfl fun _ => ?_) | ((with_reducible show zG _ _ _ _ _ _ _); refine zC rfl omA omA ?_) | (with_reducible refine zI (i := 6) [(0, [], []), (1, [], []), (2, [], []), (3, [], []), (4, [], []), (5, [], []), (6, [], []), (7, [], []), (8, [], []), (9, [], [])] (by kernel_rfl) ?_)) <;> simp [-qt, -qd, -ql, rgs, hl]) | ((first | (with_reducible refine zA ?_ ?_)) <;> intro qb <;> (have qp := qb; try simp only [psq] at qp) <;> simp [-qt, -qd, -ql, rgs, hl, qb])
    refine zV [4, 5, 11, 12, 13, 14, 15, 16, 17, 18, 19, 20, 21, 22, 23, 24, 25, 26] (ys.length) (fun (i : Nat) a => [(5, .int .i64 i)]) (fun i_ a_ h_ _ => (fun i (_ : Unit) _ => (xs.drop i == ys.drop i) = (xs == ys)) i_ a_ h_) (()) (by simp) ?_ zR (Nat.le_refl _) ?_
    · simp
    · intro i a tm h' n' hle hJ hE hn' next hnx
      try dsimp only at hJ
      have hK : KeepB nx h' h := KeepB.sub hE zJ (by omega)
      simp [-qt, -qd, -ql]
      try simp [-qt, -qd, -ql, rgs, hl, vF]
      repeat' first | done | ((first | ((with_reducible show zT _ _ _ _ _ _); refine zB rfl fun _ => ?_) | ((with_reducible show zG _ _ _ _ _ _ _); refine zC rfl omA omA ?_) | ((with_reducible show zE _ _ _ 144 _ _); refine zD (c_eqEvent) ?_) | (with_reducible refine zI (i := 6) [(0, [], []), (1, [], []), (2, [], []), (3, [], []), (4, [], []), (5, [], []), (6, [], []), (7, [], []), (8, [], []), (9, [], [])] (by kernel_rfl) ?_)) <;> simp [-qt, -qd, -ql, rgs, hl, vF]) | ((first | (with_reducible refine zA ?_ ?_)) <;> intro qb <;> (have qp := qb; try simp only [psq] at qp) <;> simp [-qt, -qd, -ql, rgs, hl, vF, qb])
      all_goals first
      | (have hlt : i < xs.length := (by first | omega | (simp at *; omega))
         rw [zS hlt, zS (xs := ys) (i := i) (by omega), List.cons_beq_cons] at hJ
         first
         | (refine hnx.go () ?_ ?_ ?_ ?_ ?_ ?_; omega; (simp [zM hlt hlim]); (simp); exact zJ; (first | omega | (simp; omega)); (try dsimp only); clear hnx; first | (simp_all; done) | grind)
         | (refine ⟨?_, zJ⟩; clear hnx; first | (simp_all; done) | grind)
         | (clear hnx; first | (simp_all; done) | grind))
      | (obtain rfl : i = xs.length := (by first | omega | (simp at *; omega))
         rw [List.drop_eq_nil_of_le (Nat.le_refl _), List.drop_eq_nil_of_le (by omega)] at hJ
         refine ⟨?_, zJ⟩; clear hnx; first | (simp_all; done) | grind)
  · refine PC.o okC Tryz.func55 rfl (.bool _) fun h nx hnx => ?_
    try simp [-qt, -qd, -ql, rgs]
    repeat' first | done | ((first | ((with_reducible show zT _ _ _ _ _ _); refine zB rfl fun _ => ?_) | ((with_reducible show zG _ _ _ _ _ _ _); refine zC rfl omA omA ?_) | (with_reducible refine zI (i := 6) [(0, [], []), (1, [], []), (2, [], []), (3, [], []), (4, [], []), (5, [], []), (6, [], []), (7, [], []), (8, [], []), (9, [], [])] (by kernel_rfl) ?_)) <;> simp [-qt, -qd, -ql, rgs]) | ((first | (with_reducible refine zA ?_ ?_)) <;> intro qb <;> (have qp := qb; try simp only [psq] at qp) <;> simp [-qt, -qd, -ql, rgs, qb])
    all_goals first | (exfalso; omega) | (symm; rw [beq_eq_false_iff_ne]; intro e; exact hl (by rw [e])) | (intro e; exact hl (by rw [e])) | skip

theorem c_szEventS {p : Bool} {xs : List Evt} {k : Int} (h0 : 0 ≤ k) (h1 : k ≤ 1048576) : PC ctx.P 25 [.view p 4 (xs.map vF), .int .i64 k] (.int .i64 (szR xs.length k)) := by
  refine PC.lim (n := xs.length) (x := .view p 4 (xs.map vF)) (by simp) (.here (by simp)) ⟨_, Tryz.func25, by kernel_rfl, by kernel_rfl⟩ fun hlim => ?_
  simp only [LIM] at hlim
  refine PC.o okC Tryz.func25 rfl (.int _ _) fun h nx hnx => ?_
  try simp [-qt, -qd, -ql, rgs, zF (x := k - (xs.length : Int)) (by omega)]
  repeat' first | done | ((first | ((with_reducible show zT _ _ _ _ _ _); refine zB rfl fun _ => ?_)) <;> simp [-qt, -qd, -ql, rgs, zF (x := k - (xs.length : Int)) (by omega)]) | ((first | (with_reducible refine zA ?_ ?_)) <;> intro qb <;> (have qp := qb; try simp only [psq] at qp) <;> simp [-qt, -qd, -ql, rgs, zF (x := k - (xs.length : Int)) (by omega), qb])
  all_goals (clear hnx; simp only [szR]; split <;> first | omega | (simp; omega))

theorem c_toTwig {x : Twg} : PC ctx.P 213 [.agg (zY x)] (.agg (zY x)) := by
  refine PC.o okC Tryz.func213 rfl (.agg _ (yK x)) fun h nx hnx => ?_
  try simp [-qt, -qd, -ql, rgs, zY]

theorem c_eqTwig {x y : Twg} : PC ctx.P 255 [.agg (zY x), .agg (zY y)] (.bool (x == y)) := by
  rw [twg_beq]
  refine PC.o okC Tryz.func255 rfl (.bool _) fun h nx hnx => ?_
  try simp [-qt, -qd, -ql, rgs, zY]
  repeat' first | done | ((first | (with_reducible refine zA ?_ ?_)) <;> intro qb <;> (have qp := qb; try simp only [psq] at qp) <;> simp [-qt, -qd, -ql, rgs, zY, qb])
  all_goals (try clear hnx)
  all_goals first | (simp_all []; done) | (simp_all []; omega) | (rw [Bool.eq_iff_iff]; simp_all []; done) | (rw [Bool.eq_iff_iff]; simp_all []; omega) | omega | (simp only []; grind) | grind

theorem c_eqTwigS {p q : Bool} {xs ys : List Twg} : PC ctx.P 146 [.view p 3 (xs.map zY), .view q 3 (ys.map zY)] (.bool (xs == ys)) := by
  refine PC.lim (n := xs.length) (x := .view p 3 (xs.map zY)) (by simp) (.here (by simp)) ⟨_, Tryz.func146, by kernel_rfl, by kernel_rfl⟩ fun hlim => ?_
  by_cases hl : xs.length = ys.length
  · refine PC.o okC Tryz.func146 rfl (.bool _) fun h nx hnx => ?_
    try simp [-qt, -qd, -ql, rgs, hl]
    repeat' first | done | ((first | ((with_reducible show zT _ _ _ _ _ _); refine zB rfl fun _ => ?_) | ((with_reducible show zG _ _ _ _ _ _ _); refine zC rfl omA omA ?_) | (with_reducible refine zI (i := 6) [(0, [], []), (1, [], []), (2, [], []), (3, [], []), (4, [], []), (5, [], []), (6, [], []), (7, [], []), (8, [], []), (9, [], [])] (by kernel_rfl) ?_)) <;> simp [-qt, -qd, -ql, rgs, hl]) | ((first | (with_reducible refine zA ?_ ?_)) <;> intro qb <;> (have qp := qb; try simp only [psq] at qp) <;> simp [-qt, -qd, -ql, rgs, hl, qb])
    refine zV [4, 5, 11, 12, 13, 14, 15, 16, 17, 18, 19, 20, 21, 22, 23, 24, 25, 26] (ys.length) (fun (i : Nat) a => [(5, .int .i64 i)]) (fun i_ a_ h_ _ => (fun i (_ : Unit) _ => (xs.drop i == ys.drop i) = (xs == ys)) i_ a_ h_) (()) (by simp) ?_ zR (Nat.le_refl _) ?_
    · simp
    · intro i a tm h' n' hle hJ hE hn' next hnx
      try dsimp only at hJ
      have hK : KeepB nx h' h := KeepB.sub hE zJ (by omega)
      simp [-qt, -qd, -ql]
      try simp [-qt, -qd, -ql, rgs, hl, zY]
      repeat' first | done | ((first | ((with_reducible show zT _ _ _ _ _ _); refine zB rfl fun _ => ?_) | ((with_reducible show zG _ _ _ _ _ _ _); refine zC rfl omA omA ?_) | ((with_reducible show zE _ _ _ 255 _ _); refine zD (c_eqTwig) ?_) | (with_reducible refine zI (i := 6) [(0, [], []), (1, [], []), (2, [], []), (3, [], []), (4, [], []), (5, [], []), (6, [], []), (7, [], []), (8, [], []), (9, [], [])] (by kernel_rfl) ?_)) <;> simp [-qt, -qd, -ql, rgs, hl, zY]) | ((first | (with_reducible refine zA ?_ ?_)) <;> intro qb <;> (have qp := qb; try simp only [psq] at qp) <;> simp [-qt, -qd, -ql, rgs, hl, zY, qb])
      all_goals first
      | (have hlt : i < xs.length := (by first | omega | (simp at *; omega))
         rw [zS hlt, zS (xs := ys) (i := i) (by omega), List.cons_beq_cons] at hJ
         first
         | (refine hnx.go () ?_ ?_ ?_ ?_ ?_ ?_; omega; (simp [zM hlt hlim]); (simp); exact zJ; (first | omega | (simp; omega)); (try dsimp only); clear hnx; first | (simp_all; done) | grind)
         | (refine ⟨?_, zJ⟩; clear hnx; first | (simp_all; done) | grind)
         | (clear hnx; first | (simp_all; done) | grind))
      | (obtain rfl : i = xs.length := (by first | omega | (simp at *; omega))
         rw [List.drop_eq_nil_of_le (Nat.le_refl _), List.drop_eq_nil_of_le (by omega)] at hJ
         refine ⟨?_, zJ⟩; clear hnx; first | (simp_all; done) | grind)
  · refine PC.o okC Tryz.func146 rfl (.bool _) fun h nx hnx => ?_
    try simp [-qt, -qd, -ql, rgs]
    repeat' first | done | ((first | ((with_reducible show zT _ _ _ _ _ _); refine zB rfl fun _ => ?_) | ((with_reducible show zG _ _ _ _ _ _ _); refine zC rfl omA omA ?_) | (with_reducible refine zI (i := 6) [(0, [], []), (1, [], []), (2, [], []), (3, [], []), (4, [], []), (5, [], []), (6, [], []), (7, [], []), (8, [], []), (9, [], [])] (by kernel_rfl) ?_)) <;> simp [-qt, -qd, -ql, rgs]) | ((first | (with_reducible refine zA ?_ ?_)) <;> intro qb <;> (have qp := qb; try simp only [psq] at qp) <;> simp [-qt, -qd, -ql, rgs, qb])
    all_goals first | (exfalso; omega) | (symm; rw [beq_eq_false_iff_ne]; intro e; exact hl (by rw [e])) | (intro e; exact hl (by rw [e])) | skip

theorem c_szTwigS {p : Bool} {xs : List Twg} {k : Int} (h0 : 0 ≤ k) (h1 : k ≤ 1048576) : PC ctx.P 99 [.view p 3 (xs.map zY), .int .i64 k] (.int .i64 (szR xs.length k)) := by
  refine PC.lim (n := xs.length) (x := .view p 3 (xs.map zY)) (by simp) (.here (by simp)) ⟨_, Tryz.func99, by kernel_rfl, by kernel_rfl⟩ fun hlim => ?_
  simp only [LIM] at hlim
  refine PC.o okC Tryz.func99 rfl (.int _ _) fun h nx hnx => ?_
  try simp [-qt, -qd, -ql, rgs, zF (x := k - (xs.length : Int)) (by omega)]
  repeat' first | done | ((first | ((with_reducible show zT _ _ _ _ _ _); refine zB rfl fun _ => ?_)) <;> simp [-qt, -qd, -ql, rgs, zF (x := k - (xs.length : Int)) (by omega)]) | ((first | (with_reducible refine zA ?_ ?_)) <;> intro qb <;> (have qp := qb; try simp only [psq] at qp) <;> simp [-qt, -qd, -ql, rgs, zF (x := k - (xs.length : Int)) (by omega), qb])
  all_goals (clear hnx; simp only [szR]; split <;> first | omega | (simp; omega))

theorem c_toTimer {x : Tmr} : PC ctx.P 214 [.agg (yO x)] (.agg (yO x)) := by
  refine PC.o okC Tryz.func214 rfl (.agg _ (zA5 x)) fun h nx hnx => ?_
  try simp [-qt, -qd, -ql, rgs, yO]

theorem c_eqTimer {x y : Tmr} : PC ctx.P 256 [.agg (yO x), .agg (yO y)] (.bool (x == y)) := by
  rw [tmr_beq]
  refine PC.o okC Tryz.func256 rfl (.bool _) fun h nx hnx => ?_
  try simp [-qt, -qd, -ql, rgs, yO]
  repeat' first | done | ((first | (with_reducible refine zA ?_ ?_)) <;> intro qb <;> (have qp := qb; try simp only [psq] at qp) <;> simp [-qt, -qd, -ql, rgs, yO, qb])
  all_goals (try clear hnx)
  all_goals first | (simp_all []; done) | (simp_all []; omega) | (rw [Bool.eq_iff_iff]; simp_all []; done) | (rw [Bool.eq_iff_iff]; simp_all []; omega) | omega | (simp only []; grind) | grind

theorem c_eqTimerS {p q : Bool} {xs ys : List Tmr} : PC ctx.P 147 [.view p 5 (xs.map yO), .view q 5 (ys.map yO)] (.bool (xs == ys)) := by
  refine PC.lim (n := xs.length) (x := .view p 5 (xs.map yO)) (by simp) (.here (by simp)) ⟨_, Tryz.func147, by kernel_rfl, by kernel_rfl⟩ fun hlim => ?_
  by_cases hl : xs.length = ys.length
  · refine PC.o okC Tryz.func147 rfl (.bool _) fun h nx hnx => ?_
    try simp [-qt, -qd, -ql, rgs, hl]
    repeat' first | done | ((first | ((with_reducible show zT _ _ _ _ _ _); refine zB rfl fun _ => ?_) | ((with_reducible show zG _ _ _ _ _ _ _); refine zC rfl omA omA ?_) | (with_reducible refine zI (i := 6) [(0, [], []), (1, [], []), (2, [], []), (3, [], []), (4, [], []), (5, [], []), (6, [], []), (7, [], []), (8, [], []), (9, [], [])] (by kernel_rfl) ?_)) <;> simp [-qt, -qd, -ql, rgs, hl]) | ((first | (with_reducible refine zA ?_ ?_)) <;> intro qb <;> (have qp := qb; try simp only [psq] at qp) <;> simp [-qt, -qd, -ql, rgs, hl, qb])
    refine zV [4, 5, 11, 12, 13, 14, 15, 16, 17, 18, 19, 20, 21, 22, 23, 24, 25, 26] (ys.length) (fun (i : Nat) a => [(5, .int .i64 i)]) (fun i_ a_ h_ _ => (fun i (_ : Unit) _ => (xs.drop i == ys.drop i) = (xs == ys)) i_ a_ h_) (()) (by simp) ?_ zR (Nat.le_refl _) ?_
    · simp
    · intro i a tm h' n' hle hJ hE hn' next hnx
      try dsimp only at hJ
      have hK : KeepB nx h' h := KeepB.sub hE zJ (by omega)
      simp [-qt, -qd, -ql]
      try simp [-qt, -qd, -ql, rgs, hl, yO]
      repeat' first | done | ((first | ((with_reducible show zT _ _ _ _ _ _); refine zB rfl fun _ => ?_) | ((with_reducible show zG _ _ _ _ _ _ _); refine zC rfl omA omA ?_) | ((with_reducible show zE _ _ _ 256 _ _); refine zD (c_eqTimer) ?_) | (with_reducible refine zI (i := 6) [(0, [], []), (1, [], []), (2, [], []), (3, [], []), (4, [], []), (5, [], []), (6, [], []), (7, [], []), (8, [], []), (9, [], [])] (by kernel_rfl) ?_)) <;> simp [-qt, -qd, -ql, rgs, hl, yO]) | ((first | (with_reducible refine zA ?_ ?_)) <;> intro qb <;> (have qp := qb; try simp only [psq] at qp) <;> simp [-qt, -qd, -ql, rgs, hl, yO, qb])
      all_goals first
      | (have hlt : i < xs.length := (by first | omega | (simp at *; omega))
         rw [zS hlt, zS (xs := ys) (i := i) (by omega), List.cons_beq_cons] at hJ
         first
         | (refine hnx.go () ?_ ?_ ?_ ?_ ?_ ?_; omega; (simp [zM hlt hlim]); (simp); exact zJ; (first | omega | (simp; omega)); (try dsimp only); clear hnx; first | (simp_all; done) | grind)
         | (refine ⟨?_, zJ⟩; clear hnx; first | (simp_all; done) | grind)
         | (clear hnx; first | (simp_all; done) | grind))
      | (obtain rfl : i = xs.length := (by first | omega | (simp at *; omega))
         rw [List.drop_eq_nil_of_le (Nat.le_refl _), List.drop_eq_nil_of_le (by omega)] at hJ
         refine ⟨?_, zJ⟩; clear hnx; first | (simp_all; done) | grind)
  · refine PC.o okC Tryz.func147 rfl (.bool _) fun h nx hnx => ?_
    try simp [-qt, -qd, -ql, rgs]
    repeat' first | done | ((first | ((with_reducible show zT _ _ _ _ _ _); refine zB rfl fun _ => ?_) | ((with_reducible show zG _ _ _ _ _ _ _); refine zC rfl omA omA ?_) | (with_reducible refine zI (i := 6) [(0, [], []), (1, [], []), (2, [], []), (3, [], []), (4, [], []), (5, [], []), (6, [], []), (7, [], []), (8, [], []), (9, [], [])] (by kernel_rfl) ?_)) <;> simp [-qt, -qd, -ql, rgs]) | ((first | (with_reducible refine zA ?_ ?_)) <;> intro qb <;> (have qp := qb; try simp only [psq] at qp) <;> simp [-qt, -qd, -ql, rgs, qb])
    all_goals first | (exfalso; omega) | (symm; rw [beq_eq_false_iff_ne]; intro e; exact hl (by rw [e])) | (intro e; exact hl (by rw [e])) | skip

theorem c_szTimerS {p : Bool} {xs : List Tmr} {k : Int} (h0 : 0 ≤ k) (h1 : k ≤ 1048576) : PC ctx.P 100 [.view p 5 (xs.map yO), .int .i64 k] (.int .i64 (szR xs.length k)) := by
  refine PC.lim (n := xs.length) (x := .view p 5 (xs.map yO)) (by simp) (.here (by simp)) ⟨_, Tryz.func100, by kernel_rfl, by kernel_rfl⟩ fun hlim => ?_
  simp only [LIM] at hlim
  refine PC.o okC Tryz.func100 rfl (.int _ _) fun h nx hnx => ?_
  try simp [-qt, -qd, -ql, rgs, zF (x := k - (xs.length : Int)) (by omega)]
  repeat' first | done | ((first | ((with_reducible show zT _ _ _ _ _ _); refine zB rfl fun _ => ?_)) <;> simp [-qt, -qd, -ql, rgs, zF (x := k - (xs.length : Int)) (by omega)]) | ((first | (with_reducible refine zA ?_ ?_)) <;> intro qb <;> (have qp := qb; try simp only [psq] at qp) <;> simp [-qt, -qd, -ql, rgs, zF (x := k - (xs.length : Int)) (by omega), qb])
  all_goals (clear hnx; simp only [szR]; split <;> first | omega | (simp; omega))

theorem c_toAfter {x : Afr} : PC ctx.P 215 [.agg (vM x)] (.agg (vM x)) := by
  refine PC.o okC Tryz.func215 rfl (.agg _ (zB6 x)) fun h nx hnx => ?_
  try simp [-qt, -qd, -ql, rgs, vM, zF6]
  repeat' first | done | ((first | ((with_reducible show zE _ _ _ 283 _ _); refine zD (c_toHandle (x := x.han)) ?_)) <;> simp [-qt, -qd, -ql, rgs, vM, zF6])

theorem c_eqAfter {x y : Afr} : PC ctx.P 257 [.agg (vM x), .agg (vM y)] (.bool (x == y)) := by
  rw [afr_beq]
  refine PC.o okC Tryz.func257 rfl (.bool _) fun h nx hnx => ?_
  try simp [-qt, -qd, -ql, rgs, vM, zF6]
  repeat' first | done | ((first | ((with_reducible show zE _ _ _ 331 _ _); refine zD (c_eqHandle (x := x.han) (y := y.han)) ?_)) <;> simp [-qt, -qd, -ql, rgs, vM, zF6]) | ((first | (with_reducible refine zA ?_ ?_)) <;> intro qb <;> (have qp := qb; try simp only [psq] at qp) <;> simp [-qt, -qd, -ql, rgs, vM, zF6, qb])
  all_goals (try clear hnx)
  all_goals first | (simp_all []; done) | (simp_all []; omega) | (rw [Bool.eq_iff_iff]; simp_all []; done) | (rw [Bool.eq_iff_iff]; simp_all []; omega) | omega | (simp only []; grind) | grind

theorem c_eqAfterS {p q : Bool} {xs ys : List Afr} : PC ctx.P 149 [.view p 5 (xs.map vM), .view q 5 (ys.map vM)] (.bool (xs == ys)) := by
  refine PC.lim (n := xs.length) (x := .view p 5 (xs.map vM)) (by simp) (.here (by simp)) ⟨_, Tryz.func149, by kernel_rfl, by kernel_rfl⟩ fun hlim => ?_
  by_cases hl : xs.length = ys.length
  · refine PC.o okC Tryz.func149 rfl (.bool _) fun h nx hnx => ?_
    try simp [-qt, -qd, -ql, rgs, hl]
    repeat' first | done | ((first | ((with_reducible show zT _ _ _ _ _ _); refine zB rfl fun _ => ?_) | ((with_reducible show zG _ _ _ _ _ _ _); refine zC rfl omA omA ?_) | (with_reducible refine zI (i := 6) [(0, [], []), (1, [], []), (2, [], []), (3, [], []), (4, [], []), (5, [], []), (6, [], []), (7, [], []), (8, [], []), (9, [], [])] (by kernel_rfl) ?_)) <;> simp [-qt, -qd, -ql, rgs, hl]) | ((first | (with_reducible refine zA ?_ ?_)) <;> intro qb <;> (have qp := qb; try simp only [psq] at qp) <;> simp [-qt, -qd, -ql, rgs, hl, qb])
    refine zV [4, 5, 11, 12, 13, 14, 15, 16, 17, 18, 19, 20, 21, 22, 23, 24, 25, 26] (ys.length) (fun (i : Nat) a => [(5, .int .i64 i)]) (fun i_ a_ h_ _ => (fun i (_ : Unit) _ => (xs.drop i == ys.drop i) = (xs == ys)) i_ a_ h_) (()) (by simp) ?_ zR (Nat.le_refl _) ?_
    · simp
    · intro i a tm h' n' hle hJ hE hn' next hnx
      try dsimp only at hJ
      have hK : KeepB nx h' h := KeepB.sub hE zJ (by omega)
      simp [-qt, -qd, -ql]
      try simp [-qt, -qd, -ql, rgs, hl, vM]
      repeat' first | done | ((first | ((with_reducible show zT _ _ _ _ _ _); refine zB rfl fun _ => ?_) | ((with_reducible show zG _ _ _ _ _ _ _); refine zC rfl omA omA ?_) | ((with_reducible show zE _ _ _ 257 _ _); refine zD (c_eqAfter) ?_) | (with_reducible refine zI (i := 6) [(0, [], []), (1, [], []), (2, [], []), (3, [], []), (4, [], []), (5, [], []), (6, [], []), (7, [], []), (8, [], []), (9, [], [])] (by kernel_rfl) ?_)) <;> simp [-qt, -qd, -ql, rgs, hl, vM]) | ((first | (with_reducible refine zA ?_ ?_)) <;> intro qb <;> (have qp := qb; try simp only [psq] at qp) <;> simp [-qt, -qd, -ql, rgs, hl, vM, qb])
      all_goals first
      | (have hlt : i < xs.length := (by first | omega | (simp at *; omega))
         rw [zS hlt, zS (xs := ys) (i := i) (by omega), List.cons_beq_cons] at hJ
         first
         | (refine hnx.go () ?_ ?_ ?_ ?_ ?_ ?_; omega; (simp [zM hlt hlim]); (simp); exact zJ; (first | omega | (simp; omega)); (try dsimp only); clear hnx; first | (simp_all; done) | grind)
         | (refine ⟨?_, zJ⟩; clear hnx; first | (simp_all; done) | grind)
         | (clear hnx; first | (simp_all; done) | grind))
      | (obtain rfl : i = xs.length := (by first | omega | (simp at *; omega))
         rw [List.drop_eq_nil_of_le (Nat.le_refl _), List.drop_eq_nil_of_le (by omega)] at hJ
         refine ⟨?_, zJ⟩; clear hnx; first | (simp_all; done) | grind)
  · refine PC.o okC Tryz.func149 rfl (.bool _) fun h nx hnx => ?_
    try simp [-qt, -qd, -ql, rgs]
    repeat' first | done | ((first | ((with_reducible show zT _ _ _ _ _ _); refine zB rfl fun _ => ?_) | ((with_reducible show zG _ _ _ _ _ _ _); refine zC rfl omA omA ?_) | (with_reducible refine zI (i := 6) [(0, [], []), (1, [], []), (2, [], []), (3, [], []), (4, [], []), (5, [], []), (6, [], []), (7, [], []), (8, [], []), (9, [], [])] (by kernel_rfl) ?_)) <;> simp [-qt, -qd, -ql, rgs]) | ((first | (with_reducible refine zA ?_ ?_)) <;> intro qb <;> (have qp := qb; try simp only [psq] at qp) <;> simp [-qt, -qd, -ql, rgs, qb])
    all_goals first | (exfalso; omega) | (symm; rw [beq_eq_false_iff_ne]; intro e; exact hl (by rw [e])) | (intro e; exact hl (by rw [e])) | skip

theorem c_szAfterS {p : Bool} {xs : List Afr} {k : Int} (h0 : 0 ≤ k) (h1 : k ≤ 1048576) : PC ctx.P 102 [.view p 5 (xs.map vM), .int .i64 k] (.int .i64 (szR xs.length k)) := by
  refine PC.lim (n := xs.length) (x := .view p 5 (xs.map vM)) (by simp) (.here (by simp)) ⟨_, Tryz.func102, by kernel_rfl, by kernel_rfl⟩ fun hlim => ?_
  simp only [LIM] at hlim
  refine PC.o okC Tryz.func102 rfl (.int _ _) fun h nx hnx => ?_
  try simp [-qt, -qd, -ql, rgs, zF (x := k - (xs.length : Int)) (by omega)]
  repeat' first | done | ((first | ((with_reducible show zT _ _ _ _ _ _); refine zB rfl fun _ => ?_)) <;> simp [-qt, -qd, -ql, rgs, zF (x := k - (xs.length : Int)) (by omega)]) | ((first | (with_reducible refine zA ?_ ?_)) <;> intro qb <;> (have qp := qb; try simp only [psq] at qp) <;> simp [-qt, -qd, -ql, rgs, zF (x := k - (xs.length : Int)) (by omega), qb])
  all_goals (clear hnx; simp only [szR]; split <;> first | omega | (simp; omega))

theorem c_toTask {x : Tsk} : PC ctx.P 134 [.agg (vP x)] (.agg (vP x)) := by
  refine PC.o okC Tryz.func134 rfl (.agg _ (tskC_fz x)) fun h nx hnx => ?_
  try simp [-qt, -qd, -ql, rgs, vP]

theorem c_eqTask {x y : Tsk} : PC ctx.P 150 [.agg (vP x), .agg (vP y)] (.bool (x == y)) := by
  rw [tsk_beq]
  refine PC.o okC Tryz.func150 rfl (.bool _) fun h nx hnx => ?_
  try simp [-qt, -qd, -ql, rgs, vP]
  repeat' first | done | ((first | (with_reducible refine zA ?_ ?_)) <;> intro qb <;> (have qp := qb; try simp only [psq] at qp) <;> simp [-qt, -qd, -ql, rgs, vP, qb])
  all_goals (try clear hnx)
  all_goals first | (simp_all []; done) | (simp_all []; omega) | (rw [Bool.eq_iff_iff]; simp_all []; done) | (rw [Bool.eq_iff_iff]; simp_all []; omega) | omega | (simp only []; grind) | grind

theorem c_eqTaskS {p q : Bool} {xs ys : List Tsk} : PC ctx.P 59 [.view p 9 (xs.map vP), .view q 9 (ys.map vP)] (.bool (xs == ys)) := by
  refine PC.lim (n := xs.length) (x := .view p 9 (xs.map vP)) (by simp) (.here (by simp)) ⟨_, Tryz.func59, by kernel_rfl, by kernel_rfl⟩ fun hlim => ?_
  by_cases hl : xs.length = ys.length
  · refine PC.o okC Tryz.func59 rfl (.bool _) fun h nx hnx => ?_
    try simp [-qt, -qd, -ql, rgs, hl]
    repeat' first | done | ((first | ((with_reducible show zT _ _ _ _ _ _); refine zB rfl fun _ => ?_) | ((with_reducible show zG _ _ _ _ _ _ _); refine zC rfl omA omA ?_) | (with_reducible refine zI (i := 6) [(0, [], []), (1, [], []), (2, [], []), (3, [], []), (4, [], []), (5, [], []), (6, [], []), (7, [], []), (8, [], []), (9, [], [])] (by kernel_rfl) ?_)) <;> simp [-qt, -qd, -ql, rgs, hl]) | ((first | (with_reducible refine zA ?_ ?_)) <;> intro qb <;> (have qp := qb; try simp only [psq] at qp) <;> simp [-qt, -qd, -ql, rgs, hl, qb])
    refine zV [4, 5, 11, 12, 13, 14, 15, 16, 17, 18, 19, 20, 21, 22, 23, 24, 25, 26] (ys.length) (fun (i : Nat) a => [(5, .int .i64 i)]) (fun i_ a_ h_ _ => (fun i (_ : Unit) _ => (xs.drop i == ys.drop i) = (xs == ys)) i_ a_ h_) (()) (by simp) ?_ zR (Nat.le_refl _) ?_
    · simp
    · intro i a tm h' n' hle hJ hE hn' next hnx
      try dsimp only at hJ
      have hK : KeepB nx h' h := KeepB.sub hE zJ (by omega)
      simp [-qt, -qd, -ql]
      try simp [-qt, -qd, -ql, rgs, hl, vP]
      repeat' first | done | ((first | ((with_reducible show zT _ _ _ _ _ _); refine zB rfl fun _ => ?_) | ((with_reducible show zG _ _ _ _ _ _ _); refine zC rfl omA omA ?_) | ((with_reducible show zE _ _ _ 150 _ _); refine zD (c_eqTask) ?_) | (with_reducible refine zI (i := 6) [(0, [], []), (1, [], []), (2, [], []), (3, [], []), (4, [], []), (5, [], []), (6, [], []), (7, [], []), (8, [], []), (9, [], [])] (by kernel_rfl) ?_)) <;> simp [-qt, -qd, -ql, rgs, hl, vP]) | ((first | (with_reducible refine zA ?_ ?_)) <;> intro qb <;> (have qp := qb; try simp only [psq] at qp) <;> simp [-qt, -qd, -ql, rgs, hl, vP, qb])
      all_goals first
      | (have hlt : i < xs.length := (by first | omega | (simp at *; omega))
         rw [zS hlt, zS (xs := ys) (i := i) (by omega), List.cons_beq_cons] at hJ
         first
         | (refine hnx.go () ?_ ?_ ?_ ?_ ?_ ?_; omega; (simp [zM hlt hlim]); (simp); exact zJ; (first | omega | (simp; omega)); (try dsimp only); clear hnx; first | (simp_all; done) | grind)
         | (refine ⟨?_, zJ⟩; clear hnx; first | (simp_all; done) | grind)
         | (clear hnx; first | (simp_all; done) | grind))
      | (obtain rfl : i = xs.length := (by first | omega | (simp at *; omega))
         rw [List.drop_eq_nil_of_le (Nat.le_refl _), List.drop_eq_nil_of_le (by omega)] at hJ
         refine ⟨?_, zJ⟩; clear hnx; first | (simp_all; done) | grind)
  · refine PC.o okC Tryz.func59 rfl (.bool _) fun h nx hnx => ?_
    try simp [-qt, -qd, -ql, rgs]
    repeat' first | done | ((first | ((with_reducible show zT _ _ _ _ _ _); refine zB rfl fun _ => ?_) | ((with_reducible show zG _ _ _ _ _ _ _); refine zC rfl omA omA ?_) | (with_reducible refine zI (i := 6) [(0, [], []), (1, [], []), (2, [], []), (3, [], []), (4, [], []), (5, [], []), (6, [], []), (7, [], []), (8, [], []), (9, [], [])] (by kernel_rfl) ?_)) <;> simp [-qt, -qd, -ql, rgs]) | ((first | (with_reducible refine zA ?_ ?_)) <;> intro qb <;> (have qp := qb; try simp only [psq] at qp) <;> simp [-qt, -qd, -ql, rgs, qb])
    all_goals first | (exfalso; omega) | (symm; rw [beq_eq_false_iff_ne]; intro e; exact hl (by rw [e])) | (intro e; exact hl (by rw [e])) | skip

theorem c_szTaskS {p : Bool} {xs : List Tsk} {k : Int} (h0 : 0 ≤ k) (h1 : k ≤ 1048576) : PC ctx.P 29 [.view p 9 (xs.map vP), .int .i64 k] (.int .i64 (szR xs.length k)) := by
  refine PC.lim (n := xs.length) (x := .view p 9 (xs.map vP)) (by simp) (.here (by simp)) ⟨_, Tryz.func29, by kernel_rfl, by kernel_rfl⟩ fun hlim => ?_
  simp only [LIM] at hlim
  refine PC.o okC Tryz.func29 rfl (.int _ _) fun h nx hnx => ?_
  try simp [-qt, -qd, -ql, rgs, zF (x := k - (xs.length : Int)) (by omega)]
  repeat' first | done | ((first | ((with_reducible show zT _ _ _ _ _ _); refine zB rfl fun _ => ?_)) <;> simp [-qt, -qd, -ql, rgs, zF (x := k - (xs.length : Int)) (by omega)]) | ((first | (with_reducible refine zA ?_ ?_)) <;> intro qb <;> (have qp := qb; try simp only [psq] at qp) <;> simp [-qt, -qd, -ql, rgs, zF (x := k - (xs.length : Int)) (by omega), qb])
  all_goals (clear hnx; simp only [szR]; split <;> first | omega | (simp; omega))

theorem c_toSight {x : Sgt} : PC ctx.P 136 [.agg (zA0 x)] (.agg (zA0 x)) := by
  refine PC.o okC Tryz.func136 rfl (.agg _ (sgtC_fz x)) fun h nx hnx => ?_
  try simp [-qt, -qd, -ql, rgs, zA0]

theorem c_eqSight {x y : Sgt} : PC ctx.P 152 [.agg (zA0 x), .agg (zA0 y)] (.bool (x == y)) := by
  rw [sgt_beq]
  refine PC.o okC Tryz.func152 rfl (.bool _) fun h nx hnx => ?_
  try simp [-qt, -qd, -ql, rgs, zA0]
  repeat' first | done | ((first | (with_reducible refine zA ?_ ?_)) <;> intro qb <;> (have qp := qb; try simp only [psq] at qp) <;> simp [-qt, -qd, -ql, rgs, zA0, qb])
  all_goals (try clear hnx)
  all_goals first | (simp_all []; done) | (simp_all []; omega) | (rw [Bool.eq_iff_iff]; simp_all []; done) | (rw [Bool.eq_iff_iff]; simp_all []; omega) | omega | (simp only []; grind) | grind

theorem c_eqSightS {p q : Bool} {xs ys : List Sgt} : PC ctx.P 61 [.view p 4 (xs.map zA0), .view q 4 (ys.map zA0)] (.bool (xs == ys)) := by
  refine PC.lim (n := xs.length) (x := .view p 4 (xs.map zA0)) (by simp) (.here (by simp)) ⟨_, Tryz.func61, by kernel_rfl, by kernel_rfl⟩ fun hlim => ?_
  by_cases hl : xs.length = ys.length
  · refine PC.o okC Tryz.func61 rfl (.bool _) fun h nx hnx => ?_
    try simp [-qt, -qd, -ql, rgs, hl]
    repeat' first | done | ((first | ((with_reducible show zT _ _ _ _ _ _); refine zB rfl fun _ => ?_) | ((with_reducible show zG _ _ _ _ _ _ _); refine zC rfl omA omA ?_) | (with_reducible refine zI (i := 6) [(0, [], []), (1, [], []), (2, [], []), (3, [], []), (4, [], []), (5, [], []), (6, [], []), (7, [], []), (8, [], []), (9, [], [])] (by kernel_rfl) ?_)) <;> simp [-qt, -qd, -ql, rgs, hl]) | ((first | (with_reducible refine zA ?_ ?_)) <;> intro qb <;> (have qp := qb; try simp only [psq] at qp) <;> simp [-qt, -qd, -ql, rgs, hl, qb])
    refine zV [4, 5, 11, 12, 13, 14, 15, 16, 17, 18, 19, 20, 21, 22, 23, 24, 25, 26] (ys.length) (fun (i : Nat) a => [(5, .int .i64 i)]) (fun i_ a_ h_ _ => (fun i (_ : Unit) _ => (xs.drop i == ys.drop i) = (xs == ys)) i_ a_ h_) (()) (by simp) ?_ zR (Nat.le_refl _) ?_
    · simp
    · intro i a tm h' n' hle hJ hE hn' next hnx
      try dsimp only at hJ
      have hK : KeepB nx h' h := KeepB.sub hE zJ (by omega)
      simp [-qt, -qd, -ql]
      try simp [-qt, -qd, -ql, rgs, hl, zA0]
      repeat' first | done | ((first | ((with_reducible show zT _ _ _ _ _ _); refine zB rfl fun _ => ?_) | ((with_reducible show zG _ _ _ _ _ _ _); refine zC rfl omA omA ?_) | ((with_reducible show zE _ _ _ 152 _ _); refine zD (c_eqSight) ?_) | (with_reducible refine zI (i := 6) [(0, [], []), (1, [], []), (2, [], []), (3, [], []), (4, [], []), (5, [], []), (6, [], []), (7, [], []), (8, [], []), (9, [], [])] (by kernel_rfl) ?_)) <;> simp [-qt, -qd, -ql, rgs, hl, zA0]) | ((first | (with_reducible refine zA ?_ ?_)) <;> intro qb <;> (have qp := qb; try simp only [psq] at qp) <;> simp [-qt, -qd, -ql, rgs, hl, zA0, qb])
      all_goals first
      | (have hlt : i < xs.length := (by first | omega | (simp at *; omega))
         rw [zS hlt, zS (xs := ys) (i := i) (by omega), List.cons_beq_cons] at hJ
         first
         | (refine hnx.go () ?_ ?_ ?_ ?_ ?_ ?_; omega; (simp [zM hlt hlim]); (simp); exact zJ; (first | omega | (simp; omega)); (try dsimp only); clear hnx; first | (simp_all; done) | grind)
         | (refine ⟨?_, zJ⟩; clear hnx; first | (simp_all; done) | grind)
         | (clear hnx; first | (simp_all; done) | grind))
      | (obtain rfl : i = xs.length := (by first | omega | (simp at *; omega))
         rw [List.drop_eq_nil_of_le (Nat.le_refl _), List.drop_eq_nil_of_le (by omega)] at hJ
         refine ⟨?_, zJ⟩; clear hnx; first | (simp_all; done) | grind)
  · refine PC.o okC Tryz.func61 rfl (.bool _) fun h nx hnx => ?_
    try simp [-qt, -qd, -ql, rgs]
    repeat' first | done | ((first | ((with_reducible show zT _ _ _ _ _ _); refine zB rfl fun _ => ?_) | ((with_reducible show zG _ _ _ _ _ _ _); refine zC rfl omA omA ?_) | (with_reducible refine zI (i := 6) [(0, [], []), (1, [], []), (2, [], []), (3, [], []), (4, [], []), (5, [], []), (6, [], []), (7, [], []), (8, [], []), (9, [], [])] (by kernel_rfl) ?_)) <;> simp [-qt, -qd, -ql, rgs]) | ((first | (with_reducible refine zA ?_ ?_)) <;> intro qb <;> (have qp := qb; try simp only [psq] at qp) <;> simp [-qt, -qd, -ql, rgs, qb])
    all_goals first | (exfalso; omega) | (symm; rw [beq_eq_false_iff_ne]; intro e; exact hl (by rw [e])) | (intro e; exact hl (by rw [e])) | skip

theorem c_szSightS {p : Bool} {xs : List Sgt} {k : Int} (h0 : 0 ≤ k) (h1 : k ≤ 1048576) : PC ctx.P 31 [.view p 4 (xs.map zA0), .int .i64 k] (.int .i64 (szR xs.length k)) := by
  refine PC.lim (n := xs.length) (x := .view p 4 (xs.map zA0)) (by simp) (.here (by simp)) ⟨_, Tryz.func31, by kernel_rfl, by kernel_rfl⟩ fun hlim => ?_
  simp only [LIM] at hlim
  refine PC.o okC Tryz.func31 rfl (.int _ _) fun h nx hnx => ?_
  try simp [-qt, -qd, -ql, rgs, zF (x := k - (xs.length : Int)) (by omega)]
  repeat' first | done | ((first | ((with_reducible show zT _ _ _ _ _ _); refine zB rfl fun _ => ?_)) <;> simp [-qt, -qd, -ql, rgs, zF (x := k - (xs.length : Int)) (by omega)]) | ((first | (with_reducible refine zA ?_ ?_)) <;> intro qb <;> (have qp := qb; try simp only [psq] at qp) <;> simp [-qt, -qd, -ql, rgs, zF (x := k - (xs.length : Int)) (by omega), qb])
  all_goals (clear hnx; simp only [szR]; split <;> first | omega | (simp; omega))











theorem zL4 {p q : Bool} {xs ys : List Int} : PC ctx.P 62 [.view p 1 (xs.map iv), .view q 1 (ys.map iv)] (.bool (xs == ys)) := by
  refine PC.lim (n := xs.length) (x := .view p 1 (xs.map iv)) (by simp) (.here (by simp)) ⟨_, Tryz.func62, by kernel_rfl, by kernel_rfl⟩ fun hlim => ?_
  by_cases hl : xs.length = ys.length
  · refine PC.o okC Tryz.func62 rfl (.bool _) fun h nx hnx => ?_
    try simp [-qt, -qd, -ql, rgs, hl]
    repeat' first | done | ((first | ((with_reducible show zT _ _ _ _ _ _); refine zB rfl fun _ => ?_) | ((with_reducible show zG _ _ _ _ _ _ _); refine zC rfl omA omA ?_) | (with_reducible refine zI (i := 6) [(0, [], []), (1, [], []), (2, [], []), (3, [], []), (4, [], []), (5, [], []), (6, [], []), (7, [], []), (8, [], [])] (by kernel_rfl) ?_)) <;> simp [-qt, -qd, -ql, rgs, hl]) | ((first | (with_reducible refine zA ?_ ?_)) <;> intro qb <;> (have qp := qb; try simp only [psq] at qp) <;> simp [-qt, -qd, -ql, rgs, hl, qb])
    refine zV [4, 5, 11, 12, 13, 14, 15, 16, 17, 18, 19, 20, 21, 22, 23, 24, 25] (ys.length) (fun (i : Nat) a => [(5, .int .i64 i)]) (fun i_ a_ h_ _ => (fun i (_ : Unit) _ => (xs.drop i == ys.drop i) = (xs == ys)) i_ a_ h_) (()) (by simp) ?_ zR (Nat.le_refl _) ?_
    · simp
    · intro i a tm h' n' hle hJ hE hn' next hnx
      try dsimp only at hJ
      have hK : KeepB nx h' h := KeepB.sub hE zJ (by omega)
      simp [-qt, -qd, -ql]
      try simp [-qt, -qd, -ql, rgs, hl, iv]
      repeat' first | done | ((first | ((with_reducible show zT _ _ _ _ _ _); refine zB rfl fun _ => ?_) | ((with_reducible show zG _ _ _ _ _ _ _); refine zC rfl omA omA ?_) | (with_reducible refine zI (i := 6) [(0, [], []), (1, [], []), (2, [], []), (3, [], []), (4, [], []), (5, [], []), (6, [], []), (7, [], []), (8, [], [])] (by kernel_rfl) ?_)) <;> simp [-qt, -qd, -ql, rgs, hl, iv]) | ((first | (with_reducible refine zA ?_ ?_)) <;> intro qb <;> (have qp := qb; try simp only [psq] at qp) <;> simp [-qt, -qd, -ql, rgs, hl, iv, qb])
      all_goals first
      | (have hlt : i < xs.length := (by first | omega | (simp at *; omega))
         rw [zS hlt, zS (xs := ys) (i := i) (by omega), List.cons_beq_cons] at hJ
         first
         | (refine hnx.go () ?_ ?_ ?_ ?_ ?_ ?_; omega; (simp [zM hlt hlim]); (simp); exact zJ; (first | omega | (simp; omega)); (try dsimp only); clear hnx; first | (simp_all; done) | grind)
         | (refine ⟨?_, zJ⟩; clear hnx; first | (simp_all; done) | grind)
         | (clear hnx; first | (simp_all; done) | grind))
      | (obtain rfl : i = xs.length := (by first | omega | (simp at *; omega))
         rw [List.drop_eq_nil_of_le (Nat.le_refl _), List.drop_eq_nil_of_le (by omega)] at hJ
         refine ⟨?_, zJ⟩; clear hnx; first | (simp_all; done) | grind)
  · refine PC.o okC Tryz.func62 rfl (.bool _) fun h nx hnx => ?_
    try simp [-qt, -qd, -ql, rgs]
    repeat' first | done | ((first | ((with_reducible show zT _ _ _ _ _ _); refine zB rfl fun _ => ?_) | ((with_reducible show zG _ _ _ _ _ _ _); refine zC rfl omA omA ?_) | (with_reducible refine zI (i := 6) [(0, [], []), (1, [], []), (2, [], []), (3, [], []), (4, [], []), (5, [], []), (6, [], []), (7, [], []), (8, [], [])] (by kernel_rfl) ?_)) <;> simp [-qt, -qd, -ql, rgs]) | ((first | (with_reducible refine zA ?_ ?_)) <;> intro qb <;> (have qp := qb; try simp only [psq] at qp) <;> simp [-qt, -qd, -ql, rgs, qb])
    all_goals first | (exfalso; omega) | (symm; rw [beq_eq_false_iff_ne]; intro e; exact hl (by rw [e])) | (intro e; exact hl (by rw [e])) | skip

theorem zL3 {p : Bool} {xs : List Int} {k : Int} (h0 : 0 ≤ k) (h1 : k ≤ 1048576) : PC ctx.P 32 [.view p 1 (xs.map iv), .int .i64 k] (.int .i64 (szR xs.length k)) := by
  refine PC.lim (n := xs.length) (x := .view p 1 (xs.map iv)) (by simp) (.here (by simp)) ⟨_, Tryz.func32, by kernel_rfl, by kernel_rfl⟩ fun hlim => ?_
  simp only [LIM] at hlim
  refine PC.o okC Tryz.func32 rfl (.int _ _) fun h nx hnx => ?_
  try simp [-qt, -qd, -ql, rgs, zF (x := k - (xs.length : Int)) (by omega)]
  repeat' first | done | ((first | ((with_reducible show zT _ _ _ _ _ _); refine zB rfl fun _ => ?_)) <;> simp [-qt, -qd, -ql, rgs, zF (x := k - (xs.length : Int)) (by omega)]) | ((first | (with_reducible refine zA ?_ ?_)) <;> intro qb <;> (have qp := qb; try simp only [psq] at qp) <;> simp [-qt, -qd, -ql, rgs, zF (x := k - (xs.length : Int)) (by omega), qb])
  all_goals (clear hnx; simp only [szR]; split <;> first | omega | (simp; omega))

theorem c_eqBoolS {p q : Bool} {xs ys : List Bool} : PC ctx.P 145 [.view p 1 (xs.map bv), .view q 1 (ys.map bv)] (.bool (xs == ys)) := by
  refine PC.lim (n := xs.length) (x := .view p 1 (xs.map bv)) (by simp) (.here (by simp)) ⟨_, Tryz.func145, by kernel_rfl, by kernel_rfl⟩ fun hlim => ?_
  by_cases hl : xs.length = ys.length
  · refine PC.o okC Tryz.func145 rfl (.bool _) fun h nx hnx => ?_
    try simp [-qt, -qd, -ql, rgs, hl]
    repeat' first | done | ((first | ((with_reducible show zT _ _ _ _ _ _); refine zB rfl fun _ => ?_) | ((with_reducible show zG _ _ _ _ _ _ _); refine zC rfl omA omA ?_) | (with_reducible refine zI (i := 6) [(0, [], []), (1, [], []), (2, [], []), (3, [], []), (4, [], []), (5, [], []), (6, [], []), (7, [], []), (8, [], [])] (by kernel_rfl) ?_)) <;> simp [-qt, -qd, -ql, rgs, hl]) | ((first | (with_reducible refine zA ?_ ?_)) <;> intro qb <;> (have qp := qb; try simp only [psq] at qp) <;> simp [-qt, -qd, -ql, rgs, hl, qb])
    refine zV [4, 5, 11, 12, 13, 14, 15, 16, 17, 18, 19, 20, 21, 22, 23, 24, 25] (ys.length) (fun (i : Nat) a => [(5, .int .i64 i)]) (fun i_ a_ h_ _ => (fun i (_ : Unit) _ => (xs.drop i == ys.drop i) = (xs == ys)) i_ a_ h_) (()) (by simp) ?_ zR (Nat.le_refl _) ?_
    · simp
    · intro i a tm h' n' hle hJ hE hn' next hnx
      try dsimp only at hJ
      have hK : KeepB nx h' h := KeepB.sub hE zJ (by omega)
      simp [-qt, -qd, -ql]
      try simp [-qt, -qd, -ql, rgs, hl, bv]
      repeat' first | done | ((first | ((with_reducible show zT _ _ _ _ _ _); refine zB rfl fun _ => ?_) | ((with_reducible show zG _ _ _ _ _ _ _); refine zC rfl omA omA ?_) | (with_reducible refine zI (i := 6) [(0, [], []), (1, [], []), (2, [], []), (3, [], []), (4, [], []), (5, [], []), (6, [], []), (7, [], []), (8, [], [])] (by kernel_rfl) ?_)) <;> simp [-qt, -qd, -ql, rgs, hl, bv]) | ((first | (with_reducible refine zA ?_ ?_)) <;> intro qb <;> (have qp := qb; try simp only [psq] at qp) <;> simp [-qt, -qd, -ql, rgs, hl, bv, qb])
      all_goals first
      | (have hlt : i < xs.length := (by first | omega | (simp at *; omega))
         rw [zS hlt, zS (xs := ys) (i := i) (by omega), List.cons_beq_cons] at hJ
         first
         | (refine hnx.go () ?_ ?_ ?_ ?_ ?_ ?_; omega; (simp [zM hlt hlim]); (simp); exact zJ; (first | omega | (simp; omega)); (try dsimp only); clear hnx; first | (simp_all; done) | grind)
         | (refine ⟨?_, zJ⟩; clear hnx; first | (simp_all; done) | grind)
         | (clear hnx; first | (simp_all; done) | grind))
      | (obtain rfl : i = xs.length := (by first | omega | (simp at *; omega))
         rw [List.drop_eq_nil_of_le (Nat.le_refl _), List.drop_eq_nil_of_le (by omega)] at hJ
         refine ⟨?_, zJ⟩; clear hnx; first | (simp_all; done) | grind)
  · refine PC.o okC Tryz.func145 rfl (.bool _) fun h nx hnx => ?_
    try simp [-qt, -qd, -ql, rgs]
    repeat' first | done | ((first | ((with_reducible show zT _ _ _ _ _ _); refine zB rfl fun _ => ?_) | ((with_reducible show zG _ _ _ _ _ _ _); refine zC rfl omA omA ?_) | (with_reducible refine zI (i := 6) [(0, [], []), (1, [], []), (2, [], []), (3, [], []), (4, [], []), (5, [], []), (6, [], []), (7, [], []), (8, [], [])] (by kernel_rfl) ?_)) <;> simp [-qt, -qd, -ql, rgs]) | ((first | (with_reducible refine zA ?_ ?_)) <;> intro qb <;> (have qp := qb; try simp only [psq] at qp) <;> simp [-qt, -qd, -ql, rgs, qb])
    all_goals first | (exfalso; omega) | (symm; rw [beq_eq_false_iff_ne]; intro e; exact hl (by rw [e])) | (intro e; exact hl (by rw [e])) | skip

theorem c_szBoolS {p : Bool} {xs : List Bool} {k : Int} (h0 : 0 ≤ k) (h1 : k ≤ 1048576) : PC ctx.P 98 [.view p 1 (xs.map bv), .int .i64 k] (.int .i64 (szR xs.length k)) := by
  refine PC.lim (n := xs.length) (x := .view p 1 (xs.map bv)) (by simp) (.here (by simp)) ⟨_, Tryz.func98, by kernel_rfl, by kernel_rfl⟩ fun hlim => ?_
  simp only [LIM] at hlim
  refine PC.o okC Tryz.func98 rfl (.int _ _) fun h nx hnx => ?_
  try simp [-qt, -qd, -ql, rgs, zF (x := k - (xs.length : Int)) (by omega)]
  repeat' first | done | ((first | ((with_reducible show zT _ _ _ _ _ _); refine zB rfl fun _ => ?_)) <;> simp [-qt, -qd, -ql, rgs, zF (x := k - (xs.length : Int)) (by omega)]) | ((first | (with_reducible refine zA ?_ ?_)) <;> intro qb <;> (have qp := qb; try simp only [psq] at qp) <;> simp [-qt, -qd, -ql, rgs, zF (x := k - (xs.length : Int)) (by omega), qb])
  all_goals (clear hnx; simp only [szR]; split <;> first | omega | (simp; omega))

end Go.AE.Tryz
end

section
/- Contracts of the laws' helpers: worlds. -/
set_option maxRecDepth 8000
set_option maxHeartbeats 4000000
namespace Go.AE.Tryz
open Go.Proofs
open List renaming map_take → qt, map_drop → qd, map_tail → ql
theorem c_eqInsSS {p q p2 q2 : Bool} {xs ys : List (List Inn)} : PC ctx.P 53 [.view p 1 (xs.map (zC2 p2)), .view q 1 (ys.map (zC2 q2))] (.bool (xs == ys)) := by
  refine PC.lim (n := xs.length) (x := .view p 1 (xs.map (zC2 p2))) (by simp) (.here (by simp)) ⟨_, Tryz.func53, by kernel_rfl, by kernel_rfl⟩ fun hlim => ?_
  by_cases hl : xs.length = ys.length
  · refine PC.o okC Tryz.func53 rfl (.bool _) fun h nx hnx => ?_
    try simp [-qt, -qd, -ql, rgs, hl]
    repeat' first | done | ((first | ((with_reducible show zT _ _ _ _ _ _); refine zB rfl fun _ => ?_) | ((with_reducible show zG _ _ _ _ _ _ _); refine zC rfl omA omA ?_) | (with_reducible refine zI (i := 6) [(0, [], []), (1, [], []), (2, [], []), (3, [], []), (4, [], []), (5, [], []), (6, [], []), (7, [], []), (8, [], []), (9, [], [])] (by kernel_rfl) ?_)) <;> simp [-qt, -qd, -ql, rgs, hl]) | ((first | (with_reducible refine zA ?_ ?_)) <;> intro qb <;> (have qp := qb; try simp only [psq] at qp) <;> simp [-qt, -qd, -ql, rgs, hl, qb])
    refine zV [4, 5, 11, 12, 13, 14, 15, 16, 17, 18, 19, 20, 21, 22, 23, 24, 25, 26] (ys.length) (fun (i : Nat) a => [(5, .int .i64 i)]) (fun i_ a_ h_ _ => (fun i (_ : Unit) _ => (xs.drop i == ys.drop i) = (xs == ys)) i_ a_ h_) (()) (by simp) ?_ zR (Nat.le_refl _) ?_
    · simp
    · intro i a tm h' n' hle hJ hE hn' next hnx
      try dsimp only at hJ
      have hK : KeepB nx h' h := KeepB.sub hE zJ (by omega)
      simp [-qt, -qd, -ql]
      try simp [-qt, -qd, -ql, rgs, hl, zC2]
      repeat' first | done | ((first | ((with_reducible show zT _ _ _ _ _ _); refine zB rfl fun _ => ?_) | ((with_reducible show zG _ _ _ _ _ _ _); refine zC rfl omA omA ?_) | ((with_reducible show zE _ _ _ 142 _ _); refine zD (c_eqInsS) ?_) | (with_reducible refine zI (i := 6) [(0, [], []), (1, [], []), (2, [], []), (3, [], []), (4, [], []), (5, [], []), (6, [], []), (7, [], []), (8, [], []), (9, [], [])] (by kernel_rfl) ?_)) <;> simp [-qt, -qd, -ql, rgs, hl, zC2]) | ((first | (with_reducible refine zA ?_ ?_)) <;> intro qb <;> (have qp := qb; try simp only [psq] at qp) <;> simp [-qt, -qd, -ql, rgs, hl, zC2, qb])
      all_goals first
      | (have hlt : i < xs.length := (by first | omega | (simp at *; omega))
         rw [zS hlt, zS (xs := ys) (i := i) (by omega), List.cons_beq_cons] at hJ
         first
         | (refine hnx.go () ?_ ?_ ?_ ?_ ?_ ?_; omega; (simp [zM hlt hlim]); (simp); exact zJ; (first | omega | (simp; omega)); (try dsimp only); clear hnx; first | (simp_all; done) | grind)
         | (refine ⟨?_, zJ⟩; clear hnx; first | (simp_all; done) | grind)
         | (clear hnx; first | (simp_all; done) | grind))
      | (obtain rfl : i = xs.length := (by first | omega | (simp at *; omega))
         rw [List.drop_eq_nil_of_le (Nat.le_refl _), List.drop_eq_nil_of_le (by omega)] at hJ
         refine ⟨?_, zJ⟩; clear hnx; first | (simp_all; done) | grind)
  · refine PC.o okC Tryz.func53 rfl (.bool _) fun h nx hnx => ?_
    try simp [-qt, -qd, -ql, rgs]
    repeat' first | done | ((first | ((with_reducible show zT _ _ _ _ _ _); refine zB rfl fun _ => ?_) | ((with_reducible show zG _ _ _ _ _ _ _); refine zC rfl omA omA ?_) | (with_reducible refine zI (i := 6) [(0, [], []), (1, [], []), (2, [], []), (3, [], []), (4, [], []), (5, [], []), (6, [], []), (7, [], []), (8, [], []), (9, [], [])] (by kernel_rfl) ?_)) <;> simp [-qt, -qd, -ql, rgs]) | ((first | (with_reducible refine zA ?_ ?_)) <;> intro qb <;> (have qp := qb; try simp only [psq] at qp) <;> simp [-qt, -qd, -ql, rgs, qb])
    all_goals first | (exfalso; omega) | (symm; rw [beq_eq_false_iff_ne]; intro e; exact hl (by rw [e])) | (intro e; exact hl (by rw [e])) | skip
theorem c_szInsSS {p r : Bool} {xs : List (List Inn)} {k : Int} (h0 : 0 ≤ k) (h1 : k ≤ 1048576) : PC ctx.P 23 [.view p 1 (xs.map (zC2 r)), .int .i64 k] (.int .i64 (szR (xs.length + zA1 (·.length) xs) k)) := by
  refine PC.lim (n := xs.length) (x := .view p 1 (xs.map (zC2 r))) (by simp) (.here (by simp)) ⟨_, Tryz.func23, by kernel_rfl, by kernel_rfl⟩ fun hlim => ?_
  have hlim' := hlim
  simp only [LIM] at hlim
  refine PC.o okC Tryz.func23 rfl (.int _ _) fun h nx hnx => ?_
  try simp [-qt, -qd, -ql, rgs, zF (x := k - (xs.length : Int)) (by omega)]
  repeat' first | done | ((first | ((with_reducible show zT _ _ _ _ _ _); refine zB rfl fun _ => ?_) | ((with_reducible show zG _ _ _ _ _ _ _); refine zC rfl omA omA ?_)) <;> simp [-qt, -qd, -ql, rgs, zF (x := k - (xs.length : Int)) (by omega)]) | ((first | (with_reducible refine zA ?_ ?_)) <;> intro qb <;> (have qp := qb; try simp only [psq] at qp) <;> simp [-qt, -qd, -ql, rgs, zF (x := k - (xs.length : Int)) (by omega), qb])
  all_goals first | (clear hnx; rcases uX (xs.length + zA1 (·.length) xs) k with q | q <;> omega) | skip
  refine zV [1, 4, 5, 12, 13, 14, 15, 16, 17, 18, 19, 20, 21, 22, 23, 24, 25] (xs.length) (fun (i : Nat) a => [(5, .int .i64 i), (1, .int .i64 a)]) (fun i_ a_ h_ _ => (fun i (a : Int) _ => 0 ≤ a ∧ a ≤ 1048576 ∧ szR (zA1 (·.length) (xs.drop i)) a = szR (xs.length + zA1 (·.length) xs) k) i_ a_ h_) (k - xs.length) (by simp) ?_ zR (Nat.le_refl _) ?_
  · rcases uX (xs.length + zA1 (·.length) xs) k with q | q <;> rcases uX (zA1 (·.length) xs) (k - xs.length) with q' | q' <;> simp <;> omega
  · intro i a tm h' n' hle hJ hE hn' next hnx
    try dsimp only at hJ
    have hK : KeepB nx h' h := KeepB.sub hE zJ (by omega)
    simp [-qt, -qd, -ql]
    try simp [-qt, -qd, -ql, rgs, zC2]
    repeat' first | done | ((first | ((with_reducible show zT _ _ _ _ _ _); refine zB rfl fun _ => ?_) | ((with_reducible show zG _ _ _ _ _ _ _); refine zC rfl omA omA ?_) | ((with_reducible show zE _ _ _ 97 _ _); refine zD (c_szInsS hJ.1 hJ.2.1) ?_)) <;> simp [-qt, -qd, -ql, rgs, zC2]) | ((first | (with_reducible refine zA ?_ ?_)) <;> intro qb <;> (have qp := qb; try simp only [psq] at qp) <;> simp [-qt, -qd, -ql, rgs, zC2, qb])
    · refine ⟨?_, zJ⟩
      obtain ⟨j0, j1, j2⟩ := hJ
      rw [zS (by omega)] at j2
      rw [← j2]
      simp only [zA1]
      rcases uX ((gt xs (i : Int)).length) a with q | q <;> rcases uX ((gt xs (i : Int)).length + zA1 (·.length) (xs.drop (i + 1))) a with q' | q' <;> omega
    · obtain ⟨j0, j1, j2⟩ := hJ
      rw [zS (by omega)] at j2
      refine hnx.go (szR (gt xs (i : Int)).length a) ?_ ?_ ?_ ?_ ?_ ?_
      · omega
      · simp [zM (show i < xs.length by omega) hlim']
      · simp
      · exact zJ
      · first | omega | (simp; omega)
      dsimp only
      rcases uX ((gt xs (i : Int)).length) a with q | q
      · omega
      refine ⟨by omega, by omega, ?_⟩
      rw [← j2]
      simp only [zA1]
      rcases uX (zA1 (·.length) (xs.drop (i + 1))) (szR ((gt xs (i : Int)).length) a) with q1 | q1 <;> rcases uX ((gt xs (i : Int)).length + zA1 (·.length) (xs.drop (i + 1))) a with q' | q' <;> omega
    · refine ⟨?_, zJ⟩
      obtain ⟨j0, j1, j2⟩ := hJ
      rw [List.drop_eq_nil_of_le (by omega)] at j2
      rw [← j2]
      simp only [zA1]
      rcases uX 0 a with q | q <;> omega
theorem c_eqGroup {p q : Bool} {x y : Grp} : PC ctx.P 151 [.agg (yU p x), .agg (yU q y)] (.bool (x == y)) := by
  rw [grp_beq]
  refine PC.o okC Tryz.func151 rfl (.bool _) fun h nx hnx => ?_
  try simp [-qt, -qd, -ql, rgs, yU]
  repeat' first | done | ((first | ((with_reducible show zE _ _ _ 62 _ _); refine zD (zL4) ?_)) <;> simp [-qt, -qd, -ql, rgs, yU]) | ((first | (with_reducible refine zA ?_ ?_)) <;> intro qb <;> (have qp := qb; try simp only [psq] at qp) <;> simp [-qt, -qd, -ql, rgs, yU, qb])
  all_goals (try clear hnx)
  all_goals first | (simp_all []; done) | (simp_all []; omega) | (rw [Bool.eq_iff_iff]; simp_all []; done) | (rw [Bool.eq_iff_iff]; simp_all []; omega) | omega | (simp only []; grind) | grind
theorem c_eqGroupS {p q p2 q2 : Bool} {xs ys : List Grp} : PC ctx.P 60 [.view p 5 (xs.map (yU p2)), .view q 5 (ys.map (yU q2))] (.bool (xs == ys)) := by
  refine PC.lim (n := xs.length) (x := .view p 5 (xs.map (yU p2))) (by simp) (.here (by simp)) ⟨_, Tryz.func60, by kernel_rfl, by kernel_rfl⟩ fun hlim => ?_
  by_cases hl : xs.length = ys.length
  · refine PC.o okC Tryz.func60 rfl (.bool _) fun h nx hnx => ?_
    try simp [-qt, -qd, -ql, rgs, hl]
    repeat' first | done | ((first | ((with_reducible show zT _ _ _ _ _ _); refine zB rfl fun _ => ?_) | ((with_reducible show zG _ _ _ _ _ _ _); refine zC rfl omA omA ?_) | (with_reducible refine zI (i := 6) [(0, [], []), (1, [], []), (2, [], []), (3, [], []), (4, [], []), (5, [], []), (6, [], []), (7, [], []), (8, [], []), (9, [], [])] (by kernel_rfl) ?_)) <;> simp [-qt, -qd, -ql, rgs, hl]) | ((first | (with_reducible refine zA ?_ ?_)) <;> intro qb <;> (have qp := qb; try simp only [psq] at qp) <;> simp [-qt, -qd, -ql, rgs, hl, qb])
    refine zV [4, 5, 11, 12, 13, 14, 15, 16, 17, 18, 19, 20, 21, 22, 23, 24, 25, 26] (ys.length) (fun (i : Nat) a => [(5, .int .i64 i)]) (fun i_ a_ h_ _ => (fun i (_ : Unit) _ => (xs.drop i == ys.drop i) = (xs == ys)) i_ a_ h_) (()) (by simp) ?_ zR (Nat.le_refl _) ?_
    · simp
    · intro i a tm h' n' hle hJ hE hn' next hnx
      try dsimp only at hJ
      have hK : KeepB nx h' h := KeepB.sub hE zJ (by omega)
      simp [-qt, -qd, -ql]
      try simp [-qt, -qd, -ql, rgs, hl]
      repeat' first | done | ((first | ((with_reducible show zT _ _ _ _ _ _); refine zB rfl fun _ => ?_) | ((with_reducible show zG _ _ _ _ _ _ _); refine zC rfl omA omA ?_) | ((with_reducible show zE _ _ _ 151 _ _); refine zD (c_eqGroup) ?_) | (with_reducible refine zI (i := 6) [(0, [], []), (1, [], []), (2, [], []), (3, [], []), (4, [], []), (5, [], []), (6, [], []), (7, [], []), (8, [], []), (9, [], [])] (by kernel_rfl) ?_)) <;> simp [-qt, -qd, -ql, rgs, hl]) | ((first | (with_reducible refine zA ?_ ?_)) <;> intro qb <;> (have qp := qb; try simp only [psq] at qp) <;> simp [-qt, -qd, -ql, rgs, hl, qb])
      all_goals first
      | (have hlt : i < xs.length := (by first | omega | (simp at *; omega))
         rw [zS hlt, zS (xs := ys) (i := i) (by omega), List.cons_beq_cons] at hJ
         first
         | (refine hnx.go () ?_ ?_ ?_ ?_ ?_ ?_; omega; (simp [zM hlt hlim]); (simp); exact zJ; (first | omega | (simp; omega)); (try dsimp only); clear hnx; first | (simp_all; done) | grind)
         | (refine ⟨?_, zJ⟩; clear hnx; first | (simp_all; done) | grind)
         | (clear hnx; first | (simp_all; done) | grind))
      | (obtain rfl : i = xs.length := (by first | omega | (simp at *; omega))
         rw [List.drop_eq_nil_of_le (Nat.le_refl _), List.drop_eq_nil_of_le (by omega)] at hJ
         refine ⟨?_, zJ⟩; clear hnx; first | (simp_all; done) | grind)
  · refine PC.o okC Tryz.func60 rfl (.bool _) fun h nx hnx => ?_
    try simp [-qt, -qd, -ql, rgs]
    repeat' first | done | ((first | ((with_reducible show zT _ _ _ _ _ _); refine zB rfl fun _ => ?_) | ((with_reducible show zG _ _ _ _ _ _ _); refine zC rfl omA omA ?_) | (with_reducible refine zI (i := 6) [(0, [], []), (1, [], []), (2, [], []), (3, [], []), (4, [], []), (5, [], []), (6, [], []), (7, [], []), (8, [], []), (9, [], [])] (by kernel_rfl) ?_)) <;> simp [-qt, -qd, -ql, rgs]) | ((first | (with_reducible refine zA ?_ ?_)) <;> intro qb <;> (have qp := qb; try simp only [psq] at qp) <;> simp [-qt, -qd, -ql, rgs, qb])
    all_goals first | (exfalso; omega) | (symm; rw [beq_eq_false_iff_ne]; intro e; exact hl (by rw [e])) | (intro e; exact hl (by rw [e])) | skip
theorem c_szGroup {p : Bool} {x : Grp} {k : Int} (h0 : 0 ≤ k) (h1 : k ≤ 1048576) : PC ctx.P 103 [.agg (yU p x), .int .i64 k] (.int .i64 (szR x.waits.length k)) := by
  refine PC.o okC Tryz.func103 rfl (.int _ _) fun h nx hnx => ?_
  try simp [-qt, -qd, -ql, rgs, yU]
  repeat' first | done | ((first | ((with_reducible show zE _ _ _ 32 _ _); refine zD (zL3 h0 h1) ?_)) <;> simp [-qt, -qd, -ql, rgs, yU]) | ((first | (with_reducible refine zA ?_ ?_)) <;> intro qb <;> (have qp := qb; try simp only [psq] at qp) <;> simp [-qt, -qd, -ql, rgs, yU, qb])
  all_goals (clear hnx; rcases uX x.waits.length k with q | q <;> omega)
theorem c_szGroupS {p r : Bool} {xs : List Grp} {k : Int} (h0 : 0 ≤ k) (h1 : k ≤ 1048576) : PC ctx.P 30 [.view p 5 (xs.map (yU r)), .int .i64 k] (.int .i64 (szR (xs.length + zA1 (·.waits.length) xs) k)) := by
  refine PC.lim (n := xs.length) (x := .view p 5 (xs.map (yU r))) (by simp) (.here (by simp)) ⟨_, Tryz.func30, by kernel_rfl, by kernel_rfl⟩ fun hlim => ?_
  have hlim' := hlim
  simp only [LIM] at hlim
  refine PC.o okC Tryz.func30 rfl (.int _ _) fun h nx hnx => ?_
  try simp [-qt, -qd, -ql, rgs, zF (x := k - (xs.length : Int)) (by omega)]
  repeat' first | done | ((first | ((with_reducible show zT _ _ _ _ _ _); refine zB rfl fun _ => ?_) | ((with_reducible show zG _ _ _ _ _ _ _); refine zC rfl omA omA ?_)) <;> simp [-qt, -qd, -ql, rgs, zF (x := k - (xs.length : Int)) (by omega)]) | ((first | (with_reducible refine zA ?_ ?_)) <;> intro qb <;> (have qp := qb; try simp only [psq] at qp) <;> simp [-qt, -qd, -ql, rgs, zF (x := k - (xs.length : Int)) (by omega), qb])
  all_goals first | (clear hnx; rcases uX (xs.length + zA1 (·.waits.length) xs) k with q | q <;> omega) | skip
  refine zV [1, 4, 5, 12, 13, 14, 15, 16, 17, 18, 19, 20, 21, 22, 23, 24, 25] (xs.length) (fun (i : Nat) a => [(5, .int .i64 i), (1, .int .i64 a)]) (fun i_ a_ h_ _ => (fun i (a : Int) _ => 0 ≤ a ∧ a ≤ 1048576 ∧ szR (zA1 (·.waits.length) (xs.drop i)) a = szR (xs.length + zA1 (·.waits.length) xs) k) i_ a_ h_) (k - xs.length) (by simp) ?_ zR (Nat.le_refl _) ?_
  · rcases uX (xs.length + zA1 (·.waits.length) xs) k with q | q <;> rcases uX (zA1 (·.waits.length) xs) (k - xs.length) with q' | q' <;> simp <;> omega
  · intro i a tm h' n' hle hJ hE hn' next hnx
    try dsimp only at hJ
    have hK : KeepB nx h' h := KeepB.sub hE zJ (by omega)
    simp [-qt, -qd, -ql]
    try simp [-qt, -qd, -ql, rgs]
    repeat' first | done | ((first | ((with_reducible show zT _ _ _ _ _ _); refine zB rfl fun _ => ?_) | ((with_reducible show zG _ _ _ _ _ _ _); refine zC rfl omA omA ?_) | ((with_reducible show zE _ _ _ 103 _ _); refine zD (c_szGroup hJ.1 hJ.2.1) ?_)) <;> simp [-qt, -qd, -ql, rgs]) | ((first | (with_reducible refine zA ?_ ?_)) <;> intro qb <;> (have qp := qb; try simp only [psq] at qp) <;> simp [-qt, -qd, -ql, rgs, qb])
    · refine ⟨?_, zJ⟩
      obtain ⟨j0, j1, j2⟩ := hJ
      rw [zS (by omega)] at j2
      rw [← j2]
      simp only [zA1]
      rcases uX ((gt xs (i : Int)).waits.length) a with q | q <;> rcases uX ((gt xs (i : Int)).waits.length + zA1 (·.waits.length) (xs.drop (i + 1))) a with q' | q' <;> omega
    · obtain ⟨j0, j1, j2⟩ := hJ
      rw [zS (by omega)] at j2
      refine hnx.go (szR (gt xs (i : Int)).waits.length a) ?_ ?_ ?_ ?_ ?_ ?_
      · omega
      · simp [zM (show i < xs.length by omega) hlim']
      · simp
      · exact zJ
      · first | omega | (simp; omega)
      dsimp only
      rcases uX ((gt xs (i : Int)).waits.length) a with q | q
      · omega
      refine ⟨by omega, by omega, ?_⟩
      rw [← j2]
      simp only [zA1]
      rcases uX (zA1 (·.waits.length) (xs.drop (i + 1))) (szR ((gt xs (i : Int)).waits.length) a) with q1 | q1 <;> rcases uX ((gt xs (i : Int)).waits.length + zA1 (·.waits.length) (xs.drop (i + 1))) a with q' | q' <;> omega
    · refine ⟨?_, zJ⟩
      obtain ⟨j0, j1, j2⟩ := hJ
      rw [List.drop_eq_nil_of_le (by omega)] at j2
      rw [← j2]
      simp only [zA1]
      rcases uX 0 a with q | q <;> omega

end Go.AE.Tryz
end

section
/- Contracts of the laws' helpers: worlds. -/
set_option maxRecDepth 8000
set_option maxHeartbeats 4000000
namespace Go.AE.Tryz
open Go.Proofs
open List renaming map_take → qt, map_drop → qd, map_tail → ql
theorem c_eqSlots {F1 F2 : Nat → Bool} {x y : Slt} : PC ctx.P 148 [.agg (uC F1 x), .agg (uC F2 y)] (.bool (x == y)) := by
  rw [slt_beq]
  refine PC.o okC Tryz.func148 rfl (.bool _) fun h nx hnx => ?_
  try simp [-qt, -qd, -ql, rgs, uC]
  repeat' first | done | ((first | ((with_reducible show zE _ _ _ 62 _ _); refine zD (zL4) ?_) | ((with_reducible show zE _ _ _ 145 _ _); refine zD (c_eqBoolS) ?_)) <;> simp [-qt, -qd, -ql, rgs, uC]) | ((first | (with_reducible refine zA ?_ ?_)) <;> intro qb <;> (have qp := qb; try simp only [psq] at qp) <;> simp [-qt, -qd, -ql, rgs, uC, qb])
  all_goals (try clear hnx)
  all_goals first | (simp_all []; done) | (simp_all []; omega) | (rw [Bool.eq_iff_iff]; simp_all []; done) | (rw [Bool.eq_iff_iff]; simp_all []; omega) | omega | (simp only []; grind) | grind
theorem c_szSlots {F : Nat → Bool} {s : Slt} {k : Int} (h0 : 0 ≤ k) (h1 : k ≤ 1048576) : PC ctx.P 101 [.agg (uC F s), .int .i64 k] (.int .i64 (szR (sltsz s) k)) := by
  rw [slt_szN s h0]
  refine PC.o okC Tryz.func101 rfl (.int _ _) fun h nx hnx => ?_
  try simp [-qt, -qd, -ql, rgs, uC]
  repeat' first | done | ((first | ((with_reducible show zE _ _ _ 32 _ _); refine zD (zL3 (by first | assumption | omega) (by repeat (first | assumption | apply zE4))) ?_) | ((with_reducible show zE _ _ _ 98 _ _); refine zD (c_szBoolS (by first | assumption | omega) (by repeat (first | assumption | apply zE4))) ?_)) <;> simp [-qt, -qd, -ql, rgs, uC]) | ((first | (with_reducible refine zA ?_ ?_)) <;> intro qb <;> (have qp := qb; try simp only [psq] at qp) <;> simp [-qt, -qd, -ql, rgs, uC, qb])
  all_goals (clear hnx; simp only [szN]; repeat (first | rw [if_pos (by omega)] | rw [if_neg (by omega)]))

theorem c_eqSpread {F1 F2 : Nat → Bool} {x y : Spr} : PC ctx.P 56 [.agg (zF3 F1 x), .agg (zF3 F2 y)] (.bool (x == y)) := by
  rw [spr_beq]
  refine PC.o okC Tryz.func56 rfl (.bool _) fun h nx hnx => ?_
  try simp [-qt, -qd, -ql, rgs, zF3]
  repeat' first | done | ((first | ((with_reducible show zE _ _ _ 145 _ _); refine zD (c_eqBoolS) ?_) | ((with_reducible show zE _ _ _ 62 _ _); refine zD (zL4) ?_)) <;> simp [-qt, -qd, -ql, rgs, zF3]) | ((first | (with_reducible refine zA ?_ ?_)) <;> intro qb <;> (have qp := qb; try simp only [psq] at qp) <;> simp [-qt, -qd, -ql, rgs, zF3, qb])
  all_goals (try clear hnx)
  all_goals first | (simp_all []; done) | (simp_all []; omega) | (rw [Bool.eq_iff_iff]; simp_all []; done) | (rw [Bool.eq_iff_iff]; simp_all []; omega) | omega | (simp only []; grind) | grind
theorem c_szSpread {F : Nat → Bool} {s : Spr} {k : Int} (h0 : 0 ≤ k) (h1 : k ≤ 1048576) : PC ctx.P 26 [.agg (zF3 F s), .int .i64 k] (.int .i64 (szR (sprsz s) k)) := by
  rw [spr_szN s h0]
  refine PC.o okC Tryz.func26 rfl (.int _ _) fun h nx hnx => ?_
  try simp [-qt, -qd, -ql, rgs, zF3]
  repeat' first | done | ((first | ((with_reducible show zE _ _ _ 98 _ _); refine zD (c_szBoolS (by first | assumption | omega) (by repeat (first | assumption | apply zE4))) ?_) | ((with_reducible show zE _ _ _ 32 _ _); refine zD (zL3 (by first | assumption | omega) (by repeat (first | assumption | apply zE4))) ?_)) <;> simp [-qt, -qd, -ql, rgs, zF3]) | ((first | (with_reducible refine zA ?_ ?_)) <;> intro qb <;> (have qp := qb; try simp only [psq] at qp) <;> simp [-qt, -qd, -ql, rgs, zF3, qb])
  all_goals (clear hnx; simp only [szN]; repeat (first | rw [if_pos (by omega)] | rw [if_neg (by omega)]))

theorem c_eqTimers {F1 F2 : Nat → Bool} {x y : Tms} : PC ctx.P 57 [.agg (vQ F1 x), .agg (vQ F2 y)] (.bool (x == y)) := by
  rw [tms_beq]
  refine PC.o okC Tryz.func57 rfl (.bool _) fun h nx hnx => ?_
  try simp [-qt, -qd, -ql, rgs, vQ]
  repeat' first | done | ((first | ((with_reducible show zE _ _ _ 146 _ _); refine zD (c_eqTwigS) ?_) | ((with_reducible show zE _ _ _ 147 _ _); refine zD (c_eqTimerS) ?_)) <;> simp [-qt, -qd, -ql, rgs, vQ]) | ((first | (with_reducible refine zA ?_ ?_)) <;> intro qb <;> (have qp := qb; try simp only [psq] at qp) <;> simp [-qt, -qd, -ql, rgs, vQ, qb])
  all_goals (try clear hnx)
  all_goals first | (simp_all []; done) | (simp_all []; omega) | (rw [Bool.eq_iff_iff]; simp_all []; done) | (rw [Bool.eq_iff_iff]; simp_all []; omega) | omega | (simp only []; grind) | grind
theorem c_szTimers {F : Nat → Bool} {s : Tms} {k : Int} (h0 : 0 ≤ k) (h1 : k ≤ 1048576) : PC ctx.P 27 [.agg (vQ F s), .int .i64 k] (.int .i64 (szR (tmssz s) k)) := by
  rw [tms_szN s h0]
  refine PC.o okC Tryz.func27 rfl (.int _ _) fun h nx hnx => ?_
  try simp [-qt, -qd, -ql, rgs, vQ]
  repeat' first | done | ((first | ((with_reducible show zE _ _ _ 99 _ _); refine zD (c_szTwigS (by first | assumption | omega) (by repeat (first | assumption | apply zE4))) ?_) | ((with_reducible show zE _ _ _ 100 _ _); refine zD (c_szTimerS (by first | assumption | omega) (by repeat (first | assumption | apply zE4))) ?_)) <;> simp [-qt, -qd, -ql, rgs, vQ]) | ((first | (with_reducible refine zA ?_ ?_)) <;> intro qb <;> (have qp := qb; try simp only [psq] at qp) <;> simp [-qt, -qd, -ql, rgs, vQ, qb])
  all_goals (clear hnx; simp only [szN]; repeat (first | rw [if_pos (by omega)] | rw [if_neg (by omega)]))

theorem c_eqAfters {F1 F2 : Nat → Bool} {x y : Afs} : PC ctx.P 58 [.agg (zB4 F1 x), .agg (zB4 F2 y)] (.bool (x == y)) := by
  rw [afs_beq]
  refine PC.o okC Tryz.func58 rfl (.bool _) fun h nx hnx => ?_
  try simp [-qt, -qd, -ql, rgs, zB4, uC]
  repeat' first | done | ((first | ((with_reducible show zE _ _ _ 148 _ _); refine zD (c_eqSlots (x := x.slots) (y := y.slots) (F1 := F1) (F2 := F2)) ?_) | ((with_reducible show zE _ _ _ 149 _ _); refine zD (c_eqAfterS) ?_)) <;> simp [-qt, -qd, -ql, rgs, zB4, uC]) | ((first | (with_reducible refine zA ?_ ?_)) <;> intro qb <;> (have qp := qb; try simp only [psq] at qp) <;> simp [-qt, -qd, -ql, rgs, zB4, uC, qb])
  all_goals (try clear hnx)
  all_goals first | (simp_all []; done) | (simp_all []; omega) | (rw [Bool.eq_iff_iff]; simp_all []; done) | (rw [Bool.eq_iff_iff]; simp_all []; omega) | omega | (simp only []; grind) | grind
theorem c_szAfters {F : Nat → Bool} {s : Afs} {k : Int} (h0 : 0 ≤ k) (h1 : k ≤ 1048576) : PC ctx.P 28 [.agg (zB4 F s), .int .i64 k] (.int .i64 (szR (afssz s) k)) := by
  rw [afs_szN s h0]
  refine PC.o okC Tryz.func28 rfl (.int _ _) fun h nx hnx => ?_
  try simp [-qt, -qd, -ql, rgs, zB4, uC]
  repeat' first | done | ((first | ((with_reducible show zE _ _ _ 101 _ _); refine zD (c_szSlots (s := s.slots) (F := F) (by first | assumption | omega) (by repeat (first | assumption | apply zE4))) ?_) | ((with_reducible show zE _ _ _ 102 _ _); refine zD (c_szAfterS (by first | assumption | omega) (by repeat (first | assumption | apply zE4))) ?_)) <;> simp [-qt, -qd, -ql, rgs, zB4, uC]) | ((first | (with_reducible refine zA ?_ ?_)) <;> intro qb <;> (have qp := qb; try simp only [psq] at qp) <;> simp [-qt, -qd, -ql, rgs, zB4, uC, qb])
  all_goals (clear hnx; simp only [szN]; repeat (first | rw [if_pos (by omega)] | rw [if_neg (by omega)]))

theorem zO5 {F1 F2 : Nat → Bool} {x y : Wld} : PC ctx.P 12 [.agg (wldV F1 x), .agg (wldV F2 y)] (.bool (x == y)) := by
  rw [wld_beq]
  refine PC.o okC Tryz.func12 rfl (.bool _) fun h nx hnx => ?_
  try simp [-qt, -qd, -ql, rgs, wldV, uC, zF3, vQ, zB4]
  repeat' first | done | ((first | ((with_reducible show zE _ _ _ 53 _ _); refine zD (c_eqInsSS) ?_) | ((with_reducible show zE _ _ _ 54 _ _); refine zD (c_eqNodeS) ?_) | ((with_reducible show zE _ _ _ 55 _ _); refine zD (c_eqEventS) ?_) | ((with_reducible show zE _ _ _ 56 _ _); refine zD (c_eqSpread (x := x.spread) (y := y.spread) (F1 := F1) (F2 := F2)) ?_) | ((with_reducible show zE _ _ _ 57 _ _); refine zD (c_eqTimers (x := x.timers) (y := y.timers) (F1 := F1) (F2 := F2)) ?_) | ((with_reducible show zE _ _ _ 58 _ _); refine zD (c_eqAfters (x := x.afters) (y := y.afters) (F1 := F1) (F2 := F2)) ?_) | ((with_reducible show zE _ _ _ 59 _ _); refine zD (c_eqTaskS) ?_) | ((with_reducible show zE _ _ _ 60 _ _); refine zD (c_eqGroupS) ?_) | ((with_reducible show zE _ _ _ 61 _ _); refine zD (c_eqSightS) ?_) | ((with_reducible show zE _ _ _ 62 _ _); refine zD (zL4) ?_)) <;> simp [-qt, -qd, -ql, rgs, wldV, uC, zF3, vQ, zB4]) | ((first | (with_reducible refine zA ?_ ?_)) <;> intro qb <;> (have qp := qb; try simp only [psq] at qp) <;> simp [-qt, -qd, -ql, rgs, wldV, uC, zF3, vQ, zB4, qb])
  all_goals (try clear hnx)
  all_goals first | (simp_all []; done) | (simp_all []; omega) | (rw [Bool.eq_iff_iff]; simp_all []; done) | (rw [Bool.eq_iff_iff]; simp_all []; omega) | omega | (simp only []; grind) | grind
theorem c_szWorld {F : Nat → Bool} {s : Wld} {k : Int} (h0 : 0 ≤ k) (h1 : k ≤ 1048576) : PC ctx.P 8 [.agg (wldV F s), .int .i64 k] (.int .i64 (szR (zC9 s) k)) := by
  rw [wld_szN s h0]
  refine PC.o okC Tryz.func8 rfl (.int _ _) fun h nx hnx => ?_
  try simp [-qt, -qd, -ql, rgs, wldV, uC, zF3, vQ, zB4]
  repeat' first | done | ((first | ((with_reducible show zE _ _ _ 23 _ _); refine zD (c_szInsSS (by first | assumption | omega) (by repeat (first | assumption | apply zE4))) ?_) | ((with_reducible show zE _ _ _ 24 _ _); refine zD (c_szNodeS (by first | assumption | omega) (by repeat (first | assumption | apply zE4))) ?_) | ((with_reducible show zE _ _ _ 25 _ _); refine zD (c_szEventS (by first | assumption | omega) (by repeat (first | assumption | apply zE4))) ?_) | ((with_reducible show zE _ _ _ 26 _ _); refine zD (c_szSpread (s := s.spread) (F := F) (by first | assumption | omega) (by repeat (first | assumption | apply zE4))) ?_) | ((with_reducible show zE _ _ _ 27 _ _); refine zD (c_szTimers (s := s.timers) (F := F) (by first | assumption | omega) (by repeat (first | assumption | apply zE4))) ?_) | ((with_reducible show zE _ _ _ 28 _ _); refine zD (c_szAfters (s := s.afters) (F := F) (by first | assumption | omega) (by repeat (first | assumption | apply zE4))) ?_) | ((with_reducible show zE _ _ _ 29 _ _); refine zD (c_szTaskS (by first | assumption | omega) (by repeat (first | assumption | apply zE4))) ?_) | ((with_reducible show zE _ _ _ 30 _ _); refine zD (c_szGroupS (by first | assumption | omega) (by repeat (first | assumption | apply zE4))) ?_) | ((with_reducible show zE _ _ _ 31 _ _); refine zD (c_szSightS (by first | assumption | omega) (by repeat (first | assumption | apply zE4))) ?_) | ((with_reducible show zE _ _ _ 32 _ _); refine zD (zL3 (by first | assumption | omega) (by repeat (first | assumption | apply zE4))) ?_)) <;> simp [-qt, -qd, -ql, rgs, wldV, uC, zF3, vQ, zB4]) | ((first | (with_reducible refine zA ?_ ?_)) <;> intro qb <;> (have qp := qb; try simp only [psq] at qp) <;> simp [-qt, -qd, -ql, rgs, wldV, uC, zF3, vQ, zB4, qb])
  all_goals (clear hnx; simp only [szN]; repeat (first | rw [if_pos (by omega)] | rw [if_neg (by omega)]))

end Go.AE.Tryz
end

section
/- Contracts of the laws' copies as new rows. -/
set_option maxRecDepth 8000
set_option maxHeartbeats 2000000
namespace Go.AE.Tryz
open Go.Proofs
open List renaming map_take → qt, map_drop → qd, map_tail → ql


theorem f_toInsS {p : Bool} {xs : List Inn} (hm : xs.length ≤ yM) : FC ctx.P 126 [.view p 3 (xs.map vV)] (.ref 0 3 0 (xs.map vV).length) [.row 3 (xs.map vV)] := by
  have hlim : xs.length ≤ LIM := by simp only [yM, LIM] at *; omega
  refine FC.o1 okC Tryz.func126 rfl (zP innC_fz xs) fun h nx hnx => ?_
  try simp [-qt, -qd, -ql, rgs, hm]
  repeat' first | done | ((first | ((with_reducible show zT _ _ _ _ _ _); refine zB rfl fun _ => ?_) | ((with_reducible show zG _ _ _ _ _ _ _); refine zC rfl omA omA ?_)) <;> simp [-qt, -qd, -ql, rgs, hm]) | ((first | (with_reducible refine zA ?_ ?_)) <;> intro qb <;> (have qp := qb; try simp only [psq] at qp) <;> simp [-qt, -qd, -ql, rgs, hm, qb])
  refine zV (h0 := h) (nx0 := nx) [4, 8, 9, 10, 11, 12, 13, 14, 15, 16, 17, 18, 19, 20, 21] (xs.length) (fun (i : Nat) a => [(4, .int .i64 i)]) (fun i (_ : Unit) h' n' => h' (nx + 3) = some (.row 3 (zG0 vV [.int .i64 0, .int .i64 0, .int .i64 0] xs i)) ∧ nx + 4 ≤ n') (()) (by simp) ?_ zJ (by omega) ?_
  · simp [zH5]
  · intro i a tm h' n' hle hJ hE hn' next hnx
    try dsimp only at hJ
    have hK : KeepB nx h' h := KeepB.sub hE zJ (by omega)
    simp [-qt, -qd, -ql]
    obtain ⟨hJ, hJn⟩ := hJ
    try simp [-qt, -qd, -ql, rgs, hJ]
    repeat' first | done | ((first | ((with_reducible show zT _ _ _ _ _ _); refine zB rfl fun _ => ?_) | ((with_reducible show zG _ _ _ _ _ _ _); refine zC rfl omA omA ?_) | ((with_reducible show zE _ _ _ 212 _ _); refine zD (c_toIns) ?_) | ((with_reducible show zG _ _ _ _ (.ref _ _ _ _) _ _); refine yI rfl omA omA ?_) | ((with_reducible show vW _ _ _ _ _ _ _ _ _); refine uN hJ (by first | rfl | (simp; done)) (by simp) (by rfl) (by rfl) (by rfl) (by omega) ?_)) <;> simp [-qt, -qd, -ql, rgs, hJ]) | ((first | (with_reducible refine zA ?_ ?_)) <;> intro qb <;> (have qp := qb; try simp only [psq] at qp) <;> simp [-qt, -qd, -ql, rgs, hJ, qb])
    all_goals first
      | (have hlt : i < xs.length := (by first | omega | (simp at *; omega)); refine hnx.go () (by omega) (by simp [zM hlt hlim]) (by simp) zJ (by first | omega | (simp; omega)) ?_; (try dsimp only); refine ⟨by simp, by first | omega | (simp; omega)⟩)
      | (rw [zE6 (by first | omega | (simp at *; omega))] at hJ; exact yN zJ (by first | omega | (simp; omega)) (by omega) (by simp [hJ]) rfl (by simp))

theorem f_toNodeS {p : Bool} {xs : List Nod} (hm : xs.length ≤ yM) : FC ctx.P 39 [.view p 5 (xs.map yZ)] (.ref 0 5 0 (xs.map yZ).length) [.row 5 (xs.map yZ)] := by
  have hlim : xs.length ≤ LIM := by simp only [yM, LIM] at *; omega
  refine FC.o1 okC Tryz.func39 rfl (zP nodC_fz xs) fun h nx hnx => ?_
  try simp [-qt, -qd, -ql, rgs, hm]
  repeat' first | done | ((first | ((with_reducible show zT _ _ _ _ _ _); refine zB rfl fun _ => ?_) | ((with_reducible show zG _ _ _ _ _ _ _); refine zC rfl omA omA ?_)) <;> simp [-qt, -qd, -ql, rgs, hm]) | ((first | (with_reducible refine zA ?_ ?_)) <;> intro qb <;> (have qp := qb; try simp only [psq] at qp) <;> simp [-qt, -qd, -ql, rgs, hm, qb])
  refine zV (h0 := h) (nx0 := nx) [4, 8, 9, 10, 11, 12, 13, 14, 15, 16, 17, 18, 19, 20, 21] (xs.length) (fun (i : Nat) a => [(4, .int .i64 i)]) (fun i (_ : Unit) h' n' => h' (nx + 3) = some (.row 5 (zG0 yZ [.int .i64 0, .int .i64 0, .int .i64 0, .int .i64 0, .int .i64 0] xs i)) ∧ nx + 4 ≤ n') (()) (by simp) ?_ zJ (by omega) ?_
  · simp [zH5]
  · intro i a tm h' n' hle hJ hE hn' next hnx
    try dsimp only at hJ
    have hK : KeepB nx h' h := KeepB.sub hE zJ (by omega)
    simp [-qt, -qd, -ql]
    obtain ⟨hJ, hJn⟩ := hJ
    try simp [-qt, -qd, -ql, rgs, hJ]
    repeat' first | done | ((first | ((with_reducible show zT _ _ _ _ _ _); refine zB rfl fun _ => ?_) | ((with_reducible show zG _ _ _ _ _ _ _); refine zC rfl omA omA ?_) | ((with_reducible show zE _ _ _ 127 _ _); refine zD (c_toNode) ?_) | ((with_reducible show zG _ _ _ _ (.ref _ _ _ _) _ _); refine yI rfl omA omA ?_) | ((with_reducible show vW _ _ _ _ _ _ _ _ _); refine uN hJ (by first | rfl | (simp; done)) (by simp) (by rfl) (by rfl) (by rfl) (by omega) ?_)) <;> simp [-qt, -qd, -ql, rgs, hJ]) | ((first | (with_reducible refine zA ?_ ?_)) <;> intro qb <;> (have qp := qb; try simp only [psq] at qp) <;> simp [-qt, -qd, -ql, rgs, hJ, qb])
    all_goals first
      | (have hlt : i < xs.length := (by first | omega | (simp at *; omega)); refine hnx.go () (by omega) (by simp [zM hlt hlim]) (by simp) zJ (by first | omega | (simp; omega)) ?_; (try dsimp only); refine ⟨by simp, by first | omega | (simp; omega)⟩)
      | (rw [zE6 (by first | omega | (simp at *; omega))] at hJ; exact yN zJ (by first | omega | (simp; omega)) (by omega) (by simp [hJ]) rfl (by simp))

theorem f_toEventS {p : Bool} {xs : List Evt} (hm : xs.length ≤ yM) : FC ctx.P 40 [.view p 4 (xs.map vF)] (.ref 0 4 0 (xs.map vF).length) [.row 4 (xs.map vF)] := by
  have hlim : xs.length ≤ LIM := by simp only [yM, LIM] at *; omega
  refine FC.o1 okC Tryz.func40 rfl (zP zN5 xs) fun h nx hnx => ?_
  try simp [-qt, -qd, -ql, rgs, hm]
  repeat' first | done | ((first | ((with_reducible show zT _ _ _ _ _ _); refine zB rfl fun _ => ?_) | ((with_reducible show zG _ _ _ _ _ _ _); refine zC rfl omA omA ?_)) <;> simp [-qt, -qd, -ql, rgs, hm]) | ((first | (with_reducible refine zA ?_ ?_)) <;> intro qb <;> (have qp := qb; try simp only [psq] at qp) <;> simp [-qt, -qd, -ql, rgs, hm, qb])
  refine zV (h0 := h) (nx0 := nx) [4, 8, 9, 10, 11, 12, 13, 14, 15, 16, 17, 18, 19, 20, 21] (xs.length) (fun (i : Nat) a => [(4, .int .i64 i)]) (fun i (_ : Unit) h' n' => h' (nx + 3) = some (.row 4 (zG0 vF [.int .i64 0, .int .i64 0, .int .i64 0, .int .i64 0] xs i)) ∧ nx + 4 ≤ n') (()) (by simp) ?_ zJ (by omega) ?_
  · simp [zH5]
  · intro i a tm h' n' hle hJ hE hn' next hnx
    try dsimp only at hJ
    have hK : KeepB nx h' h := KeepB.sub hE zJ (by omega)
    simp [-qt, -qd, -ql]
    obtain ⟨hJ, hJn⟩ := hJ
    try simp [-qt, -qd, -ql, rgs, hJ]
    repeat' first | done | ((first | ((with_reducible show zT _ _ _ _ _ _); refine zB rfl fun _ => ?_) | ((with_reducible show zG _ _ _ _ _ _ _); refine zC rfl omA omA ?_) | ((with_reducible show zE _ _ _ 128 _ _); refine zD (c_toEvent) ?_) | ((with_reducible show zG _ _ _ _ (.ref _ _ _ _) _ _); refine yI rfl omA omA ?_) | ((with_reducible show vW _ _ _ _ _ _ _ _ _); refine uN hJ (by first | rfl | (simp; done)) (by simp) (by rfl) (by rfl) (by rfl) (by omega) ?_)) <;> simp [-qt, -qd, -ql, rgs, hJ]) | ((first | (with_reducible refine zA ?_ ?_)) <;> intro qb <;> (have qp := qb; try simp only [psq] at qp) <;> simp [-qt, -qd, -ql, rgs, hJ, qb])
    all_goals first
      | (have hlt : i < xs.length := (by first | omega | (simp at *; omega)); refine hnx.go () (by omega) (by simp [zM hlt hlim]) (by simp) zJ (by first | omega | (simp; omega)) ?_; (try dsimp only); refine ⟨by simp, by first | omega | (simp; omega)⟩)
      | (rw [zE6 (by first | omega | (simp at *; omega))] at hJ; exact yN zJ (by first | omega | (simp; omega)) (by omega) (by simp [hJ]) rfl (by simp))

theorem f_toTwigS {p : Bool} {xs : List Twg} (hm : xs.length ≤ yM) : FC ctx.P 130 [.view p 3 (xs.map zY)] (.ref 0 3 0 (xs.map zY).length) [.row 3 (xs.map zY)] := by
  have hlim : xs.length ≤ LIM := by simp only [yM, LIM] at *; omega
  refine FC.o1 okC Tryz.func130 rfl (zP yK xs) fun h nx hnx => ?_
  try simp [-qt, -qd, -ql, rgs, hm]
  repeat' first | done | ((first | ((with_reducible show zT _ _ _ _ _ _); refine zB rfl fun _ => ?_) | ((with_reducible show zG _ _ _ _ _ _ _); refine zC rfl omA omA ?_)) <;> simp [-qt, -qd, -ql, rgs, hm]) | ((first | (with_reducible refine zA ?_ ?_)) <;> intro qb <;> (have qp := qb; try simp only [psq] at qp) <;> simp [-qt, -qd, -ql, rgs, hm, qb])
  refine zV (h0 := h) (nx0 := nx) [4, 8, 9, 10, 11, 12, 13, 14, 15, 16, 17, 18, 19, 20, 21] (xs.length) (fun (i : Nat) a => [(4, .int .i64 i)]) (fun i (_ : Unit) h' n' => h' (nx + 3) = some (.row 3 (zG0 zY [.int .i64 0, .int .i64 0, .int .i64 0] xs i)) ∧ nx + 4 ≤ n') (()) (by simp) ?_ zJ (by omega) ?_
  · simp [zH5]
  · intro i a tm h' n' hle hJ hE hn' next hnx
    try dsimp only at hJ
    have hK : KeepB nx h' h := KeepB.sub hE zJ (by omega)
    simp [-qt, -qd, -ql]
    obtain ⟨hJ, hJn⟩ := hJ
    try simp [-qt, -qd, -ql, rgs, hJ]
    repeat' first | done | ((first | ((with_reducible show zT _ _ _ _ _ _); refine zB rfl fun _ => ?_) | ((with_reducible show zG _ _ _ _ _ _ _); refine zC rfl omA omA ?_) | ((with_reducible show zE _ _ _ 213 _ _); refine zD (c_toTwig) ?_) | ((with_reducible show zG _ _ _ _ (.ref _ _ _ _) _ _); refine yI rfl omA omA ?_) | ((with_reducible show vW _ _ _ _ _ _ _ _ _); refine uN hJ (by first | rfl | (simp; done)) (by simp) (by rfl) (by rfl) (by rfl) (by omega) ?_)) <;> simp [-qt, -qd, -ql, rgs, hJ]) | ((first | (with_reducible refine zA ?_ ?_)) <;> intro qb <;> (have qp := qb; try simp only [psq] at qp) <;> simp [-qt, -qd, -ql, rgs, hJ, qb])
    all_goals first
      | (have hlt : i < xs.length := (by first | omega | (simp at *; omega)); refine hnx.go () (by omega) (by simp [zM hlt hlim]) (by simp) zJ (by first | omega | (simp; omega)) ?_; (try dsimp only); refine ⟨by simp, by first | omega | (simp; omega)⟩)
      | (rw [zE6 (by first | omega | (simp at *; omega))] at hJ; exact yN zJ (by first | omega | (simp; omega)) (by omega) (by simp [hJ]) rfl (by simp))

theorem f_toTimerS {p : Bool} {xs : List Tmr} (hm : xs.length ≤ yM) : FC ctx.P 131 [.view p 5 (xs.map yO)] (.ref 0 5 0 (xs.map yO).length) [.row 5 (xs.map yO)] := by
  have hlim : xs.length ≤ LIM := by simp only [yM, LIM] at *; omega
  refine FC.o1 okC Tryz.func131 rfl (zP zA5 xs) fun h nx hnx => ?_
  try simp [-qt, -qd, -ql, rgs, hm]
  repeat' first | done | ((first | ((with_reducible show zT _ _ _ _ _ _); refine zB rfl fun _ => ?_) | ((with_reducible show zG _ _ _ _ _ _ _); refine zC rfl omA omA ?_)) <;> simp [-qt, -qd, -ql, rgs, hm]) | ((first | (with_reducible refine zA ?_ ?_)) <;> intro qb <;> (have qp := qb; try simp only [psq] at qp) <;> simp [-qt, -qd, -ql, rgs, hm, qb])
  refine zV (h0 := h) (nx0 := nx) [4, 8, 9, 10, 11, 12, 13, 14, 15, 16, 17, 18, 19, 20, 21] (xs.length) (fun (i : Nat) a => [(4, .int .i64 i)]) (fun i (_ : Unit) h' n' => h' (nx + 3) = some (.row 5 (zG0 yO [.int .i64 0, .int .i64 0, .int .i64 0, .int .i64 0, .bool false] xs i)) ∧ nx + 4 ≤ n') (()) (by simp) ?_ zJ (by omega) ?_
  · simp [zH5]
  · intro i a tm h' n' hle hJ hE hn' next hnx
    try dsimp only at hJ
    have hK : KeepB nx h' h := KeepB.sub hE zJ (by omega)
    simp [-qt, -qd, -ql]
    obtain ⟨hJ, hJn⟩ := hJ
    try simp [-qt, -qd, -ql, rgs, hJ]
    repeat' first | done | ((first | ((with_reducible show zT _ _ _ _ _ _); refine zB rfl fun _ => ?_) | ((with_reducible show zG _ _ _ _ _ _ _); refine zC rfl omA omA ?_) | ((with_reducible show zE _ _ _ 214 _ _); refine zD (c_toTimer) ?_) | ((with_reducible show zG _ _ _ _ (.ref _ _ _ _) _ _); refine yI rfl omA omA ?_) | ((with_reducible show vW _ _ _ _ _ _ _ _ _); refine uN hJ (by first | rfl | (simp; done)) (by simp) (by rfl) (by rfl) (by rfl) (by omega) ?_)) <;> simp [-qt, -qd, -ql, rgs, hJ]) | ((first | (with_reducible refine zA ?_ ?_)) <;> intro qb <;> (have qp := qb; try simp only [psq] at qp) <;> simp [-qt, -qd, -ql, rgs, hJ, qb])
    all_goals first
      | (have hlt : i < xs.length := (by first | omega | (simp at *; omega)); refine hnx.go () (by omega) (by simp [zM hlt hlim]) (by simp) zJ (by first | omega | (simp; omega)) ?_; (try dsimp only); refine ⟨by simp, by first | omega | (simp; omega)⟩)
      | (rw [zE6 (by first | omega | (simp at *; omega))] at hJ; exact yN zJ (by first | omega | (simp; omega)) (by omega) (by simp [hJ]) rfl (by simp))

theorem f_toAfterS {p : Bool} {xs : List Afr} (hm : xs.length ≤ yM) : FC ctx.P 133 [.view p 5 (xs.map vM)] (.ref 0 5 0 (xs.map vM).length) [.row 5 (xs.map vM)] := by
  have hlim : xs.length ≤ LIM := by simp only [yM, LIM] at *; omega
  refine FC.o1 okC Tryz.func133 rfl (zP zB6 xs) fun h nx hnx => ?_
  try simp [-qt, -qd, -ql, rgs, hm]
  repeat' first | done | ((first | ((with_reducible show zT _ _ _ _ _ _); refine zB rfl fun _ => ?_) | ((with_reducible show zG _ _ _ _ _ _ _); refine zC rfl omA omA ?_)) <;> simp [-qt, -qd, -ql, rgs, hm]) | ((first | (with_reducible refine zA ?_ ?_)) <;> intro qb <;> (have qp := qb; try simp only [psq] at qp) <;> simp [-qt, -qd, -ql, rgs, hm, qb])
  refine zV (h0 := h) (nx0 := nx) [4, 8, 9, 10, 11, 12, 13, 14, 15, 16, 17, 18, 19, 20, 21] (xs.length) (fun (i : Nat) a => [(4, .int .i64 i)]) (fun i (_ : Unit) h' n' => h' (nx + 3) = some (.row 5 (zG0 vM [.int .i64 0, .int .i64 0, .int .i64 0, .int .i64 0, .bool false] xs i)) ∧ nx + 4 ≤ n') (()) (by simp) ?_ zJ (by omega) ?_
  · simp [zH5]
  · intro i a tm h' n' hle hJ hE hn' next hnx
    try dsimp only at hJ
    have hK : KeepB nx h' h := KeepB.sub hE zJ (by omega)
    simp [-qt, -qd, -ql]
    obtain ⟨hJ, hJn⟩ := hJ
    try simp [-qt, -qd, -ql, rgs, hJ]
    repeat' first | done | ((first | ((with_reducible show zT _ _ _ _ _ _); refine zB rfl fun _ => ?_) | ((with_reducible show zG _ _ _ _ _ _ _); refine zC rfl omA omA ?_) | ((with_reducible show zE _ _ _ 215 _ _); refine zD (c_toAfter) ?_) | ((with_reducible show zG _ _ _ _ (.ref _ _ _ _) _ _); refine yI rfl omA omA ?_) | ((with_reducible show vW _ _ _ _ _ _ _ _ _); refine uN hJ (by first | rfl | (simp; done)) (by simp) (by rfl) (by rfl) (by rfl) (by omega) ?_)) <;> simp [-qt, -qd, -ql, rgs, hJ]) | ((first | (with_reducible refine zA ?_ ?_)) <;> intro qb <;> (have qp := qb; try simp only [psq] at qp) <;> simp [-qt, -qd, -ql, rgs, hJ, qb])
    all_goals first
      | (have hlt : i < xs.length := (by first | omega | (simp at *; omega)); refine hnx.go () (by omega) (by simp [zM hlt hlim]) (by simp) zJ (by first | omega | (simp; omega)) ?_; (try dsimp only); refine ⟨by simp, by first | omega | (simp; omega)⟩)
      | (rw [zE6 (by first | omega | (simp at *; omega))] at hJ; exact yN zJ (by first | omega | (simp; omega)) (by omega) (by simp [hJ]) rfl (by simp))

theorem f_toTaskS {p : Bool} {xs : List Tsk} (hm : xs.length ≤ yM) : FC ctx.P 44 [.view p 9 (xs.map vP)] (.ref 0 9 0 (xs.map vP).length) [.row 9 (xs.map vP)] := by
  have hlim : xs.length ≤ LIM := by simp only [yM, LIM] at *; omega
  refine FC.o1 okC Tryz.func44 rfl (zP tskC_fz xs) fun h nx hnx => ?_
  try simp [-qt, -qd, -ql, rgs, hm]
  repeat' first | done | ((first | ((with_reducible show zT _ _ _ _ _ _); refine zB rfl fun _ => ?_) | ((with_reducible show zG _ _ _ _ _ _ _); refine zC rfl omA omA ?_)) <;> simp [-qt, -qd, -ql, rgs, hm]) | ((first | (with_reducible refine zA ?_ ?_)) <;> intro qb <;> (have qp := qb; try simp only [psq] at qp) <;> simp [-qt, -qd, -ql, rgs, hm, qb])
  refine zV (h0 := h) (nx0 := nx) [4, 8, 9, 10, 11, 12, 13, 14, 15, 16, 17, 18, 19, 20, 21] (xs.length) (fun (i : Nat) a => [(4, .int .i64 i)]) (fun i (_ : Unit) h' n' => h' (nx + 3) = some (.row 9 (zG0 vP [.int .i64 0, .int .i64 0, .int .i64 0, .int .i64 0, .int .i64 0, .int .i64 0, .int .i64 0, .int .i64 0, .int .i64 0] xs i)) ∧ nx + 4 ≤ n') (()) (by simp) ?_ zJ (by omega) ?_
  · simp [zH5]
  · intro i a tm h' n' hle hJ hE hn' next hnx
    try dsimp only at hJ
    have hK : KeepB nx h' h := KeepB.sub hE zJ (by omega)
    simp [-qt, -qd, -ql]
    obtain ⟨hJ, hJn⟩ := hJ
    try simp [-qt, -qd, -ql, rgs, hJ]
    repeat' first | done | ((first | ((with_reducible show zT _ _ _ _ _ _); refine zB rfl fun _ => ?_) | ((with_reducible show zG _ _ _ _ _ _ _); refine zC rfl omA omA ?_) | ((with_reducible show zE _ _ _ 134 _ _); refine zD (c_toTask) ?_) | ((with_reducible show zG _ _ _ _ (.ref _ _ _ _) _ _); refine yI rfl omA omA ?_) | ((with_reducible show vW _ _ _ _ _ _ _ _ _); refine uN hJ (by first | rfl | (simp; done)) (by simp) (by rfl) (by rfl) (by rfl) (by omega) ?_)) <;> simp [-qt, -qd, -ql, rgs, hJ]) | ((first | (with_reducible refine zA ?_ ?_)) <;> intro qb <;> (have qp := qb; try simp only [psq] at qp) <;> simp [-qt, -qd, -ql, rgs, hJ, qb])
    all_goals first
      | (have hlt : i < xs.length := (by first | omega | (simp at *; omega)); refine hnx.go () (by omega) (by simp [zM hlt hlim]) (by simp) zJ (by first | omega | (simp; omega)) ?_; (try dsimp only); refine ⟨by simp, by first | omega | (simp; omega)⟩)
      | (rw [zE6 (by first | omega | (simp at *; omega))] at hJ; exact yN zJ (by first | omega | (simp; omega)) (by omega) (by simp [hJ]) rfl (by simp))

theorem f_toSightS {p : Bool} {xs : List Sgt} (hm : xs.length ≤ yM) : FC ctx.P 46 [.view p 4 (xs.map zA0)] (.ref 0 4 0 (xs.map zA0).length) [.row 4 (xs.map zA0)] := by
  have hlim : xs.length ≤ LIM := by simp only [yM, LIM] at *; omega
  refine FC.o1 okC Tryz.func46 rfl (zP sgtC_fz xs) fun h nx hnx => ?_
  try simp [-qt, -qd, -ql, rgs, hm]
  repeat' first | done | ((first | ((with_reducible show zT _ _ _ _ _ _); refine zB rfl fun _ => ?_) | ((with_reducible show zG _ _ _ _ _ _ _); refine zC rfl omA omA ?_)) <;> simp [-qt, -qd, -ql, rgs, hm]) | ((first | (with_reducible refine zA ?_ ?_)) <;> intro qb <;> (have qp := qb; try simp only [psq] at qp) <;> simp [-qt, -qd, -ql, rgs, hm, qb])
  refine zV (h0 := h) (nx0 := nx) [4, 8, 9, 10, 11, 12, 13, 14, 15, 16, 17, 18, 19, 20, 21] (xs.length) (fun (i : Nat) a => [(4, .int .i64 i)]) (fun i (_ : Unit) h' n' => h' (nx + 3) = some (.row 4 (zG0 zA0 [.int .i64 0, .int .i64 0, .int .i64 0, .int .i64 0] xs i)) ∧ nx + 4 ≤ n') (()) (by simp) ?_ zJ (by omega) ?_
  · simp [zH5]
  · intro i a tm h' n' hle hJ hE hn' next hnx
    try dsimp only at hJ
    have hK : KeepB nx h' h := KeepB.sub hE zJ (by omega)
    simp [-qt, -qd, -ql]
    obtain ⟨hJ, hJn⟩ := hJ
    try simp [-qt, -qd, -ql, rgs, hJ]
    repeat' first | done | ((first | ((with_reducible show zT _ _ _ _ _ _); refine zB rfl fun _ => ?_) | ((with_reducible show zG _ _ _ _ _ _ _); refine zC rfl omA omA ?_) | ((with_reducible show zE _ _ _ 136 _ _); refine zD (c_toSight) ?_) | ((with_reducible show zG _ _ _ _ (.ref _ _ _ _) _ _); refine yI rfl omA omA ?_) | ((with_reducible show vW _ _ _ _ _ _ _ _ _); refine uN hJ (by first | rfl | (simp; done)) (by simp) (by rfl) (by rfl) (by rfl) (by omega) ?_)) <;> simp [-qt, -qd, -ql, rgs, hJ]) | ((first | (with_reducible refine zA ?_ ?_)) <;> intro qb <;> (have qp := qb; try simp only [psq] at qp) <;> simp [-qt, -qd, -ql, rgs, hJ, qb])
    all_goals first
      | (have hlt : i < xs.length := (by first | omega | (simp at *; omega)); refine hnx.go () (by omega) (by simp [zM hlt hlim]) (by simp) zJ (by first | omega | (simp; omega)) ?_; (try dsimp only); refine ⟨by simp, by first | omega | (simp; omega)⟩)
      | (rw [zE6 (by first | omega | (simp at *; omega))] at hJ; exact yN zJ (by first | omega | (simp; omega)) (by omega) (by simp [hJ]) rfl (by simp))



theorem zL6 {p : Bool} {xs : List Int} (hm : xs.length ≤ yM) : FC ctx.P 47 [.view p 1 (xs.map iv)] (.ref 0 1 0 (xs.map iv).length) [.row 1 (xs.map iv)] := by
  have hlim : xs.length ≤ LIM := by simp only [yM, LIM] at *; omega
  refine FC.o1 okC Tryz.func47 rfl (zP zE3 xs) fun h nx hnx => ?_
  try simp [-qt, -qd, -ql, rgs, hm]
  repeat' first | done | ((first | ((with_reducible show zT _ _ _ _ _ _); refine zB rfl fun _ => ?_) | ((with_reducible show zG _ _ _ _ _ _ _); refine zC rfl omA omA ?_)) <;> simp [-qt, -qd, -ql, rgs, hm]) | ((first | (with_reducible refine zA ?_ ?_)) <;> intro qb <;> (have qp := qb; try simp only [psq] at qp) <;> simp [-qt, -qd, -ql, rgs, hm, qb])
  refine zV (h0 := h) (nx0 := nx) [4, 8, 9, 10, 11, 12, 13, 14, 15, 16, 17, 18, 19, 20] (xs.length) (fun (i : Nat) a => [(4, .int .i64 i)]) (fun i (_ : Unit) h' n' => h' (nx + 3) = some (.row 1 (zG0 iv [.int .i64 0] xs i)) ∧ nx + 4 ≤ n') (()) (by simp) ?_ zJ (by omega) ?_
  · simp [zH5]
  · intro i a tm h' n' hle hJ hE hn' next hnx
    try dsimp only at hJ
    have hK : KeepB nx h' h := KeepB.sub hE zJ (by omega)
    simp [-qt, -qd, -ql]
    obtain ⟨hJ, hJn⟩ := hJ
    try simp [-qt, -qd, -ql, rgs, hJ, iv]
    repeat' first | done | ((first | ((with_reducible show zT _ _ _ _ _ _); refine zB rfl fun _ => ?_) | ((with_reducible show zG _ _ _ _ _ _ _); refine zC rfl omA omA ?_) | ((with_reducible show zG _ _ _ _ (.ref _ _ _ _) _ _); refine yI rfl omA omA ?_) | ((with_reducible show vW _ _ _ _ _ _ _ _ _); refine uN hJ (by first | rfl | (simp; done)) (by simp) (by rfl) (by rfl) (by rfl) (by omega) ?_)) <;> simp [-qt, -qd, -ql, rgs, hJ, iv]) | ((first | (with_reducible refine zA ?_ ?_)) <;> intro qb <;> (have qp := qb; try simp only [psq] at qp) <;> simp [-qt, -qd, -ql, rgs, hJ, iv, qb])
    all_goals first
      | (have hlt : i < xs.length := (by first | omega | (simp at *; omega)); refine hnx.go () (by omega) (by simp [zM hlt hlim]) (by simp) zJ (by first | omega | (simp; omega)) ?_; (try dsimp only); refine ⟨by simp, by first | omega | (simp; omega)⟩)
      | (rw [zE6 (by first | omega | (simp at *; omega))] at hJ; exact yN zJ (by first | omega | (simp; omega)) (by omega) (by simp [hJ]) rfl (by simp))

theorem f_toBoolS {p : Bool} {xs : List Bool} (hm : xs.length ≤ yM) : FC ctx.P 129 [.view p 1 (xs.map bv)] (.ref 0 1 0 (xs.map bv).length) [.row 1 (xs.map bv)] := by
  have hlim : xs.length ≤ LIM := by simp only [yM, LIM] at *; omega
  refine FC.o1 okC Tryz.func129 rfl (zP zK2 xs) fun h nx hnx => ?_
  try simp [-qt, -qd, -ql, rgs, hm]
  repeat' first | done | ((first | ((with_reducible show zT _ _ _ _ _ _); refine zB rfl fun _ => ?_) | ((with_reducible show zG _ _ _ _ _ _ _); refine zC rfl omA omA ?_)) <;> simp [-qt, -qd, -ql, rgs, hm]) | ((first | (with_reducible refine zA ?_ ?_)) <;> intro qb <;> (have qp := qb; try simp only [psq] at qp) <;> simp [-qt, -qd, -ql, rgs, hm, qb])
  refine zV (h0 := h) (nx0 := nx) [4, 8, 9, 10, 11, 12, 13, 14, 15, 16, 17, 18, 19, 20] (xs.length) (fun (i : Nat) a => [(4, .int .i64 i)]) (fun i (_ : Unit) h' n' => h' (nx + 3) = some (.row 1 (zG0 bv [.bool false] xs i)) ∧ nx + 4 ≤ n') (()) (by simp) ?_ zJ (by omega) ?_
  · simp [zH5]
  · intro i a tm h' n' hle hJ hE hn' next hnx
    try dsimp only at hJ
    have hK : KeepB nx h' h := KeepB.sub hE zJ (by omega)
    simp [-qt, -qd, -ql]
    obtain ⟨hJ, hJn⟩ := hJ
    try simp [-qt, -qd, -ql, rgs, hJ, bv]
    repeat' first | done | ((first | ((with_reducible show zT _ _ _ _ _ _); refine zB rfl fun _ => ?_) | ((with_reducible show zG _ _ _ _ _ _ _); refine zC rfl omA omA ?_) | ((with_reducible show zG _ _ _ _ (.ref _ _ _ _) _ _); refine yI rfl omA omA ?_) | ((with_reducible show vW _ _ _ _ _ _ _ _ _); refine uN hJ (by first | rfl | (simp; done)) (by simp) (by rfl) (by rfl) (by rfl) (by omega) ?_)) <;> simp [-qt, -qd, -ql, rgs, hJ, bv]) | ((first | (with_reducible refine zA ?_ ?_)) <;> intro qb <;> (have qp := qb; try simp only [psq] at qp) <;> simp [-qt, -qd, -ql, rgs, hJ, bv, qb])
    all_goals first
      | (have hlt : i < xs.length := (by first | omega | (simp at *; omega)); refine hnx.go () (by omega) (by simp [zM hlt hlim]) (by simp) zJ (by first | omega | (simp; omega)) ?_; (try dsimp only); refine ⟨by simp, by first | omega | (simp; omega)⟩)
      | (rw [zE6 (by first | omega | (simp at *; omega))] at hJ; exact yN zJ (by first | omega | (simp; omega)) (by omega) (by simp [hJ]) rfl (by simp))

end Go.AE.Tryz
end

section
/- Contracts of the laws' copies of worlds as new rows. -/
set_option maxRecDepth 8000
set_option maxHeartbeats 2000000
namespace Go.AE.Tryz
open Go.Proofs
open List renaming map_take → qt, map_drop → qd, map_tail → ql
theorem w_toInsSS {p r : Bool} {xs : List (List Inn)} (hm : xs.length ≤ yM) (hi : ∀ x ∈ xs, x.length ≤ yM) : AC ctx.P 38 [.view p 1 (xs.map (zC2 r))] (fun _ _ => True)
    (fun h nx v h' nx' => KeepB nx h' h ∧ ∃ id is, v = .ref id 1 0 xs.length ∧ h' id = some (.row 1 (List.zipWith prgR xs is)) ∧ is.length = xs.length ∧ nx ≤ id ∧ id < nx' ∧ Subs h' 3 (fun x : List Inn => x.map vV) xs is (id + 1) nx') := by
  have hlim : xs.length ≤ LIM := by simp only [yM, LIM] at *; omega
  refine AC.o okC Tryz.func38 rfl fun h nx hfr hnx hpre => ?_
  try simp [-qt, -qd, -ql, rgs, hm]
  repeat' first | done | ((first | ((with_reducible show zT _ _ _ _ _ _); refine zB rfl fun _ => ?_) | ((with_reducible show zG _ _ _ _ _ _ _); refine zC rfl omA omA ?_)) <;> simp [-qt, -qd, -ql, rgs, hm]) | ((first | (with_reducible refine zA ?_ ?_)) <;> intro qb <;> (have qp := qb; try simp only [psq] at qp) <;> simp [-qt, -qd, -ql, rgs, hm, qb])
  refine zV (h0 := h) (nx0 := nx) [4, 8, 9, 10, 11, 12, 13, 14, 15, 16, 17, 18, 19, 20, 21] (xs.length) (fun (i : Nat) a => [(4, .int .i64 i)]) (fun i (a : List Nat) h' n' => a.length = i ∧ h' (nx + 3) = some (.row 1 (fillZ prgR [.nil] xs a)) ∧ Subs h' 3 (fun x : List Inn => x.map vV) xs a (nx + 4) n' ∧ nx + 4 ≤ n') ([]) (by simp) ?_ zJ (by omega) ?_
  · simp [fillZ_0, Subs.nil]
  · intro i a tm h' n' hle hJ hE hn' next hnx
    try dsimp only at hJ
    have hK : KeepB nx h' h := KeepB.sub hE zJ (by omega)
    simp [-qt, -qd, -ql]
    obtain ⟨hJa, hJ, hS, hJn⟩ := hJ
    have k1 : ∀ k, (nx + 3 = n' + k) = False := fun k => by simp only [eq_iff_iff, iff_false]; omega
    subst hJa
    by_cases hlt : a.length < xs.length
    · try simp [-qt, -qd, -ql, rgs, hJ, zC2, k1]
      repeat' first | done | ((first | ((with_reducible show zT _ _ _ _ _ _); refine zB rfl fun _ => ?_) | ((with_reducible show zG _ _ _ _ _ _ _); refine zC rfl omA omA ?_) | ((with_reducible show zE _ _ _ 126 _ _); refine yA (f_toInsS (hi _ (zD6 (by omega) (by omega)))) ?_) | (((with_reducible show zG _ _ _ _ (.ref _ _ _ _) _ _); refine yI rfl (by omega) (by omega) ?_)) | (((with_reducible show vW _ _ _ _ _ _ _ _ _); refine storeE_put (sz := 1) (xs := fillZ prgR [.nil] xs a) (cells := [.nil]) (by simp [hJ]; omega) rfl rfl rfl (fillZ_get hlt) rfl ?_))) <;> simp [-qt, -qd, -ql, rgs, hJ, zC2, k1]) | ((first | (with_reducible refine zA ?_ ?_)) <;> intro qb <;> (have qp := qb; try simp only [psq] at qp) <;> simp [-qt, -qd, -ql, rgs, hJ, zC2, k1, qb])
      all_goals first
      | omega
      | (refine hnx.go (a ++ [n' + 13]) (by omega) (by simp [zM hlt hlim]) (by simp) zJ (by first | omega | (simp; omega)) ?_
         try dsimp only
         refine ⟨by simp, ?_, hS.snoc (fun k hk => ?_) ?_ (by omega) (by omega) (by omega), by omega⟩
         · simpa [prgR] using fillZ_set (f := prgR) (z := [.nil]) (xs := xs) (is := a) (by omega) (n' + 13)
         · have := hS.lo k hk
           have := hS.hi k hk
           rw [zK _ _ _ _ (by omega), zK _ _ _ _ (by omega)]
         · simp; omega)
    · try simp [-qt, -qd, -ql, rgs, hJ, hlt]
      repeat' first | done | ((first | ((with_reducible show zT _ _ _ _ _ _); refine zB rfl fun _ => ?_) | ((with_reducible show zG _ _ _ _ _ _ _); refine zC rfl omA omA ?_)) <;> simp [-qt, -qd, -ql, rgs, hJ, hlt]) | ((first | (with_reducible refine zA ?_ ?_)) <;> intro qb <;> (have qp := qb; try simp only [psq] at qp) <;> simp [-qt, -qd, -ql, rgs, hJ, hlt, qb])
      exact ⟨zJ, a, by rw [fillZ_end (by omega)], by omega, by omega, hS.keep (fun _ _ => rfl) (by omega) (by omega)⟩
theorem f_toGroup {r : Bool} {g : Grp} (hm : g.waits.length ≤ yM) : FC ctx.P 135 [.agg (yU r g)] (.agg (uS g 0)) [.row 1 (g.waits.map iv)] := by
  refine FC.o okC Tryz.func135 rfl ((by simp only [uS]; exact .one _ (.agg _ fun c hc => by simp at hc; rcases hc with rfl | rfl | rfl | rfl | rfl <;> first | exact .ref _ _ _ _ (by simp) | exact .fz _ (.int _ _)))) ((fun e he => by simp at he; subst he; exact zP zE3 _)) fun h nx hnx => ?_
  try simp [-qt, -qd, -ql, rgs, yU]
  repeat' first | done | ((first | ((with_reducible show zE _ _ _ 47 _ _); refine yA (zL6 hm) ?_)) <;> simp [-qt, -qd, -ql, rgs, yU])
  exact finF1 (i := nx + 20) zJ (by omega) (by simp) (by simp [uS])
theorem w_toGroupS {p r : Bool} {xs : List Grp} (hm : xs.length ≤ yM) (hi : ∀ x ∈ xs, x.waits.length ≤ yM) : AC ctx.P 45 [.view p 5 (xs.map (yU r))] (fun _ _ => True)
    (fun h nx v h' nx' => KeepB nx h' h ∧ ∃ id is, v = .ref id 5 0 xs.length ∧ h' id = some (.row 5 (List.zipWith uS xs is)) ∧ is.length = xs.length ∧ nx ≤ id ∧ id < nx' ∧ Subs h' 1 (fun x : Grp => x.waits.map iv) xs is (id + 1) nx') := by
  have hlim : xs.length ≤ LIM := by simp only [yM, LIM] at *; omega
  refine AC.o okC Tryz.func45 rfl fun h nx hfr hnx hpre => ?_
  try simp [-qt, -qd, -ql, rgs, hm]
  repeat' first | done | ((first | ((with_reducible show zT _ _ _ _ _ _); refine zB rfl fun _ => ?_) | ((with_reducible show zG _ _ _ _ _ _ _); refine zC rfl omA omA ?_)) <;> simp [-qt, -qd, -ql, rgs, hm]) | ((first | (with_reducible refine zA ?_ ?_)) <;> intro qb <;> (have qp := qb; try simp only [psq] at qp) <;> simp [-qt, -qd, -ql, rgs, hm, qb])
  refine zV (h0 := h) (nx0 := nx) [4, 8, 9, 10, 11, 12, 13, 14, 15, 16, 17, 18, 19, 20, 21] (xs.length) (fun (i : Nat) a => [(4, .int .i64 i)]) (fun i (a : List Nat) h' n' => a.length = i ∧ h' (nx + 3) = some (.row 5 (fillZ uS [.int .i64 0, .int .i64 0, .int .i64 0, .nil, .int .i64 0] xs a)) ∧ Subs h' 1 (fun x : Grp => x.waits.map iv) xs a (nx + 4) n' ∧ nx + 4 ≤ n') ([]) (by simp) ?_ zJ (by omega) ?_
  · simp [fillZ_0, Subs.nil]
  · intro i a tm h' n' hle hJ hE hn' next hnx
    try dsimp only at hJ
    have hK : KeepB nx h' h := KeepB.sub hE zJ (by omega)
    simp [-qt, -qd, -ql]
    obtain ⟨hJa, hJ, hS, hJn⟩ := hJ
    subst hJa
    by_cases hlt : a.length < xs.length
    · try simp [-qt, -qd, -ql, rgs, hJ, yU, uS]
      repeat' first | done | ((first | ((with_reducible show zT _ _ _ _ _ _); refine zB rfl fun _ => ?_) | ((with_reducible show zG _ _ _ _ _ _ _); refine zC rfl omA omA ?_) | ((with_reducible show zE _ _ _ 135 _ _); refine yA (f_toGroup (hi _ (zD6 (by omega) (by omega)))) ?_) | (((with_reducible show zG _ _ _ _ (.ref _ _ _ _) _ _); refine yI rfl (by omega) (by omega) ?_)) | (((with_reducible show vW _ _ _ _ _ _ _ _ _); refine storeE_put (sz := 5) (xs := fillZ uS [.int .i64 0, .int .i64 0, .int .i64 0, .nil, .int .i64 0] xs a) (cells := [.int .i64 0, .int .i64 0, .int .i64 0, .nil, .int .i64 0]) (by simp [hJ]; omega) rfl rfl rfl (fillZ_get hlt) rfl ?_))) <;> simp [-qt, -qd, -ql, rgs, hJ, yU, uS]) | ((first | (with_reducible refine zA ?_ ?_)) <;> intro qb <;> (have qp := qb; try simp only [psq] at qp) <;> simp [-qt, -qd, -ql, rgs, hJ, yU, uS, qb])
      all_goals first
      | omega
      | (refine hnx.go (a ++ [n' + 13]) (by omega) (by simp [zM hlt hlim]) (by simp) zJ (by first | omega | (simp; omega)) ?_
         try dsimp only
         refine ⟨by simp, ?_, hS.snoc (fun k hk => ?_) ?_ (by omega) (by omega) (by omega), by omega⟩
         · simpa [uS] using fillZ_set (f := uS) (z := [.int .i64 0, .int .i64 0, .int .i64 0, .nil, .int .i64 0]) (xs := xs) (is := a) (by omega) (n' + 13)
         · have := hS.lo k hk
           have := hS.hi k hk
           rw [zK _ _ _ _ (by omega), zK _ _ _ _ (by omega)]
         · simp; omega)
    · try simp [-qt, -qd, -ql, rgs, hJ, hlt]
      repeat' first | done | ((first | ((with_reducible show zT _ _ _ _ _ _); refine zB rfl fun _ => ?_) | ((with_reducible show zG _ _ _ _ _ _ _); refine zC rfl omA omA ?_)) <;> simp [-qt, -qd, -ql, rgs, hJ, hlt]) | ((first | (with_reducible refine zA ?_ ?_)) <;> intro qb <;> (have qp := qb; try simp only [psq] at qp) <;> simp [-qt, -qd, -ql, rgs, hJ, hlt, qb])
      exact ⟨zJ, a, by rw [fillZ_end (by omega)], by omega, by omega, hS.keep (fun _ _ => rfl) (by omega) (by omega)⟩
theorem f_toSlots {F : Nat → Bool} {s : Slt} (h1 : s.ages.length ≤ yM) (h2 : s.used.length ≤ yM) : FC ctx.P 132 [.agg (uC F s)] (.agg [.ref 0 1 0 s.ages.length, .ref 1 1 0 s.used.length]) [.row 1 (s.ages.map iv), .row 1 (s.used.map bv)] := by
  refine FC.o okC Tryz.func132 rfl ((.one _ (.agg _ fun c hc => by simp at hc; rcases hc with rfl | rfl <;> first | exact .ref _ _ _ _ (by simp) | exact .fz _ (.int _ _)))) ((fun e he => by simp at he; rcases he with rfl | rfl <;> first | exact zP zE3 _ | exact zP zK2 _ | exact zP yK _ | exact zP zA5 _ | exact zP zB6 _)) fun h nx hnx => ?_
  try simp [-qt, -qd, -ql, rgs, uC]
  repeat' first | done | ((first | ((with_reducible show zE _ _ _ 47 _ _); refine yA (zL6 h1) ?_) | ((with_reducible show zE _ _ _ 129 _ _); refine yA (f_toBoolS h2) ?_)) <;> simp [-qt, -qd, -ql, rgs, uC])
  exact finF2 (i := nx + 8) (j := nx + 14) zJ (by omega) (by omega) (by omega) (by simp) (by simp) (by simp)
theorem f_toSpread {F : Nat → Bool} {s : Spr} (h1 : s.told.length ≤ yM) (h2 : s.work.length ≤ yM) : FC ctx.P 41 [.agg (zF3 F s)] (.agg [.ref 0 1 0 s.told.length, .ref 1 1 0 s.work.length]) [.row 1 (s.told.map bv), .row 1 (s.work.map iv)] := by
  refine FC.o okC Tryz.func41 rfl ((.one _ (.agg _ fun c hc => by simp at hc; rcases hc with rfl | rfl <;> first | exact .ref _ _ _ _ (by simp) | exact .fz _ (.int _ _)))) ((fun e he => by simp at he; rcases he with rfl | rfl <;> first | exact zP zE3 _ | exact zP zK2 _ | exact zP yK _ | exact zP zA5 _ | exact zP zB6 _)) fun h nx hnx => ?_
  try simp [-qt, -qd, -ql, rgs, zF3]
  repeat' first | done | ((first | ((with_reducible show zE _ _ _ 129 _ _); refine yA (f_toBoolS h1) ?_) | ((with_reducible show zE _ _ _ 47 _ _); refine yA (zL6 h2) ?_)) <;> simp [-qt, -qd, -ql, rgs, zF3])
  exact finF2 (i := nx + 8) (j := nx + 14) zJ (by omega) (by omega) (by omega) (by simp) (by simp) (by simp)
theorem f_toTimers {F : Nat → Bool} {s : Tms} (h1 : s.heap.length ≤ yM) (h2 : s.list.length ≤ yM) : FC ctx.P 42 [.agg (vQ F s)] (.agg [.ref 0 3 0 s.heap.length, .ref 1 5 0 s.list.length, .int .i64 s.next]) [.row 3 (s.heap.map zY), .row 5 (s.list.map yO)] := by
  refine FC.o okC Tryz.func42 rfl ((.one _ (.agg _ fun c hc => by simp at hc; rcases hc with rfl | rfl | rfl <;> first | exact .ref _ _ _ _ (by simp) | exact .fz _ (.int _ _)))) ((fun e he => by simp at he; rcases he with rfl | rfl <;> first | exact zP zE3 _ | exact zP zK2 _ | exact zP yK _ | exact zP zA5 _ | exact zP zB6 _)) fun h nx hnx => ?_
  try simp [-qt, -qd, -ql, rgs, vQ]
  repeat' first | done | ((first | ((with_reducible show zE _ _ _ 130 _ _); refine yA (f_toTwigS h1) ?_) | ((with_reducible show zE _ _ _ 131 _ _); refine yA (f_toTimerS h2) ?_)) <;> simp [-qt, -qd, -ql, rgs, vQ])
  exact finF2 (i := nx + 8) (j := nx + 14) zJ (by omega) (by omega) (by omega) (by simp) (by simp) (by simp)
theorem f_toAfters {F : Nat → Bool} {s : Afs} (h1 : s.slots.ages.length ≤ yM) (h2 : s.slots.used.length ≤ yM) (h3 : s.list.length ≤ yM) : FC ctx.P 43 [.agg (zB4 F s)] (.agg [.ref 0 1 0 s.slots.ages.length, .ref 1 1 0 s.slots.used.length, .ref 2 5 0 s.list.length]) [.row 1 (s.slots.ages.map iv), .row 1 (s.slots.used.map bv), .row 5 (s.list.map vM)] := by
  refine FC.o okC Tryz.func43 rfl ((.one _ (.agg _ fun c hc => by simp at hc; rcases hc with rfl | rfl | rfl <;> first | exact .ref _ _ _ _ (by simp) | exact .fz _ (.int _ _)))) ((fun e he => by simp at he; rcases he with rfl | rfl | rfl <;> first | exact zP zE3 _ | exact zP zK2 _ | exact zP yK _ | exact zP zA5 _ | exact zP zB6 _)) fun h nx hnx => ?_
  try simp [-qt, -qd, -ql, rgs, zB4, uC]
  repeat' first | done | ((first | ((with_reducible show zE _ _ _ 132 _ _); refine yA (f_toSlots (s := s.slots) (F := F) h1 h2) ?_) | ((with_reducible show zE _ _ _ 133 _ _); refine yA (f_toAfterS h3) ?_)) <;> simp [-qt, -qd, -ql, rgs, zB4, uC])
  exact finF3 (i := nx + 8) (j := nx + 9) (l := nx + 15) zJ (by omega) (by omega) (by omega) (by omega) (by omega) (by omega) (by simp) (by simp) (by simp) (by simp)
end Go.AE.Tryz
end

section
/- Contracts of the laws' copies of worlds as new rows. -/
set_option maxRecDepth 8000
set_option maxHeartbeats 2000000
namespace Go.AE.Tryz
open Go.Proofs
open List renaming map_take → qt, map_drop → qd, map_tail → ql
theorem w_toWorld {F : Nat → Bool} {s : Wld} (hs : zC9 s ≤ 1048576) : AC ctx.P 10 [.agg (wldV F s)] (fun _ _ => True)
    (fun h nx v h' nx' => KeepB nx h' h ∧ ∃ X, v = .agg (zF9 X s) ∧ WV h' X s ∧ ∀ id ∈ X.ids, nx ≤ id ∧ id < nx') := by
  simp only [zC9, afssz, tmssz, sprsz, sltsz] at hs
  have hm : yM = 1099511627776 := rfl
  refine AC.o okC Tryz.func10 rfl fun h nx hfr hnx hpre => ?_
  try simp [-qt, -qd, -ql, rgs, wldV]
  refine vB (w_toInsSS (by omega) (fun x hx => by have := zC1 (·.length) hx; omega)) trivial ?_
  rintro r h1 n1 ⟨hK1, ip, isp, rfl, hrow1, hlen1, hlo1, hhi1, hS1⟩ hle1 hfr1
  dsimp only at hK1 hlo1 hle1
  have g0 := hK1 nx (by omega)
  have g1 := hK1 (nx + 1) (by omega)
  have g2 := hK1 (nx + 2) (by omega)
  simp at g0 g1 g2
  have k0 : ∀ k, (nx = n1 + k) = False := fun k => by simp only [eq_iff_iff, iff_false]; omega
  have k2 : ∀ k, (nx + 2 = n1 + k) = False := fun k => by simp only [eq_iff_iff, iff_false]; omega
  have k1 : ∀ k, (nx + 1 = n1 + k) = False := fun k => by simp only [eq_iff_iff, iff_false]; omega
  have k5 : (nx + 1 = n1) = False := by simp only [eq_iff_iff, iff_false]; omega
  have k3 : (nx = n1) = False := by simp only [eq_iff_iff, iff_false]; omega
  have k4 : (nx + 2 = n1) = False := by simp only [eq_iff_iff, iff_false]; omega

  try simp [-qt, -qd, -ql, rgs, wldV, g0, g2, k0, k2, k3, k4]
  repeat' first | done | ((first | ((with_reducible show zE _ _ _ 39 _ _); refine yA (f_toNodeS (by omega)) ?_) | ((with_reducible show zE _ _ _ 40 _ _); refine yA (f_toEventS (by omega)) ?_) | ((with_reducible show zE _ _ _ 41 _ _); refine yA (f_toSpread (s := s.spread) (F := F) (by omega) (by omega)) ?_) | ((with_reducible show zE _ _ _ 42 _ _); refine yA (f_toTimers (s := s.timers) (F := F) (by omega) (by omega)) ?_) | ((with_reducible show zE _ _ _ 43 _ _); refine yA (f_toAfters (s := s.afters) (F := F) (by omega) (by omega) (by omega)) ?_) | ((with_reducible show zE _ _ _ 44 _ _); refine yA (f_toTaskS (by omega)) ?_)) <;> simp [-qt, -qd, -ql, rgs, wldV, g0, g2, k0, k2, k3, k4])
  refine vB (w_toGroupS (by omega) (fun x hx => by have := zC1 (·.waits.length) hx; omega)) trivial ?_
  rintro r h2 n2 ⟨hK2, ig, isg, rfl, hrow2, hlen2, hlo2, hhi2, hS2⟩ hle2 hfr2
  dsimp only at hK2 hlo2 hle2
  have m0 := hK2 nx (by omega)
  have m1 := hK2 (nx + 1) (by omega)
  have m2 := hK2 (nx + 2) (by omega)
  simp [k0, k2, k3, k4, g0, g1, k1, k5] at m0 m1 m2
  have j0 : ∀ k, (nx = n2 + k) = False := fun k => by simp only [eq_iff_iff, iff_false]; omega
  have j2 : ∀ k, (nx + 2 = n2 + k) = False := fun k => by simp only [eq_iff_iff, iff_false]; omega
  have j1 : ∀ k, (nx + 1 = n2 + k) = False := fun k => by simp only [eq_iff_iff, iff_false]; omega
  have j5 : (nx + 1 = n2) = False := by simp only [eq_iff_iff, iff_false]; omega
  have j3 : (nx = n2) = False := by simp only [eq_iff_iff, iff_false]; omega
  have j4 : (nx + 2 = n2) = False := by simp only [eq_iff_iff, iff_false]; omega
  try simp [-qt, -qd, -ql, rgs, wldV, m0, m1, m2, j0, j1, j2, j3, j4, j5]
  repeat' first | done | ((first | ((with_reducible show zE _ _ _ 46 _ _); refine yA (f_toSightS (by omega)) ?_) | ((with_reducible show zE _ _ _ 47 _ _); refine yA (zL6 (by omega)) ?_)) <;> simp [-qt, -qd, -ql, rgs, wldV, m0, m1, m2, j0, j1, j2, j3, j4, j5])
  have hE : KeepB nx h1 h := KeepB.sub hK1 zJ (by omega)
  have hK : KeepB nx h2 h := KeepB.sub hK2 zJ (by omega)
  have up : ∀ i, ip ≤ i → i < n1 → h2 i = h1 i := fun i _ _ => by
    rw [hK2 i (by omega)]
    repeat rw [zK _ _ _ _ (by omega)]
  have q0 := up ip (by omega) hhi1
  rw [hrow1] at q0
  have q1 := hK2 (n1 + 5) (by omega)
  have q2 := hK2 (n1 + 11) (by omega)
  have q3 := hK2 (n1 + 17) (by omega)
  have q4 := hK2 (n1 + 18) (by omega)
  have q5 := hK2 (n1 + 24) (by omega)
  have q6 := hK2 (n1 + 25) (by omega)
  have q7 := hK2 (n1 + 31) (by omega)
  have q8 := hK2 (n1 + 32) (by omega)
  have q9 := hK2 (n1 + 33) (by omega)
  have q10 := hK2 (n1 + 39) (by omega)
  have l0 : ∀ k, (n1 + k = nx) = False := fun k => by simp only [eq_iff_iff, iff_false]; omega
  have l2 : ∀ k, (n1 + k = nx + 2) = False := fun k => by simp only [eq_iff_iff, iff_false]; omega
  simp [l0, l2] at q1 q2 q3 q4 q5 q6 q7 q8 q9 q10
  refine ⟨zJ, WI.ofL [ip, n1 + 5, n1 + 11, n1 + 17, n1 + 18, n1 + 24, n1 + 25, n1 + 31, n1 + 32, n1 + 33, n1 + 39, ig, n2 + 5, n2 + 11, n2 + 17] isp isg, rfl, WV.ofL (a := ip + 1) (b := n1) (c := ig + 1) (d := n2) ?_ ?_ ?_ ?_ ?_ ?_ ?_ ?_ ?_ ?_ ?_ ?_ ?_ ?_ ?_ hlen1 hlen2 ?_ ?_ (by omega) ?_ ?_, ?_⟩
  · repeat rw [zK _ _ _ _ (by omega)]
    exact q0
  · repeat rw [zK _ _ _ _ (by omega)]
    exact q1
  · repeat rw [zK _ _ _ _ (by omega)]
    exact q2
  · repeat rw [zK _ _ _ _ (by omega)]
    exact q3
  · repeat rw [zK _ _ _ _ (by omega)]
    exact q4
  · repeat rw [zK _ _ _ _ (by omega)]
    exact q5
  · repeat rw [zK _ _ _ _ (by omega)]
    exact q6
  · repeat rw [zK _ _ _ _ (by omega)]
    exact q7
  · repeat rw [zK _ _ _ _ (by omega)]
    exact q8
  · repeat rw [zK _ _ _ _ (by omega)]
    exact q9
  · repeat rw [zK _ _ _ _ (by omega)]
    exact q10
  · repeat rw [zK _ _ _ _ (by omega)]
    exact hrow2
  · repeat rw [zK _ _ _ _ (by omega)]
    rw [zL]
  · repeat rw [zK _ _ _ _ (by omega)]
    rw [zL]
  · repeat rw [zK _ _ _ _ (by omega)]
    rw [zL]
  · refine hS1.keep (fun i hi => ?_) (Nat.le_refl _) (Nat.le_refl _)
    have := hS1.lo i hi
    have := hS1.hi i hi
    repeat rw [zK _ _ _ _ (by omega)]
    exact up i (by omega) (by omega)
  · refine hS2.keep (fun i hi => ?_) (Nat.le_refl _) (Nat.le_refl _)
    have := hS2.lo i hi
    have := hS2.hi i hi
    repeat rw [zK _ _ _ _ (by omega)]
  · simp only [List.nodup_cons, List.mem_cons, List.not_mem_nil, or_false, not_or, List.nodup_nil, and_true, not_false_eq_true]
    omega
  · intro t ht
    simp only [List.mem_cons, List.not_mem_nil, or_false] at ht
    omega
  · intro id hid
    rw [WI.ofL_ids] at hid
    rcases List.mem_append.1 hid with hid | hid
    · simp only [List.mem_cons, List.not_mem_nil, or_false] at hid
      omega
    · rcases List.mem_append.1 hid with hid | hid
      · have := hS1.lo id hid
        have := hS1.hi id hid
        omega
      · have := hS2.lo id hid
        have := hS2.hi id hid
        omega
end Go.AE.Tryz
end

section
/- Contracts of the laws' marks. -/
set_option maxRecDepth 8000
set_option maxHeartbeats 4000000
namespace Go.AE.Tryz
open Go.Proofs
open List renaming map_take → qt, map_drop → qd, map_tail → ql

def mkNod (k : Int) : Nod := ⟨k, k + 1, k + 2, k + 3, k + 4⟩
theorem m_markNodeS {id : Nat} {xs : List Nod} {k : Int} (hlim : xs.length ≤ LIM) (h0 : 0 ≤ k) (h1 : k ≤ 1152921504606846976) : AC ctx.P 64 [.ref id 5 0 xs.length, .int .i64 k] (fun h _ => h id = some (.row 5 (xs.map yZ)))
    (fun h nx v h' nx' => v = .int .i64 (k + (5 : Nat) * xs.length) ∧ h' id = some (.row 5 ((yG mkNod 5 k xs.length).map yZ)) ∧ ∀ j, j < nx → j ≠ id → h' j = h j) := by
  refine AC.o okC Tryz.func64 rfl fun h nx hfr hnx hpre => ?_
  have hid : id < nx := hnx id (by rw [hpre]; simp)
  try simp [-qt, -qd, -ql, rgs]
  repeat' first | done | ((first | ((with_reducible show zT _ _ _ _ _ _); refine zB rfl fun _ => ?_) | ((with_reducible show zG _ _ _ _ _ _ _); refine zC rfl omA omA ?_)) <;> simp [-qt, -qd, -ql, rgs]) | ((first | (with_reducible refine zA ?_ ?_)) <;> intro qb <;> (have qp := qb; try simp only [psq] at qp) <;> simp [-qt, -qd, -ql, rgs, qb])
  refine zV (h0 := h) (nx0 := 0) [1, 5, 6, 7, 8, 9, 10, 11, 12, 13, 14, 15, 16, 17, 18, 19, 20, 21, 22, 23, 24, 25, 26, 27, 28, 29, 30, 31, 32, 33, 34, 35, 36, 37, 38, 39, 40, 41, 42, 43, 44, 45, 46] (xs.length) (fun (i : Nat) a => [(5, .int .i64 i), (1, .int .i64 (k + (5 : Nat) * i))]) (fun i (_ : Unit) h' n' => h' id = some (.row 5 (uR yZ mkNod 5 k xs i)) ∧ (∀ j, j < nx → j ≠ id → h' j = h j) ∧ nx ≤ n') (()) (by simp) ?_ (fun j hj => absurd hj (by omega)) (Nat.zero_le _) ?_
  · simp [zH7, hpre]
  · intro i a tm h' n' hle hJ hE hn' next hnx
    try dsimp only at hJ
    simp [-qt, -qd, -ql]
    obtain ⟨hJ, hJf, hJn⟩ := hJ
    by_cases hlt : i < xs.length
    · have hl : (uR yZ mkNod 5 k xs i).length = xs.length := zB7 (by omega)
      rw [zA9 hlt] at hJ
      have hlim0 := hlim
      simp only [LIM] at hlim
      try simp [-qt, -qd, -ql, rgs, hJ, yZ, zF (x := k + 5 * (i : Int) + 1) (by omega), zF (x := k + 5 * (i : Int) + 1 + 1) (by omega), zF (x := k + 5 * (i : Int) + 1 + 1 + 1) (by omega), zF (x := k + 5 * (i : Int) + 1 + 1 + 1 + 1) (by omega), zF (x := k + 5 * (i : Int) + 1 + 1 + 1 + 1 + 1) (by omega)]
      repeat' first | done | ((first | ((with_reducible show zT _ _ _ _ _ _); refine zB rfl fun _ => ?_) | ((with_reducible show zG _ _ _ _ _ _ _); refine zC rfl omA omA ?_) | (((with_reducible show zG _ _ _ _ (.ref _ _ _ _) _ _); refine yI rfl (by omega) (by omega) ?_)) | (((with_reducible show vW _ _ _ _ _ _ _ _ _); refine uI (xs := uR yZ mkNod 5 k xs i) (by first | exact hJ | exact zL _ _ _) (by omega) rfl rfl (by omega) ?_))) <;> simp [-qt, -qd, -ql, rgs, hJ, yZ, zF (x := k + 5 * (i : Int) + 1) (by omega), zF (x := k + 5 * (i : Int) + 1 + 1) (by omega), zF (x := k + 5 * (i : Int) + 1 + 1 + 1) (by omega), zF (x := k + 5 * (i : Int) + 1 + 1 + 1 + 1) (by omega), zF (x := k + 5 * (i : Int) + 1 + 1 + 1 + 1 + 1) (by omega)]) | ((first | (with_reducible refine zA ?_ ?_)) <;> intro qb <;> (have qp := qb; try simp only [psq] at qp) <;> simp [-qt, -qd, -ql, rgs, hJ, yZ, zF (x := k + 5 * (i : Int) + 1) (by omega), zF (x := k + 5 * (i : Int) + 1 + 1) (by omega), zF (x := k + 5 * (i : Int) + 1 + 1 + 1) (by omega), zF (x := k + 5 * (i : Int) + 1 + 1 + 1 + 1) (by omega), zF (x := k + 5 * (i : Int) + 1 + 1 + 1 + 1 + 1) (by omega), qb])
      all_goals first
      | omega
      | (refine hnx.go () ?_ ?_ ?_ ?_ ?_ ?_
         · omega
         · simp [zM hlt hlim0] <;> omega
         · simp
         · exact fun j hj => absurd hj (by omega)
         · exact Nat.zero_le _
         try dsimp only
         refine ⟨?_, fun j hj hji => ?_, by omega⟩
         · rw [← zC4 hlt]
           simp [mkNod, yZ, Int.add_assoc]
         · simp [hji]
           exact hJf j hj hji)
    · try simp [-qt, -qd, -ql, rgs, hJ, hlt]
      repeat' first | done | ((first | ((with_reducible show zT _ _ _ _ _ _); refine zB rfl fun _ => ?_) | ((with_reducible show zG _ _ _ _ _ _ _); refine zC rfl omA omA ?_)) <;> simp [-qt, -qd, -ql, rgs, hJ, hlt]) | ((first | (with_reducible refine zA ?_ ?_)) <;> intro qb <;> (have qp := qb; try simp only [psq] at qp) <;> simp [-qt, -qd, -ql, rgs, hJ, hlt, qb])
      refine ⟨by omega, ?_, hJf⟩
      have : i = xs.length := by omega
      subst this
      exact zC6 (Nat.le_refl _)

def mkEvt (k : Int) : Evt := ⟨k, k + 1, k + 2, k + 3⟩
theorem m_markEventS {id : Nat} {xs : List Evt} {k : Int} (hlim : xs.length ≤ LIM) (h0 : 0 ≤ k) (h1 : k ≤ 1152921504606846976) : AC ctx.P 65 [.ref id 4 0 xs.length, .int .i64 k] (fun h _ => h id = some (.row 4 (xs.map vF)))
    (fun h nx v h' nx' => v = .int .i64 (k + (4 : Nat) * xs.length) ∧ h' id = some (.row 4 ((yG mkEvt 4 k xs.length).map vF)) ∧ ∀ j, j < nx → j ≠ id → h' j = h j) := by
  refine AC.o okC Tryz.func65 rfl fun h nx hfr hnx hpre => ?_
  have hid : id < nx := hnx id (by rw [hpre]; simp)
  try simp [-qt, -qd, -ql, rgs]
  repeat' first | done | ((first | ((with_reducible show zT _ _ _ _ _ _); refine zB rfl fun _ => ?_) | ((with_reducible show zG _ _ _ _ _ _ _); refine zC rfl omA omA ?_)) <;> simp [-qt, -qd, -ql, rgs]) | ((first | (with_reducible refine zA ?_ ?_)) <;> intro qb <;> (have qp := qb; try simp only [psq] at qp) <;> simp [-qt, -qd, -ql, rgs, qb])
  refine zV (h0 := h) (nx0 := 0) [1, 5, 6, 7, 8, 9, 10, 11, 12, 13, 14, 15, 16, 17, 18, 19, 20, 21, 22, 23, 24, 25, 26, 27, 28, 29, 30, 31, 32, 33, 34, 35, 36, 37, 38, 39] (xs.length) (fun (i : Nat) a => [(5, .int .i64 i), (1, .int .i64 (k + (4 : Nat) * i))]) (fun i (_ : Unit) h' n' => h' id = some (.row 4 (uR vF mkEvt 4 k xs i)) ∧ (∀ j, j < nx → j ≠ id → h' j = h j) ∧ nx ≤ n') (()) (by simp) ?_ (fun j hj => absurd hj (by omega)) (Nat.zero_le _) ?_
  · simp [zH7, hpre]
  · intro i a tm h' n' hle hJ hE hn' next hnx
    try dsimp only at hJ
    simp [-qt, -qd, -ql]
    obtain ⟨hJ, hJf, hJn⟩ := hJ
    by_cases hlt : i < xs.length
    · have hl : (uR vF mkEvt 4 k xs i).length = xs.length := zB7 (by omega)
      rw [zA9 hlt] at hJ
      have hlim0 := hlim
      simp only [LIM] at hlim
      try simp [-qt, -qd, -ql, rgs, hJ, vF, zF (x := k + 4 * (i : Int) + 1) (by omega), zF (x := k + 4 * (i : Int) + 1 + 1) (by omega), zF (x := k + 4 * (i : Int) + 1 + 1 + 1) (by omega), zF (x := k + 4 * (i : Int) + 1 + 1 + 1 + 1) (by omega)]
      repeat' first | done | ((first | ((with_reducible show zT _ _ _ _ _ _); refine zB rfl fun _ => ?_) | ((with_reducible show zG _ _ _ _ _ _ _); refine zC rfl omA omA ?_) | (((with_reducible show zG _ _ _ _ (.ref _ _ _ _) _ _); refine yI rfl (by omega) (by omega) ?_)) | (((with_reducible show vW _ _ _ _ _ _ _ _ _); refine uI (xs := uR vF mkEvt 4 k xs i) (by first | exact hJ | exact zL _ _ _) (by omega) rfl rfl (by omega) ?_))) <;> simp [-qt, -qd, -ql, rgs, hJ, vF, zF (x := k + 4 * (i : Int) + 1) (by omega), zF (x := k + 4 * (i : Int) + 1 + 1) (by omega), zF (x := k + 4 * (i : Int) + 1 + 1 + 1) (by omega), zF (x := k + 4 * (i : Int) + 1 + 1 + 1 + 1) (by omega)]) | ((first | (with_reducible refine zA ?_ ?_)) <;> intro qb <;> (have qp := qb; try simp only [psq] at qp) <;> simp [-qt, -qd, -ql, rgs, hJ, vF, zF (x := k + 4 * (i : Int) + 1) (by omega), zF (x := k + 4 * (i : Int) + 1 + 1) (by omega), zF (x := k + 4 * (i : Int) + 1 + 1 + 1) (by omega), zF (x := k + 4 * (i : Int) + 1 + 1 + 1 + 1) (by omega), qb])
      all_goals first
      | omega
      | (refine hnx.go () ?_ ?_ ?_ ?_ ?_ ?_
         · omega
         · simp [zM hlt hlim0] <;> omega
         · simp
         · exact fun j hj => absurd hj (by omega)
         · exact Nat.zero_le _
         try dsimp only
         refine ⟨?_, fun j hj hji => ?_, by omega⟩
         · rw [← zC4 hlt]
           simp [mkEvt, vF, Int.add_assoc]
         · simp [hji]
           exact hJf j hj hji)
    · try simp [-qt, -qd, -ql, rgs, hJ, hlt]
      repeat' first | done | ((first | ((with_reducible show zT _ _ _ _ _ _); refine zB rfl fun _ => ?_) | ((with_reducible show zG _ _ _ _ _ _ _); refine zC rfl omA omA ?_)) <;> simp [-qt, -qd, -ql, rgs, hJ, hlt]) | ((first | (with_reducible refine zA ?_ ?_)) <;> intro qb <;> (have qp := qb; try simp only [psq] at qp) <;> simp [-qt, -qd, -ql, rgs, hJ, hlt, qb])
      refine ⟨by omega, ?_, hJf⟩
      have : i = xs.length := by omega
      subst this
      exact zC6 (Nat.le_refl _)

def zK6 (k : Int) : Twg := ⟨k, k + 1, k + 2⟩
theorem m_markTwigS {id : Nat} {xs : List Twg} {k : Int} (hlim : xs.length ≤ LIM) (h0 : 0 ≤ k) (h1 : k ≤ 1152921504606846976) : AC ctx.P 155 [.ref id 3 0 xs.length, .int .i64 k] (fun h _ => h id = some (.row 3 (xs.map zY)))
    (fun h nx v h' nx' => v = .int .i64 (k + (3 : Nat) * xs.length) ∧ h' id = some (.row 3 ((yG zK6 3 k xs.length).map zY)) ∧ ∀ j, j < nx → j ≠ id → h' j = h j) := by
  refine AC.o okC Tryz.func155 rfl fun h nx hfr hnx hpre => ?_
  have hid : id < nx := hnx id (by rw [hpre]; simp)
  try simp [-qt, -qd, -ql, rgs]
  repeat' first | done | ((first | ((with_reducible show zT _ _ _ _ _ _); refine zB rfl fun _ => ?_) | ((with_reducible show zG _ _ _ _ _ _ _); refine zC rfl omA omA ?_)) <;> simp [-qt, -qd, -ql, rgs]) | ((first | (with_reducible refine zA ?_ ?_)) <;> intro qb <;> (have qp := qb; try simp only [psq] at qp) <;> simp [-qt, -qd, -ql, rgs, qb])
  refine zV (h0 := h) (nx0 := 0) [1, 5, 6, 7, 8, 9, 10, 11, 12, 13, 14, 15, 16, 17, 18, 19, 20, 21, 22, 23, 24, 25, 26, 27, 28, 29, 30, 31, 32] (xs.length) (fun (i : Nat) a => [(5, .int .i64 i), (1, .int .i64 (k + (3 : Nat) * i))]) (fun i (_ : Unit) h' n' => h' id = some (.row 3 (uR zY zK6 3 k xs i)) ∧ (∀ j, j < nx → j ≠ id → h' j = h j) ∧ nx ≤ n') (()) (by simp) ?_ (fun j hj => absurd hj (by omega)) (Nat.zero_le _) ?_
  · simp [zH7, hpre]
  · intro i a tm h' n' hle hJ hE hn' next hnx
    try dsimp only at hJ
    simp [-qt, -qd, -ql]
    obtain ⟨hJ, hJf, hJn⟩ := hJ
    by_cases hlt : i < xs.length
    · have hl : (uR zY zK6 3 k xs i).length = xs.length := zB7 (by omega)
      rw [zA9 hlt] at hJ
      have hlim0 := hlim
      simp only [LIM] at hlim
      try simp [-qt, -qd, -ql, rgs, hJ, zY, zF (x := k + 3 * (i : Int) + 1) (by omega), zF (x := k + 3 * (i : Int) + 1 + 1) (by omega), zF (x := k + 3 * (i : Int) + 1 + 1 + 1) (by omega)]
      repeat' first | done | ((first | ((with_reducible show zT _ _ _ _ _ _); refine zB rfl fun _ => ?_) | ((with_reducible show zG _ _ _ _ _ _ _); refine zC rfl omA omA ?_) | (((with_reducible show zG _ _ _ _ (.ref _ _ _ _) _ _); refine yI rfl (by omega) (by omega) ?_)) | (((with_reducible show vW _ _ _ _ _ _ _ _ _); refine uI (xs := uR zY zK6 3 k xs i) (by first | exact hJ | exact zL _ _ _) (by omega) rfl rfl (by omega) ?_))) <;> simp [-qt, -qd, -ql, rgs, hJ, zY, zF (x := k + 3 * (i : Int) + 1) (by omega), zF (x := k + 3 * (i : Int) + 1 + 1) (by omega), zF (x := k + 3 * (i : Int) + 1 + 1 + 1) (by omega)]) | ((first | (with_reducible refine zA ?_ ?_)) <;> intro qb <;> (have qp := qb; try simp only [psq] at qp) <;> simp [-qt, -qd, -ql, rgs, hJ, zY, zF (x := k + 3 * (i : Int) + 1) (by omega), zF (x := k + 3 * (i : Int) + 1 + 1) (by omega), zF (x := k + 3 * (i : Int) + 1 + 1 + 1) (by omega), qb])
      all_goals first
      | omega
      | (refine hnx.go () ?_ ?_ ?_ ?_ ?_ ?_
         · omega
         · simp [zM hlt hlim0] <;> omega
         · simp
         · exact fun j hj => absurd hj (by omega)
         · exact Nat.zero_le _
         try dsimp only
         refine ⟨?_, fun j hj hji => ?_, by omega⟩
         · rw [← zC4 hlt]
           simp [zK6, zY, Int.add_assoc]
         · simp [hji]
           exact hJf j hj hji)
    · try simp [-qt, -qd, -ql, rgs, hJ, hlt]
      repeat' first | done | ((first | ((with_reducible show zT _ _ _ _ _ _); refine zB rfl fun _ => ?_) | ((with_reducible show zG _ _ _ _ _ _ _); refine zC rfl omA omA ?_)) <;> simp [-qt, -qd, -ql, rgs, hJ, hlt]) | ((first | (with_reducible refine zA ?_ ?_)) <;> intro qb <;> (have qp := qb; try simp only [psq] at qp) <;> simp [-qt, -qd, -ql, rgs, hJ, hlt, qb])
      refine ⟨by omega, ?_, hJf⟩
      have : i = xs.length := by omega
      subst this
      exact zC6 (Nat.le_refl _)

def zL2 (k : Int) : Tmr := ⟨k, k + 1, k + 2, k + 3, (k + 4).tmod 3 == 0⟩
theorem m_markTimerS {id : Nat} {xs : List Tmr} {k : Int} (hlim : xs.length ≤ LIM) (h0 : 0 ≤ k) (h1 : k ≤ 1152921504606846976) : AC ctx.P 156 [.ref id 5 0 xs.length, .int .i64 k] (fun h _ => h id = some (.row 5 (xs.map yO)))
    (fun h nx v h' nx' => v = .int .i64 (k + (5 : Nat) * xs.length) ∧ h' id = some (.row 5 ((yG zL2 5 k xs.length).map yO)) ∧ ∀ j, j < nx → j ≠ id → h' j = h j) := by
  refine AC.o okC Tryz.func156 rfl fun h nx hfr hnx hpre => ?_
  have hid : id < nx := hnx id (by rw [hpre]; simp)
  try simp [-qt, -qd, -ql, rgs]
  repeat' first | done | ((first | ((with_reducible show zT _ _ _ _ _ _); refine zB rfl fun _ => ?_) | ((with_reducible show zG _ _ _ _ _ _ _); refine zC rfl omA omA ?_)) <;> simp [-qt, -qd, -ql, rgs]) | ((first | (with_reducible refine zA ?_ ?_)) <;> intro qb <;> (have qp := qb; try simp only [psq] at qp) <;> simp [-qt, -qd, -ql, rgs, qb])
  refine zV (h0 := h) (nx0 := 0) [1, 5, 6, 7, 8, 9, 10, 11, 12, 13, 14, 15, 16, 17, 18, 19, 20, 21, 22, 23, 24, 25, 26, 27, 28, 29, 30, 31, 32, 33, 34, 35, 36, 37, 38, 39, 40, 41, 42, 43, 44, 45, 46, 47, 48] (xs.length) (fun (i : Nat) a => [(5, .int .i64 i), (1, .int .i64 (k + (5 : Nat) * i))]) (fun i (_ : Unit) h' n' => h' id = some (.row 5 (uR yO zL2 5 k xs i)) ∧ (∀ j, j < nx → j ≠ id → h' j = h j) ∧ nx ≤ n') (()) (by simp) ?_ (fun j hj => absurd hj (by omega)) (Nat.zero_le _) ?_
  · simp [zH7, hpre]
  · intro i a tm h' n' hle hJ hE hn' next hnx
    try dsimp only at hJ
    simp [-qt, -qd, -ql]
    obtain ⟨hJ, hJf, hJn⟩ := hJ
    by_cases hlt : i < xs.length
    · have hl : (uR yO zL2 5 k xs i).length = xs.length := zB7 (by omega)
      rw [zA9 hlt] at hJ
      have hlim0 := hlim
      simp only [LIM] at hlim
      try simp [-qt, -qd, -ql, rgs, hJ, yO, zF (x := k + 5 * (i : Int) + 1) (by omega), zF (x := k + 5 * (i : Int) + 1 + 1) (by omega), zF (x := k + 5 * (i : Int) + 1 + 1 + 1) (by omega), zF (x := k + 5 * (i : Int) + 1 + 1 + 1 + 1) (by omega), zF (x := k + 5 * (i : Int) + 1 + 1 + 1 + 1 + 1) (by omega)]
      repeat' first | done | ((first | ((with_reducible show zT _ _ _ _ _ _); refine zB rfl fun _ => ?_) | ((with_reducible show zG _ _ _ _ _ _ _); refine zC rfl omA omA ?_) | (((with_reducible show zG _ _ _ _ (.ref _ _ _ _) _ _); refine yI rfl (by omega) (by omega) ?_)) | (((with_reducible show vW _ _ _ _ _ _ _ _ _); refine uI (xs := uR yO zL2 5 k xs i) (by first | exact hJ | exact zL _ _ _) (by omega) rfl rfl (by omega) ?_))) <;> simp [-qt, -qd, -ql, rgs, hJ, yO, zF (x := k + 5 * (i : Int) + 1) (by omega), zF (x := k + 5 * (i : Int) + 1 + 1) (by omega), zF (x := k + 5 * (i : Int) + 1 + 1 + 1) (by omega), zF (x := k + 5 * (i : Int) + 1 + 1 + 1 + 1) (by omega), zF (x := k + 5 * (i : Int) + 1 + 1 + 1 + 1 + 1) (by omega)]) | ((first | (with_reducible refine zA ?_ ?_)) <;> intro qb <;> (have qp := qb; try simp only [psq] at qp) <;> simp [-qt, -qd, -ql, rgs, hJ, yO, zF (x := k + 5 * (i : Int) + 1) (by omega), zF (x := k + 5 * (i : Int) + 1 + 1) (by omega), zF (x := k + 5 * (i : Int) + 1 + 1 + 1) (by omega), zF (x := k + 5 * (i : Int) + 1 + 1 + 1 + 1) (by omega), zF (x := k + 5 * (i : Int) + 1 + 1 + 1 + 1 + 1) (by omega), qb])
      all_goals first
      | omega
      | (refine hnx.go () ?_ ?_ ?_ ?_ ?_ ?_
         · omega
         · simp [zM hlt hlim0] <;> omega
         · simp
         · exact fun j hj => absurd hj (by omega)
         · exact Nat.zero_le _
         try dsimp only
         refine ⟨?_, fun j hj hji => ?_, by omega⟩
         · rw [← zC4 hlt]
           simp [zL2, yO, Int.add_assoc]
         · simp [hji]
           exact hJf j hj hji)
    · try simp [-qt, -qd, -ql, rgs, hJ, hlt]
      repeat' first | done | ((first | ((with_reducible show zT _ _ _ _ _ _); refine zB rfl fun _ => ?_) | ((with_reducible show zG _ _ _ _ _ _ _); refine zC rfl omA omA ?_)) <;> simp [-qt, -qd, -ql, rgs, hJ, hlt]) | ((first | (with_reducible refine zA ?_ ?_)) <;> intro qb <;> (have qp := qb; try simp only [psq] at qp) <;> simp [-qt, -qd, -ql, rgs, hJ, hlt, qb])
      refine ⟨by omega, ?_, hJf⟩
      have : i = xs.length := by omega
      subst this
      exact zC6 (Nat.le_refl _)

def zL1 (k : Int) : Afr := ⟨⟨k, k + 1⟩, k + 2, k + 3, (k + 4).tmod 3 == 0⟩
theorem m_markAfterS {id : Nat} {xs : List Afr} {k : Int} (hlim : xs.length ≤ LIM) (h0 : 0 ≤ k) (h1 : k ≤ 1152921504606846976) : AC ctx.P 158 [.ref id 5 0 xs.length, .int .i64 k] (fun h _ => h id = some (.row 5 (xs.map vM)))
    (fun h nx v h' nx' => v = .int .i64 (k + (5 : Nat) * xs.length) ∧ h' id = some (.row 5 ((yG zL1 5 k xs.length).map vM)) ∧ ∀ j, j < nx → j ≠ id → h' j = h j) := by
  refine AC.o okC Tryz.func158 rfl fun h nx hfr hnx hpre => ?_
  have hid : id < nx := hnx id (by rw [hpre]; simp)
  try simp [-qt, -qd, -ql, rgs]
  repeat' first | done | ((first | ((with_reducible show zT _ _ _ _ _ _); refine zB rfl fun _ => ?_) | ((with_reducible show zG _ _ _ _ _ _ _); refine zC rfl omA omA ?_)) <;> simp [-qt, -qd, -ql, rgs]) | ((first | (with_reducible refine zA ?_ ?_)) <;> intro qb <;> (have qp := qb; try simp only [psq] at qp) <;> simp [-qt, -qd, -ql, rgs, qb])
  refine zV (h0 := h) (nx0 := 0) [1, 5, 6, 7, 8, 9, 10, 11, 12, 13, 14, 15, 16, 17, 18, 19, 20, 21, 22, 23, 24, 25, 26, 27, 28, 29, 30, 31, 32, 33, 34, 35, 36, 37, 38, 39, 40, 41, 42, 43, 44, 45, 46, 47, 48, 49, 50] (xs.length) (fun (i : Nat) a => [(5, .int .i64 i), (1, .int .i64 (k + (5 : Nat) * i))]) (fun i (_ : Unit) h' n' => h' id = some (.row 5 (uR vM zL1 5 k xs i)) ∧ (∀ j, j < nx → j ≠ id → h' j = h j) ∧ nx ≤ n') (()) (by simp) ?_ (fun j hj => absurd hj (by omega)) (Nat.zero_le _) ?_
  · simp [zH7, hpre]
  · intro i a tm h' n' hle hJ hE hn' next hnx
    try dsimp only at hJ
    simp [-qt, -qd, -ql]
    obtain ⟨hJ, hJf, hJn⟩ := hJ
    by_cases hlt : i < xs.length
    · have hl : (uR vM zL1 5 k xs i).length = xs.length := zB7 (by omega)
      rw [zA9 hlt] at hJ
      have hlim0 := hlim
      simp only [LIM] at hlim
      try simp [-qt, -qd, -ql, rgs, hJ, vM, zF (x := k + 5 * (i : Int) + 1) (by omega), zF (x := k + 5 * (i : Int) + 1 + 1) (by omega), zF (x := k + 5 * (i : Int) + 1 + 1 + 1) (by omega), zF (x := k + 5 * (i : Int) + 1 + 1 + 1 + 1) (by omega), zF (x := k + 5 * (i : Int) + 1 + 1 + 1 + 1 + 1) (by omega)]
      repeat' first | done | ((first | ((with_reducible show zT _ _ _ _ _ _); refine zB rfl fun _ => ?_) | ((with_reducible show zG _ _ _ _ _ _ _); refine zC rfl omA omA ?_) | (((with_reducible show zG _ _ _ _ (.ref _ _ _ _) _ _); refine yI rfl (by omega) (by omega) ?_)) | (((with_reducible show vW _ _ _ _ _ _ _ _ _); refine uI (xs := uR vM zL1 5 k xs i) (by first | exact hJ | exact zL _ _ _) (by omega) rfl rfl (by omega) ?_))) <;> simp [-qt, -qd, -ql, rgs, hJ, vM, zF (x := k + 5 * (i : Int) + 1) (by omega), zF (x := k + 5 * (i : Int) + 1 + 1) (by omega), zF (x := k + 5 * (i : Int) + 1 + 1 + 1) (by omega), zF (x := k + 5 * (i : Int) + 1 + 1 + 1 + 1) (by omega), zF (x := k + 5 * (i : Int) + 1 + 1 + 1 + 1 + 1) (by omega)]) | ((first | (with_reducible refine zA ?_ ?_)) <;> intro qb <;> (have qp := qb; try simp only [psq] at qp) <;> simp [-qt, -qd, -ql, rgs, hJ, vM, zF (x := k + 5 * (i : Int) + 1) (by omega), zF (x := k + 5 * (i : Int) + 1 + 1) (by omega), zF (x := k + 5 * (i : Int) + 1 + 1 + 1) (by omega), zF (x := k + 5 * (i : Int) + 1 + 1 + 1 + 1) (by omega), zF (x := k + 5 * (i : Int) + 1 + 1 + 1 + 1 + 1) (by omega), qb])
      all_goals first
      | omega
      | (refine hnx.go () ?_ ?_ ?_ ?_ ?_ ?_
         · omega
         · simp [zM hlt hlim0] <;> omega
         · simp
         · exact fun j hj => absurd hj (by omega)
         · exact Nat.zero_le _
         try dsimp only
         refine ⟨?_, fun j hj hji => ?_, by omega⟩
         · rw [← zC4 hlt]
           simp [zL1, vM, Int.add_assoc]
         · simp [hji]
           exact hJf j hj hji)
    · try simp [-qt, -qd, -ql, rgs, hJ, hlt]
      repeat' first | done | ((first | ((with_reducible show zT _ _ _ _ _ _); refine zB rfl fun _ => ?_) | ((with_reducible show zG _ _ _ _ _ _ _); refine zC rfl omA omA ?_)) <;> simp [-qt, -qd, -ql, rgs, hJ, hlt]) | ((first | (with_reducible refine zA ?_ ?_)) <;> intro qb <;> (have qp := qb; try simp only [psq] at qp) <;> simp [-qt, -qd, -ql, rgs, hJ, hlt, qb])
      refine ⟨by omega, ?_, hJf⟩
      have : i = xs.length := by omega
      subst this
      exact zC6 (Nat.le_refl _)

def mkTsk (k : Int) : Tsk := ⟨k, k + 1, k + 2, k + 3, k + 4, k + 5, k + 6, k + 7, k + 8⟩
theorem m_markTaskS {id : Nat} {xs : List Tsk} {k : Int} (hlim : xs.length ≤ LIM) (h0 : 0 ≤ k) (h1 : k ≤ 1152921504606846976) : AC ctx.P 69 [.ref id 9 0 xs.length, .int .i64 k] (fun h _ => h id = some (.row 9 (xs.map vP)))
    (fun h nx v h' nx' => v = .int .i64 (k + (9 : Nat) * xs.length) ∧ h' id = some (.row 9 ((yG mkTsk 9 k xs.length).map vP)) ∧ ∀ j, j < nx → j ≠ id → h' j = h j) := by
  refine AC.o okC Tryz.func69 rfl fun h nx hfr hnx hpre => ?_
  have hid : id < nx := hnx id (by rw [hpre]; simp)
  try simp [-qt, -qd, -ql, rgs]
  repeat' first | done | ((first | ((with_reducible show zT _ _ _ _ _ _); refine zB rfl fun _ => ?_) | ((with_reducible show zG _ _ _ _ _ _ _); refine zC rfl omA omA ?_)) <;> simp [-qt, -qd, -ql, rgs]) | ((first | (with_reducible refine zA ?_ ?_)) <;> intro qb <;> (have qp := qb; try simp only [psq] at qp) <;> simp [-qt, -qd, -ql, rgs, qb])
  refine zV (h0 := h) (nx0 := 0) [1, 5, 6, 7, 8, 9, 10, 11, 12, 13, 14, 15, 16, 17, 18, 19, 20, 21, 22, 23, 24, 25, 26, 27, 28, 29, 30, 31, 32, 33, 34, 35, 36, 37, 38, 39, 40, 41, 42, 43, 44, 45, 46, 47, 48, 49, 50, 51, 52, 53, 54, 55, 56, 57, 58, 59, 60, 61, 62, 63, 64, 65, 66, 67, 68, 69, 70, 71, 72, 73, 74] (xs.length) (fun (i : Nat) a => [(5, .int .i64 i), (1, .int .i64 (k + (9 : Nat) * i))]) (fun i (_ : Unit) h' n' => h' id = some (.row 9 (uR vP mkTsk 9 k xs i)) ∧ (∀ j, j < nx → j ≠ id → h' j = h j) ∧ nx ≤ n') (()) (by simp) ?_ (fun j hj => absurd hj (by omega)) (Nat.zero_le _) ?_
  · simp [zH7, hpre]
  · intro i a tm h' n' hle hJ hE hn' next hnx
    try dsimp only at hJ
    simp [-qt, -qd, -ql]
    obtain ⟨hJ, hJf, hJn⟩ := hJ
    by_cases hlt : i < xs.length
    · have hl : (uR vP mkTsk 9 k xs i).length = xs.length := zB7 (by omega)
      rw [zA9 hlt] at hJ
      have hlim0 := hlim
      simp only [LIM] at hlim
      try simp [-qt, -qd, -ql, rgs, hJ, vP, zF (x := k + 9 * (i : Int) + 1) (by omega), zF (x := k + 9 * (i : Int) + 1 + 1) (by omega), zF (x := k + 9 * (i : Int) + 1 + 1 + 1) (by omega), zF (x := k + 9 * (i : Int) + 1 + 1 + 1 + 1) (by omega), zF (x := k + 9 * (i : Int) + 1 + 1 + 1 + 1 + 1) (by omega), zF (x := k + 9 * (i : Int) + 1 + 1 + 1 + 1 + 1 + 1) (by omega), zF (x := k + 9 * (i : Int) + 1 + 1 + 1 + 1 + 1 + 1 + 1) (by omega), zF (x := k + 9 * (i : Int) + 1 + 1 + 1 + 1 + 1 + 1 + 1 + 1) (by omega), zF (x := k + 9 * (i : Int) + 1 + 1 + 1 + 1 + 1 + 1 + 1 + 1 + 1) (by omega)]
      repeat' first | done | ((first | ((with_reducible show zT _ _ _ _ _ _); refine zB rfl fun _ => ?_) | ((with_reducible show zG _ _ _ _ _ _ _); refine zC rfl omA omA ?_) | (((with_reducible show zG _ _ _ _ (.ref _ _ _ _) _ _); refine yI rfl (by omega) (by omega) ?_)) | (((with_reducible show vW _ _ _ _ _ _ _ _ _); refine uI (xs := uR vP mkTsk 9 k xs i) (by first | exact hJ | exact zL _ _ _) (by omega) rfl rfl (by omega) ?_))) <;> simp [-qt, -qd, -ql, rgs, hJ, vP, zF (x := k + 9 * (i : Int) + 1) (by omega), zF (x := k + 9 * (i : Int) + 1 + 1) (by omega), zF (x := k + 9 * (i : Int) + 1 + 1 + 1) (by omega), zF (x := k + 9 * (i : Int) + 1 + 1 + 1 + 1) (by omega), zF (x := k + 9 * (i : Int) + 1 + 1 + 1 + 1 + 1) (by omega), zF (x := k + 9 * (i : Int) + 1 + 1 + 1 + 1 + 1 + 1) (by omega), zF (x := k + 9 * (i : Int) + 1 + 1 + 1 + 1 + 1 + 1 + 1) (by omega), zF (x := k + 9 * (i : Int) + 1 + 1 + 1 + 1 + 1 + 1 + 1 + 1) (by omega), zF (x := k + 9 * (i : Int) + 1 + 1 + 1 + 1 + 1 + 1 + 1 + 1 + 1) (by omega)]) | ((first | (with_reducible refine zA ?_ ?_)) <;> intro qb <;> (have qp := qb; try simp only [psq] at qp) <;> simp [-qt, -qd, -ql, rgs, hJ, vP, zF (x := k + 9 * (i : Int) + 1) (by omega), zF (x := k + 9 * (i : Int) + 1 + 1) (by omega), zF (x := k + 9 * (i : Int) + 1 + 1 + 1) (by omega), zF (x := k + 9 * (i : Int) + 1 + 1 + 1 + 1) (by omega), zF (x := k + 9 * (i : Int) + 1 + 1 + 1 + 1 + 1) (by omega), zF (x := k + 9 * (i : Int) + 1 + 1 + 1 + 1 + 1 + 1) (by omega), zF (x := k + 9 * (i : Int) + 1 + 1 + 1 + 1 + 1 + 1 + 1) (by omega), zF (x := k + 9 * (i : Int) + 1 + 1 + 1 + 1 + 1 + 1 + 1 + 1) (by omega), zF (x := k + 9 * (i : Int) + 1 + 1 + 1 + 1 + 1 + 1 + 1 + 1 + 1) (by omega), qb])
      all_goals first
      | omega
      | (refine hnx.go () ?_ ?_ ?_ ?_ ?_ ?_
         · omega
         · simp [zM hlt hlim0] <;> omega
         · simp
         · exact fun j hj => absurd hj (by omega)
         · exact Nat.zero_le _
         try dsimp only
         refine ⟨?_, fun j hj hji => ?_, by omega⟩
         · rw [← zC4 hlt]
           simp [mkTsk, vP, Int.add_assoc]
         · simp [hji]
           exact hJf j hj hji)
    · try simp [-qt, -qd, -ql, rgs, hJ, hlt]
      repeat' first | done | ((first | ((with_reducible show zT _ _ _ _ _ _); refine zB rfl fun _ => ?_) | ((with_reducible show zG _ _ _ _ _ _ _); refine zC rfl omA omA ?_)) <;> simp [-qt, -qd, -ql, rgs, hJ, hlt]) | ((first | (with_reducible refine zA ?_ ?_)) <;> intro qb <;> (have qp := qb; try simp only [psq] at qp) <;> simp [-qt, -qd, -ql, rgs, hJ, hlt, qb])
      refine ⟨by omega, ?_, hJf⟩
      have : i = xs.length := by omega
      subst this
      exact zC6 (Nat.le_refl _)

def mkSgt (k : Int) : Sgt := ⟨k, k + 1, k + 2, k + 3⟩
theorem m_markSightS {id : Nat} {xs : List Sgt} {k : Int} (hlim : xs.length ≤ LIM) (h0 : 0 ≤ k) (h1 : k ≤ 1152921504606846976) : AC ctx.P 71 [.ref id 4 0 xs.length, .int .i64 k] (fun h _ => h id = some (.row 4 (xs.map zA0)))
    (fun h nx v h' nx' => v = .int .i64 (k + (4 : Nat) * xs.length) ∧ h' id = some (.row 4 ((yG mkSgt 4 k xs.length).map zA0)) ∧ ∀ j, j < nx → j ≠ id → h' j = h j) := by
  refine AC.o okC Tryz.func71 rfl fun h nx hfr hnx hpre => ?_
  have hid : id < nx := hnx id (by rw [hpre]; simp)
  try simp [-qt, -qd, -ql, rgs]
  repeat' first | done | ((first | ((with_reducible show zT _ _ _ _ _ _); refine zB rfl fun _ => ?_) | ((with_reducible show zG _ _ _ _ _ _ _); refine zC rfl omA omA ?_)) <;> simp [-qt, -qd, -ql, rgs]) | ((first | (with_reducible refine zA ?_ ?_)) <;> intro qb <;> (have qp := qb; try simp only [psq] at qp) <;> simp [-qt, -qd, -ql, rgs, qb])
  refine zV (h0 := h) (nx0 := 0) [1, 5, 6, 7, 8, 9, 10, 11, 12, 13, 14, 15, 16, 17, 18, 19, 20, 21, 22, 23, 24, 25, 26, 27, 28, 29, 30, 31, 32, 33, 34, 35, 36, 37, 38, 39] (xs.length) (fun (i : Nat) a => [(5, .int .i64 i), (1, .int .i64 (k + (4 : Nat) * i))]) (fun i (_ : Unit) h' n' => h' id = some (.row 4 (uR zA0 mkSgt 4 k xs i)) ∧ (∀ j, j < nx → j ≠ id → h' j = h j) ∧ nx ≤ n') (()) (by simp) ?_ (fun j hj => absurd hj (by omega)) (Nat.zero_le _) ?_
  · simp [zH7, hpre]
  · intro i a tm h' n' hle hJ hE hn' next hnx
    try dsimp only at hJ
    simp [-qt, -qd, -ql]
    obtain ⟨hJ, hJf, hJn⟩ := hJ
    by_cases hlt : i < xs.length
    · have hl : (uR zA0 mkSgt 4 k xs i).length = xs.length := zB7 (by omega)
      rw [zA9 hlt] at hJ
      have hlim0 := hlim
      simp only [LIM] at hlim
      try simp [-qt, -qd, -ql, rgs, hJ, zA0, zF (x := k + 4 * (i : Int) + 1) (by omega), zF (x := k + 4 * (i : Int) + 1 + 1) (by omega), zF (x := k + 4 * (i : Int) + 1 + 1 + 1) (by omega), zF (x := k + 4 * (i : Int) + 1 + 1 + 1 + 1) (by omega)]
      repeat' first | done | ((first | ((with_reducible show zT _ _ _ _ _ _); refine zB rfl fun _ => ?_) | ((with_reducible show zG _ _ _ _ _ _ _); refine zC rfl omA omA ?_) | (((with_reducible show zG _ _ _ _ (.ref _ _ _ _) _ _); refine yI rfl (by omega) (by omega) ?_)) | (((with_reducible show vW _ _ _ _ _ _ _ _ _); refine uI (xs := uR zA0 mkSgt 4 k xs i) (by first | exact hJ | exact zL _ _ _) (by omega) rfl rfl (by omega) ?_))) <;> simp [-qt, -qd, -ql, rgs, hJ, zA0, zF (x := k + 4 * (i : Int) + 1) (by omega), zF (x := k + 4 * (i : Int) + 1 + 1) (by omega), zF (x := k + 4 * (i : Int) + 1 + 1 + 1) (by omega), zF (x := k + 4 * (i : Int) + 1 + 1 + 1 + 1) (by omega)]) | ((first | (with_reducible refine zA ?_ ?_)) <;> intro qb <;> (have qp := qb; try simp only [psq] at qp) <;> simp [-qt, -qd, -ql, rgs, hJ, zA0, zF (x := k + 4 * (i : Int) + 1) (by omega), zF (x := k + 4 * (i : Int) + 1 + 1) (by omega), zF (x := k + 4 * (i : Int) + 1 + 1 + 1) (by omega), zF (x := k + 4 * (i : Int) + 1 + 1 + 1 + 1) (by omega), qb])
      all_goals first
      | omega
      | (refine hnx.go () ?_ ?_ ?_ ?_ ?_ ?_
         · omega
         · simp [zM hlt hlim0] <;> omega
         · simp
         · exact fun j hj => absurd hj (by omega)
         · exact Nat.zero_le _
         try dsimp only
         refine ⟨?_, fun j hj hji => ?_, by omega⟩
         · rw [← zC4 hlt]
           simp [mkSgt, zA0, Int.add_assoc]
         · simp [hji]
           exact hJf j hj hji)
    · try simp [-qt, -qd, -ql, rgs, hJ, hlt]
      repeat' first | done | ((first | ((with_reducible show zT _ _ _ _ _ _); refine zB rfl fun _ => ?_) | ((with_reducible show zG _ _ _ _ _ _ _); refine zC rfl omA omA ?_)) <;> simp [-qt, -qd, -ql, rgs, hJ, hlt]) | ((first | (with_reducible refine zA ?_ ?_)) <;> intro qb <;> (have qp := qb; try simp only [psq] at qp) <;> simp [-qt, -qd, -ql, rgs, hJ, hlt, qb])
      refine ⟨by omega, ?_, hJf⟩
      have : i = xs.length := by omega
      subst this
      exact zC6 (Nat.le_refl _)

def mkInn (k : Int) : Inn := ⟨k, k + 1, k + 2⟩
theorem m_markInsS {id : Nat} {xs : List Inn} {k : Int} (hlim : xs.length ≤ LIM) (h0 : 0 ≤ k) (h1 : k ≤ 1152921504606846976) : AC ctx.P 153 [.ref id 3 0 xs.length, .int .i64 k] (fun h _ => h id = some (.row 3 (xs.map vV)))
    (fun h nx v h' nx' => v = .int .i64 (k + (3 : Nat) * xs.length) ∧ h' id = some (.row 3 ((yG mkInn 3 k xs.length).map vV)) ∧ ∀ j, j < nx → j ≠ id → h' j = h j) := by
  refine AC.o okC Tryz.func153 rfl fun h nx hfr hnx hpre => ?_
  have hid : id < nx := hnx id (by rw [hpre]; simp)
  try simp [-qt, -qd, -ql, rgs]
  repeat' first | done | ((first | ((with_reducible show zT _ _ _ _ _ _); refine zB rfl fun _ => ?_) | ((with_reducible show zG _ _ _ _ _ _ _); refine zC rfl omA omA ?_)) <;> simp [-qt, -qd, -ql, rgs]) | ((first | (with_reducible refine zA ?_ ?_)) <;> intro qb <;> (have qp := qb; try simp only [psq] at qp) <;> simp [-qt, -qd, -ql, rgs, qb])
  refine zV (h0 := h) (nx0 := 0) [1, 5, 6, 7, 8, 9, 10, 11, 12, 13, 14, 15, 16, 17, 18, 19, 20, 21, 22, 23, 24, 25, 26, 27, 28, 29, 30, 31, 32] (xs.length) (fun (i : Nat) a => [(5, .int .i64 i), (1, .int .i64 (k + (3 : Nat) * i))]) (fun i (_ : Unit) h' n' => h' id = some (.row 3 (uR vV mkInn 3 k xs i)) ∧ (∀ j, j < nx → j ≠ id → h' j = h j) ∧ nx ≤ n') (()) (by simp) ?_ (fun j hj => absurd hj (by omega)) (Nat.zero_le _) ?_
  · simp [zH7, hpre]
  · intro i a tm h' n' hle hJ hE hn' next hnx
    try dsimp only at hJ
    simp [-qt, -qd, -ql]
    obtain ⟨hJ, hJf, hJn⟩ := hJ
    by_cases hlt : i < xs.length
    · have hl : (uR vV mkInn 3 k xs i).length = xs.length := zB7 (by omega)
      rw [zA9 hlt] at hJ
      have hlim0 := hlim
      simp only [LIM] at hlim
      try simp [-qt, -qd, -ql, rgs, hJ, vV, zF (x := k + 3 * (i : Int) + 1) (by omega), zF (x := k + 3 * (i : Int) + 1 + 1) (by omega), zF (x := k + 3 * (i : Int) + 1 + 1 + 1) (by omega)]
      repeat' first | done | ((first | ((with_reducible show zT _ _ _ _ _ _); refine zB rfl fun _ => ?_) | ((with_reducible show zG _ _ _ _ _ _ _); refine zC rfl omA omA ?_) | (((with_reducible show zG _ _ _ _ (.ref _ _ _ _) _ _); refine yI rfl (by omega) (by omega) ?_)) | (((with_reducible show vW _ _ _ _ _ _ _ _ _); refine uI (xs := uR vV mkInn 3 k xs i) (by first | exact hJ | exact zL _ _ _) (by omega) rfl rfl (by omega) ?_))) <;> simp [-qt, -qd, -ql, rgs, hJ, vV, zF (x := k + 3 * (i : Int) + 1) (by omega), zF (x := k + 3 * (i : Int) + 1 + 1) (by omega), zF (x := k + 3 * (i : Int) + 1 + 1 + 1) (by omega)]) | ((first | (with_reducible refine zA ?_ ?_)) <;> intro qb <;> (have qp := qb; try simp only [psq] at qp) <;> simp [-qt, -qd, -ql, rgs, hJ, vV, zF (x := k + 3 * (i : Int) + 1) (by omega), zF (x := k + 3 * (i : Int) + 1 + 1) (by omega), zF (x := k + 3 * (i : Int) + 1 + 1 + 1) (by omega), qb])
      all_goals first
      | omega
      | (refine hnx.go () ?_ ?_ ?_ ?_ ?_ ?_
         · omega
         · simp [zM hlt hlim0] <;> omega
         · simp
         · exact fun j hj => absurd hj (by omega)
         · exact Nat.zero_le _
         try dsimp only
         refine ⟨?_, fun j hj hji => ?_, by omega⟩
         · rw [← zC4 hlt]
           simp [mkInn, vV, Int.add_assoc]
         · simp [hji]
           exact hJf j hj hji)
    · try simp [-qt, -qd, -ql, rgs, hJ, hlt]
      repeat' first | done | ((first | ((with_reducible show zT _ _ _ _ _ _); refine zB rfl fun _ => ?_) | ((with_reducible show zG _ _ _ _ _ _ _); refine zC rfl omA omA ?_)) <;> simp [-qt, -qd, -ql, rgs, hJ, hlt]) | ((first | (with_reducible refine zA ?_ ?_)) <;> intro qb <;> (have qp := qb; try simp only [psq] at qp) <;> simp [-qt, -qd, -ql, rgs, hJ, hlt, qb])
      refine ⟨by omega, ?_, hJf⟩
      have : i = xs.length := by omega
      subst this
      exact zC6 (Nat.le_refl _)

def zE0 (k : Int) : Int := k
theorem zE8 {id : Nat} {xs : List Int} {k : Int} (hlim : xs.length ≤ LIM) (h0 : 0 ≤ k) (h1 : k ≤ 1152921504606846976) : AC ctx.P 72 [.ref id 1 0 xs.length, .int .i64 k] (fun h _ => h id = some (.row 1 (xs.map iv)))
    (fun h nx v h' nx' => v = .int .i64 (k + (1 : Nat) * xs.length) ∧ h' id = some (.row 1 ((yG zE0 1 k xs.length).map iv)) ∧ ∀ j, j < nx → j ≠ id → h' j = h j) := by
  refine AC.o okC Tryz.func72 rfl fun h nx hfr hnx hpre => ?_
  have hid : id < nx := hnx id (by rw [hpre]; simp)
  try simp [-qt, -qd, -ql, rgs]
  repeat' first | done | ((first | ((with_reducible show zT _ _ _ _ _ _); refine zB rfl fun _ => ?_) | ((with_reducible show zG _ _ _ _ _ _ _); refine zC rfl omA omA ?_)) <;> simp [-qt, -qd, -ql, rgs]) | ((first | (with_reducible refine zA ?_ ?_)) <;> intro qb <;> (have qp := qb; try simp only [psq] at qp) <;> simp [-qt, -qd, -ql, rgs, qb])
  refine zV (h0 := h) (nx0 := 0) [1, 5, 6, 7, 8, 9, 10, 11, 12, 13, 14, 15, 16, 17] (xs.length) (fun (i : Nat) a => [(5, .int .i64 i), (1, .int .i64 (k + (1 : Nat) * i))]) (fun i (_ : Unit) h' n' => h' id = some (.row 1 (uR iv zE0 1 k xs i)) ∧ (∀ j, j < nx → j ≠ id → h' j = h j) ∧ nx ≤ n') (()) (by simp) ?_ (fun j hj => absurd hj (by omega)) (Nat.zero_le _) ?_
  · simp [zH7, hpre]
  · intro i a tm h' n' hle hJ hE hn' next hnx
    try dsimp only at hJ
    simp [-qt, -qd, -ql]
    obtain ⟨hJ, hJf, hJn⟩ := hJ
    by_cases hlt : i < xs.length
    · have hl : (uR iv zE0 1 k xs i).length = xs.length := zB7 (by omega)
      rw [zA9 hlt] at hJ
      have hlim0 := hlim
      simp only [LIM] at hlim
      try simp [-qt, -qd, -ql, rgs, hJ, iv, zF (x := k + (i : Int) + 1) (by omega)]
      repeat' first | done | ((first | ((with_reducible show zT _ _ _ _ _ _); refine zB rfl fun _ => ?_) | ((with_reducible show zG _ _ _ _ _ _ _); refine zC rfl omA omA ?_) | (((with_reducible show zG _ _ _ _ (.ref _ _ _ _) _ _); refine yI rfl (by omega) (by omega) ?_)) | (((with_reducible show vW _ _ _ _ _ _ _ _ _); refine uI (xs := uR iv zE0 1 k xs i) (by first | exact hJ | exact zL _ _ _) (by omega) rfl rfl (by omega) ?_))) <;> simp [-qt, -qd, -ql, rgs, hJ, iv, zF (x := k + (i : Int) + 1) (by omega)]) | ((first | (with_reducible refine zA ?_ ?_)) <;> intro qb <;> (have qp := qb; try simp only [psq] at qp) <;> simp [-qt, -qd, -ql, rgs, hJ, iv, zF (x := k + (i : Int) + 1) (by omega), qb])
      all_goals first
      | omega
      | (refine hnx.go () ?_ ?_ ?_ ?_ ?_ ?_
         · omega
         · simp [zM hlt hlim0] <;> omega
         · simp
         · exact fun j hj => absurd hj (by omega)
         · exact Nat.zero_le _
         try dsimp only
         refine ⟨?_, fun j hj hji => ?_, by omega⟩
         · rw [← zC4 hlt]
           simp [zE0, iv, Int.add_assoc]
         · simp [hji]
           exact hJf j hj hji)
    · try simp [-qt, -qd, -ql, rgs, hJ, hlt]
      repeat' first | done | ((first | ((with_reducible show zT _ _ _ _ _ _); refine zB rfl fun _ => ?_) | ((with_reducible show zG _ _ _ _ _ _ _); refine zC rfl omA omA ?_)) <;> simp [-qt, -qd, -ql, rgs, hJ, hlt]) | ((first | (with_reducible refine zA ?_ ?_)) <;> intro qb <;> (have qp := qb; try simp only [psq] at qp) <;> simp [-qt, -qd, -ql, rgs, hJ, hlt, qb])
      refine ⟨by omega, ?_, hJf⟩
      have : i = xs.length := by omega
      subst this
      exact zC6 (Nat.le_refl _)

def zA7 (k : Int) : Bool := k.tmod 3 == 0
theorem m_markBoolS {id : Nat} {xs : List Bool} {k : Int} (hlim : xs.length ≤ LIM) (h0 : 0 ≤ k) (h1 : k ≤ 1152921504606846976) : AC ctx.P 154 [.ref id 1 0 xs.length, .int .i64 k] (fun h _ => h id = some (.row 1 (xs.map bv)))
    (fun h nx v h' nx' => v = .int .i64 (k + (1 : Nat) * xs.length) ∧ h' id = some (.row 1 ((yG zA7 1 k xs.length).map bv)) ∧ ∀ j, j < nx → j ≠ id → h' j = h j) := by
  refine AC.o okC Tryz.func154 rfl fun h nx hfr hnx hpre => ?_
  have hid : id < nx := hnx id (by rw [hpre]; simp)
  try simp [-qt, -qd, -ql, rgs]
  repeat' first | done | ((first | ((with_reducible show zT _ _ _ _ _ _); refine zB rfl fun _ => ?_) | ((with_reducible show zG _ _ _ _ _ _ _); refine zC rfl omA omA ?_)) <;> simp [-qt, -qd, -ql, rgs]) | ((first | (with_reducible refine zA ?_ ?_)) <;> intro qb <;> (have qp := qb; try simp only [psq] at qp) <;> simp [-qt, -qd, -ql, rgs, qb])
  refine zV (h0 := h) (nx0 := 0) [1, 5, 6, 7, 8, 9, 10, 11, 12, 13, 14, 15, 16, 17, 18, 19] (xs.length) (fun (i : Nat) a => [(5, .int .i64 i), (1, .int .i64 (k + (1 : Nat) * i))]) (fun i (_ : Unit) h' n' => h' id = some (.row 1 (uR bv zA7 1 k xs i)) ∧ (∀ j, j < nx → j ≠ id → h' j = h j) ∧ nx ≤ n') (()) (by simp) ?_ (fun j hj => absurd hj (by omega)) (Nat.zero_le _) ?_
  · simp [zH7, hpre]
  · intro i a tm h' n' hle hJ hE hn' next hnx
    try dsimp only at hJ
    simp [-qt, -qd, -ql]
    obtain ⟨hJ, hJf, hJn⟩ := hJ
    by_cases hlt : i < xs.length
    · have hl : (uR bv zA7 1 k xs i).length = xs.length := zB7 (by omega)
      rw [zA9 hlt] at hJ
      have hlim0 := hlim
      simp only [LIM] at hlim
      try simp [-qt, -qd, -ql, rgs, hJ, bv, zF (x := k + (i : Int) + 1) (by omega)]
      repeat' first | done | ((first | ((with_reducible show zT _ _ _ _ _ _); refine zB rfl fun _ => ?_) | ((with_reducible show zG _ _ _ _ _ _ _); refine zC rfl omA omA ?_) | (((with_reducible show zG _ _ _ _ (.ref _ _ _ _) _ _); refine yI rfl (by omega) (by omega) ?_)) | (((with_reducible show vW _ _ _ _ _ _ _ _ _); refine uI (xs := uR bv zA7 1 k xs i) (by first | exact hJ | exact zL _ _ _) (by omega) rfl rfl (by omega) ?_))) <;> simp [-qt, -qd, -ql, rgs, hJ, bv, zF (x := k + (i : Int) + 1) (by omega)]) | ((first | (with_reducible refine zA ?_ ?_)) <;> intro qb <;> (have qp := qb; try simp only [psq] at qp) <;> simp [-qt, -qd, -ql, rgs, hJ, bv, zF (x := k + (i : Int) + 1) (by omega), qb])
      all_goals first
      | omega
      | (refine hnx.go () ?_ ?_ ?_ ?_ ?_ ?_
         · omega
         · simp [zM hlt hlim0] <;> omega
         · simp
         · exact fun j hj => absurd hj (by omega)
         · exact Nat.zero_le _
         try dsimp only
         refine ⟨?_, fun j hj hji => ?_, by omega⟩
         · rw [← zC4 hlt]
           simp [zA7, bv, Int.add_assoc]
         · simp [hji]
           exact hJf j hj hji)
    · try simp [-qt, -qd, -ql, rgs, hJ, hlt]
      repeat' first | done | ((first | ((with_reducible show zT _ _ _ _ _ _); refine zB rfl fun _ => ?_) | ((with_reducible show zG _ _ _ _ _ _ _); refine zC rfl omA omA ?_)) <;> simp [-qt, -qd, -ql, rgs, hJ, hlt]) | ((first | (with_reducible refine zA ?_ ?_)) <;> intro qb <;> (have qp := qb; try simp only [psq] at qp) <;> simp [-qt, -qd, -ql, rgs, hJ, hlt, qb])
      refine ⟨by omega, ?_, hJf⟩
      have : i = xs.length := by omega
      subst this
      exact zC6 (Nat.le_refl _)

end Go.AE.Tryz
end
